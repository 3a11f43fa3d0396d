/- Walk: mapfile.hex. -/
import Derived.Test.YtopaoejapnakiaaGreatDoorM9
import Derived.Test.YtopaoejapnakiaaGreatDoorN2
import Derived.Test.YtopaoejapnakiaaGreatDoorK1
import Derived.Test.YtopaoejapnakiaaGreatDoorWbits
namespace Go.Proofs.YtopaoejapnakiaaGreatDoor.Mf
open Go.RowKit

abbrev ByteT : TypeId := 5
theorem or_hex (a b : Nat) (ha : a ≤ 268435455) (hb : b < 16) : bits .or .i64 ((a : Int) * 16) (b : Int) = ((a * 16 + b : Nat) : Int) := by
  have h := i64_or_nat (a * 16) b (by omega) (by omega)
  rw [show (16 : Nat) = 2 ^ 4 from rfl, or_low a b 4 hb] at h
  rw [← show ((a * 2 ^ 4 : Nat) : Int) = (a : Int) * 16 from by omega]
  rw [h]
abbrev hexsU : ByteArray := ⟨#[48, 49, 50, 51, 52, 53, 54, 55, 56, 57, 65, 66, 67, 68, 69, 70]⟩
theorem index_any (s : ByteArray) (c : UInt8) (w : World) : Calls Tryz.prog 80 #[.string s, .int .u8 (c.toNat : Int)] w fun e w' => e = .returned (.int .i64 (Lib.indexByte s.data.toList c)) ∧ w = w' := by
  have h := Any.strings_IndexByte lays137 s (c.toNat : Int) w
  have e : ((c.toNat : Int)).toNat.toUInt8 = c := by simp
  rw [e] at h
  exact h.mono fun _ _ hh => ⟨hh.1, hh.2.symm⟩
theorem lower_any (w : World) : Calls Tryz.prog 87 #[.string hexsU] w fun e w' => e = .returned (.string ⟨hexL.toArray⟩) ∧ Below w.heap.size w w' := by
  have h := Any.strings_ToLower_ascii lays159 extra159 hexsU w (by decide) hex_ascii
  have e : Lib.toLowerA hexsU.data.toList = hexL := lower_hex
  rw [e] at h
  exact h
theorem bytesRow_at (s : ByteArray) (cap i : Nat) (h : i < s.size) : (bytesRow s cap)[i]? = some (.int .u8 (s[i].toNat : Int)) := by
  unfold bytesRow
  rw [Array.getElem?_append_left (by simpa using h)]
  have : i < s.data.size := h
  rw [Array.getElem?_map, Array.getElem?_eq_getElem this]
  rfl
set_option maxRecDepth 100000 in
set_option maxHeartbeats 3200000 in
theorem hex_any (s : ByteArray) (hs : s.size ≤ 7) (w : World) :
    Calls Tryz.prog 67 #[.string s] w fun e w' => e = .returned (.tuple #[.int .i64 (hexP s.data.toList).1, .bool (hexP s.data.toList).2]) ∧ Below w.heap.size w w' := by
  obtain ⟨P1, hP1⟩ : ∃ P, hexP s.data.toList = P := ⟨_, rfl⟩
  rw [hP1]
  have HP := Lib.hid hP1
  clear hP1
  have hcv := run_bytes_of_string (P := Tryz.prog) w 9 64 ByteT s Tryz.underlying9 Tryz.underlying64 Tryz.underlying5
  obtain ⟨cap, hcap⟩ : ∃ c, grownCap w s.size 0 ByteT = c := ⟨_, rfl⟩
  rw [hcap] at hcv
  obtain ⟨W, hW⟩ : ∃ W, (w.drew.alloc (.cells (bytesRow s cap) ByteT ((bytesRow s cap).size, (bytesRow s cap).size + 1))) = W := ⟨_, rfl⟩
  rw [hW] at hcv
  have hb : Below w.heap.size w W := hW ▸ ((Below.refl _ _).drew).alloc (Nat.le_refl _) _
  have hg : w.heap.size < W.heap.size := by rw [← hW]; simp
  have hc : ∀ i (h : i < s.size), W.cell? ⟨w.heap.size, i, none⟩ = some (.int .u8 (s[i].toNat : Int)) := fun i h => by
    rw [← hW]
    have := World.cell?_alloc_mark w.drew (bytesRow s cap) ByteT ((bytesRow s cap).size, (bytesRow s cap).size + 1) i
    rw [bytesRow_at s cap i h] at this
    exact this
  have HB := Lib.hid hb
  have HC := Lib.hid hc
  clear hcap hW hb hc
  go_enter Tryz.func67, Tryz.ntmps67
  go_wp2_with fail
  go_loopw [4, 11] (fun vn vi wr => ∃ i : Nat, i ≤ s.size ∧ vi = .int .i64 i ∧ vn = .int .i64 (numOf (s.data.toList.take i) : Nat) ∧ (s.data.toList.take i).all isHex = true ∧ Below W.heap.size W wr) (fun _ vi _ => s.size - (RowKit.intOf vi).toNat)
  case atStart => exact ⟨0, Nat.zero_le _, rfl, rfl, rfl, Below.refl _ _⟩
  case round =>
    obtain ⟨i, hi, rfl, rfl, hall, hbr⟩ := hrel
    have HALL := Lib.hid hall
    have HBR := Lib.hid hbr
    clear hall hbr
    by_cases hlt : i < s.size
    · have a1 : decide ((i : Int) < (s.size : Int)) = true := decide_eq_true (by omega)
      have j0 : (0 : Int) ≤ (i : Int) := by omega
      have j1 : (i : Int) < (s.size : Int) := by omega
      have hkw : IntKind.i64.wrap ((i : Int) + 1) = (i : Int) + 1 := IntWalk.i64_in _ (by omega)
      have hli : i < s.data.toList.length := by rw [bl]; exact hlt
      have c0 : wr.cell? ⟨w.heap.size, i, none⟩ = some (.int .u8 (s[i].toNat : Int)) := (HBR.out.cell (p := ⟨w.heap.size, i, none⟩) hg).trans (HC.out i hlt)
      have htk : s.data.toList.take (i + 1) = s.data.toList.take i ++ [s[i]] := by rw [List.take_succ_eq_append_getElem hli, b_at s i hlt]
      have HTK := Lib.hid htk
      have hnum : numOf (s.data.toList.take i) ≤ 268435455 := numOf_7 _ (by rw [List.length_take]; omega)
      clear htk
      obtain ⟨c, hc⟩ : ∃ c, c = s[i] := ⟨_, rfl⟩
      rw [← hc] at c0
      have HCC := Lib.hid hc
      clear hc
      have HI1 : Hid (∀ w, Calls Tryz.prog 80 #[.string hexsU, .int .u8 (c.toNat : Int)] w fun e w' => e = .returned (.int .i64 (idxU c)) ∧ w = w') := Lib.hid fun w => index_any hexsU c w
      have HI2 : Hid (∀ w, Calls Tryz.prog 80 #[.string ⟨hexL.toArray⟩, .int .u8 (c.toNat : Int)] w fun e w' => e = .returned (.int .i64 (idxL c)) ∧ w = w') := Lib.hid fun w => index_any ⟨hexL.toArray⟩ c w
      have HN : Hid (numOf (s.data.toList.take (i + 1)) = numOf (s.data.toList.take i) * 16 + (hexV c).getD 0) := Lib.hid (by rw [HTK.out, numOf_snoc, HCC.out])
      have HA : Hid ((s.data.toList.take (i + 1)).all isHex = ((s.data.toList.take i).all isHex && isHex c)) := Lib.hid (by rw [HTK.out, List.all_append, HCC.out]; simp)
      have HF : Hid ((hexV c = none → P1 = (0, false))) := Lib.hid fun h => by
        rw [← HP.out]
        unfold hexP
        rw [if_neg]
        intro h2
        have h3 : s.data.toList.take (i + 1) ++ s.data.toList.drop (i + 1) = s.data.toList := List.take_append_drop _ _
        rw [← h3, List.all_append, HA.out] at h2
        unfold isHex at h2
        rw [h] at h2
        simp at h2
      generalize numOf (s.data.toList.take i) = n at *
      have hs1 := fun v => @idx_some c v
      have hs2 := idx_none c
      have h15 := hexV_le c
      have HX : Hid (isHex c = (hexV c).isSome) := Lib.hid rfl
      generalize idxU c = U at *
      generalize idxL c = V at *
      have hor := or_hex n
      cases hv : hexV c with
      | none =>
        obtain ⟨rfl, rfl⟩ := hs2 hv
        obtain rfl := HF.out hv
        clear hs1 hs2 h15 hor HF
        go_wp2_with fail
        refine (HI1.out wr).mono ?_
        rintro _ _ ⟨rfl, rfl⟩
        go_wp2_with fail
        refine (lower_any wr).mono ?_
        rintro _ w1 ⟨rfl, hb1⟩
        go_wp2_with fail
        refine (HI2.out w1).mono ?_
        rintro _ _ ⟨rfl, rfl⟩
        go_wp2_with fail
        go_returns
        exact ⟨rfl, (HB.out.trans (HBR.out.mono HB.out.size)).trans (hb1.mono (HB.out.trans (HBR.out.mono HB.out.size)).size)⟩
      | some v =>
        rw [hv] at h15
        have h15 : v ≤ 15 := h15
        have hor := hor v hnum (by omega)
        have HN2 : Hid (numOf (s.data.toList.take (i + 1)) = n * 16 + v) := Lib.hid (by rw [HN.out, hv]; rfl)
        have HA2 : Hid ((s.data.toList.take (i + 1)).all isHex = true) := Lib.hid (by rw [HA.out, HALL.out, HX.out, hv]; rfl)
        have b0 : decide ((v : Int) < 0) = false := decide_eq_false (by omega)
        rcases hs1 v hv with rfl | ⟨rfl, rfl⟩
        · clear hs1 hs2 h15 HF
          go_wp2_with fail
          refine (HI1.out wr).mono ?_
          rintro _ _ ⟨rfl, rfl⟩
          go_wp2_with fail
          go_roundw
          case rel => exact ⟨i + 1, by omega, by go_num, by rw [HN2.out]; go_num, HA2.out, HBR.out⟩
          case measure => simp [RowKit.intOf]; omega
        · clear hs1 hs2 h15 HF
          go_wp2_with fail
          refine (HI1.out wr).mono ?_
          rintro _ _ ⟨rfl, rfl⟩
          go_wp2_with fail
          refine (lower_any wr).mono ?_
          rintro _ w1 ⟨rfl, hb1⟩
          go_wp2_with fail
          refine (HI2.out w1).mono ?_
          rintro _ _ ⟨rfl, rfl⟩
          go_wp2_with fail
          go_roundw
          case rel => exact ⟨i + 1, by omega, by go_num, by rw [HN2.out]; go_num, HA2.out, HBR.out.trans (hb1.mono HBR.out.size)⟩
          case measure => simp [RowKit.intOf]; omega
    · obtain rfl : i = s.size := by omega
      have a1 : decide ((s.size : Int) < (s.size : Int)) = false := decide_eq_false (by omega)
      have hal := HALL.out
      rw [← bl s, List.take_length] at hal
      have htk : s.data.toList.take s.size = s.data.toList := by rw [← bl s, List.take_length]
      rw [htk]
      have hp := HP.out
      unfold hexP at hp
      rw [if_pos hal] at hp
      have HBE := Lib.hid (HB.out.trans (HBR.out.mono HB.out.size))
      by_cases h0 : s.size = 0
      · have hn : s.data.toList = [] := List.eq_nil_of_length_eq_zero (by rw [bl]; exact h0)
        have hte : s.toList.isEmpty = true := by rw [ByteArray.toList_eq, hn]; rfl
        rw [hn] at hp
        subst hp
        rw [hn]
        clear hal htk h0 hn HALL
        go_wp2_with fail
        go_returns
        exact ⟨rfl, HBE.out⟩
      · have hn : s.data.toList ≠ [] := fun h => h0 (by rw [← bl, h]; rfl)
        have hte : s.toList.isEmpty = false := by rw [ByteArray.toList_eq]; simpa using hn
        have hp2 : P1 = (((numOf s.data.toList : Nat) : Int), true) := by rw [← hp, List.isEmpty_eq_false_iff.2 hn]; rfl
        subst hp2
        clear hal htk h0 hn HALL hp HP
        go_wp2_with fail
        go_returns
        exact ⟨rfl, HBE.out⟩
end Go.Proofs.YtopaoejapnakiaaGreatDoor.Mf
