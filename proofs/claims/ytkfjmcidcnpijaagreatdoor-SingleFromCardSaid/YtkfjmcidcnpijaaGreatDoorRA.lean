/- Joined of: R1, R2, R3. -/
import Derived.Test.YtkfjmcidcnpijaaGreatDoorMC
import Derived.Test.YtkfjmcidcnpijaaGreatDoorNA
import Derived.Test.YtkfjmcidcnpijaaGreatDoorKM
import Derived.Test.YtkfjmcidcnpijaaGreatDoorWbits
/- Walk: mapfile.hex. -/
namespace Go.Proofs.YtkfjmcidcnpijaaGreatDoor.Mf
open Go.RowKit

abbrev ByteT : TypeId := 5
theorem or_hex (a b : Nat) (ha : a ≤ 268435455) (hb : b < 16) : bits .or .i64 ((a : Int) * 16) (b : Int) = ((a * 16 + b : Nat) : Int) := by
  have h := i64_or_nat (a * 16) b (by omega) (by omega)
  rw [show (16 : Nat) = 2 ^ 4 from rfl, or_low a b 4 hb] at h
  rw [← show ((a * 2 ^ 4 : Nat) : Int) = (a : Int) * 16 from by omega]
  rw [h]
abbrev hexsU : ByteArray := ⟨#[48, 49, 50, 51, 52, 53, 54, 55, 56, 57, 65, 66, 67, 68, 69, 70]⟩
theorem index_any (s : ByteArray) (c : UInt8) (w : World) : Calls Tryz.prog 94 #[.string s, .int .u8 (c.toNat : Int)] w fun e w' => e = .returned (.int .i64 (Lib.indexByte s.data.toList c)) ∧ w = w' := by
  have h := Any.strings_IndexByte lays137 s (c.toNat : Int) w
  have e : ((c.toNat : Int)).toNat.toUInt8 = c := by simp
  rw [e] at h
  exact h.mono fun _ _ hh => ⟨hh.1, hh.2.symm⟩
theorem lower_any (w : World) : Calls Tryz.prog 101 #[.string hexsU] w fun e w' => e = .returned (.string ⟨hexL.toArray⟩) ∧ Below w.heap.size w w' := by
  have h := Any.strings_ToLower_ascii lays159 extra159 hexsU w (by decide) hex_ascii
  have e : Lib.toLowerA hexsU.data.toList = hexL := lower_hex
  rw [e] at h
  exact h
theorem bytesRow_at (s : ByteArray) (cap i : Nat) (h : i < s.size) : (bytesRow s cap)[i]? = some (.int .u8 (s[i].toNat : Int)) := by
  unfold bytesRow
  rw [Array.getElem?_append_left (by simpa using h)]
  have : i < s.data.size := h
  rw [Array.getElem?_map, Array.getElem?_eq_getElem this]
  rfl
set_option maxRecDepth 100000 in
set_option maxHeartbeats 3200000 in
theorem hex_any (s : ByteArray) (hs : s.size ≤ 7) (w : World) :
    Calls Tryz.prog 76 #[.string s] w fun e w' => e = .returned (.tuple #[.int .i64 (hexP s.data.toList).1, .bool (hexP s.data.toList).2]) ∧ Below w.heap.size w w' := by
  obtain ⟨P1, hP1⟩ : ∃ P, hexP s.data.toList = P := ⟨_, rfl⟩
  rw [hP1]
  have HP := Lib.hid hP1
  clear hP1
  have hcv := run_bytes_of_string (P := Tryz.prog) w 9 35 ByteT s Tryz.underlying9 Tryz.underlying35 Tryz.underlying5
  obtain ⟨cap, hcap⟩ : ∃ c, grownCap w s.size 0 ByteT = c := ⟨_, rfl⟩
  rw [hcap] at hcv
  obtain ⟨W, hW⟩ : ∃ W, (w.drew.alloc (.cells (bytesRow s cap) ByteT ((bytesRow s cap).size, (bytesRow s cap).size + 1))) = W := ⟨_, rfl⟩
  rw [hW] at hcv
  have hb : Below w.heap.size w W := hW ▸ ((Below.refl _ _).drew).alloc (Nat.le_refl _) _
  have hg : w.heap.size < W.heap.size := by rw [← hW]; simp
  have hc : ∀ i (h : i < s.size), W.cell? ⟨w.heap.size, i, none⟩ = some (.int .u8 (s[i].toNat : Int)) := fun i h => by
    rw [← hW]
    have := World.cell?_alloc_mark w.drew (bytesRow s cap) ByteT ((bytesRow s cap).size, (bytesRow s cap).size + 1) i
    rw [bytesRow_at s cap i h] at this
    exact this
  have HB := Lib.hid hb
  have HC := Lib.hid hc
  clear hcap hW hb hc
  go_enter Tryz.func76, Tryz.ntmps76
  go_wp2_with fail
  go_loopw [4, 11] (fun vn vi wr => ∃ i : Nat, i ≤ s.size ∧ vi = .int .i64 i ∧ vn = .int .i64 (numOf (s.data.toList.take i) : Nat) ∧ (s.data.toList.take i).all isHex = true ∧ Below W.heap.size W wr) (fun _ vi _ => s.size - (RowKit.intOf vi).toNat)
  case atStart => exact ⟨0, Nat.zero_le _, rfl, rfl, rfl, Below.refl _ _⟩
  case round =>
    obtain ⟨i, hi, rfl, rfl, hall, hbr⟩ := hrel
    have HALL := Lib.hid hall
    have HBR := Lib.hid hbr
    clear hall hbr
    by_cases hlt : i < s.size
    · have a1 : decide ((i : Int) < (s.size : Int)) = true := decide_eq_true (by omega)
      have j0 : (0 : Int) ≤ (i : Int) := by omega
      have j1 : (i : Int) < (s.size : Int) := by omega
      have hkw : IntKind.i64.wrap ((i : Int) + 1) = (i : Int) + 1 := IntWalk.i64_in _ (by omega)
      have hli : i < s.data.toList.length := by rw [bl]; exact hlt
      have c0 : wr.cell? ⟨w.heap.size, i, none⟩ = some (.int .u8 (s[i].toNat : Int)) := (HBR.out.cell (p := ⟨w.heap.size, i, none⟩) hg).trans (HC.out i hlt)
      have htk : s.data.toList.take (i + 1) = s.data.toList.take i ++ [s[i]] := by rw [List.take_succ_eq_append_getElem hli, b_at s i hlt]
      have HTK := Lib.hid htk
      have hnum : numOf (s.data.toList.take i) ≤ 268435455 := numOf_7 _ (by rw [List.length_take]; omega)
      clear htk
      obtain ⟨c, hc⟩ : ∃ c, c = s[i] := ⟨_, rfl⟩
      rw [← hc] at c0
      have HCC := Lib.hid hc
      clear hc
      have HI1 : Hid (∀ w, Calls Tryz.prog 94 #[.string hexsU, .int .u8 (c.toNat : Int)] w fun e w' => e = .returned (.int .i64 (idxU c)) ∧ w = w') := Lib.hid fun w => index_any hexsU c w
      have HI2 : Hid (∀ w, Calls Tryz.prog 94 #[.string ⟨hexL.toArray⟩, .int .u8 (c.toNat : Int)] w fun e w' => e = .returned (.int .i64 (idxL c)) ∧ w = w') := Lib.hid fun w => index_any ⟨hexL.toArray⟩ c w
      have HN : Hid (numOf (s.data.toList.take (i + 1)) = numOf (s.data.toList.take i) * 16 + (hexV c).getD 0) := Lib.hid (by rw [HTK.out, numOf_snoc, HCC.out])
      have HA : Hid ((s.data.toList.take (i + 1)).all isHex = ((s.data.toList.take i).all isHex && isHex c)) := Lib.hid (by rw [HTK.out, List.all_append, HCC.out]; simp)
      have HF : Hid ((hexV c = none → P1 = (0, false))) := Lib.hid fun h => by
        rw [← HP.out]
        unfold hexP
        rw [if_neg]
        intro h2
        have h3 : s.data.toList.take (i + 1) ++ s.data.toList.drop (i + 1) = s.data.toList := List.take_append_drop _ _
        rw [← h3, List.all_append, HA.out] at h2
        unfold isHex at h2
        rw [h] at h2
        simp at h2
      generalize numOf (s.data.toList.take i) = n at *
      have hs1 := fun v => @idx_some c v
      have hs2 := idx_none c
      have h15 := hexV_le c
      have HX : Hid (isHex c = (hexV c).isSome) := Lib.hid rfl
      generalize idxU c = U at *
      generalize idxL c = V at *
      have hor := or_hex n
      cases hv : hexV c with
      | none =>
        obtain ⟨rfl, rfl⟩ := hs2 hv
        obtain rfl := HF.out hv
        clear hs1 hs2 h15 hor HF
        go_wp2_with fail
        refine (HI1.out wr).mono ?_
        rintro _ _ ⟨rfl, rfl⟩
        go_wp2_with fail
        refine (lower_any wr).mono ?_
        rintro _ w1 ⟨rfl, hb1⟩
        go_wp2_with fail
        refine (HI2.out w1).mono ?_
        rintro _ _ ⟨rfl, rfl⟩
        go_wp2_with fail
        go_returns
        exact ⟨rfl, (HB.out.trans (HBR.out.mono HB.out.size)).trans (hb1.mono (HB.out.trans (HBR.out.mono HB.out.size)).size)⟩
      | some v =>
        rw [hv] at h15
        have h15 : v ≤ 15 := h15
        have hor := hor v hnum (by omega)
        have HN2 : Hid (numOf (s.data.toList.take (i + 1)) = n * 16 + v) := Lib.hid (by rw [HN.out, hv]; rfl)
        have HA2 : Hid ((s.data.toList.take (i + 1)).all isHex = true) := Lib.hid (by rw [HA.out, HALL.out, HX.out, hv]; rfl)
        have b0 : decide ((v : Int) < 0) = false := decide_eq_false (by omega)
        rcases hs1 v hv with rfl | ⟨rfl, rfl⟩
        · clear hs1 hs2 h15 HF
          go_wp2_with fail
          refine (HI1.out wr).mono ?_
          rintro _ _ ⟨rfl, rfl⟩
          go_wp2_with fail
          go_roundw
          case rel => exact ⟨i + 1, by omega, by go_num, by rw [HN2.out]; go_num, HA2.out, HBR.out⟩
          case measure => simp [RowKit.intOf]; omega
        · clear hs1 hs2 h15 HF
          go_wp2_with fail
          refine (HI1.out wr).mono ?_
          rintro _ _ ⟨rfl, rfl⟩
          go_wp2_with fail
          refine (lower_any wr).mono ?_
          rintro _ w1 ⟨rfl, hb1⟩
          go_wp2_with fail
          refine (HI2.out w1).mono ?_
          rintro _ _ ⟨rfl, rfl⟩
          go_wp2_with fail
          go_roundw
          case rel => exact ⟨i + 1, by omega, by go_num, by rw [HN2.out]; go_num, HA2.out, HBR.out.trans (hb1.mono HBR.out.size)⟩
          case measure => simp [RowKit.intOf]; omega
    · obtain rfl : i = s.size := by omega
      have a1 : decide ((s.size : Int) < (s.size : Int)) = false := decide_eq_false (by omega)
      have hal := HALL.out
      rw [← bl s, List.take_length] at hal
      have htk : s.data.toList.take s.size = s.data.toList := by rw [← bl s, List.take_length]
      rw [htk]
      have hp := HP.out
      unfold hexP at hp
      rw [if_pos hal] at hp
      have HBE := Lib.hid (HB.out.trans (HBR.out.mono HB.out.size))
      by_cases h0 : s.size = 0
      · have hn : s.data.toList = [] := List.eq_nil_of_length_eq_zero (by rw [bl]; exact h0)
        have hte : s.toList.isEmpty = true := by rw [ByteArray.toList_eq, hn]; rfl
        rw [hn] at hp
        subst hp
        rw [hn]
        clear hal htk h0 hn HALL
        go_wp2_with fail
        go_returns
        exact ⟨rfl, HBE.out⟩
      · have hn : s.data.toList ≠ [] := fun h => h0 (by rw [← bl, h]; rfl)
        have hte : s.toList.isEmpty = false := by rw [ByteArray.toList_eq]; simpa using hn
        have hp2 : P1 = (((numOf s.data.toList : Nat) : Int), true) := by rw [← hp, List.isEmpty_eq_false_iff.2 hn]; rfl
        subst hp2
        clear hal htk h0 hn HALL hp HP
        go_wp2_with fail
        go_returns
        exact ⟨rfl, HBE.out⟩
end Go.Proofs.YtkfjmcidcnpijaaGreatDoor.Mf
/- Words: a reader in memory; walks: (*spot).word, needs, gap. -/
namespace Go.Proofs.YtkfjmcidcnpijaaGreatDoor.Mf
open Go.RowKit

abbrev ReaderT : TypeId := 123
def u8s (l : List UInt8) : List Value := l.map fun b => Value.int .u8 (b.toNat : Int)
theorem u8s_append (l m : List UInt8) : u8s (l ++ m) = u8s l ++ u8s m := by simp [u8s]
/-- A reader's block, and its own rows. -/
def RdAt (B : Nat) (w : World) (b : Nat) (x : RS) : Prop :=
  ∃ vc vt, Blk w b ReaderT #[.string ⟨x.s.toArray⟩, .bool x.ok, vc, vt, .int .i64 x.f] ∧ w.ownsRow B ByteT 1 vc x.c.length (u8s x.c) ∧ w.ownsRow B RuneT 1 vt x.t.length (i32s x.t) ∧ B ≤ b
section
variable {B b : Nat} {w w' : World} {x : RS}
theorem RdAt.lt (h : RdAt B w b x) : b < w.heap.size := by obtain ⟨vc, vt, hk, _⟩ := h; exact hk.lt
theorem RdAt.le (h : RdAt B w b x) : B ≤ b := by obtain ⟨vc, vt, _, _, _, h⟩ := h; exact h
theorem RdAt.c0 (h : RdAt B w b x) : w.cell? ⟨b, 0, none⟩ = some (.string ⟨x.s.toArray⟩) := by obtain ⟨vc, vt, hk, _⟩ := h; rw [hk.cell]; rfl
theorem RdAt.c1 (h : RdAt B w b x) : w.cell? ⟨b, 1, none⟩ = some (.bool x.ok) := by obtain ⟨vc, vt, hk, _⟩ := h; rw [hk.cell]; rfl
theorem RdAt.c4 (h : RdAt B w b x) : w.cell? ⟨b, 4, none⟩ = some (.int .i64 x.f) := by obtain ⟨vc, vt, hk, _⟩ := h; rw [hk.cell]; rfl
theorem RdAt.c2 (h : RdAt B w b x) : ∃ v, w.cell? ⟨b, 2, none⟩ = some v ∧ w.ownsRow B ByteT 1 v x.c.length (u8s x.c) := by obtain ⟨vc, vt, hk, h2, _⟩ := h; exact ⟨vc, by rw [hk.cell]; rfl, h2⟩
theorem RdAt.c3 (h : RdAt B w b x) : ∃ v, w.cell? ⟨b, 3, none⟩ = some v ∧ w.ownsRow B RuneT 1 v x.t.length (i32s x.t) := by obtain ⟨vc, vt, hk, _, h2, _⟩ := h; exact ⟨vt, by rw [hk.cell]; rfl, h2⟩
theorem RdAt.fz (h : RdAt B w b x) (i : Nat) : w.frozen? ⟨b, i, none⟩ = false := by obtain ⟨vc, vt, hk, _⟩ := h; exact Blk.frz hk i
theorem RdAt.keep (h : RdAt B w b x) (hb : Below w.heap.size w w') : RdAt B w' b x := by
  obtain ⟨vc, vt, hk, h1, h2, h3⟩ := h
  exact ⟨vc, vt, hk.below hb hk.lt, own_keep h1 hb, own_keep h2 hb, h3⟩
theorem RdAt.set0 (h : RdAt B w b x) (s : List UInt8) : RdAt B (w.setCell ⟨b, 0, none⟩ (.string ⟨s.toArray⟩)) b ⟨s, x.ok, x.c, x.t, x.f⟩ := by
  obtain ⟨vc, vt, hk, h1, h2, h3⟩ := h
  exact ⟨vc, vt, Blk.set hk 0 _, own_set h1 hk (by decide), own_set h2 hk (by decide), h3⟩
theorem RdAt.set1 (h : RdAt B w b x) (ok : Bool) : RdAt B (w.setCell ⟨b, 1, none⟩ (.bool ok)) b ⟨x.s, ok, x.c, x.t, x.f⟩ := by
  obtain ⟨vc, vt, hk, h1, h2, h3⟩ := h
  exact ⟨vc, vt, Blk.set hk 1 _, own_set h1 hk (by decide), own_set h2 hk (by decide), h3⟩
theorem RdAt.set4 (h : RdAt B w b x) (f : Int) : RdAt B (w.setCell ⟨b, 4, none⟩ (.int .i64 f)) b ⟨x.s, x.ok, x.c, x.t, f⟩ := by
  obtain ⟨vc, vt, hk, h1, h2, h3⟩ := h
  exact ⟨vc, vt, Blk.set hk 4 _, own_set h1 hk (by decide), own_set h2 hk (by decide), h3⟩
end
def cutP (p s : List UInt8) : List UInt8 := if p.isPrefixOf s = true then s.drop p.length else s
def preP (p s : List UInt8) : Bool := p.isPrefixOf s
theorem cutPrefix_any (s p : ByteArray) (w : World) : Calls Tryz.prog 79 #[.string s, .string p] w fun e w' =>
    e = .returned (.tuple #[.string ⟨(cutP p.data.toList s.data.toList).toArray⟩, .bool (preP p.data.toList s.data.toList)]) ∧ w = w' :=
  (Any.strings_CutPrefix lays103 s p w).mono fun _ _ hh => ⟨hh.1, hh.2.symm⟩
set_option maxRecDepth 100000 in
theorem word_any (B b : Nat) (x : RS) (p : ByteArray) (w : World) (h : RdAt B w b x) (_hB : B ≤ w.heap.size) :
    Calls Tryz.prog 59 #[.pointer (some ⟨b, 0, none⟩), .string p] w fun e w' => e = .returned (.bool (preP p.data.toList x.s)) ∧ RdAt B w' b (x.word p.data.toList) ∧ Below B w w' := by
  have c0 := h.c0
  have f0 := h.fz 0
  have H := Lib.hid h
  clear h
  go_enter Tryz.func59, Tryz.ntmps59
  go_wp2_with fail
  refine (cutPrefix_any _ p w).mono ?_
  rintro _ _ ⟨rfl, rfl⟩
  go_wp2_with fail
  go_returns
  exact ⟨rfl, H.out.set0 _, below_set (Below.refl _ _) b 0 _ H.out.le⟩
set_option maxRecDepth 100000 in
theorem needs_any (B b : Nat) (x : RS) (p : ByteArray) (w : World) (h : RdAt B w b x) (hB : B ≤ w.heap.size) :
    Calls Tryz.prog 54 #[.pointer (some ⟨b, 0, none⟩), .string p] w fun e w' => e = .returned (.tuple #[]) ∧ RdAt B w' b (x.needs p.data.toList) ∧ Below B w w' := by
  have hw := word_any B b x p w h hB
  have HQ : Hid (x.needs p.data.toList = ⟨(x.word p.data.toList).s, preP p.data.toList x.s && x.ok, x.c, x.t, x.f⟩) := Lib.hid rfl
  have HQ2 : Hid ((x.word p.data.toList).ok = x.ok) := Lib.hid rfl
  have HB := Lib.hid h.le
  generalize preP p.data.toList x.s = G at *
  generalize x.needs p.data.toList = Y at *
  have HW := Lib.hid hw
  clear hw h
  go_enter Tryz.func54, Tryz.ntmps54
  go_wp2_with fail
  refine HW.out.mono ?_
  rintro _ w1 ⟨rfl, h1, hb1⟩
  have c1 := h1.c1
  rw [HQ2.out] at c1
  have f1 := h1.fz 1
  have HE := Lib.hid (h1.set1 (G && x.ok))
  have HBB := Lib.hid (below_set hb1 b 1 (.bool (G && x.ok)) HB.out)
  clear h1 hb1
  cases G with
  | true =>
    go_wp2_with fail
    go_returns
    exact ⟨rfl, HQ.out ▸ HE.out, HBB.out⟩
  | false =>
    go_wp2_with fail
    go_returns
    exact ⟨rfl, HQ.out ▸ HE.out, HBB.out⟩
theorem drop_while (P : UInt8 → Bool) (s : List UInt8) : (s.dropWhile P).length ≤ s.length := by
  have h : s.takeWhile P ++ s.dropWhile P = s := List.takeWhile_append_dropWhile
  have := congrArg List.length h
  rw [List.length_append] at this
  omega
theorem sp_set : (fun c => ([32, 9] : List UInt8).contains c) = sp := by
  funext c
  unfold sp
  rw [Bool.eq_iff_iff]
  simp
theorem info256 : (Tryz.prog.info? (lays161_ren.t 116)).map (fun i => (i.zero, i.size)) = some (some (.agg (Array.replicate 256 (.bool false))), 256) := by kernel_rfl
theorem trimLeft_any (s : ByteArray) (w : World) : Calls Tryz.prog 78 #[.string s, .string ⟨#[32, 9]⟩] w fun e w' => e = .returned (.string ⟨(s.data.toList.dropWhile sp).toArray⟩) ∧ Below w.heap.size w w' := by
  have h := Any.strings_TrimLeft_laid lays161 info256 s ⟨#[32, 9]⟩ w (by decide) (ascii_of_all (by decide))
  have e : Lib.trimLeftS s.data.toList ((⟨#[32, 9]⟩ : ByteArray).data.toList) = s.data.toList.dropWhile sp := by
    rw [← sp_set]
    rfl
  rw [e] at h
  exact h
set_option maxRecDepth 100000 in
theorem gap_any (B b : Nat) (x : RS) (_hx : x.s.length ≤ 1048576) (w : World) (h : RdAt B w b x) (hB : B ≤ w.heap.size) :
    Calls Tryz.prog 57 #[.pointer (some ⟨b, 0, none⟩)] w fun e w' => e = .returned (.tuple #[]) ∧ RdAt B w' b x.gap ∧ Below B w w' := by
  have c0 := h.c0
  have H := Lib.hid h
  have HT := Lib.hid (trimLeft_any ⟨x.s.toArray⟩ w)
  have HQ : Hid (x.gap = ⟨x.s.dropWhile sp, x.ok && decide ((x.s.dropWhile sp).length < x.s.length), x.c, x.t, x.f⟩) := Lib.hid rfl
  have hl := drop_while sp x.s
  generalize x.gap = Y at *
  change Hid (Calls _ _ _ w fun e w' => e = .returned (.string ⟨(x.s.dropWhile sp).toArray⟩) ∧ Below w.heap.size w w') at HT
  generalize x.s.dropWhile sp = T at *
  clear h
  go_enter Tryz.func57, Tryz.ntmps57
  go_wp2_with fail
  refine HT.out.mono ?_
  rintro _ w1 ⟨rfl, hb1⟩
  have h1 := H.out.keep hb1
  have d0 := h1.c0
  have d1 := h1.c1
  have f0 := h1.fz 0
  have f1 := h1.fz 1
  have g0 : (w1.setCell ⟨b, 1, none⟩ (.bool (x.ok && decide (T.length < x.s.length)))).frozen? ⟨b, 0, none⟩ = false := (h1.set1 _).fz 0
  have HE := Lib.hid ((h1.set1 (x.ok && decide (T.length < x.s.length))).set0 T)
  have HBB := Lib.hid (below_set (below_set ((Below.refl B w).trans (hb1.mono hB)) b 1 (.bool (x.ok && decide (T.length < x.s.length))) H.out.le) b 0 (.string ⟨T.toArray⟩) H.out.le)
  clear h1 hb1 c0
  cases hok : x.ok with
  | true =>
    rw [hok, Bool.true_and] at HE HBB g0 HQ
    rw [hok] at d1
    go_wp2_with fail
    go_returns
    exact ⟨rfl, HQ.out ▸ HE.out, HBB.out⟩
  | false =>
    rw [hok, Bool.false_and] at HE HBB g0 HQ
    rw [hok] at d1
    go_wp2_with fail
    go_returns
    exact ⟨rfl, HQ.out ▸ HE.out, HBB.out⟩
end Go.Proofs.YtkfjmcidcnpijaaGreatDoor.Mf
/- Walks: (*spot).digits, (*reader).byte, rune. -/
namespace Go.Proofs.YtkfjmcidcnpijaaGreatDoor.Mf
open Go.RowKit

theorem digs_step (n : Nat) (s : List UInt8) (k : Nat) (hk : k < s.length) (hn : k < n) : digs (n - k) (s.drop k) = if isHex s[k] = true then s[k] :: digs (n - (k + 1)) (s.drop (k + 1)) else [] := by
  rw [List.drop_eq_getElem_cons hk]
  obtain ⟨m, hm⟩ : ∃ m, n - k = m + 1 := ⟨n - k - 1, by omega⟩
  rw [hm, show n - (k + 1) = m by omega]
  rfl
theorem digs_nil (n : Nat) : digs n [] = [] := by cases n <;> rfl
theorem hexP_one (c : UInt8) : (hexP [c]).2 = isHex c := by
  unfold hexP
  by_cases h : isHex c = true
  · rw [if_pos (by simp [h])]; simp [h]
  · rw [if_neg (by simp [h])]; simp at h; simp [h]
theorem hexP_digs (n : Nat) (s : List UInt8) : hexP (digs n s) = (((numOf (digs n s) : Nat) : Int), !(digs n s).isEmpty) := by
  unfold hexP
  rw [if_pos (List.all_eq_true.2 (digs_hex n s))]
set_option maxRecDepth 100000 in
set_option maxHeartbeats 1600000 in
theorem digits_any (B b : Nat) (x : RS) (_hx : x.s.length ≤ 1048576) (most : Nat) (hm : most ≤ 7) (w : World) (h : RdAt B w b x) (hB : B ≤ w.heap.size) :
    Calls Tryz.prog 75 #[.pointer (some ⟨b, 0, none⟩), .int .i64 most] w fun e w' => e = .returned (.string ⟨(digs most x.s).toArray⟩) ∧ RdAt B w' b ⟨x.s.drop (digs most x.s).length, x.ok, x.c, x.t, x.f⟩ ∧ Below B w w' := by
  have H := Lib.hid h
  obtain ⟨s, hs⟩ : ∃ s : ByteArray, s = ⟨x.s.toArray⟩ := ⟨_, rfl⟩
  have hsl : x.s = s.data.toList := by rw [hs]
  have HSB : Hid ((⟨x.s.toArray⟩ : ByteArray) = s) := Lib.hid hs.symm
  have HSL := Lib.hid hsl
  have hss : x.s.length = s.size := by rw [hsl, bl]
  obtain ⟨D, hD⟩ : ∃ D, digs most x.s = D := ⟨_, rfl⟩
  rw [hD]
  have HD := Lib.hid hD
  clear h hs hsl hD
  clear hss
  go_enter Tryz.func75, Tryz.ntmps75
  go_wp2_with fail
  go_loopw [5] (fun vn wr => ∃ k : Nat, k ≤ most ∧ k ≤ s.size ∧ vn = .int .i64 k ∧ D = x.s.take k ++ digs (most - k) (x.s.drop k) ∧ Below w.heap.size w wr) (fun vn _ => s.size - (RowKit.intOf vn).toNat)
  case atStart => exact ⟨0, Nat.zero_le _, Nat.zero_le _, rfl, HD.out.symm, Below.refl _ _⟩
  case round =>
    obtain ⟨k, hk1, hk2, rfl, hd, hbr⟩ := hrel
    have h1 := H.out.keep hbr
    have d0 := h1.c0
    rw [HSB.out] at d0
    have f0 := h1.fz 0
    have HDD := Lib.hid hd
    have HBR := Lib.hid hbr
    have H1 := Lib.hid h1
    clear h1 hd hbr
    have hE : ∀ n, n = k → D = x.s.take n → (s.extract 0 n = ⟨D.toArray⟩ ∧ s.extract n s.size = ⟨(x.s.drop D.length).toArray⟩) := fun n hn e => by
      refine ⟨ba_ext ?_, ba_ext ?_⟩
      · rw [ext_take, e, HSL.out]
      · rw [e, List.length_take, ext_any, HSL.out, bl, Nat.min_eq_left (by omega), List.take_of_length_le (by rw [bl]; omega)]
    have HE := Lib.hid hE
    have HFR := Lib.hid (fun (w1 : World) (hb1 : Below wr.heap.size wr w1) => (H1.out.keep hb1))
    clear hE
    have hxl : x.s.length = s.size := by rw [HSL.out, bl]
    by_cases hlt : k < most ∧ k < s.size
    · obtain ⟨hl1, hl2⟩ := hlt
      have a1 : decide ((k : Int) < min (most : Int) (s.size : Int)) = true := decide_eq_true (by omega)
      have j0 : (0 : Int) ≤ (k : Int) := by omega
      have j1 : (k : Int) ≤ (k : Int) + 1 := by omega
      have j2 : (k : Int) + 1 ≤ (s.size : Int) := by omega
      have j3 : (k : Int) ≤ (s.size : Int) := by omega
      have hkw : IntKind.i64.wrap ((k : Int) + 1) = (k : Int) + 1 := IntWalk.i64_in _ (by omega)
      have hli : k < x.s.length := by rw [hxl]; exact hl2
      obtain ⟨c, hc⟩ : ∃ c, c = x.s[k] := ⟨_, rfl⟩
      have he1 : (s.extract k (k + 1)).data.toList = [c] := by
        rw [ext_any, ← HSL.out, List.take_succ_eq_append_getElem hli, List.drop_append, List.drop_eq_nil_of_le (by rw [List.length_take]; omega), List.length_take, hc]
        have : k - min k x.s.length = 0 := by omega
        rw [this]
        rfl
      have hx1 := hex_any (s.extract k (k + 1)) (by rw [← bl, he1]; simp) wr
      rw [he1] at hx1
      have h2 := hexP_one c
      have hds := digs_step most x.s k hli hl1
      rw [← hc] at hds
      rw [h2] at hx1
      generalize (hexP [c]).1 = p1 at hx1
      clear h2 he1
      by_cases hh : isHex c = true
      · rw [if_pos hh] at hds
        have htk : D = x.s.take (k + 1) ++ digs (most - (k + 1)) (x.s.drop (k + 1)) := by
          rw [List.take_succ_eq_append_getElem hli, List.append_assoc, ← hc, HDD.out, hds]
          rfl
        have HTK := Lib.hid htk
        rw [hh] at hx1
        have HX1 := Lib.hid hx1
        clear hx1
        clear hds htk hh hc hli
        go_wp2_with fail
        refine HX1.out.mono ?_
        rintro _ w1 ⟨rfl, hb1⟩
        have d1 := (HFR.out w1 hb1).c0
        go_wp2_with fail
        go_roundw
        case rel => exact ⟨k + 1, by omega, by omega, by go_num, HTK.out, HBR.out.trans (hb1.mono HBR.out.size)⟩
        case measure => simp [RowKit.intOf]; omega
      · rw [if_neg hh] at hds
        have hdt : D = x.s.take k := by rw [HDD.out, hds, List.append_nil]
        obtain ⟨e1, e2⟩ := HE.out k rfl hdt
        have HE1 := Lib.hid e1
        have HE2 := Lib.hid e2
        have hh2 : isHex c = false := by simpa using hh
        rw [hh2] at hx1
        have HX1 := Lib.hid hx1
        clear hx1 hh2
        clear hds hh hc e1 e2 hdt
        go_wp2_with fail
        refine HX1.out.mono ?_
        rintro _ w1 ⟨rfl, hb1⟩
        have hr := HFR.out w1 hb1
        have d1 := hr.c0
        rw [HSB.out] at d1
        have f1 := hr.fz 0
        have HS0 := Lib.hid (hr.set0 (x.s.drop D.length))
        have HBB := Lib.hid (below_set ((Below.refl B w).trans ((HBR.out.mono hB).trans (hb1.mono (Nat.le_trans hB HBR.out.size)))) b 0 (.string ⟨(x.s.drop D.length).toArray⟩) H.out.le)
        clear hr d0 f0 hb1
        go_wp2_with fail
        go_returns
        rw [HE1.out, HE2.out]
        exact ⟨rfl, HS0.out, HBB.out⟩
    · have a1 : decide ((k : Int) < min (most : Int) (s.size : Int)) = false := decide_eq_false (by omega)
      have j0 : (0 : Int) ≤ (k : Int) := by omega
      have j3 : (k : Int) ≤ (s.size : Int) := by omega
      have hds : digs (most - k) (x.s.drop k) = [] := by
        by_cases h1 : k < most
        · rw [List.drop_eq_nil_of_le (by omega), digs_nil]
        · rw [show most - k = 0 by omega]; cases x.s.drop k <;> rfl
      have hdt : D = x.s.take k := by rw [HDD.out, hds, List.append_nil]
      obtain ⟨e1, e2⟩ := HE.out k rfl hdt
      have HE1 := Lib.hid e1
      have HE2 := Lib.hid e2
      have HS0 := Lib.hid (H1.out.set0 (x.s.drop D.length))
      have HBB := Lib.hid (below_set ((Below.refl B w).trans (HBR.out.mono hB)) b 0 (.string ⟨(x.s.drop D.length).toArray⟩) H.out.le)
      clear hds e1 e2 hdt hlt
      go_wp2_with fail
      go_returns
      rw [HE1.out, HE2.out]
      exact ⟨rfl, HS0.out, HBB.out⟩
end Go.Proofs.YtkfjmcidcnpijaaGreatDoor.Mf
