/- Walk: inkhornref13.Line. -/
import Derived.Test.YtopaoejapnakiaaGreatDoorM5
import Derived.Deep.CutRange
import Derived.Deep.DeepCutAuto
import Derived.Deep.CutBlock
namespace Go.Proofs.YtopaoejapnakiaaGreatDoor.Mf
open Go.RowKit

theorem rtrim_nil : rtrim [] = [] := rfl
theorem rtrim_snoc (l : List UInt8) (c : UInt8) : rtrim (l ++ [c]) = if sp c = true then rtrim l else l ++ [c] := by
  unfold rtrim
  rw [List.reverse_append, List.reverse_cons, List.reverse_nil, List.nil_append, List.cons_append, List.nil_append, List.dropWhile_cons]
  by_cases h : sp c = true
  · rw [if_pos h, if_pos h]
  · rw [if_neg h, if_neg h]
    simp
theorem ext_take (s : ByteArray) (i : Nat) : (s.extract 0 i).data.toList = s.data.toList.take i := by simp [ByteArray.data_extract]
theorem ba_ext {s t : ByteArray} (h : s.data.toList = t.data.toList) : s = t := ByteArray.ext (Array.toList_inj.1 h)
theorem while_at (s : List UInt8) (P : UInt8 → Bool) (i : Nat) (hi : i < s.length) (h : (s.take i).all P = true) (hp : P s[i] = false) : s.takeWhile P = s.take i := by
  have h1 : s = s.take i ++ s.drop i := (List.take_append_drop i s).symm
  have h2 : s.takeWhile P = (s.take i ++ s.drop i).takeWhile P := by rw [← h1]
  rw [h2, List.takeWhile_append_of_pos (fun a ha => List.all_eq_true.1 h a ha), List.drop_eq_getElem_cons hi, List.takeWhile_cons, hp]
  simp
theorem while_all : ∀ (s : List UInt8) (P : UInt8 → Bool), s.all P = true → s.takeWhile P = s := by
  intro s P
  induction s with
  | nil => intro _; rfl
  | cons c t ih =>
    intro h
    rw [List.all_cons, Bool.and_eq_true] at h
    rw [List.takeWhile_cons, if_pos h.1, ih h.2]
theorem sp_nat (c : UInt8) : sp c = (c.toNat == 32 || c.toNat == 9) := by
  unfold sp
  congr 1
  · rw [Bool.eq_iff_iff, beq_iff_eq, beq_iff_eq]; exact ⟨fun h => by rw [h]; rfl, fun h => UInt8.toNat_inj.1 h⟩
  · rw [Bool.eq_iff_iff, beq_iff_eq, beq_iff_eq]; exact ⟨fun h => by rw [h]; rfl, fun h => UInt8.toNat_inj.1 h⟩
theorem last_snoc (B : ByteArray) (m : Nat) (h : B.size = m + 1) (hl : m < B.size) : B.data.toList = B.data.toList.take m ++ [B[m]'hl] := by
  have h1 : B.data.toList.take (m + 1) = B.data.toList := List.take_of_length_le (by rw [bl]; omega)
  rw [← b_at B m (by omega), ← List.take_succ_eq_append_getElem (by rw [bl]; omega), h1]
set_option maxRecDepth 100000 in
set_option maxHeartbeats 3200000 in
theorem line_any (s : ByteArray) (hs : s.size ≤ 1000000) (w : World) :
    Calls Tryz.prog 31 #[.string s] w fun e w' => e = .returned (.string ⟨(clean s.data.toList).toArray⟩) ∧ w = w' := by
  unfold clean
  obtain ⟨T, hT⟩ : ∃ T, s.data.toList.takeWhile (· != 35) = T := ⟨_, rfl⟩
  rw [hT]
  have hTl : T.length ≤ s.size := by rw [← hT, ← bl s]; exact (List.takeWhile_prefix _).length_le
  have HT := Lib.hid hT
  obtain ⟨C, hC⟩ : ∃ C, rtrim T = C := ⟨_, rfl⟩
  rw [hC]
  have HC := Lib.hid hC
  clear hT hC
  go_enter Tryz.func31, Tryz.ntmps31
  go_upto_block 0 with fail
  go_cut [0] (fun v wx => v = .string ⟨T.toArray⟩ ∧ w = wx)
  case first =>
    go_wp2_with fail
    go_loop [0, 3] (fun v0 vi => ∃ i : Nat, i ≤ s.size ∧ v0 = .string s ∧ vi = .int .i64 i ∧ (s.data.toList.take i).all (· != 35) = true) (fun _ vi => s.size - (RowKit.intOf vi).toNat)
    case atStart => exact ⟨0, Nat.zero_le _, rfl, rfl, rfl⟩
    case round =>
      obtain ⟨i, hi, rfl, rfl, hall⟩ := hrel
      have HALL := Lib.hid hall
      clear hall
      by_cases hlt : i < s.size
      · have j0 : (0 : Int) ≤ (i : Int) := by omega
        have j1 : (i : Int) < (s.size : Int) := by omega
        have j2 : (i : Int) ≤ (s.size : Int) := by omega
        have hkw : IntKind.i64.wrap ((i : Int) + 1) = (i : Int) + 1 := IntWalk.i64_in _ (by omega)
        have hli : i < s.data.toList.length := by rw [bl]; exact hlt
        have hel := b_at s i hlt
        by_cases h35 : s[i] = 35
        · have b1 : ((s[i].toNat : Int) == 35) = true := by rw [h35]; rfl
          have ht : T = s.data.toList.take i := by rw [← HT.out]; exact while_at _ _ i hli HALL.out (by rw [hel, h35]; rfl)
          have HTT := Lib.hid ht
          clear h35 hel ht
          go_wp2_with fail
          go_meet
          exact ⟨by rw [HTT.out, ← ext_take], rfl⟩
        · have b1 : ((s[i].toNat : Int) == 35) = false := by
            rw [beq_eq_false_iff_ne]
            intro h
            have h2 : s[i].toNat = 35 := by omega
            exact h35 (UInt8.toNat_inj.1 h2)
          have ha : (s.data.toList.take (i + 1)).all (· != 35) = true := by
            rw [List.take_succ_eq_append_getElem hli, List.all_append, HALL.out, hel]
            simp [h35]
          have HA := Lib.hid ha
          clear h35 hel ha
          go_wp2_with fail
          go_round
          case rel => exact ⟨i + 1, by omega, rfl, by go_num, HA.out⟩
          case measure => simp [RowKit.intOf]; omega
      · obtain rfl : i = s.size := by omega
        have a1 : decide ((s.size : Int) < (s.size : Int)) = false := decide_eq_false (by omega)
        have ht : T = s.data.toList := by
          rw [← HT.out]
          refine while_all _ _ ?_
          have h := HALL.out
          rw [← bl s, List.take_length] at h
          exact h
        have HTT := Lib.hid ht
        clear ht
        go_wp2_with fail
        go_meet
        exact ⟨congrArg Value.string (ba_ext (by rw [HTT.out])), rfl⟩
  case rest =>
    obtain ⟨rfl, rfl⟩ := hcut
    clear HT
    go_wp2_with fail
    go_loop [0] (fun v => ∃ B : ByteArray, v = .string B ∧ B.size ≤ 1000000 ∧ rtrim B.data.toList = C) (fun v => match v with | .string b => b.size | _ => 0)
    case atStart => exact ⟨⟨T.toArray⟩, rfl, by show T.toArray.size ≤ _; simp; omega, HC.out⟩
    case round =>
      obtain ⟨B, rfl, hul, hu⟩ := hrel
      by_cases h0 : B.size = 0
      · have hn : B.data.toList = [] := List.eq_nil_of_length_eq_zero (by rw [bl]; exact h0)
        have hte : B.toList.isEmpty = true := by rw [ByteArray.toList_eq, hn]; rfl
        rw [hn, rtrim_nil] at hu
        subst hu
        have hB : B = ⟨(#[] : Array UInt8)⟩ := ba_ext (by rw [hn])
        have HB := Lib.hid hB
        clear h0 hn hB
        go_wp2_with fail
        go_returns
        exact ⟨congrArg (fun x => Ending.returned (.string x)) HB.out, rfl⟩
      · obtain ⟨m, hm⟩ : ∃ m, B.size = m + 1 := ⟨B.size - 1, by omega⟩
        have hml : m < B.size := by omega
        have hls := last_snoc B m hm hml
        have hte : B.toList.isEmpty = false := by rw [ByteArray.toList_eq, hls]; simp
        have hw1 : IntKind.i64.wrap ((B.size : Int) - 1) = (m : Int) := by rw [IntWalk.i64_in _ (by omega)]; omega
        have j0 : (0 : Int) ≤ (m : Int) := by omega
        have j1 : (m : Int) < (B.size : Int) := by omega
        have j2 : (m : Int) ≤ (B.size : Int) := by omega
        rw [hls, rtrim_snoc, sp_nat, ← ext_take] at hu
        have HU := Lib.hid hu
        have HSZ : Hid ((B.extract 0 m).size = m) := Lib.hid (by rw [ByteArray.size_extract]; omega)
        have HM := Lib.hid hm
        have HLS := Lib.hid hls
        clear hu hls h0 hm
        by_cases h32 : (B[m]'hml).toNat = 32
        · have b1 : (((B[m]'hml).toNat : Int) == 32) = true := by rw [beq_iff_eq]; omega
          have hu := HU.out
          rw [h32] at hu
          have HU2 : Hid (rtrim (B.extract 0 m).data.toList = C) := Lib.hid (by simpa using hu)
          clear h32 hu
          go_wp2_with fail
          go_round
          case rel => exact ⟨B.extract 0 m, rfl, by rw [HSZ.out]; omega, HU2.out⟩
          case measure => show (B.extract 0 m).size < B.size; rw [HSZ.out, HM.out]; omega
        · have b1 : (((B[m]'hml).toNat : Int) == 32) = false := by rw [beq_eq_false_iff_ne]; omega
          by_cases h9 : (B[m]'hml).toNat = 9
          · have b2 : (((B[m]'hml).toNat : Int) == 9) = true := by rw [beq_iff_eq]; omega
            have hu := HU.out
            rw [h9] at hu
            have HU2 : Hid (rtrim (B.extract 0 m).data.toList = C) := Lib.hid (by simpa using hu)
            clear h32 h9 hu
            go_wp2_with fail
            go_round
            case rel => exact ⟨B.extract 0 m, rfl, by rw [HSZ.out]; omega, HU2.out⟩
            case measure => show (B.extract 0 m).size < B.size; rw [HSZ.out, HM.out]; omega
          · have b2 : (((B[m]'hml).toNat : Int) == 9) = false := by rw [beq_eq_false_iff_ne]; omega
            have hu := HU.out
            have hu : B.data.toList = C := by
              rw [if_neg (by simp [h32, h9])] at hu
              rw [← hu, ext_take]
              exact HLS.out
            have HU2 := Lib.hid hu
            clear h32 h9 hu
            go_wp2_with fail
            go_returns
            exact ⟨congrArg (fun x => Ending.returned (.string x)) (ba_ext (by rw [HU2.out])), rfl⟩
end Go.Proofs.YtopaoejapnakiaaGreatDoor.Mf
