/- Walk: inkhornref13.Print. -/
import Derived.Test.YtopaoejapnakiaaGreatDoorT9
import Derived.Test.YtopaoejapnakiaaGreatDoorPA
import Derived.Test.YtopaoejapnakiaaGreatDoorM8
namespace Go.Proofs.YtopaoejapnakiaaGreatDoor.Mf
open Go.RowKit Pl
theorem codeG_append (E : Nat → List UInt8) (pre a b : List UInt8) : codeG E pre (a ++ b) = codeG E pre a ++ codeG E pre b := by
  induction a with
  | nil => rfl
  | cons x t ih => show pre ++ E x.toNat ++ codeG E pre (t ++ b) = _; rw [ih, ← List.append_assoc]; rfl
theorem charG_append (D : Nat → List UInt8) (a b : List Int) : charG D (a ++ b) = charG D a ++ charG D b := by
  induction a with
  | nil => rfl
  | cons x t ih => show [60, 85] ++ D x.toNat ++ [62] ++ charG D (t ++ b) = _; rw [ih, ← List.append_assoc]; rfl
theorem markG_append (D : Nat → List UInt8) (r : Int) : ∀ (a : List Int) (m : List UInt8), a ≠ [] → markG D m (a ++ [r]) = markG D m a ++ ([43] ++ D r.toNat)
  | [], _, h => absurd rfl h
  | [x], m, _ => by simp [markG]
  | x :: y :: t, m, _ => by
    have h := markG_append D r (y :: t) [43] (by simp)
    show m ++ D x.toNat ++ markG D [43] (y :: t ++ [r]) = m ++ D x.toNat ++ markG D [43] (y :: t) ++ _
    rw [h, List.append_assoc (m ++ D x.toNat)]
abbrev D10 : ByteArray := ⟨#[48, 49, 50, 51, 52, 53, 54, 55, 56, 57]⟩
theorem d10_fin : ∀ d : Fin 10, (D10.data.toList.take (d.val + 1)).drop d.val = [UInt8.ofNat (48 + d.val)] := by decide
theorem d10_at (q : Nat) (h : q < 10) : (D10.extract q (q + 1)).data.toList = [UInt8.ofNat (48 + q)] := by
  rw [ext_any]
  exact d10_fin ⟨q, h⟩
def w4 (n : Nat) : List UInt8 := wrt n 4
def w2 (n : Nat) : List UInt8 := wrt n 2
theorem w4_dig : Dig4 w4 := fun n h => wrt_dig4 n h
theorem w2_dig : Dig2 w2 := fun n h => wrt_dig2 n h
theorem dl (s : ByteArray) : s.data.toList.length = s.size := Array.length_toList
theorem ds {l : List UInt8} {B : ByteArray} (h : B.data.toList = l) : B.size = l.length := by rw [← h]; exact (dl B).symm
theorem mk_dl (l : List UInt8) : (⟨l.toArray⟩ : ByteArray).data.toList = l := rfl
/-- A row's line, as the reference has it. -/
def lineRC (code : ByteArray) (t : List Int) (fl : Nat) : List UInt8 := lineC w4 w2 code.data.toList t (UInt8.ofNat (48 + fl)) ++ [10]
def lineRU (code : ByteArray) (t : List Int) : List UInt8 := lineU w4 w2 [9] code.data.toList t ++ [10]
set_option maxRecDepth 100000 in
set_option maxHeartbeats 800000 in
theorem printC_any (code : ByteArray) (t : List Int) (fl : Nat) (A : Option Addr) (c : Nat) (w : World) (hc : code.size ≤ 1000) (ht : t.length ≤ 1000) (hch : Chars t) (hfl : fl < 10) (hR : Rd w A t.length (i32s t)) :
    Calls Tryz.prog 26 #[.agg #[.string code, .slice A t.length c, .int .i64 fl], .bool true] w fun e w' => e = .returned (.string ⟨(lineRC code t fl).toArray⟩) ∧ Below w.heap.size w w' := by
  obtain ⟨W, hW⟩ : ∃ W, w.alloc (.cells #[.string code, .slice A t.length c, .int .i64 fl] RefT) = W := ⟨_, rfl⟩
  have hbw : Below w.heap.size w W := hW ▸ (Below.refl _ _).alloc (Nat.le_refl _) _
  have hk : Blk W w.heap.size RefT #[.string code, .slice A t.length c, .int .i64 fl] := hW ▸ Blk.new _ _ _
  have c0 : W.cell? ⟨w.heap.size, 0, none⟩ = some (.string code) := by rw [hk.cell]; rfl
  have c1 : W.cell? ⟨w.heap.size, 1, none⟩ = some (.slice A t.length c) := by rw [hk.cell]; rfl
  have c2 : W.cell? ⟨w.heap.size, 2, none⟩ = some (.int .i64 fl) := by rw [hk.cell]; rfl
  have HR := Lib.hid (hR.keep hbw)
  have HBW := Lib.hid hbw
  have HW := Lib.hid hW
  have HCH := Lib.hid hch
  have HG2 : Hid (∀ n : Nat, n < 256 → ∀ w1, Calls Tryz.prog 43 #[.int .i64 n, .int .i64 2] w1 fun e w' => e = .returned (.string ⟨(w2 n).toArray⟩) ∧ w1 = w') := Lib.hid fun n h w1 => great_any n (by omega) 2 (by omega) (by omega) w1
  have HG4 : Hid (∀ n : Nat, n ≤ 1114111 → ∀ w1, Calls Tryz.prog 43 #[.int .i64 n, .int .i64 4] w1 fun e w' => e = .returned (.string ⟨(w4 n).toArray⟩) ∧ w1 = w') := Lib.hid fun n h w1 => great_any n (by omega) 4 (by omega) (by omega) w1
  clear hW hbw hk hR hch
  go_enter Tryz.func26, Tryz.ntmps26
  go_wp2_with fail
  rw [HW.out]
  clear HW
  go_loop [5, 6] (fun vo vi => ∃ (i : Nat) (B : ByteArray), vo = .string B ∧ vi = .int .i64 i ∧ i ≤ code.size ∧ B.data.toList = codeG w2 [92, 120] (code.data.toList.take i)) (fun _ vi => code.size - (RowKit.intOf vi).toNat)
  case atStart => exact ⟨0, ⟨#[]⟩, rfl, rfl, Nat.zero_le _, rfl⟩
  case round =>
    obtain ⟨i, B, rfl, rfl, hi, hB⟩ := hrel
    have hBs := ds hB
    have hB2 := (codeG_len w2_dig [92, 120] (code.data.toList.take i)).2
    have hB3 : (code.data.toList.take i).length ≤ i := by rw [List.length_take]; omega
    have hBl : B.size ≤ 4000 := by
      rw [hBs, hB2]
      have : ([92, 120] : List UInt8).length ≤ 2 := by decide
      have h2 : ([92, 120] : List UInt8).length + 2 ≤ 4 := by omega
      have h3 := Nat.mul_le_mul h2 hB3
      omega
    have HB := Lib.hid hB
    clear hB hBs hB2 hB3
    by_cases hlt : i < code.size
    · have a1 : decide ((i : Int) < (code.size : Int)) = true := decide_eq_true (by omega)
      have j0 : (0 : Int) ≤ (i : Int) := by omega
      have j1 : (i : Int) < (code.size : Int) := by omega
      have hkw : IntKind.i64.wrap ((i : Int) + 1) = (i : Int) + 1 := IntWalk.i64_in _ (by omega)
      have HTK : Hid (code.data.toList.take (i + 1) = code.data.toList.take i ++ [code[i]]) := Lib.hid (by rw [List.take_succ_eq_append_getElem (by rw [dl]; exact hlt), b_at code i hlt])
      have hb256 := code[i].toNat_lt
      have hbw : wrap64 (code[i].toNat : Int) = (code[i].toNat : Int) := IntWalk.wrap64_in _ (by omega)
      have HWL := Lib.hid (w2_dig code[i].toNat (by omega))
      have HG := Lib.hid (HG2.out code[i].toNat (by omega) W)
      obtain ⟨R, hR⟩ : ∃ R : ByteArray, (⟨(w2 code[i].toNat).toArray⟩ : ByteArray) = R := ⟨_, rfl⟩
      have hRs : R.size ≤ 2 := by rw [← hR]; show (w2 code[i].toNat).toArray.size ≤ _; rw [List.size_toArray]; exact HWL.out.most
      have hcat : ¬ (9223372036854775807 < B.size + 2) := by omega
      have hcat2 : ¬ (9223372036854775807 < B.size + 2 + R.size) := by omega
      have hcat3 : ¬ (9223372036854775807 < B.size + R.size) := by omega
      have HRR := Lib.hid hR
      rw [hR] at HG
      clear hR hRs
      go_wp2_with fail
      refine HG.out.mono ?_
      rintro _ _ ⟨rfl, rfl⟩
      go_wp2_with fail
      go_round
      case rel =>
        refine ⟨i + 1, _, rfl, by go_num, by omega, ?_⟩
        rw [HTK.out, codeG_append, ← HB.out, ← HRR.out]
        simp [codeG]
      case measure => simp [RowKit.intOf]; omega
    · obtain rfl : i = code.size := by omega
      have a1 : decide ((code.size : Int) < (code.size : Int)) = false := decide_eq_false (by omega)
      rw [List.take_of_length_le (by rw [dl]; exact Nat.le_refl _)] at HB
      clear hlt hi
      go_wp2_with fail
      go_loop [7, 8] (fun vo vi => ∃ (k : Nat) (T : ByteArray), vo = .string T ∧ vi = .int .i64 k ∧ k ≤ t.length ∧ T.data.toList = charG w4 (t.take k)) (fun _ vi => t.length - (RowKit.intOf vi).toNat)
      case atStart => exact ⟨0, ⟨#[]⟩, rfl, rfl, Nat.zero_le _, rfl⟩
      case round =>
        obtain ⟨k, T, rfl, rfl, hk, hT⟩ := hrel
        have hTs := ds hT
        have hch2 : Chars (t.take k) := fun r hr => HCH.out r (List.mem_of_mem_take hr)
        have hT2 := (charG_len w4_dig (t.take k) hch2).2
        have hT3 : (t.take k).length ≤ k := by rw [List.length_take]; omega
        have hTl : T.size ≤ 10000 := by
          rw [hTs]
          
          omega
        have HT := Lib.hid hT
        clear hT hTs hT2 hT3 hch2
        by_cases hlt : k < t.length
        · have a2 : decide ((k : Int) < (t.length : Int)) = true := decide_eq_true (by omega)
          have k0 : (0 : Int) ≤ (k : Int) := by omega
          have k1 : (k : Int) < (t.length : Int) := by omega
          have hkw : IntKind.i64.wrap ((k : Int) + 1) = (k : Int) + 1 := IntWalk.i64_in _ (by omega)
          obtain ⟨bk, ok, rfl, hbk, cr⟩ := HR.out.i32_at hlt
          have HTK : Hid (t.take (k + 1) = t.take k ++ [t[k]]) := Lib.hid (List.take_succ_eq_append_getElem hlt)
          have hri := HCH.out t[k] (List.getElem_mem hlt)
          clear hbk
          generalize t[k] = r at *
          obtain ⟨n, rfl⟩ : ∃ n : Nat, r = n := ⟨r.toNat, by omega⟩
          have hbw : IntKind.i64.wrap (n : Int) = (n : Int) := IntWalk.i64_in _ (by omega)
          have HG := Lib.hid (HG4.out n (by omega) W)
          have HWL := Lib.hid (w4_dig n (by omega))
          obtain ⟨R, hR⟩ : ∃ R : ByteArray, (⟨(w4 n).toArray⟩ : ByteArray) = R := ⟨_, rfl⟩
          have hRs : R.size ≤ 6 := by rw [← hR]; show (w4 n).toArray.size ≤ _; rw [List.size_toArray]; exact HWL.out.most
          have hcat : ¬ (9223372036854775807 < T.size + 2) := by omega
          have hcat2 : ¬ (9223372036854775807 < T.size + 2 + R.size) := by omega
          have hcat3 : ¬ (9223372036854775807 < T.size + 2 + R.size + 1) := by omega
          have hcat4 : ¬ (9223372036854775807 < T.size + 1) := by omega
          have hcat5 : ¬ (9223372036854775807 < T.size + 1 + R.size) := by omega
          have HRR := Lib.hid hR
          rw [hR] at HG
          clear hR hRs hri
          go_wp2_with fail
          refine HG.out.mono ?_
          rintro _ _ ⟨rfl, rfl⟩
          go_wp2_with fail
          go_round
          case rel =>
            refine ⟨k + 1, _, rfl, by go_num, by omega, ?_⟩
            rw [HTK.out, charG_append, ← HT.out, ← HRR.out]
            simp [charG]
          case measure => simp [RowKit.intOf]; omega
        · obtain rfl : k = t.length := by omega
          have a2 : decide ((t.length : Int) < (t.length : Int)) = false := decide_eq_false (by omega)
          rw [List.take_of_length_le (Nat.le_refl _)] at HT
          clear hlt hk
          have hE := d10_at fl hfl
          have hEs := ds hE
          have hEs1 : (D10.extract fl (fl + 1)).size = 1 := hEs
          have f0 : (0 : Int) ≤ (fl : Int) := by omega
          have f1 : (fl : Int) ≤ (fl : Int) + 1 := by omega
          have f2 : (fl : Int) + 1 ≤ 10 := by omega
          have hfw : IntKind.i64.wrap ((fl : Int) + 1) = (fl : Int) + 1 := IntWalk.i64_in _ (by omega)
          have HE := Lib.hid hE
          clear hE hEs
          have cat1 : ¬ (9223372036854775807 < T.size + 1) := by omega
          have cat2 : ¬ (9223372036854775807 < T.size + 1 + B.size) := by omega
          have cat3 : ¬ (9223372036854775807 < T.size + 1 + B.size + 2) := by omega
          have cat4 : ¬ (9223372036854775807 < T.size + 1 + B.size + 2 + (D10.extract fl (fl + 1)).size) := by omega
          have cat5 : ¬ (9223372036854775807 < T.size + 1 + B.size + 2 + (D10.extract fl (fl + 1)).size + 1) := by omega
          go_wp2_with fail
          go_returns
          refine ⟨congrArg (fun x => Ending.returned (.string x)) (ba_ext ?_), HBW.out⟩
          unfold lineRC lineC
          rw [← HT.out, ← HB.out, ← HE.out]
          simp
set_option maxRecDepth 100000 in
set_option maxHeartbeats 800000 in
theorem printU_any (code : ByteArray) (t : List Int) (fl : Nat) (A : Option Addr) (c : Nat) (w : World) (hc : code.size ≤ 1000) (ht : t.length ≤ 1000) (hch : Chars t) (_hfl : fl < 10) (hR : Rd w A t.length (i32s t)) :
    Calls Tryz.prog 26 #[.agg #[.string code, .slice A t.length c, .int .i64 fl], .bool false] w fun e w' => e = .returned (.string ⟨(lineRU code t).toArray⟩) ∧ Below w.heap.size w w' := by
  obtain ⟨W, hW⟩ : ∃ W, w.alloc (.cells #[.string code, .slice A t.length c, .int .i64 fl] RefT) = W := ⟨_, rfl⟩
  have hbw : Below w.heap.size w W := hW ▸ (Below.refl _ _).alloc (Nat.le_refl _) _
  have hk : Blk W w.heap.size RefT #[.string code, .slice A t.length c, .int .i64 fl] := hW ▸ Blk.new _ _ _
  have c0 : W.cell? ⟨w.heap.size, 0, none⟩ = some (.string code) := by rw [hk.cell]; rfl
  have c1 : W.cell? ⟨w.heap.size, 1, none⟩ = some (.slice A t.length c) := by rw [hk.cell]; rfl
  have c2 : W.cell? ⟨w.heap.size, 2, none⟩ = some (.int .i64 fl) := by rw [hk.cell]; rfl
  have HR := Lib.hid (hR.keep hbw)
  have HBW := Lib.hid hbw
  have HW := Lib.hid hW
  have HCH := Lib.hid hch
  have HG2 : Hid (∀ n : Nat, n < 256 → ∀ w1, Calls Tryz.prog 43 #[.int .i64 n, .int .i64 2] w1 fun e w' => e = .returned (.string ⟨(w2 n).toArray⟩) ∧ w1 = w') := Lib.hid fun n h w1 => great_any n (by omega) 2 (by omega) (by omega) w1
  have HG4 : Hid (∀ n : Nat, n ≤ 1114111 → ∀ w1, Calls Tryz.prog 43 #[.int .i64 n, .int .i64 4] w1 fun e w' => e = .returned (.string ⟨(w4 n).toArray⟩) ∧ w1 = w') := Lib.hid fun n h w1 => great_any n (by omega) 4 (by omega) (by omega) w1
  clear hW hbw hk hR hch
  go_enter Tryz.func26, Tryz.ntmps26
  go_wp2_with fail
  rw [HW.out]
  clear HW
  go_loop [5, 6] (fun vo vi => ∃ (i : Nat) (B : ByteArray), vo = .string B ∧ vi = .int .i64 i ∧ i ≤ code.size ∧ B.data.toList = codeG w2 [] (code.data.toList.take i)) (fun _ vi => code.size - (RowKit.intOf vi).toNat)
  case atStart => exact ⟨0, ⟨#[]⟩, rfl, rfl, Nat.zero_le _, rfl⟩
  case round =>
    obtain ⟨i, B, rfl, rfl, hi, hB⟩ := hrel
    have hBs := ds hB
    have hB2 := (codeG_len w2_dig [] (code.data.toList.take i)).2
    have hB3 : (code.data.toList.take i).length ≤ i := by rw [List.length_take]; omega
    have hBl : B.size ≤ 4000 := by
      rw [hBs, hB2]
      have : ([] : List UInt8).length ≤ 2 := by decide
      have h2 : ([] : List UInt8).length + 2 ≤ 4 := by omega
      have h3 := Nat.mul_le_mul h2 hB3
      omega
    have HB := Lib.hid hB
    clear hB hBs hB2 hB3
    by_cases hlt : i < code.size
    · have a1 : decide ((i : Int) < (code.size : Int)) = true := decide_eq_true (by omega)
      have j0 : (0 : Int) ≤ (i : Int) := by omega
      have j1 : (i : Int) < (code.size : Int) := by omega
      have hkw : IntKind.i64.wrap ((i : Int) + 1) = (i : Int) + 1 := IntWalk.i64_in _ (by omega)
      have HTK : Hid (code.data.toList.take (i + 1) = code.data.toList.take i ++ [code[i]]) := Lib.hid (by rw [List.take_succ_eq_append_getElem (by rw [dl]; exact hlt), b_at code i hlt])
      have hb256 := code[i].toNat_lt
      have hbw : wrap64 (code[i].toNat : Int) = (code[i].toNat : Int) := IntWalk.wrap64_in _ (by omega)
      have HWL := Lib.hid (w2_dig code[i].toNat (by omega))
      have HG := Lib.hid (HG2.out code[i].toNat (by omega) W)
      obtain ⟨R, hR⟩ : ∃ R : ByteArray, (⟨(w2 code[i].toNat).toArray⟩ : ByteArray) = R := ⟨_, rfl⟩
      have hRs : R.size ≤ 2 := by rw [← hR]; show (w2 code[i].toNat).toArray.size ≤ _; rw [List.size_toArray]; exact HWL.out.most
      have hcat : ¬ (9223372036854775807 < B.size + 2) := by omega
      have hcat2 : ¬ (9223372036854775807 < B.size + 2 + R.size) := by omega
      have hcat3 : ¬ (9223372036854775807 < B.size + R.size) := by omega
      have HRR := Lib.hid hR
      rw [hR] at HG
      clear hR hRs
      go_wp2_with fail
      refine HG.out.mono ?_
      rintro _ _ ⟨rfl, rfl⟩
      go_wp2_with fail
      go_round
      case rel =>
        refine ⟨i + 1, _, rfl, by go_num, by omega, ?_⟩
        rw [HTK.out, codeG_append, ← HB.out, ← HRR.out]
        simp [codeG]
      case measure => simp [RowKit.intOf]; omega
    · obtain rfl : i = code.size := by omega
      have a1 : decide ((code.size : Int) < (code.size : Int)) = false := decide_eq_false (by omega)
      rw [List.take_of_length_le (by rw [dl]; exact Nat.le_refl _)] at HB
      clear hlt hi
      go_wp2_with fail
      go_loop [7, 8] (fun vo vi => ∃ (k : Nat) (T : ByteArray), vo = .string T ∧ vi = .int .i64 k ∧ k ≤ t.length ∧ T.data.toList = markG w4 [] (t.take k)) (fun _ vi => t.length - (RowKit.intOf vi).toNat)
      case atStart => exact ⟨0, ⟨#[]⟩, rfl, rfl, Nat.zero_le _, rfl⟩
      case round =>
        obtain ⟨k, T, rfl, rfl, hk, hT⟩ := hrel
        have hTs := ds hT
        have hch2 : Chars (t.take k) := fun r hr => HCH.out r (List.mem_of_mem_take hr)
        have hT2 := (markG_len w4_dig (t.take k) [] hch2).2
        have hT3 : (t.take k).length ≤ k := by rw [List.length_take]; omega
        have hTl : T.size ≤ 10000 := by
          rw [hTs]
          rw [List.length_nil] at hT2
          omega
        have HT := Lib.hid hT
        clear hT hTs hT2 hT3 hch2
        by_cases hlt : k < t.length
        · have a2 : decide ((k : Int) < (t.length : Int)) = true := decide_eq_true (by omega)
          have k0 : (0 : Int) ≤ (k : Int) := by omega
          have k1 : (k : Int) < (t.length : Int) := by omega
          have hkw : IntKind.i64.wrap ((k : Int) + 1) = (k : Int) + 1 := IntWalk.i64_in _ (by omega)
          obtain ⟨bk, ok, rfl, hbk, cr⟩ := HR.out.i32_at hlt
          have HTK : Hid (t.take (k + 1) = t.take k ++ [t[k]]) := Lib.hid (List.take_succ_eq_append_getElem hlt)
          have hri := HCH.out t[k] (List.getElem_mem hlt)
          clear hbk
          generalize t[k] = r at *
          obtain ⟨n, rfl⟩ : ∃ n : Nat, r = n := ⟨r.toNat, by omega⟩
          have hbw : IntKind.i64.wrap (n : Int) = (n : Int) := IntWalk.i64_in _ (by omega)
          have HG := Lib.hid (HG4.out n (by omega) W)
          have HWL := Lib.hid (w4_dig n (by omega))
          obtain ⟨R, hR⟩ : ∃ R : ByteArray, (⟨(w4 n).toArray⟩ : ByteArray) = R := ⟨_, rfl⟩
          have hRs : R.size ≤ 6 := by rw [← hR]; show (w4 n).toArray.size ≤ _; rw [List.size_toArray]; exact HWL.out.most
          have hcat : ¬ (9223372036854775807 < T.size + 2) := by omega
          have hcat2 : ¬ (9223372036854775807 < T.size + 2 + R.size) := by omega
          have hcat3 : ¬ (9223372036854775807 < T.size + 2 + R.size + 1) := by omega
          have hcat4 : ¬ (9223372036854775807 < T.size + 1) := by omega
          have hcat5 : ¬ (9223372036854775807 < T.size + 1 + R.size) := by omega
          have HRR := Lib.hid hR
          rw [hR] at HG
          clear hR hRs hri
          by_cases hk0 : k = 0
          · subst hk0
            rw [Nat.add_zero] at cr
            go_wp2_with fail
            refine HG.out.mono ?_
            rintro _ _ ⟨rfl, rfl⟩
            go_wp2_with fail
            go_round
            case rel =>
              refine ⟨1, _, rfl, rfl, by omega, ?_⟩
              rw [HTK.out, ← HRR.out]
              simp [markG]
            case measure => simp [RowKit.intOf]; omega
          · have hk1 : ((k : Int) == 0) = false := by simpa using hk0
            have HKN : Hid (t.take k ≠ []) := Lib.hid (by
              intro h
              have := congrArg List.length h
              rw [List.length_take, List.length_nil] at this
              omega)
            clear hk0
            go_wp2_with fail
            refine HG.out.mono ?_
            rintro _ _ ⟨rfl, rfl⟩
            go_wp2_with fail
            go_round
            case rel =>
              refine ⟨k + 1, _, rfl, by go_num, by omega, ?_⟩
              rw [HTK.out, markG_append w4 _ _ _ HKN.out, ← HT.out, ← HRR.out]
              simp
            case measure => simp [RowKit.intOf]; omega
        · obtain rfl : k = t.length := by omega
          have a2 : decide ((t.length : Int) < (t.length : Int)) = false := decide_eq_false (by omega)
          rw [List.take_of_length_le (Nat.le_refl _)] at HT
          clear hlt hk
          have cat1 : ¬ (9223372036854775807 < 2 + B.size) := by omega
          have cat2 : ¬ (9223372036854775807 < 2 + B.size + 3) := by omega
          have cat3 : ¬ (9223372036854775807 < 2 + B.size + 3 + T.size) := by omega
          have cat4 : ¬ (9223372036854775807 < 2 + B.size + 3 + T.size + 1) := by omega
          go_wp2_with fail
          go_returns
          refine ⟨congrArg (fun x => Ending.returned (.string x)) (ba_ext ?_), HBW.out⟩
          unfold lineRU lineU
          rw [← HT.out, ← HB.out]
          simp
end Go.Proofs.YtopaoejapnakiaaGreatDoor.Mf
