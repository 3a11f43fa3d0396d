/- Law: MapfileHex. -/
import Derived.Test.YtopaoejapnakiaaGreatDoorHx1
import Derived.Test.YtopaoejapnakiaaGreatDoorB1
import Derived.Deep.RegionHeld3
namespace Go.Proofs.YtopaoejapnakiaaGreatDoor.Mf
open Go.RowKit Pl Go.Lib
abbrev cellsR (r : RowV) : Array Value := #[.string r.code, .string r.text, .int .i64 r.flag]
theorem row_alloc {w0 w : World} (h : Below w0.heap.size w0 w) (r : RowV) : Below w0.heap.size w0 (w.alloc (.cells (cellsR r) RowT)) := h.alloc h.size _
/-- Reading, in a later world. -/
theorem rC_at (w0 : World) (hO : OkP w0) {b : ByteArray} (hb : b.size ≤ 1000000) {l : List LRow} {i e : Int} (h : readL oneC b.data.toList = (l, i, e)) : ∀ w, Below w0.heap.size w0 w → Calls Tryz.prog 13 #[.string b] w (ReadAt w l i e) := mapC_at w0 hO.ok hb h
theorem rU_at (w0 : World) (hO : OkP w0) {b : ByteArray} (hb : b.size ≤ 1000000) {l : List LRow} {i e : Int} (h : readL oneU b.data.toList = (l, i, e)) : ∀ w, Below w0.heap.size w0 w → Calls Tryz.prog 11 #[.string b] w (ReadAt w l i e) := mapU_at w0 hO.ok hb h
/-- Printing one row, laid by the call. -/
theorem ucm1_at (w0 : World) (hO : OkP w0) (r : RowV) (hS : r.code.size ≤ 1000 ∧ r.text.size ≤ 1000) {s : ByteArray} {i e : Int} (h : printP chkR ucmL [r] = (s.data.toList, i, e)) :
    ∀ w, Below w0.heap.size w0 w → Calls Tryz.prog 20 #[.slice (some ⟨w.heap.size, 0, none⟩) 1 1] (w.alloc (.cells (cellsR r) RowT)) fun x w' => x = .returned (.tuple #[.string s, .int .i64 i, .int .i64 e]) ∧ Below w.heap.size w w' := fun w hb => by
  have hO2 := hO.keep (row_alloc hb r)
  have hba : Below w.heap.size w (w.alloc (.cells (cellsR r) RowT)) := (Below.refl _ _).alloc (Nat.le_refl _) _
  have hc := printUcm_any (some ⟨w.heap.size, 0, none⟩) 1 [r] (w.alloc (.cells (cellsR r) RowT)) (one_rows w r) (by simp) (fun x hx => by rw [List.mem_singleton.1 hx]; exact hS) hO2.ok.tabs hO2.tz hO2.lt
  rw [h] at hc
  exact hc.mono fun _ _ ⟨h1, h2⟩ => ⟨h1, hba.trans (h2.mono hba.size)⟩
theorem uni1_at (w0 : World) (hO : OkP w0) (r : RowV) (hS : r.code.size ≤ 1000 ∧ r.text.size ≤ 1000) {s : ByteArray} {i e : Int} (h : printP chkN uniL [r] = (s.data.toList, i, e)) :
    ∀ w, Below w0.heap.size w0 w → Calls Tryz.prog 21 #[.slice (some ⟨w.heap.size, 0, none⟩) 1 1] (w.alloc (.cells (cellsR r) RowT)) fun x w' => x = .returned (.tuple #[.string s, .int .i64 i, .int .i64 e]) ∧ Below w.heap.size w w' := fun w hb => by
  have hO2 := hO.keep (row_alloc hb r)
  have hba : Below w.heap.size w (w.alloc (.cells (cellsR r) RowT)) := (Below.refl _ _).alloc (Nat.le_refl _) _
  have hc := printUni_any (some ⟨w.heap.size, 0, none⟩) 1 [r] (w.alloc (.cells (cellsR r) RowT)) (one_rows w r) (by simp) (fun x hx => by rw [List.mem_singleton.1 hx]; exact hS) hO2.ok.tabs hO2.tz hO2.lt
  rw [h] at hc
  exact hc.mono fun _ _ ⟨h1, h2⟩ => ⟨h1, hba.trans (h2.mono hba.size)⟩
theorem alike1_at (r : RowV) (h0 : chkR r = 0) (w : World) (A : Option Addr) (c : Nat) (h1 : RdR w A [toL r]) :
    Calls Tryz.prog 16 #[.slice A 1 c, .slice (some ⟨w.heap.size, 0, none⟩) 1 1] (w.alloc (.cells (cellsR r) RowT)) fun e w' => e = .returned (.bool true) ∧ Below w.heap.size w w' := by
  have hba : Below w.heap.size w (w.alloc (.cells (cellsR r) RowT)) := (Below.refl _ _).alloc (Nat.le_refl _) _
  have hc := alike_any A (some ⟨w.heap.size, 0, none⟩) c 1 [toL r] (by simp) (w.alloc (.cells (cellsR r) RowT)) (h1.keep hba) (rdR_of (one_rows w r) (fun x hx => by rw [List.mem_singleton.1 hx]; exact h0))
  exact hc.mono fun _ _ ⟨h1, h2⟩ => ⟨h1, hba.trans (h2.mono hba.size)⟩
theorem alike2_at (x : LRow) (w : World) (A B : Option Addr) (c d : Nat) (h1 : RdR w A [x]) (h2 : RdR w B [x]) :
    Calls Tryz.prog 16 #[.slice A 1 c, .slice B 1 d] w fun e w' => e = .returned (.bool true) ∧ Below w.heap.size w w' := alike_any A B c d [x] (by simp) w h1 h2
theorem fewR_one (r : RowV) : fewR [r] = (decide (r.code.size ≤ 200) && decide (r.text.size ≤ 200)) := by
  unfold fewR
  simp
set_option maxRecDepth 100000 in
set_option maxHeartbeats 3200000 in
theorem mapfileHex_law {w : World} (hO : OkP w) (r : RowV) (hs1 : r.code.size ≤ maxLen) (hs2 : r.text.size ≤ maxLen) :
    Calls Tryz.prog 8 #[.agg #[.string r.code, .string r.text, .int .i64 r.flag]] w fun e w' => e = .returned (.bool true) ∧ Below w.heap.size w w' := by
  have HFW := Lib.hid (fun (w1 : World) => few_any (some ⟨w1.heap.size, 0, none⟩) 1 [r] (w1.alloc (.cells (cellsR r) RowT)) (one_rows w1 r) (by simp) (fun x hx => by rw [List.mem_singleton.1 hx]; exact ⟨hs1, hs2⟩))
  have HAW : Hid (∀ w1, Below w.heap.size w w1 → Calls Tryz.prog 10 #[] w1 fun e w' => e = .returned (.bool true) ∧ Below w.heap.size w w') := Lib.hid (awake_at w hO)
  have hba : ∀ w1 : World, Below w.heap.size w w1 → Below w.heap.size w (w1.alloc (.cells (cellsR r) RowT)) := fun w1 h => row_alloc h r
  have HBA := Lib.hid hba
  clear hba
  have hb0 : Below w.heap.size w (w.alloc (.cells (cellsR r) RowT)) := HBA.out w (Below.refl _ _)
  have hbl : Blk (w.alloc (.cells (cellsR r) RowT)) w.heap.size RowT (cellsR r) := Blk.new _ _ _
  cases hfw : fewR [r]
  · rw [hfw] at HFW
    obtain ⟨code, text, flag⟩ := r
    obtain ⟨W0, hW0⟩ : ∃ W0, w.alloc (.cells (cellsR ⟨code, text, flag⟩) RowT) = W0 := ⟨_, rfl⟩
    rw [hW0] at hb0 hbl
    have HW0 := Lib.hid hW0
    have k0 : W0.cell? ⟨w.heap.size, 0, none⟩ = some (.string code) := by rw [hbl.cell]; rfl
    have k1 : W0.cell? ⟨w.heap.size, 1, none⟩ = some (.string text) := by rw [hbl.cell]; rfl
    have k2 : W0.cell? ⟨w.heap.size, 2, none⟩ = some (.int .i64 flag) := by rw [hbl.cell]; rfl
    have HB0 := Lib.hid hb0
    have HF1 := Lib.hid (HFW.out W0)
    clear hb0 hbl hW0 hO hfw
    go_enter Tryz.func8, Tryz.ntmps8
    go_upto_region 1 with (fail)
    rw [show w.alloc (.cells #[.string code, .string text, .int .i64 flag] RowT) = W0 from HW0.out]
    go_wp2_with fail
    refine HF1.out.mono ?_
    rintro _ _ ⟨rfl, rfl⟩
    go_wp2_with fail
    refine (HAW.out _ (HBA.out _ HB0.out)).mono ?_
    rintro _ w1 ⟨rfl, hb1⟩
    have HB1 := Lib.hid hb1
    clear hb1
    go_wp2_with fail
    go_returns
    exact ⟨rfl, HB1.out⟩
  rw [hfw] at HFW
  rw [fewR_one, Bool.and_eq_true] at hfw
  have hS : r.code.size ≤ 1000 ∧ r.text.size ≤ 1000 := by
    have h1 := of_decide_eq_true hfw.1
    have h2 := of_decide_eq_true hfw.2
    omega
  have hbl0 := hbl
  obtain ⟨W0, hW0⟩ : ∃ W0, w.alloc (.cells (cellsR r) RowT) = W0 := ⟨_, rfl⟩
  rw [hW0] at hb0 hbl hbl0
  have HW0 := Lib.hid hW0
  have HB0 := Lib.hid hb0
  have HK0 := Lib.hid hbl
  have k0 : W0.cell? ⟨w.heap.size, 0, none⟩ = some (.string r.code) := by rw [hbl.cell]; rfl
  have k1 : W0.cell? ⟨w.heap.size, 1, none⟩ = some (.string r.text) := by rw [hbl.cell]; rfl
  have k2 : W0.cell? ⟨w.heap.size, 2, none⟩ = some (.int .i64 r.flag) := by rw [hbl.cell]; rfl
  have HF1 := Lib.hid (HFW.out W0)
  clear hb0 hbl hbl0 hW0 hfw hs1 hs2
  by_cases hc0 : chkR r = 0
  · have hP := printP_ok1 chkR ucmL r hc0
    have hlenC := ucmL_len hc0
    obtain ⟨S, hSd⟩ : ∃ S : ByteArray, S.data.toList = ucmL r := ⟨⟨(ucmL r).toArray⟩, rfl⟩
    have hSs : S.size ≤ 400 := by rw [ds hSd]; exact hlenC
    rw [← hSd] at hP
    have HPR := Lib.hid (ucm1_at w hO r hS hP)
    have HSM := Lib.hid (fun w1 => small_any S (by omega) w1)
    obtain ⟨S2, hS2d⟩ : ∃ S2 : ByteArray, (⟨(S.data.toList.map lowB).toArray⟩ : ByteArray) = S2 := ⟨_, rfl⟩
    have hS2e : S2.data.toList = (ucmL r).map lowB := by rw [← hS2d, ← hSd]
    have hS2s : S2.size ≤ 1000000 := by rw [ds hS2e, List.length_map]; omega
    rw [hS2d] at HSM
    have HRC := Lib.hid (rC_at w hO hS2s (l := [toL r]) (i := 0) (e := 0) (by rw [hS2e]; exact small_ucm hc0))
    have HA1 := Lib.hid (alike1_at r hc0)
    by_cases hf0 : r.flag = 0
    · have hc1 : chkN r = 0 := chkN_ok.2 ⟨hc0, hf0⟩
      have hPN := printP_ok1 chkN uniL r hc1
      have hlenU := uniL_len hc0
      obtain ⟨T, hTd⟩ : ∃ T : ByteArray, T.data.toList = uniL r := ⟨⟨(uniL r).toArray⟩, rfl⟩
      have hTs : T.size ≤ 400 := by rw [ds hTd]; exact hlenU
      rw [← hTd] at hPN
      have HPN := Lib.hid (uni1_at w hO r hS hPN)
      have HST := Lib.hid (fun w1 => small_any T (by omega) w1)
      obtain ⟨T2, hT2d⟩ : ∃ T2 : ByteArray, (⟨(T.data.toList.map lowB).toArray⟩ : ByteArray) = T2 := ⟨_, rfl⟩
      have hT2e : T2.data.toList = (uniL r).map lowB := by rw [← hT2d, ← hTd]
      have hT2s : T2.size ≤ 1000000 := by rw [ds hT2e, List.length_map]; omega
      rw [hT2d] at HST
      have HRU := Lib.hid (rU_at w hO hT2s (l := [toL r]) (i := 0) (e := 0) (by rw [hT2e]; exact small_uni hc0 hf0))
      -- the parts
      have hparts := uni_parts hc0
      have hpl := preU_len r
      have hTp : T.data.toList = preU r ++ ([9] ++ postU r) := by rw [hTd, hparts]
      have hTl : T.size = (2 + 2 * r.code.size) + 1 + (postU r).length := by rw [ds hTp]; simp [hpl]; omega
      obtain ⟨n, hn⟩ : ∃ n, 2 + 2 * r.code.size = n := ⟨_, rfl⟩
      have hcs4 := (chkV_facts hc0).1.2
      rw [hn] at hpl hTl
      have hX1 : (T.extract 0 n).data.toList = preU r := by rw [ext_any, hTp, List.drop_zero, ← hpl, List.take_left]
      have hX2 : (T.extract (n + 1) T.size).data.toList = postU r := by
        rw [ext_any, List.take_of_length_le (by rw [dl]; exact Nat.le_refl _), hTp, ← List.append_assoc, ← hpl, show (preU r).length + 1 = (preU r ++ [9]).length by simp, List.drop_left]
      have hXs1 : (T.extract 0 n).size = n := by rw [ds hX1, hpl]
      have hXs2 : (T.extract (n + 1) T.size).size ≤ 400 := by rw [ds hX2]; omega
      have hG : (T.extract 0 n ++ ⟨#[32, 32, 9, 32]⟩ ++ T.extract (n + 1) T.size).data.toList = preU r ++ [32, 32, 9, 32] ++ postU r := by rw [ByteArray.toList_data_append, ByteArray.toList_data_append, hX1, hX2]
      have hO2 : (T.extract 0 n ++ ⟨#[10]⟩ ++ T).data.toList = preU r ++ [10] ++ uniL r := by rw [ByteArray.toList_data_append, ByteArray.toList_data_append, hX1, hTd]
      have HRG := Lib.hid (rU_at w hO (b := T.extract 0 n ++ ⟨#[32, 32, 9, 32]⟩ ++ T.extract (n + 1) T.size) (by rw [ByteArray.size_append, ByteArray.size_append, hXs1]; show n + 4 + _ ≤ _; omega) (l := [toL r]) (i := 0) (e := 0) (by rw [hG]; exact gap_uni hc0 hf0))
      have HRO := Lib.hid (rU_at w hO (b := T.extract 0 n ++ ⟨#[10]⟩ ++ T) (by rw [ByteArray.size_append, ByteArray.size_append, hXs1]; show n + 1 + _ ≤ _; omega) (l := [toL r]) (i := 0) (e := 0) (by rw [hO2]; exact two_uni hc0 hf0))
      have HA2 := Lib.hid (alike2_at (toL r))
      have hnI : (2 : Int) + 2 * (r.code.size : Int) = (n : Int) := by omega
      have hnT : n + 1 ≤ T.size := by omega
      have cat1 : ¬ (9223372036854775807 < n + 4) := by omega
      have cat2 : ¬ (9223372036854775807 < n + 4 + (T.extract (n + 1) T.size).size) := by omega
      have cat2' : ¬ (9223372036854775807 < n + 4 + (T.size - (n + 1))) := by omega
      have cat2b : ¬ (9223372036854775807 < n + 4 + (min T.size T.size - (n + 1))) := by omega
      have cat3 : ¬ (9223372036854775807 < n + 1) := by omega
      have cat4 : ¬ (9223372036854775807 < n + 1 + T.size) := by omega
      have HNI := Lib.hid hnI
      have HXS := Lib.hid hXs1
      clear hP hlenC hSd hS2d hS2e hS2s hPN hlenU hTd hT2d hT2e hT2s hparts hpl hTp hTl hn hX1 hX2 hXs1 hXs2 hG hO2 hc0 hc1 hS hO hnI
      obtain ⟨code, text, flag⟩ := r
      replace hf0 : flag = 0 := hf0
      subst hf0
      go_enter Tryz.func8, Tryz.ntmps8
      go_upto_region 1 with (fail)
      rw [show w.alloc (.cells #[.string code, .string text, .int .i64 0] RowT) = W0 from HW0.out]
      go_wp2_with fail
      refine HF1.out.mono ?_
      rintro _ _ ⟨rfl, rfl⟩
      have HB1 := Lib.hid (HBA.out _ HB0.out)
      have HK1 := Lib.hid (Blk.alloc HK0.out (.cells (cellsR ⟨code, text, 0⟩) RowT))
      obtain ⟨W1, hW1⟩ : ∃ W1, W0.alloc (.cells (cellsR ⟨code, text, 0⟩) RowT) = W1 := ⟨_, rfl⟩
      rw [hW1] at HB1 HK1
      rw [show W0.alloc (.cells #[.string code, .string text, .int .i64 0] RowT) = W1 from hW1]
      clear hW1 k0 k1 k2
      have k0 : W1.cell? ⟨w.heap.size, 0, none⟩ = some (.string code) := by rw [HK1.out.cell]; rfl
      have k1 : W1.cell? ⟨w.heap.size, 1, none⟩ = some (.string text) := by rw [HK1.out.cell]; rfl
      have k2 : W1.cell? ⟨w.heap.size, 2, none⟩ = some (.int .i64 0) := by rw [HK1.out.cell]; rfl
      go_wp2_with fail
      refine (HPR.out W1 HB1.out).mono ?_
      rintro _ w2 ⟨rfl, hb2⟩
      have HB2 := Lib.hid (HB1.out.trans (hb2.mono HB1.out.size))
      have hk2 := HK1.out.below hb2 HK1.out.lt
      have HK2 := Lib.hid hk2
      clear hb2 k0 k1 k2
      have k0 : w2.cell? ⟨w.heap.size, 0, none⟩ = some (.string code) := by rw [hk2.cell]; rfl
      have k1 : w2.cell? ⟨w.heap.size, 1, none⟩ = some (.string text) := by rw [hk2.cell]; rfl
      have k2 : w2.cell? ⟨w.heap.size, 2, none⟩ = some (.int .i64 0) := by rw [hk2.cell]; rfl
      clear hk2
      go_wp2_with fail
      refine (HSM.out w2).mono ?_
      rintro _ w3 ⟨rfl, hb3⟩
      have HB3 := Lib.hid (HB2.out.trans (hb3.mono HB2.out.size))
      have HK3 := Lib.hid (HK2.out.below hb3 HK2.out.lt)
      clear hb3 k0 k1 k2
      go_wp2_with fail
      refine (HRC.out w3 HB3.out).mono ?_
      rintro _ w4 ⟨A4, c4, rfl, hr4, _, hb4⟩
      have HB4 := Lib.hid (HB3.out.trans (hb4.mono HB3.out.size))
      have HR4 := Lib.hid hr4
      have hk4 := HK3.out.below hb4 HK3.out.lt
      have HK4 := Lib.hid hk4
      have k0 : w4.cell? ⟨w.heap.size, 0, none⟩ = some (.string code) := by rw [hk4.cell]; rfl
      have k1 : w4.cell? ⟨w.heap.size, 1, none⟩ = some (.string text) := by rw [hk4.cell]; rfl
      have k2 : w4.cell? ⟨w.heap.size, 2, none⟩ = some (.int .i64 0) := by rw [hk4.cell]; rfl
      have HA14 := Lib.hid (HA1.out w4 A4 c4 hr4)
      clear hr4 hb4 hk4
      go_wp2_with fail
      refine HA14.out.mono ?_
      rintro _ w5 ⟨rfl, hb5⟩
      have HB5 := Lib.hid (HB4.out.trans (hb5.mono HB4.out.size))
      have HR5 := Lib.hid (HR4.out.keep hb5)
      have hk5 := HK4.out.below hb5 HK4.out.lt
      have HK5 := Lib.hid hk5
      clear k0 k1 k2 hb5
      have k0 : w5.cell? ⟨w.heap.size, 0, none⟩ = some (.string code) := by rw [hk5.cell]; rfl
      have k1 : w5.cell? ⟨w.heap.size, 1, none⟩ = some (.string text) := by rw [hk5.cell]; rfl
      have k2 : w5.cell? ⟨w.heap.size, 2, none⟩ = some (.int .i64 0) := by rw [hk5.cell]; rfl
      clear hk5
      go_wp2_with fail
      refine (HPN.out w5 HB5.out).mono ?_
      rintro _ w6 ⟨rfl, hb6⟩
      have HB6 := Lib.hid (HB5.out.trans (hb6.mono HB5.out.size))
      have HR6 := Lib.hid (HR5.out.keep hb6)
      have hk6 := HK5.out.below hb6 HK5.out.lt
      clear k0 k1 k2 hb6
      have k0 : w6.cell? ⟨w.heap.size, 0, none⟩ = some (.string code) := by rw [hk6.cell]; rfl
      have k1 : w6.cell? ⟨w.heap.size, 1, none⟩ = some (.string text) := by rw [hk6.cell]; rfl
      have k2 : w6.cell? ⟨w.heap.size, 2, none⟩ = some (.int .i64 0) := by rw [hk6.cell]; rfl
      clear hk6
      have t1 : wrap64 (2 * (code.size : Int)) = 2 * (code.size : Int) := IntWalk.wrap64_in _ (by omega)
      have t2 : IntKind.i64.wrap (2 + 2 * (code.size : Int)) = (n : Int) := by rw [IntWalk.i64_in _ (by omega)]; exact HNI.out
      have t3 : (2 + 2 * (code.size : Int)) = (n : Int) := HNI.out
      have t4 : decide ((T.size : Int) < (n : Int) + 1) = false := decide_eq_false (by omega)
      have t5 : (0 : Int) ≤ (n : Int) := by omega
      have t6 : (n : Int) ≤ (T.size : Int) := by omega
      have t7 : (0 : Int) ≤ (n : Int) + 1 := by omega
      have t8 : (n : Int) + 1 ≤ (T.size : Int) := by omega
      have t9 : IntKind.i64.wrap ((n : Int) + 1) = (n : Int) + 1 := IntWalk.i64_in _ (by omega)
      have x1 : (T.extract 0 n).size = n := HXS.out
      go_wp2_with fail
      refine (HST.out w6).mono ?_
      rintro _ w7 ⟨rfl, hb7⟩
      have HB7 := Lib.hid (HB6.out.trans (hb7.mono HB6.out.size))
      have HR7 := Lib.hid (HR6.out.keep hb7)
      clear hb7 k0 k1 k2
      go_wp2_with fail
      refine (HRU.out w7 HB7.out).mono ?_
      rintro _ w8 ⟨A8, c8, rfl, hr8, _, hb8⟩
      have HB8 := Lib.hid (HB7.out.trans (hb8.mono HB7.out.size))
      have HR8 := Lib.hid (HR7.out.keep hb8)
      have HU8 := Lib.hid hr8
      clear hr8 hb8
      have HRG8 := Lib.hid (HRG.out w8.drew HB8.out.drew)
      go_wp2_with fail
      go_region_held3 (fun _ => True) (trivial) ((go_at_call 11; refine HRG8.out.mono ?_; rintro _ w9 ⟨A9, c9, rfl, hr9, _, hb9⟩))
      have HB9 := Lib.hid (HB8.out.drew.trans (hb9.mono HB8.out.drew.size))
      have hb89 : Below w8.heap.size w8 w9 := (Below.refl _ _).drew.trans hb9
      have HR9 := Lib.hid (HR8.out.keep hb89)
      have HU9 := Lib.hid (HU8.out.keep hb89)
      have HG9 := Lib.hid hr9
      clear hr9 hb9 hb89
      go_wp2_with fail
      refine (HRO.out w9 HB9.out).mono ?_
      rintro _ w10 ⟨A10, c10, rfl, hr10, _, hb10⟩
      have HB10 := Lib.hid (HB9.out.trans (hb10.mono HB9.out.size))
      have HR10 := Lib.hid (HR9.out.keep hb10)
      have HU10 := Lib.hid (HU9.out.keep hb10)
      have HG10 := Lib.hid (HG9.out.keep hb10)
      have HO10 := Lib.hid hr10
      clear hr10 hb10
      go_wp2_with fail
      refine (HA2.out w10 A8 A4 c8 c4 HU10.out HR10.out).mono ?_
      rintro _ w11 ⟨rfl, hb11⟩
      have HB11 := Lib.hid (HB10.out.trans (hb11.mono HB10.out.size))
      have HR11 := Lib.hid (HR10.out.keep hb11)
      have HG11 := Lib.hid (HG10.out.keep hb11)
      have HO11 := Lib.hid (HO10.out.keep hb11)
      clear hb11
      go_wp2_with fail
      refine (HA2.out w11 A9 A4 c9 c4 HG11.out HR11.out).mono ?_
      rintro _ w12 ⟨rfl, hb12⟩
      have HB12 := Lib.hid (HB11.out.trans (hb12.mono HB11.out.size))
      have HR12 := Lib.hid (HR11.out.keep hb12)
      have HO12 := Lib.hid (HO11.out.keep hb12)
      clear hb12
      go_wp2_with fail
      refine (HA2.out w12 A10 A4 c10 c4 HO12.out HR12.out).mono ?_
      rintro _ w13 ⟨rfl, hb13⟩
      have HB13 := Lib.hid (HB12.out.trans (hb13.mono HB12.out.size))
      clear hb13
      go_wp2_with fail
      refine (HAW.out w13 HB13.out).mono ?_
      rintro _ w14 ⟨rfl, hb14⟩
      have HB14 := Lib.hid hb14
      clear hb14
      go_wp2_with fail
      go_returns
      exact ⟨rfl, HB14.out⟩
    · have hne : chkN r = 16 := by
        unfold chkN
        rw [if_pos ⟨hc0, hf0⟩]
      have hPN := printP_one chkN uniL r (by rw [hne]; decide)
      rw [hne] at hPN
      have HPN := Lib.hid (uni1_at w hO r hS (s := ⟨#[]⟩) (i := 1) (e := 16) hPN)
      have hf1 : (r.flag == 0) = false := by simpa using hf0
      have hf2 : (r.flag != 0) = true := by simp [bne, hf1]
      clear hP hlenC hSd hS2d hS2e hS2s hPN hc0 hS hO hne hf0
      obtain ⟨code, text, flag⟩ := r
      replace hf1 : (flag == 0) = false := hf1
      replace hf2 : (flag != 0) = true := hf2
      go_enter Tryz.func8, Tryz.ntmps8
      go_upto_region 1 with (fail)
      rw [show w.alloc (.cells #[.string code, .string text, .int .i64 flag] RowT) = W0 from HW0.out]
      go_wp2_with fail
      refine HF1.out.mono ?_
      rintro _ _ ⟨rfl, rfl⟩
      have HB1 := Lib.hid (HBA.out _ HB0.out)
      have HK1 := Lib.hid (Blk.alloc HK0.out (.cells (cellsR ⟨code, text, flag⟩) RowT))
      obtain ⟨W1, hW1⟩ : ∃ W1, W0.alloc (.cells (cellsR ⟨code, text, flag⟩) RowT) = W1 := ⟨_, rfl⟩
      rw [hW1] at HB1 HK1
      rw [show W0.alloc (.cells #[.string code, .string text, .int .i64 flag] RowT) = W1 from hW1]
      clear hW1 k0 k1 k2
      have k0 : W1.cell? ⟨w.heap.size, 0, none⟩ = some (.string code) := by rw [HK1.out.cell]; rfl
      have k1 : W1.cell? ⟨w.heap.size, 1, none⟩ = some (.string text) := by rw [HK1.out.cell]; rfl
      have k2 : W1.cell? ⟨w.heap.size, 2, none⟩ = some (.int .i64 flag) := by rw [HK1.out.cell]; rfl
      go_wp2_with fail
      refine (HPR.out W1 HB1.out).mono ?_
      rintro _ w2 ⟨rfl, hb2⟩
      have HB2 := Lib.hid (HB1.out.trans (hb2.mono HB1.out.size))
      have hk2 := HK1.out.below hb2 HK1.out.lt
      have HK2 := Lib.hid hk2
      clear hb2 k0 k1 k2
      have k0 : w2.cell? ⟨w.heap.size, 0, none⟩ = some (.string code) := by rw [hk2.cell]; rfl
      have k1 : w2.cell? ⟨w.heap.size, 1, none⟩ = some (.string text) := by rw [hk2.cell]; rfl
      have k2 : w2.cell? ⟨w.heap.size, 2, none⟩ = some (.int .i64 flag) := by rw [hk2.cell]; rfl
      clear hk2
      go_wp2_with fail
      refine (HSM.out w2).mono ?_
      rintro _ w3 ⟨rfl, hb3⟩
      have HB3 := Lib.hid (HB2.out.trans (hb3.mono HB2.out.size))
      have HK3 := Lib.hid (HK2.out.below hb3 HK2.out.lt)
      clear hb3 k0 k1 k2
      go_wp2_with fail
      refine (HRC.out w3 HB3.out).mono ?_
      rintro _ w4 ⟨A4, c4, rfl, hr4, _, hb4⟩
      have HB4 := Lib.hid (HB3.out.trans (hb4.mono HB3.out.size))
      have HR4 := Lib.hid hr4
      have hk4 := HK3.out.below hb4 HK3.out.lt
      have HK4 := Lib.hid hk4
      have k0 : w4.cell? ⟨w.heap.size, 0, none⟩ = some (.string code) := by rw [hk4.cell]; rfl
      have k1 : w4.cell? ⟨w.heap.size, 1, none⟩ = some (.string text) := by rw [hk4.cell]; rfl
      have k2 : w4.cell? ⟨w.heap.size, 2, none⟩ = some (.int .i64 flag) := by rw [hk4.cell]; rfl
      have HA14 := Lib.hid (HA1.out w4 A4 c4 hr4)
      clear hr4 hb4 hk4
      go_wp2_with fail
      refine HA14.out.mono ?_
      rintro _ w5 ⟨rfl, hb5⟩
      have HB5 := Lib.hid (HB4.out.trans (hb5.mono HB4.out.size))
      have HR5 := Lib.hid (HR4.out.keep hb5)
      have hk5 := HK4.out.below hb5 HK4.out.lt
      have HK5 := Lib.hid hk5
      clear k0 k1 k2 hb5
      have k0 : w5.cell? ⟨w.heap.size, 0, none⟩ = some (.string code) := by rw [hk5.cell]; rfl
      have k1 : w5.cell? ⟨w.heap.size, 1, none⟩ = some (.string text) := by rw [hk5.cell]; rfl
      have k2 : w5.cell? ⟨w.heap.size, 2, none⟩ = some (.int .i64 flag) := by rw [hk5.cell]; rfl
      clear hk5
      go_wp2_with fail
      refine (HPN.out w5 HB5.out).mono ?_
      rintro _ w6 ⟨rfl, hb6⟩
      have HB6 := Lib.hid (HB5.out.trans (hb6.mono HB5.out.size))
      have HR6 := Lib.hid (HR5.out.keep hb6)
      have hk6 := HK5.out.below hb6 HK5.out.lt
      clear k0 k1 k2 hb6
      have k0 : w6.cell? ⟨w.heap.size, 0, none⟩ = some (.string code) := by rw [hk6.cell]; rfl
      have k1 : w6.cell? ⟨w.heap.size, 1, none⟩ = some (.string text) := by rw [hk6.cell]; rfl
      have k2 : w6.cell? ⟨w.heap.size, 2, none⟩ = some (.int .i64 flag) := by rw [hk6.cell]; rfl
      clear hk6
      go_wp2_with fail
      refine (HAW.out w6 HB6.out).mono ?_
      rintro _ w14 ⟨rfl, hb14⟩
      have HB14 := Lib.hid hb14
      clear hb14
      go_wp2_with fail
      go_returns
      exact ⟨rfl, HB14.out⟩
  · have hP := printP_one chkR ucmL r hc0
    obtain ⟨E, hE⟩ : ∃ E, chkR r = E := ⟨_, rfl⟩
    rw [hE] at hP hc0
    have HPR := Lib.hid (ucm1_at w hO r hS (s := ⟨#[]⟩) (i := 1) (e := E) hP)
    have hE1 : (E == 0) = false := by simpa using hc0
    have hE2 : (E != 0) = true := by simp [bne, hE1]
    clear hP hc0 hS hO hE
    obtain ⟨code, text, flag⟩ := r
    go_enter Tryz.func8, Tryz.ntmps8
    go_upto_region 1 with (fail)
    rw [show w.alloc (.cells #[.string code, .string text, .int .i64 flag] RowT) = W0 from HW0.out]
    go_wp2_with fail
    refine HF1.out.mono ?_
    rintro _ _ ⟨rfl, rfl⟩
    have HB1 := Lib.hid (HBA.out _ HB0.out)
    have HK1 := Lib.hid (Blk.alloc HK0.out (.cells (cellsR ⟨code, text, flag⟩) RowT))
    obtain ⟨W1, hW1⟩ : ∃ W1, W0.alloc (.cells (cellsR ⟨code, text, flag⟩) RowT) = W1 := ⟨_, rfl⟩
    rw [hW1] at HB1 HK1
    rw [show W0.alloc (.cells #[.string code, .string text, .int .i64 flag] RowT) = W1 from hW1]
    clear hW1 k0 k1 k2
    have k0 : W1.cell? ⟨w.heap.size, 0, none⟩ = some (.string code) := by rw [HK1.out.cell]; rfl
    have k1 : W1.cell? ⟨w.heap.size, 1, none⟩ = some (.string text) := by rw [HK1.out.cell]; rfl
    have k2 : W1.cell? ⟨w.heap.size, 2, none⟩ = some (.int .i64 flag) := by rw [HK1.out.cell]; rfl
    go_wp2_with fail
    refine (HPR.out W1 HB1.out).mono ?_
    rintro _ w2 ⟨rfl, hb2⟩
    have HB2 := Lib.hid (HB1.out.trans (hb2.mono HB1.out.size))
    have hk2 := HK1.out.below hb2 HK1.out.lt
    have HK2 := Lib.hid hk2
    clear hb2 k0 k1 k2
    have k0 : w2.cell? ⟨w.heap.size, 0, none⟩ = some (.string code) := by rw [hk2.cell]; rfl
    have k1 : w2.cell? ⟨w.heap.size, 1, none⟩ = some (.string text) := by rw [hk2.cell]; rfl
    have k2 : w2.cell? ⟨w.heap.size, 2, none⟩ = some (.int .i64 flag) := by rw [hk2.cell]; rfl
    clear hk2
    go_wp2_with fail
    refine (HAW.out w2 HB2.out).mono ?_
    rintro _ w14 ⟨rfl, hb14⟩
    have HB14 := Lib.hid hb14
    clear hb14
    go_wp2_with fail
    go_returns
    exact ⟨rfl, HB14.out⟩
end Go.Proofs.YtopaoejapnakiaaGreatDoor.Mf
