/- Joined of: T8, T9, T10. -/
import Derived.Test.YtkfjmcidcnpijaaGreatDoorTB
import Derived.Test.YtkfjmcidcnpijaaGreatDoorQ1
import Derived.Test.YtkfjmcidcnpijaaGreatDoorRC
import Derived.Test.YtkfjmcidcnpijaaGreatDoorPA
import Derived.Test.YtkfjmcidcnpijaaGreatDoorRd
import Derived.Test.YtkfjmcidcnpijaaGreatDoorMC
/- Walks: mapfile.PrintUcm, mapfile.PrintUnicode. -/
namespace Go.Proofs.YtkfjmcidcnpijaaGreatDoor.Mf
open Go.RowKit Pl Go.Lib
def chkR (r : RowV) : Int := chkV r.code r.text r.flag
/-- .. of unicode.org's kind. -/
def chkN (r : RowV) : Int := if chkR r = 0 ∧ r.flag ≠ 0 then 16 else chkR r
def ucmL (r : RowV) : List UInt8 := ucmLine r.code r.text r.flag.toNat
def uniL (r : RowV) : List UInt8 := uniLine r.code r.text
/-- The first row that is wrong: its number, and how; none: 0, 0. -/
def firstBad (f : RowV → Int) : Nat → List RowV → Int × Int
  | _, [] => (0, 0)
  | i, r :: t => if f r = 0 then firstBad f (i + 1) t else ((i : Int) + 1, f r)
/-- What printing answers. -/
def printP (f : RowV → Int) (line : RowV → List UInt8) (l : List RowV) : List UInt8 × Int × Int := if (firstBad f 0 l).2 = 0 then (l.flatMap line, 0, 0) else ([], (firstBad f 0 l).1, (firstBad f 0 l).2)
theorem firstBad_ok (f : RowV → Int) : ∀ (l : List RowV) (i : Nat), (firstBad f i l).2 = 0 ↔ ∀ r ∈ l, f r = 0
  | [], i => by simp [firstBad]
  | r :: t, i => by
    unfold firstBad
    by_cases h : f r = 0
    · rw [if_pos h, firstBad_ok f t (i + 1)]
      simp [h]
    · rw [if_neg h]
      simp [h]
theorem printP_ok (f : RowV → Int) (line : RowV → List UInt8) (l : List RowV) (h : ∀ r ∈ l, f r = 0) : printP f line l = (l.flatMap line, 0, 0) := by
  unfold printP
  rw [if_pos ((firstBad_ok f l 0).2 h)]
theorem chkV_facts {code text : ByteArray} {flag : Int} (h : chkV code text flag = 0) : (1 ≤ code.size ∧ code.size ≤ 4) ∧ (1 ≤ (runesL text.data.toList).length ∧ (runesL text.data.toList).length ≤ 18) ∧ validD text.data.toList = true ∧ (flag = 0 ∨ flag = 1 ∨ flag = 3) := by
  unfold chkV at h
  split at h
  · rename_i h1
    split at h
    · rename_i h2
      obtain ⟨a, b, c, d, e⟩ := h1
      rw [runeCount_eq] at c d
      exact ⟨⟨a, b⟩, ⟨c, d⟩, e, h2⟩
    · cases h
  · cases h
theorem ucmL_len {r : RowV} (h : chkR r = 0) : (ucmL r).length ≤ 400 := by
  obtain ⟨⟨_, h1⟩, ⟨_, h2⟩, _, h4⟩ := chkV_facts h
  have l1 := charU_len (runesL r.text.data.toList) (fun r hr => (runesL_scal _ r hr).2.2)
  have l2 := codeU_len r.code.data.toList
  have l3 := dec_small r.flag.toNat (by omega)
  have l4 : r.code.data.toList.length = r.code.size := Array.length_toList
  unfold ucmL ucmLine
  simp only [List.length_append, List.length_cons, List.length_nil] at *
  omega
theorem uniL_len {r : RowV} (h : chkR r = 0) : (uniL r).length ≤ 400 := by
  obtain ⟨⟨_, h1⟩, ⟨_, h2⟩, _, h4⟩ := chkV_facts h
  have l1 := markL_len (runesL r.text.data.toList) [9, 48, 120] (fun r hr => (runesL_scal _ r hr).2.2)
  have l2 := codeL_len r.code.data.toList
  have l4 : r.code.data.toList.length = r.code.size := Array.length_toList
  unfold uniL uniLine
  simp only [List.length_append, List.length_cons, List.length_nil] at *
  omega
theorem flat_len {f : RowV → Int} {line : RowV → List UInt8} (hl : ∀ r, f r = 0 → (line r).length ≤ 400) : ∀ (l : List RowV), (∀ r ∈ l, f r = 0) → (l.flatMap line).length ≤ 400 * l.length
  | [], _ => Nat.zero_le _
  | r :: t, h => by
    have h1 := hl r (h r List.mem_cons_self)
    have h2 := flat_len hl t (fun x hx => h x (List.mem_cons_of_mem _ hx))
    rw [List.flatMap_cons, List.length_append, List.length_cons]
    omega
theorem firstBad_drop (f : RowV → Int) (l : List RowV) (j : Nat) (hj : j < l.length) : firstBad f j (l.drop j) = if f l[j] = 0 then firstBad f (j + 1) (l.drop (j + 1)) else ((j : Int) + 1, f l[j]) := by
  rw [List.drop_eq_getElem_cons hj]
  rfl














































































































































set_option maxRecDepth 100000 in
set_option maxHeartbeats 3200000 in
theorem printUni_any (A : Option Addr) (c : Nat) (l : List RowV) (w : World) (hR : RowsAt w A l) (hn : l.length ≤ 1000) (hS : ∀ r ∈ l, r.code.size ≤ 1000 ∧ r.text.size ≤ 1000) (hM : TabsM w) (hT : TzV w) (hTB : 6 < w.heap.size) :
    Calls Tryz.prog 14 #[.slice A l.length c] w fun e w' => e = .returned (.tuple #[.string ⟨(printP chkN uniL l).1.toArray⟩, .int .i64 (printP chkN uniL l).2.1, .int .i64 (printP chkN uniL l).2.2]) ∧ Below w.heap.size w w' := by
  have HCK : Hid (∀ r ∈ l, ∀ w', Below w.heap.size w w' → Calls Tryz.prog 28 #[.agg #[.string r.code, .string r.text, .int .i64 r.flag]] w' fun e w2 => e = .returned (.int .i64 (chkR r)) ∧ Below w'.heap.size w' w2) := Lib.hid fun r hr w' hb => check_any r.code r.text r.flag w' (by have := hS r hr; omega) (by have := hS r hr; omega) (hM.keep hb)
  have HUL : Hid (∀ r ∈ l, ∀ w', Below w.heap.size w w' → Calls Tryz.prog 29 #[.agg #[.string r.code, .string r.text, .int .i64 r.flag]] w' fun e w2 => e = .returned (.string ⟨(uniL r).toArray⟩) ∧ Below w'.heap.size w' w2) := Lib.hid fun r hr w' hb => rowUni_any r.code r.text r.flag (hS r hr).1 (hS r hr).2 w' (hT.keep hb hTB) (Nat.lt_of_lt_of_le hTB hb.size)
  have HR := Lib.hid hR
  obtain ⟨P, hP⟩ : ∃ P, printP chkN uniL l = P := ⟨_, rfl⟩
  rw [hP]
  have HP := Lib.hid hP
  clear hR hS hM hT hTB hP
  go_enter Tryz.func14, Tryz.ntmps14
  go_wp2_with fail
  go_loopw [13] (fun vi wr => ∃ j : Nat, j ≤ l.length ∧ vi = .int .i64 j ∧ (∀ r ∈ l.take j, chkN r = 0) ∧ firstBad chkN 0 l = firstBad chkN j (l.drop j) ∧ Below w.heap.size w wr) (fun vi _ => l.length - (RowKit.intOf vi).toNat)
  case atStart => exact ⟨0, Nat.zero_le _, rfl, (fun r h => by cases h), rfl, Below.refl _ _⟩
  case round =>
    obtain ⟨j, hj, rfl, hok, hfb, hlo⟩ := hrel
    have HFB := Lib.hid hfb
    have HOK := Lib.hid hok
    have HLO := Lib.hid hlo
    by_cases hlt : j < l.length
    · have a1 : decide ((j : Int) < (l.length : Int)) = true := decide_eq_true (by omega)
      have hkw : IntKind.i64.wrap ((j : Int) + 1) = (j : Int) + 1 := IntWalk.i64_in _ (by omega)
      have j0 : (0 : Int) ≤ (j : Int) := by omega
      have j1 : (j : Int) < (l.length : Int) := by omega
      obtain ⟨b, o, rfl, hb, hc0, hc1, hc2⟩ := (HR.out.keep HLO.out).at_ hlt
      have HTK : Hid (l.take (j + 1) = l.take j ++ [l[j]]) := Lib.hid (List.take_succ_eq_append_getElem hlt)
      have HDR := Lib.hid (firstBad_drop chkN l j hlt)
      have HIN : Hid (l[j] ∈ l) := Lib.hid (List.getElem_mem hlt)
      clear hfb hok hlo
      generalize l[j] = r at *
      obtain ⟨code, text, flag⟩ := r
      have HCK2 := Lib.hid (HCK.out _ HIN.out)
      replace hc0 : wr.cell? ⟨b, o + j * 3, none⟩ = some (.string code) := hc0
      replace hc1 : wr.cell? ⟨b, o + j * 3 + 1, none⟩ = some (.string text) := hc1
      replace hc2 : wr.cell? ⟨b, o + j * 3 + 2, none⟩ = some (.int .i64 flag) := hc2
      have hkb : Below w.heap.size w (wr.alloc (.cells #[.string code, .string text, .int .i64 flag] RowT)) := HLO.out.alloc (HLO.out.size) _
      have hbl : Blk (wr.alloc (.cells #[.string code, .string text, .int .i64 flag] RowT)) wr.heap.size RowT #[.string code, .string text, .int .i64 flag] := Blk.new _ _ _
      have hszz : wr.heap.size < (wr.alloc (.cells #[.string code, .string text, .int .i64 flag] RowT)).heap.size := by simp
      obtain ⟨W2, hW2⟩ : ∃ W2, wr.alloc (.cells #[.string code, .string text, .int .i64 flag] RowT) = W2 := ⟨_, rfl⟩
      rw [hW2] at hkb hbl hszz
      have HW2 := Lib.hid hW2
      have HKB := Lib.hid hkb
      have HBL := Lib.hid hbl
      have HSZ := Lib.hid hszz
      clear hW2 hkb hbl hszz hb
      obtain ⟨E, hE⟩ : ∃ E, chkR ⟨code, text, flag⟩ = E := ⟨_, rfl⟩
      have HN : Hid (chkN ⟨code, text, flag⟩ = if E = 0 ∧ flag ≠ 0 then 16 else E) := Lib.hid (by rw [← hE]; rfl)
      rw [hE] at HCK2
      clear hE
      have k0 : W2.cell? ⟨wr.heap.size, 0, none⟩ = some (.string code) := by rw [HBL.out.cell]; rfl
      have k1 : W2.cell? ⟨wr.heap.size, 1, none⟩ = some (.string text) := by rw [HBL.out.cell]; rfl
      have k2 : W2.cell? ⟨wr.heap.size, 2, none⟩ = some (.int .i64 flag) := by rw [HBL.out.cell]; rfl
      go_upto_region 4 with (fail)
      rw [HW2.out]
      clear hc0 hc1 hc2
      go_wp2_with fail
      refine (HCK2.out W2 HKB.out).mono ?_
      rintro _ w3 ⟨rfl, hb3⟩
      have HB3 := Lib.hid (HKB.out.trans (hb3.mono HKB.out.size))
      have hbl3 := HBL.out.below hb3 HSZ.out
      have q2 : w3.cell? ⟨wr.heap.size, 2, none⟩ = some (.int .i64 flag) := by rw [hbl3.cell]; rfl
      clear hb3 hbl3 k0 k1 k2
      by_cases hE0 : E = 0
      · subst hE0
        by_cases hF0 : flag = 0
        · subst hF0
          have HE : Hid (chkN ⟨code, text, 0⟩ = 0) := Lib.hid (by rw [HN.out, if_neg (fun h => h.2 rfl)])
          clear HN
          go_wp2_with fail
          go_roundw
          case rel =>
            refine ⟨j + 1, by omega, by go_num, ?_, ?_, HB3.out⟩
            · rw [HTK.out]
              intro r hr
              rcases List.mem_append.1 hr with hr | hr
              · exact HOK.out r hr
              · rw [List.mem_singleton.1 hr]; exact HE.out
            · rw [HFB.out, HDR.out, HE.out, if_pos rfl]
          case measure => simp [RowKit.intOf]; omega
        · have hF1 : (flag == 0) = false := by simpa using hF0
          have hF2 : (flag != 0) = true := by simp [bne, hF1]
          have HE : Hid (chkN ⟨code, text, flag⟩ = 16) := Lib.hid (by rw [HN.out, if_pos ⟨rfl, hF0⟩])
          clear HN
          obtain rfl : P = ([], (j : Int) + 1, 16) := by
            rw [← HP.out]
            unfold printP
            rw [HFB.out, HDR.out, HE.out, if_neg (show ¬ ((16 : Int) = 0) by decide), if_neg (show ¬ ((16 : Int) = 0) by decide)]
          clear HP
          go_wp2_with fail
          go_returns
          exact ⟨rfl, HB3.out⟩
      · have hE1 : (E == 0) = false := by simpa using hE0
        have hE2 : (E != 0) = true := by simp [bne, hE1]
        have HE : Hid (chkN ⟨code, text, flag⟩ = E) := Lib.hid (by rw [HN.out, if_neg (fun h => hE0 h.1)])
        clear HN
        obtain rfl : P = ([], (j : Int) + 1, E) := by
          rw [← HP.out]
          unfold printP
          rw [HFB.out, HDR.out, HE.out, if_neg hE0, if_neg hE0]
        clear HP
        go_wp2_with fail
        go_returns
        exact ⟨rfl, HB3.out⟩
    · obtain rfl : j = l.length := by omega
      have a1 : decide ((l.length : Int) < (l.length : Int)) = false := decide_eq_false (by omega)
      rw [List.take_of_length_le (Nat.le_refl _)] at HOK
      obtain rfl : P = (l.flatMap uniL, 0, 0) := by rw [← HP.out]; exact printP_ok chkN uniL l HOK.out
      have HCR : Hid (∀ r ∈ l, chkR r = 0) := Lib.hid fun r hr => by
        have h := HOK.out r hr
        unfold chkN at h
        split at h
        · cases h
        · exact h
      have HWS : Hid (∀ (o : List UInt8) (s : ByteArray) (w3 : World), Lib.IsBuilderF BuilT ByteT wr.heap.size wr.heap.size (Lib.byteCells o) w3 → o.length ≤ 1000000 → s.size ≤ 1000000 → wr.heap.size ≤ w3.heap.size → _) := Lib.hid fun o s w3 => wr_at wr.heap.size o s w3
      obtain ⟨W, hW⟩ : ∃ W, (wr.alloc (.cells #[.pointer none, .slice none 0 0] BuilT)) = W := ⟨_, rfl⟩
      have HB0 : Hid (Lib.IsBuilderF BuilT ByteT wr.heap.size wr.heap.size (Lib.byteCells []) W) := Lib.hid (hW ▸ fresh_builder wr)
      have HBW : Hid (Below wr.heap.size wr W) := Lib.hid (hW ▸ (Below.refl _ _).alloc (Nat.le_refl _) _)
      have HW := Lib.hid hW
      clear hfb hok hlo hlt hj HP hW HFB
      go_wp2_with fail
      rw [HW.out]
      obtain ⟨V, hV⟩ : ∃ V : World, V = wr := ⟨_, rfl⟩
      subst hV
      go_loopw [35] (fun vi wx => ∃ j : Nat, j ≤ l.length ∧ vi = .int .i64 j ∧ Lib.IsBuilderF BuilT ByteT V.heap.size V.heap.size (Lib.byteCells ((l.take j).flatMap uniL)) wx ∧ Below V.heap.size V wx) (fun vi _ => l.length - (RowKit.intOf vi).toNat)
      case atStart => exact ⟨0, Nat.zero_le _, rfl, HB0.out, HBW.out⟩
      case round =>
        obtain ⟨j, hj, rfl, hbo, hlo⟩ := hrel
        have HBO := Lib.hid hbo
        have HLV := Lib.hid hlo
        by_cases hlt : j < l.length
        · have a1 : decide ((j : Int) < (l.length : Int)) = true := decide_eq_true (by omega)
          have hkw : IntKind.i64.wrap ((j : Int) + 1) = (j : Int) + 1 := IntWalk.i64_in _ (by omega)
          have j0 : (0 : Int) ≤ (j : Int) := by omega
          have j1 : (j : Int) < (l.length : Int) := by omega
          have hLW := HLO.out.trans (HLV.out.mono HLO.out.size)
          obtain ⟨b, o, rfl, hb, hc0, hc1, hc2⟩ := (HR.out.keep hLW).at_ hlt
          have HLW := Lib.hid hLW
          have HTK : Hid (l.take (j + 1) = l.take j ++ [l[j]]) := Lib.hid (List.take_succ_eq_append_getElem hlt)
          have HIN : Hid (l[j] ∈ l) := Lib.hid (List.getElem_mem hlt)
          have hlen := flat_len (f := chkR) (line := uniL) (fun r h => uniL_len h) (l.take j) (fun r hr => HCR.out r (List.mem_of_mem_take hr))
          have HOL : Hid (((l.take j).flatMap uniL).length ≤ 1000000) := Lib.hid (by rw [List.length_take] at hlen; omega)
          clear hbo hlo hLW hlen
          generalize l[j] = r at *
          have HLN := Lib.hid (uniL_len (HCR.out r HIN.out))
          obtain ⟨code, text, flag⟩ := r
          have HUL2 := Lib.hid (HUL.out _ HIN.out)
          replace hc0 : wr.cell? ⟨b, o + j * 3, none⟩ = some (.string code) := hc0
          replace hc1 : wr.cell? ⟨b, o + j * 3 + 1, none⟩ = some (.string text) := hc1
          replace hc2 : wr.cell? ⟨b, o + j * 3 + 2, none⟩ = some (.int .i64 flag) := hc2
          have hkb : Below V.heap.size V (wr.alloc (.cells #[.string code, .string text, .int .i64 flag] RowT)) := HLV.out.alloc (HLV.out.size) _
          have hkw2 : Below w.heap.size w (wr.alloc (.cells #[.string code, .string text, .int .i64 flag] RowT)) := HLW.out.alloc (HLW.out.size) _
          have hbl : Blk (wr.alloc (.cells #[.string code, .string text, .int .i64 flag] RowT)) wr.heap.size RowT #[.string code, .string text, .int .i64 flag] := Blk.new _ _ _
          have hbo1 : Lib.IsBuilderF BuilT ByteT V.heap.size V.heap.size (Lib.byteCells ((l.take j).flatMap uniL)) (wr.alloc (.cells #[.string code, .string text, .int .i64 flag] RowT)) := builder_keep HBO.out ((Below.refl _ _).alloc (Nat.le_refl _) _)
          obtain ⟨W2, hW2⟩ : ∃ W2, wr.alloc (.cells #[.string code, .string text, .int .i64 flag] RowT) = W2 := ⟨_, rfl⟩
          rw [hW2] at hkb hbl hbo1 hkw2
          have HW2 := Lib.hid hW2
          have HKB := Lib.hid hkb
          have HKW := Lib.hid hkw2
          have HBL := Lib.hid hbl
          have HBO1 := Lib.hid hbo1
          clear hW2 hkb hbl hbo1 hb hkw2
          have k0 : W2.cell? ⟨wr.heap.size, 0, none⟩ = some (.string code) := by rw [HBL.out.cell]; rfl
          have k1 : W2.cell? ⟨wr.heap.size, 1, none⟩ = some (.string text) := by rw [HBL.out.cell]; rfl
          have k2 : W2.cell? ⟨wr.heap.size, 2, none⟩ = some (.int .i64 flag) := by rw [HBL.out.cell]; rfl
          go_upto_region 14 with (fail)
          rw [HW2.out]
          clear hc0 hc1 hc2
          have HUL3 := Lib.hid (HUL2.out W2 HKW.out)
          obtain ⟨R, hR⟩ : ∃ R : ByteArray, (⟨(uniL ⟨code, text, flag⟩).toArray⟩ : ByteArray) = R := ⟨_, rfl⟩
          have HRS : Hid (R.size ≤ 1000000) := Lib.hid (by rw [← hR]; show (uniL ⟨code, text, flag⟩).toArray.size ≤ _; rw [List.size_toArray]; have := HLN.out; omega)
          have HRR : Hid (R.data.toList = uniL ⟨code, text, flag⟩) := Lib.hid (by rw [← hR])
          rw [hR] at HUL3
          clear hR
          go_wp2_with fail
          refine HUL3.out.mono ?_
          rintro _ w4 ⟨rfl, hb4⟩
          have HB4 := Lib.hid (HKB.out.trans (hb4.mono HKB.out.size))
          have HWS4 := Lib.hid (HWS.out _ R w4 (builder_keep HBO1.out hb4) HOL.out HRS.out HB4.out.size)
          clear hb4 k0 k1 k2
          go_wp2_with fail
          refine HWS4.out.mono ?_
          rintro _ w5 ⟨k5, rfl, hb5, hl5⟩
          have HB5 := Lib.hid hb5
          have HL5 := Lib.hid (HB4.out.trans hl5)
          clear hb5 hl5
          go_wp2_with fail
          go_roundw
          case rel =>
            refine ⟨j + 1, by omega, by go_num, ?_, HL5.out⟩
            rw [HTK.out, List.flatMap_append]
            have h := HB5.out
            rw [HRR.out] at h
            simpa using h
          case measure => simp [RowKit.intOf]; omega
        · obtain rfl : j = l.length := by omega
          have a1 : decide ((l.length : Int) < (l.length : Int)) = false := decide_eq_false (by omega)
          rw [List.take_of_length_le (Nat.le_refl _)] at HBO
          have HST := Lib.hid (builderString_k V.heap.size V.heap.size (l.flatMap uniL) wr HBO.out HLV.out.size)
          clear hbo hlo hlt hj
          go_wp2_with fail
          refine HST.out.mono ?_
          rintro _ w3 ⟨rfl, _, hb3, _⟩
          have HL9 := Lib.hid (HLO.out.trans ((HLV.out.trans hb3).mono HLO.out.size))
          clear hb3
          go_wp2_with fail
          go_returns
          exact ⟨rfl, HL9.out⟩
end Go.Proofs.YtkfjmcidcnpijaaGreatDoor.Mf
/- Walk: inkhornref13.great. -/
namespace Go.Proofs.YtkfjmcidcnpijaaGreatDoor.Mf
open Go.RowKit Pl
abbrev D16 : ByteArray := ⟨#[48, 49, 50, 51, 52, 53, 54, 55, 56, 57, 65, 66, 67, 68, 69, 70]⟩
theorem d16_fin : ∀ d : Fin 16, (D16.data.toList.take (d.val + 1)).drop d.val = [hexG d.val] := by decide
theorem d16_at (q : Nat) (h : q < 16) : (D16.extract q (q + 1)).data.toList = [hexG q] := by
  rw [ext_any]
  exact d16_fin ⟨q, h⟩


























































end Go.Proofs.YtkfjmcidcnpijaaGreatDoor.Mf
/- Walk: inkhornref13.Print. -/
namespace Go.Proofs.YtkfjmcidcnpijaaGreatDoor.Mf
open Go.RowKit Pl
theorem codeG_append (E : Nat → List UInt8) (pre a b : List UInt8) : codeG E pre (a ++ b) = codeG E pre a ++ codeG E pre b := by
  induction a with
  | nil => rfl
  | cons x t ih => show pre ++ E x.toNat ++ codeG E pre (t ++ b) = _; rw [ih, ← List.append_assoc]; rfl
theorem charG_append (D : Nat → List UInt8) (a b : List Int) : charG D (a ++ b) = charG D a ++ charG D b := by
  induction a with
  | nil => rfl
  | cons x t ih => show [60, 85] ++ D x.toNat ++ [62] ++ charG D (t ++ b) = _; rw [ih, ← List.append_assoc]; rfl
theorem markG_append (D : Nat → List UInt8) (r : Int) : ∀ (a : List Int) (m : List UInt8), a ≠ [] → markG D m (a ++ [r]) = markG D m a ++ ([43] ++ D r.toNat)
  | [], _, h => absurd rfl h
  | [x], m, _ => by simp [markG]
  | x :: y :: t, m, _ => by
    have h := markG_append D r (y :: t) [43] (by simp)
    show m ++ D x.toNat ++ markG D [43] (y :: t ++ [r]) = m ++ D x.toNat ++ markG D [43] (y :: t) ++ _
    rw [h, List.append_assoc (m ++ D x.toNat)]
abbrev D10 : ByteArray := ⟨#[48, 49, 50, 51, 52, 53, 54, 55, 56, 57]⟩
theorem d10_fin : ∀ d : Fin 10, (D10.data.toList.take (d.val + 1)).drop d.val = [UInt8.ofNat (48 + d.val)] := by decide
theorem d10_at (q : Nat) (h : q < 10) : (D10.extract q (q + 1)).data.toList = [UInt8.ofNat (48 + q)] := by
  rw [ext_any]
  exact d10_fin ⟨q, h⟩
def w4 (n : Nat) : List UInt8 := wrt n 4
def w2 (n : Nat) : List UInt8 := wrt n 2
theorem w4_dig : Dig4 w4 := fun n h => wrt_dig4 n h
theorem w2_dig : Dig2 w2 := fun n h => wrt_dig2 n h
theorem dl (s : ByteArray) : s.data.toList.length = s.size := Array.length_toList
theorem ds {l : List UInt8} {B : ByteArray} (h : B.data.toList = l) : B.size = l.length := by rw [← h]; exact (dl B).symm
theorem mk_dl (l : List UInt8) : (⟨l.toArray⟩ : ByteArray).data.toList = l := rfl
/-- A row's line, as the reference has it. -/
def lineRC (code : ByteArray) (t : List Int) (fl : Nat) : List UInt8 := lineC w4 w2 code.data.toList t (UInt8.ofNat (48 + fl)) ++ [10]
def lineRU (code : ByteArray) (t : List Int) : List UInt8 := lineU w4 w2 [9] code.data.toList t ++ [10]




































































































































































































































































































end Go.Proofs.YtkfjmcidcnpijaaGreatDoor.Mf
