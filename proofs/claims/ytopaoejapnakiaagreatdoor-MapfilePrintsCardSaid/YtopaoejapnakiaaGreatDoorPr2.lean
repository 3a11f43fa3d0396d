/- Law: MapfilePrints. -/
import Derived.Test.YtopaoejapnakiaaGreatDoorPr1
namespace Go.Proofs.YtopaoejapnakiaaGreatDoor.Mf
open Go.RowKit Pl Go.Lib
set_option maxRecDepth 100000 in
set_option maxHeartbeats 4000000 in
theorem mapfilePrints_law {w : World} (hO : OkP w) (A : Option Addr) (c : Nat) (l : List RowV) (hR : RowsAt w A l) (hn : l.length ≤ 1000000000000000) (hS : ∀ r ∈ l, r.code.size ≤ maxLen ∧ r.text.size ≤ maxLen) (flag0 : Int) :
    Calls Tryz.prog 9 #[.slice A l.length c, .int .i64 flag0] w fun e w' => e = .returned (.bool true) ∧ Below w.heap.size w w' := by
  have HF := Lib.hid (few_at A c l w hR hn hS)
  have HAW := Lib.hid (awake_at w hO)
  cases hfw : fewR l
  · rw [hfw] at HF
    clear hfw hR hn hS hO
    go_enter Tryz.func9, Tryz.ntmps9
    go_wp2_with fail
    refine HF.out.mono ?_
    rintro _ _ ⟨rfl, rfl⟩
    go_wp2_with fail
    refine (HAW.out w (Below.refl _ _)).mono ?_
    rintro _ w1 ⟨rfl, hb1⟩
    have HB1 := Lib.hid hb1
    clear hb1
    go_wp2_with fail
    go_returns
    exact ⟨rfl, HB1.out⟩
  rw [hfw] at HF
  obtain ⟨hl40, hs2⟩ := fewR_facts hfw
  have hs3 : ∀ r ∈ l, r.code.size ≤ 1000 ∧ r.text.size ≤ 1000 := fun r hr => by have := hs2 r hr; omega
  have HPC := Lib.hid (fun (w1 : World) hb => ucm_at w hO A c l hR (by omega) hs3 (s := (printP chkR ucmL l).1) (i := (printP chkR ucmL l).2.1) (e := (printP chkR ucmL l).2.2) rfl w1 hb)
  have HPN := Lib.hid (fun (w1 : World) hb => uni_at w hO A c l hR (by omega) hs3 (s := (printP chkN uniL l).1) (i := (printP chkN uniL l).2.1) (e := (printP chkN uniL l).2.2) rfl w1 hb)
  have HPK := Lib.hid (fun (w1 : World) (hb : Below w.heap.size w w1) => picks_any flag0 A c l (by omega) w1 (hR.keep hb))
  have HCK : Hid (∀ r ∈ l, ∀ w', Below w.heap.size w w' → Calls Tryz.prog 25 #[.agg #[.string r.code, .string r.text, .int .i64 r.flag]] w' fun e w2 => e = .returned (.int .i64 (chkR r)) ∧ Below w'.heap.size w' w2) := Lib.hid fun r hr w' hb => check_any r.code r.text r.flag w' (by have := hs3 r hr; omega) (by have := hs3 r hr; omega) (hO.ok.tabs.keep hb)
  have HPL : Hid (∀ r ∈ l, ∀ w', Calls Tryz.prog 24 #[.agg #[.string r.code, .string r.text, .int .i64 r.flag]] w' (PlainPost w' (plainR r))) := Lib.hid fun r hr w' => plain13_any r (by have := hs3 r hr; omega) (by have := hs3 r hr; omega) w'
  have HWG : Hid (∀ r ∈ l, ∀ w' A c, TextAt w' (.slice A (plainR r).text.length c) (plainR r).text → Calls Tryz.prog 23 #[.agg #[.string (plainR r).code, .slice A (plainR r).text.length c, .int .i64 (plainR r).flag]] w' fun e w2 => e = .returned (.int .i64 (chkR r)) ∧ Below w'.heap.size w' w2) := Lib.hid fun r hr w' A c h => wrong_at r (hs2 r hr) w' A c h
  have HR := Lib.hid hR
  clear hfw hR hn hS hO hs2 hs3
  go_enter Tryz.func9, Tryz.ntmps9
  go_wp2_with fail
  refine HF.out.mono ?_
  rintro _ _ ⟨rfl, rfl⟩
  go_wp2_with fail
  go_loopw [5, 6, 7, 8, 9, 10, 11] (fun v5 v6 v7 v8 v9 v10 v11 wr => ∃ (i : Nat) (uni ucm : ByteArray), v5 = .string uni ∧ v6 = .string ucm ∧ v7 = .int .i64 (fb chkR l i).1 ∧ v8 = .int .i64 (fb chkN l i).1 ∧ v9 = .int .i64 (fb chkR l i).2 ∧ v10 = .int .i64 (fb chkN l i).2 ∧ v11 = .int .i64 i ∧ i ≤ l.length ∧ ((fb chkR l i).1 = 0 → ucm.data.toList = (l.take i).flatMap ucmL) ∧ ((fb chkN l i).1 = 0 → uni.data.toList = (l.take i).flatMap uniL) ∧ ucm.size ≤ 400 * i ∧ uni.size ≤ 400 * i ∧ Below w.heap.size w wr) (fun _ _ _ _ _ _ v11 _ => l.length - (RowKit.intOf v11).toNat)
  case atStart => exact ⟨0, ⟨#[]⟩, ⟨#[]⟩, rfl, rfl, rfl, rfl, rfl, rfl, rfl, Nat.zero_le _, fun _ => rfl, fun _ => rfl, Nat.le_refl _, Nat.le_refl _, Below.refl _ _⟩
  case round =>
    obtain ⟨i, uni, ucm, rfl, rfl, rfl, rfl, rfl, rfl, rfl, hi, hcm, hun, hcs, hus, hlo⟩ := hrel
    have HLO := Lib.hid hlo
    have HPR := Lib.hid (fb_pos chkR l i)
    have HPNN := Lib.hid (fb_pos chkN l i)
    by_cases hlt : i < l.length
    · have a1 : decide ((i : Int) < (l.length : Int)) = true := decide_eq_true (by omega)
      have hkw : IntKind.i64.wrap ((i : Int) + 1) = (i : Int) + 1 := IntWalk.i64_in _ (by omega)
      have j0 : (0 : Int) ≤ (i : Int) := by omega
      have j1 : (i : Int) < (l.length : Int) := by omega
      have z1 : ((i : Int) + 1 == 0) = false := by simp; omega
      obtain ⟨b, o, rfl, hb, h0, h1, h2⟩ := HR.out.at_ hlt
      have HROW : Hid (∀ w1, Below w.heap.size w w1 → w1.cell? ⟨b, o + i * 3, none⟩ = some (.string l[i].code) ∧ w1.cell? ⟨b, o + i * 3 + 1, none⟩ = some (.string l[i].text) ∧ w1.cell? ⟨b, o + i * 3 + 2, none⟩ = some (.int .i64 l[i].flag)) := Lib.hid fun w1 hw => ⟨(hw.cell (p := ⟨b, o + i * 3, none⟩) hb).trans h0, (hw.cell (p := ⟨b, o + i * 3 + 1, none⟩) hb).trans h1, (hw.cell (p := ⟨b, o + i * 3 + 2, none⟩) hb).trans h2⟩
      have HFR := Lib.hid (fb_succ chkR l i hlt)
      have HFN := Lib.hid (fb_succ chkN l i hlt)
      have HTK : Hid (l.take (i + 1) = l.take i ++ [l[i]]) := Lib.hid (List.take_succ_eq_append_getElem hlt)
      have HIN : Hid (l[i] ∈ l) := Lib.hid (List.getElem_mem hlt)
      clear hb h0 h1 h2 hlo
      generalize l[i] = r at *
      have HCK2 := Lib.hid (HCK.out r HIN.out)
      have HPL2 := Lib.hid (HPL.out r HIN.out)
      have HWG2 := Lib.hid (HWG.out r HIN.out)
      have HPC2 := Lib.hid (fun (h0 : chkR r = 0) (w1 : World) (A : Option Addr) (c : Nat) (h : Rd w1 A (plainR r).text.length (i32s (plainR r).text)) (U : ByteArray) (hU : U.data.toList = ucmL r) => printC_at r h0 w1 A c h hU)
      have HPU2 := Lib.hid (fun (h0 : chkR r = 0) (w1 : World) (A : Option Addr) (c : Nat) (h : Rd w1 A (plainR r).text.length (i32s (plainR r).text)) (U : ByteArray) (hU : U.data.toList = uniL r) => printU_at r h0 w1 A c h hU)
      have HCN : Hid (chkN r = if chkR r = 0 ∧ r.flag ≠ 0 then 16 else chkR r) := Lib.hid rfl
      have HLC : Hid (chkR r = 0 → (ucmL r).length ≤ 400) := Lib.hid ucmL_len
      have HLU : Hid (chkR r = 0 → (uniL r).length ≤ 400) := Lib.hid uniL_len
      obtain ⟨E, hE⟩ : ∃ E, chkR r = E := ⟨_, rfl⟩
      obtain ⟨N, hN⟩ : ∃ N, chkN r = N := ⟨_, rfl⟩
      obtain ⟨cl, hcl⟩ : ∃ cl, ucmL r = cl := ⟨_, rfl⟩
      obtain ⟨ul, hul⟩ : ∃ ul, uniL r = ul := ⟨_, rfl⟩
      rw [hE] at HCK2 HWG2 HFR HCN HLC HLU HPC2 HPU2
      rw [hN] at HFN HCN
      have HFLC : Hid ((l.take (i + 1)).flatMap ucmL = (l.take i).flatMap ucmL ++ cl) := Lib.hid (by rw [HTK.out, List.flatMap_append, ← hcl]; simp)
      have HFLU : Hid ((l.take (i + 1)).flatMap uniL = (l.take i).flatMap uniL ++ ul) := Lib.hid (by rw [HTK.out, List.flatMap_append, ← hul]; simp)
      rw [hcl] at HLC HPC2
      rw [hul] at HLU HPU2
      clear hE hN hcl hul
      generalize plainR r = x at *
      obtain ⟨code, text, fl⟩ := r
      replace HROW : Hid (∀ w1, Below w.heap.size w w1 → w1.cell? ⟨b, o + i * 3, none⟩ = some (.string code) ∧ w1.cell? ⟨b, o + i * 3 + 1, none⟩ = some (.string text) ∧ w1.cell? ⟨b, o + i * 3 + 2, none⟩ = some (.int .i64 fl)) := HROW
      replace HCN : Hid (N = if E = 0 ∧ fl ≠ 0 then 16 else E) := HCN
      generalize fb chkR l i = FR at *
      generalize fb chkN l i = FN at *
      obtain ⟨W1, T1⟩ := FR
      obtain ⟨B1, A1⟩ := FN
      dsimp only at hcm hun ⊢
      have HCM := Lib.hid hcm
      have HUN := Lib.hid hun
      replace HFR : Hid (fb chkR l (i + 1) = if W1 = 0 then (if E = 0 then (0, 0) else ((i : Int) + 1, E)) else (W1, T1)) := HFR
      replace HFN : Hid (fb chkN l (i + 1) = if B1 = 0 then (if N = 0 then (0, 0) else ((i : Int) + 1, N)) else (B1, A1)) := HFN
      clear hcm hun
      obtain ⟨c0, c1, c2⟩ := HROW.out wr HLO.out
      go_wp2_with fail
      refine (HPL2.out wr).mono ?_
      rintro _ w1 ⟨v1, rfl, ht1, hb1⟩
      obtain ⟨AA, dd, rfl, _⟩ := ht1.rd
      have HB1 := Lib.hid (HLO.out.trans (hb1.mono HLO.out.size))
      have HW1 := Lib.hid (HWG2.out w1 AA dd ht1)
      clear ht1 hb1 c0 c1 c2
      go_wp2_with fail
      refine HW1.out.mono ?_
      rintro _ w2 ⟨rfl, hb2⟩
      have HB2 := Lib.hid (HB1.out.trans (hb2.mono HB1.out.size))
      clear hb2
      obtain ⟨c0, c1, c2⟩ := HROW.out w2 HB2.out
      go_wp2_with fail
      refine (HCK2.out w2 HB2.out).mono ?_
      rintro _ w3 ⟨rfl, hb3⟩
      have HB3 := Lib.hid (HB2.out.trans (hb3.mono HB2.out.size))
      clear hb3 c0 c1 c2
      obtain ⟨c0, c1, c2⟩ := HROW.out w3 HB3.out
      have xE : (E != E) = false := by simp
      by_cases hE0 : E = 0
      · subst hE0
        by_cases hF0 : fl = 0
        · subst hF0
          obtain rfl : N = 0 := by rw [HCN.out, if_neg (fun h => h.2 rfl)]
          clear HCN
          by_cases hW0 : W1 = 0
          · subst hW0
            by_cases hB0 : B1 = 0
            · subst hB0
              have HFR2 : Hid (fb chkR l (i + 1) = (0, 0)) := Lib.hid (by rw [HFR.out, if_pos rfl, if_pos rfl])
              have HFN2 : Hid (fb chkN l (i + 1) = (0, 0)) := Lib.hid (by rw [HFN.out, if_pos rfl, if_pos rfl])
              clear HFR HFN
              obtain rfl : T1 = 0 := by
                rcases HPR.out with h | h
                · exact congrArg Prod.snd h
                · exact absurd h.1 (Int.lt_irrefl _)
              obtain rfl : A1 = 0 := by
                rcases HPNN.out with h | h
                · exact congrArg Prod.snd h
                · exact absurd h.1 (Int.lt_irrefl _)
              clear HPR HPNN
              have HLC1 := Lib.hid (HLC.out rfl)
              have HPC1 := Lib.hid (HPC2.out rfl)
              have HCM1 := Lib.hid (HCM.out rfl)
              have HLU1 := Lib.hid (HLU.out rfl)
              have HPU1 := Lib.hid (HPU2.out rfl)
              have HUN1 := Lib.hid (HUN.out rfl)
              clear HLC HPC2 HLU HPU2 HCM HUN
              obtain ⟨U, hU⟩ : ∃ U : ByteArray, U.data.toList = cl := ⟨⟨cl.toArray⟩, rfl⟩
              have hsU : U.size ≤ 400 := by rw [ds hU]; exact HLC1.out
              have catU : ¬ (9223372036854775807 < ucm.size + U.size) := by omega
              have HU := Lib.hid hU
              clear hU
              go_wp2_with fail
              refine (HPL2.out w3).mono ?_
              rintro _ w4 ⟨v4, rfl, ht4, hb4⟩
              obtain ⟨AA3, dd3, rfl, hrd3⟩ := ht4.rd
              have HB4 := Lib.hid (HB3.out.trans (hb4.mono HB3.out.size))
              have HQ3 := Lib.hid (HPC1.out w4 AA3 dd3 hrd3 U HU.out)
              clear ht4 hb4 hrd3 c0 c1 c2
              go_wp2_with fail
              refine HQ3.out.mono ?_
              rintro _ w5 ⟨rfl, hb5⟩
              have HB5 := Lib.hid (HB4.out.trans (hb5.mono HB4.out.size))
              clear hb5
              obtain ⟨c0, c1, c2⟩ := HROW.out w5 HB5.out
              obtain ⟨V, hV⟩ : ∃ V : ByteArray, V.data.toList = ul := ⟨⟨ul.toArray⟩, rfl⟩
              have hsV : V.size ≤ 400 := by rw [ds hV]; exact HLU1.out
              have catV : ¬ (9223372036854775807 < uni.size + V.size) := by omega
              have HV := Lib.hid hV
              clear hV
              go_wp2_with fail
              refine (HPL2.out w5).mono ?_
              rintro _ w6 ⟨v6, rfl, ht6, hb6⟩
              obtain ⟨AA5, dd5, rfl, hrd5⟩ := ht6.rd
              have HB6 := Lib.hid (HB5.out.trans (hb6.mono HB5.out.size))
              have HQ5 := Lib.hid (HPU1.out w6 AA5 dd5 hrd5 V HV.out)
              clear ht6 hb6 hrd5 c0 c1 c2
              go_wp2_with fail
              refine HQ5.out.mono ?_
              rintro _ w7 ⟨rfl, hb7⟩
              have HB7 := Lib.hid (HB6.out.trans (hb7.mono HB6.out.size))
              clear hb7
              obtain ⟨c0, c1, c2⟩ := HROW.out w7 HB7.out
              clear c0 c1 c2
              go_wp2_with fail
              go_roundw
              case rel =>
                refine ⟨i + 1, uni ++ V, ucm ++ U, rfl, rfl, by rw [HFR2.out], by rw [HFN2.out], by rw [HFR2.out], by rw [HFN2.out], by go_num, by omega, fun h => ?_, fun h => ?_, ?_, ?_, HB7.out⟩
                · rw [ByteArray.toList_data_append, HFLC.out, HU.out, HCM1.out]
                · rw [ByteArray.toList_data_append, HFLU.out, HV.out, HUN1.out]
                · rw [ByteArray.size_append]; omega
                · rw [ByteArray.size_append]; omega
              case measure => simp [RowKit.intOf]; omega
            · have HFR2 : Hid (fb chkR l (i + 1) = (0, 0)) := Lib.hid (by rw [HFR.out, if_pos rfl, if_pos rfl])
              have HFN2 : Hid (fb chkN l (i + 1) = (B1, A1)) := Lib.hid (by rw [HFN.out, if_neg hB0])
              clear HFR HFN
              obtain rfl : T1 = 0 := by
                rcases HPR.out with h | h
                · exact congrArg Prod.snd h
                · exact absurd h.1 (Int.lt_irrefl _)
              clear HPR HPNN
              have HLC1 := Lib.hid (HLC.out rfl)
              have HPC1 := Lib.hid (HPC2.out rfl)
              have HCM1 := Lib.hid (HCM.out rfl)
              clear HLC HPC2 HLU HPU2 HCM
              have y2 : (B1 == 0) = false := by simpa using hB0
              have HB0 := Lib.hid hB0
              clear hB0
              obtain ⟨U, hU⟩ : ∃ U : ByteArray, U.data.toList = cl := ⟨⟨cl.toArray⟩, rfl⟩
              have hsU : U.size ≤ 400 := by rw [ds hU]; exact HLC1.out
              have catU : ¬ (9223372036854775807 < ucm.size + U.size) := by omega
              have HU := Lib.hid hU
              clear hU
              go_wp2_with fail
              refine (HPL2.out w3).mono ?_
              rintro _ w4 ⟨v4, rfl, ht4, hb4⟩
              obtain ⟨AA3, dd3, rfl, hrd3⟩ := ht4.rd
              have HB4 := Lib.hid (HB3.out.trans (hb4.mono HB3.out.size))
              have HQ3 := Lib.hid (HPC1.out w4 AA3 dd3 hrd3 U HU.out)
              clear ht4 hb4 hrd3 c0 c1 c2
              go_wp2_with fail
              refine HQ3.out.mono ?_
              rintro _ w5 ⟨rfl, hb5⟩
              have HB5 := Lib.hid (HB4.out.trans (hb5.mono HB4.out.size))
              clear hb5
              obtain ⟨c0, c1, c2⟩ := HROW.out w5 HB5.out
              clear c0 c1 c2
              go_wp2_with fail
              go_roundw
              case rel =>
                refine ⟨i + 1, uni, ucm ++ U, rfl, rfl, by rw [HFR2.out], by rw [HFN2.out], by rw [HFR2.out], by rw [HFN2.out], by go_num, by omega, fun h => ?_, fun h => ?_, ?_, ?_, HB5.out⟩
                · rw [ByteArray.toList_data_append, HFLC.out, HU.out, HCM1.out]
                · rw [HFN2.out] at h; exact absurd h HB0.out
                · rw [ByteArray.size_append]; omega
                · omega
              case measure => simp [RowKit.intOf]; omega
          · by_cases hB0 : B1 = 0
            · subst hB0
              have HFR2 : Hid (fb chkR l (i + 1) = (W1, T1)) := Lib.hid (by rw [HFR.out, if_neg hW0])
              have HFN2 : Hid (fb chkN l (i + 1) = (0, 0)) := Lib.hid (by rw [HFN.out, if_pos rfl, if_pos rfl])
              clear HFR HFN
              obtain rfl : A1 = 0 := by
                rcases HPNN.out with h | h
                · exact congrArg Prod.snd h
                · exact absurd h.1 (Int.lt_irrefl _)
              clear HPR HPNN
              have HLU1 := Lib.hid (HLU.out rfl)
              have HPU1 := Lib.hid (HPU2.out rfl)
              have HUN1 := Lib.hid (HUN.out rfl)
              clear HLC HPC2 HLU HPU2 HUN
              have y1 : (W1 == 0) = false := by simpa using hW0
              have HW0 := Lib.hid hW0
              clear hW0
              obtain ⟨V, hV⟩ : ∃ V : ByteArray, V.data.toList = ul := ⟨⟨ul.toArray⟩, rfl⟩
              have hsV : V.size ≤ 400 := by rw [ds hV]; exact HLU1.out
              have catV : ¬ (9223372036854775807 < uni.size + V.size) := by omega
              have HV := Lib.hid hV
              clear hV
              go_wp2_with fail
              refine (HPL2.out w3).mono ?_
              rintro _ w4 ⟨v4, rfl, ht4, hb4⟩
              obtain ⟨AA3, dd3, rfl, hrd3⟩ := ht4.rd
              have HB4 := Lib.hid (HB3.out.trans (hb4.mono HB3.out.size))
              have HQ3 := Lib.hid (HPU1.out w4 AA3 dd3 hrd3 V HV.out)
              clear ht4 hb4 hrd3 c0 c1 c2
              go_wp2_with fail
              refine HQ3.out.mono ?_
              rintro _ w5 ⟨rfl, hb5⟩
              have HB5 := Lib.hid (HB4.out.trans (hb5.mono HB4.out.size))
              clear hb5
              obtain ⟨c0, c1, c2⟩ := HROW.out w5 HB5.out
              clear c0 c1 c2
              go_wp2_with fail
              go_roundw
              case rel =>
                refine ⟨i + 1, uni ++ V, ucm, rfl, rfl, by rw [HFR2.out], by rw [HFN2.out], by rw [HFR2.out], by rw [HFN2.out], by go_num, by omega, fun h => ?_, fun h => ?_, ?_, ?_, HB5.out⟩
                · rw [HFR2.out] at h; exact absurd h HW0.out
                · rw [ByteArray.toList_data_append, HFLU.out, HV.out, HUN1.out]
                · omega
                · rw [ByteArray.size_append]; omega
              case measure => simp [RowKit.intOf]; omega
            · have HFR2 : Hid (fb chkR l (i + 1) = (W1, T1)) := Lib.hid (by rw [HFR.out, if_neg hW0])
              have HFN2 : Hid (fb chkN l (i + 1) = (B1, A1)) := Lib.hid (by rw [HFN.out, if_neg hB0])
              clear HFR HFN
              clear HPR HPNN
              clear HLC HPC2 HLU HPU2
              have y1 : (W1 == 0) = false := by simpa using hW0
              have HW0 := Lib.hid hW0
              clear hW0
              have y2 : (B1 == 0) = false := by simpa using hB0
              have HB0 := Lib.hid hB0
              clear hB0
              go_wp2_with fail
              go_roundw
              case rel =>
                refine ⟨i + 1, uni, ucm, rfl, rfl, by rw [HFR2.out], by rw [HFN2.out], by rw [HFR2.out], by rw [HFN2.out], by go_num, by omega, fun h => ?_, fun h => ?_, ?_, ?_, HB3.out⟩
                · rw [HFR2.out] at h; exact absurd h HW0.out
                · rw [HFN2.out] at h; exact absurd h HB0.out
                · omega
                · omega
              case measure => simp [RowKit.intOf]; omega
        · obtain rfl : N = 16 := by rw [HCN.out, if_pos ⟨rfl, hF0⟩]
          have f1 : (fl == 0) = false := by simpa using hF0
          have f2 : (fl != 0) = true := by simp [bne, f1]
          clear HCN hF0
          by_cases hW0 : W1 = 0
          · subst hW0
            by_cases hB0 : B1 = 0
            · subst hB0
              have HFR2 : Hid (fb chkR l (i + 1) = (0, 0)) := Lib.hid (by rw [HFR.out, if_pos rfl, if_pos rfl])
              have HFN2 : Hid (fb chkN l (i + 1) = ((i : Int) + 1, 16)) := Lib.hid (by rw [HFN.out, if_pos rfl, if_neg (show ¬ ((16 : Int) = 0) by decide)])
              clear HFR HFN
              obtain rfl : T1 = 0 := by
                rcases HPR.out with h | h
                · exact congrArg Prod.snd h
                · exact absurd h.1 (Int.lt_irrefl _)
              obtain rfl : A1 = 0 := by
                rcases HPNN.out with h | h
                · exact congrArg Prod.snd h
                · exact absurd h.1 (Int.lt_irrefl _)
              clear HPR HPNN
              have HLC1 := Lib.hid (HLC.out rfl)
              have HPC1 := Lib.hid (HPC2.out rfl)
              have HCM1 := Lib.hid (HCM.out rfl)
              clear HLC HPC2 HLU HPU2 HCM HUN
              obtain ⟨U, hU⟩ : ∃ U : ByteArray, U.data.toList = cl := ⟨⟨cl.toArray⟩, rfl⟩
              have hsU : U.size ≤ 400 := by rw [ds hU]; exact HLC1.out
              have catU : ¬ (9223372036854775807 < ucm.size + U.size) := by omega
              have HU := Lib.hid hU
              clear hU
              go_wp2_with fail
              refine (HPL2.out w3).mono ?_
              rintro _ w4 ⟨v4, rfl, ht4, hb4⟩
              obtain ⟨AA3, dd3, rfl, hrd3⟩ := ht4.rd
              have HB4 := Lib.hid (HB3.out.trans (hb4.mono HB3.out.size))
              have HQ3 := Lib.hid (HPC1.out w4 AA3 dd3 hrd3 U HU.out)
              clear ht4 hb4 hrd3 c0 c1 c2
              go_wp2_with fail
              refine HQ3.out.mono ?_
              rintro _ w5 ⟨rfl, hb5⟩
              have HB5 := Lib.hid (HB4.out.trans (hb5.mono HB4.out.size))
              clear hb5
              obtain ⟨c0, c1, c2⟩ := HROW.out w5 HB5.out
              clear c0 c1 c2
              go_wp2_with fail
              go_roundw
              case rel =>
                refine ⟨i + 1, uni, ucm ++ U, rfl, rfl, by rw [HFR2.out], by rw [HFN2.out], by rw [HFR2.out], by rw [HFN2.out], by go_num, by omega, fun h => ?_, fun h => ?_, ?_, ?_, HB5.out⟩
                · rw [ByteArray.toList_data_append, HFLC.out, HU.out, HCM1.out]
                · rw [HFN2.out] at h; have h : (i : Int) + 1 = 0 := h; omega
                · rw [ByteArray.size_append]; omega
                · omega
              case measure => simp [RowKit.intOf]; omega
            · have HFR2 : Hid (fb chkR l (i + 1) = (0, 0)) := Lib.hid (by rw [HFR.out, if_pos rfl, if_pos rfl])
              have HFN2 : Hid (fb chkN l (i + 1) = (B1, A1)) := Lib.hid (by rw [HFN.out, if_neg hB0])
              clear HFR HFN
              obtain rfl : T1 = 0 := by
                rcases HPR.out with h | h
                · exact congrArg Prod.snd h
                · exact absurd h.1 (Int.lt_irrefl _)
              clear HPR HPNN
              have HLC1 := Lib.hid (HLC.out rfl)
              have HPC1 := Lib.hid (HPC2.out rfl)
              have HCM1 := Lib.hid (HCM.out rfl)
              clear HLC HPC2 HLU HPU2 HCM
              have y2 : (B1 == 0) = false := by simpa using hB0
              have HB0 := Lib.hid hB0
              clear hB0
              obtain ⟨U, hU⟩ : ∃ U : ByteArray, U.data.toList = cl := ⟨⟨cl.toArray⟩, rfl⟩
              have hsU : U.size ≤ 400 := by rw [ds hU]; exact HLC1.out
              have catU : ¬ (9223372036854775807 < ucm.size + U.size) := by omega
              have HU := Lib.hid hU
              clear hU
              go_wp2_with fail
              refine (HPL2.out w3).mono ?_
              rintro _ w4 ⟨v4, rfl, ht4, hb4⟩
              obtain ⟨AA3, dd3, rfl, hrd3⟩ := ht4.rd
              have HB4 := Lib.hid (HB3.out.trans (hb4.mono HB3.out.size))
              have HQ3 := Lib.hid (HPC1.out w4 AA3 dd3 hrd3 U HU.out)
              clear ht4 hb4 hrd3 c0 c1 c2
              go_wp2_with fail
              refine HQ3.out.mono ?_
              rintro _ w5 ⟨rfl, hb5⟩
              have HB5 := Lib.hid (HB4.out.trans (hb5.mono HB4.out.size))
              clear hb5
              obtain ⟨c0, c1, c2⟩ := HROW.out w5 HB5.out
              clear c0 c1 c2
              go_wp2_with fail
              go_roundw
              case rel =>
                refine ⟨i + 1, uni, ucm ++ U, rfl, rfl, by rw [HFR2.out], by rw [HFN2.out], by rw [HFR2.out], by rw [HFN2.out], by go_num, by omega, fun h => ?_, fun h => ?_, ?_, ?_, HB5.out⟩
                · rw [ByteArray.toList_data_append, HFLC.out, HU.out, HCM1.out]
                · rw [HFN2.out] at h; exact absurd h HB0.out
                · rw [ByteArray.size_append]; omega
                · omega
              case measure => simp [RowKit.intOf]; omega
          · by_cases hB0 : B1 = 0
            · subst hB0
              have HFR2 : Hid (fb chkR l (i + 1) = (W1, T1)) := Lib.hid (by rw [HFR.out, if_neg hW0])
              have HFN2 : Hid (fb chkN l (i + 1) = ((i : Int) + 1, 16)) := Lib.hid (by rw [HFN.out, if_pos rfl, if_neg (show ¬ ((16 : Int) = 0) by decide)])
              clear HFR HFN
              obtain rfl : A1 = 0 := by
                rcases HPNN.out with h | h
                · exact congrArg Prod.snd h
                · exact absurd h.1 (Int.lt_irrefl _)
              clear HPR HPNN
              clear HLC HPC2 HLU HPU2 HUN
              have y1 : (W1 == 0) = false := by simpa using hW0
              have HW0 := Lib.hid hW0
              clear hW0
              go_wp2_with fail
              go_roundw
              case rel =>
                refine ⟨i + 1, uni, ucm, rfl, rfl, by rw [HFR2.out], by rw [HFN2.out], by rw [HFR2.out], by rw [HFN2.out], by go_num, by omega, fun h => ?_, fun h => ?_, ?_, ?_, HB3.out⟩
                · rw [HFR2.out] at h; exact absurd h HW0.out
                · rw [HFN2.out] at h; have h : (i : Int) + 1 = 0 := h; omega
                · omega
                · omega
              case measure => simp [RowKit.intOf]; omega
            · have HFR2 : Hid (fb chkR l (i + 1) = (W1, T1)) := Lib.hid (by rw [HFR.out, if_neg hW0])
              have HFN2 : Hid (fb chkN l (i + 1) = (B1, A1)) := Lib.hid (by rw [HFN.out, if_neg hB0])
              clear HFR HFN
              clear HPR HPNN
              clear HLC HPC2 HLU HPU2
              have y1 : (W1 == 0) = false := by simpa using hW0
              have HW0 := Lib.hid hW0
              clear hW0
              have y2 : (B1 == 0) = false := by simpa using hB0
              have HB0 := Lib.hid hB0
              clear hB0
              go_wp2_with fail
              go_roundw
              case rel =>
                refine ⟨i + 1, uni, ucm, rfl, rfl, by rw [HFR2.out], by rw [HFN2.out], by rw [HFR2.out], by rw [HFN2.out], by go_num, by omega, fun h => ?_, fun h => ?_, ?_, ?_, HB3.out⟩
                · rw [HFR2.out] at h; exact absurd h HW0.out
                · rw [HFN2.out] at h; exact absurd h HB0.out
                · omega
                · omega
              case measure => simp [RowKit.intOf]; omega
      · obtain rfl : N = E := by rw [HCN.out, if_neg (fun h => hE0 h.1)]
        have e1 : (N == 0) = false := by simpa using hE0
        have e2 : (N != 0) = true := by simp [bne, e1]
        clear HCN
        by_cases hW0 : W1 = 0
        · subst hW0
          by_cases hB0 : B1 = 0
          · subst hB0
            have HFR2 : Hid (fb chkR l (i + 1) = ((i : Int) + 1, N)) := Lib.hid (by rw [HFR.out, if_pos rfl, if_neg hE0])
            have HFN2 : Hid (fb chkN l (i + 1) = ((i : Int) + 1, N)) := Lib.hid (by rw [HFN.out, if_pos rfl, if_neg hE0])
            clear HFR HFN
            obtain rfl : T1 = 0 := by
              rcases HPR.out with h | h
              · exact congrArg Prod.snd h
              · exact absurd h.1 (Int.lt_irrefl _)
            obtain rfl : A1 = 0 := by
              rcases HPNN.out with h | h
              · exact congrArg Prod.snd h
              · exact absurd h.1 (Int.lt_irrefl _)
            clear HPR HPNN
            clear HLC HPC2 HLU HPU2 HCM HUN
            clear hE0
            clear c0 c1 c2
            go_wp2_with fail
            go_roundw
            case rel =>
              refine ⟨i + 1, uni, ucm, rfl, rfl, by rw [HFR2.out], by rw [HFN2.out], by rw [HFR2.out], by rw [HFN2.out], by go_num, by omega, fun h => ?_, fun h => ?_, ?_, ?_, HB3.out⟩
              · rw [HFR2.out] at h; have h : (i : Int) + 1 = 0 := h; omega
              · rw [HFN2.out] at h; have h : (i : Int) + 1 = 0 := h; omega
              · omega
              · omega
            case measure => simp [RowKit.intOf]; omega
          · have HFR2 : Hid (fb chkR l (i + 1) = ((i : Int) + 1, N)) := Lib.hid (by rw [HFR.out, if_pos rfl, if_neg hE0])
            have HFN2 : Hid (fb chkN l (i + 1) = (B1, A1)) := Lib.hid (by rw [HFN.out, if_neg hB0])
            clear HFR HFN
            obtain rfl : T1 = 0 := by
              rcases HPR.out with h | h
              · exact congrArg Prod.snd h
              · exact absurd h.1 (Int.lt_irrefl _)
            clear HPR HPNN
            clear HLC HPC2 HLU HPU2 HCM
            clear hE0
            have y2 : (B1 == 0) = false := by simpa using hB0
            have HB0 := Lib.hid hB0
            clear hB0
            clear c0 c1 c2
            go_wp2_with fail
            go_roundw
            case rel =>
              refine ⟨i + 1, uni, ucm, rfl, rfl, by rw [HFR2.out], by rw [HFN2.out], by rw [HFR2.out], by rw [HFN2.out], by go_num, by omega, fun h => ?_, fun h => ?_, ?_, ?_, HB3.out⟩
              · rw [HFR2.out] at h; have h : (i : Int) + 1 = 0 := h; omega
              · rw [HFN2.out] at h; exact absurd h HB0.out
              · omega
              · omega
            case measure => simp [RowKit.intOf]; omega
        · by_cases hB0 : B1 = 0
          · subst hB0
            have HFR2 : Hid (fb chkR l (i + 1) = (W1, T1)) := Lib.hid (by rw [HFR.out, if_neg hW0])
            have HFN2 : Hid (fb chkN l (i + 1) = ((i : Int) + 1, N)) := Lib.hid (by rw [HFN.out, if_pos rfl, if_neg hE0])
            clear HFR HFN
            obtain rfl : A1 = 0 := by
              rcases HPNN.out with h | h
              · exact congrArg Prod.snd h
              · exact absurd h.1 (Int.lt_irrefl _)
            clear HPR HPNN
            clear HLC HPC2 HLU HPU2 HUN
            clear hE0
            have y1 : (W1 == 0) = false := by simpa using hW0
            have HW0 := Lib.hid hW0
            clear hW0
            clear c0 c1 c2
            go_wp2_with fail
            go_roundw
            case rel =>
              refine ⟨i + 1, uni, ucm, rfl, rfl, by rw [HFR2.out], by rw [HFN2.out], by rw [HFR2.out], by rw [HFN2.out], by go_num, by omega, fun h => ?_, fun h => ?_, ?_, ?_, HB3.out⟩
              · rw [HFR2.out] at h; exact absurd h HW0.out
              · rw [HFN2.out] at h; have h : (i : Int) + 1 = 0 := h; omega
              · omega
              · omega
            case measure => simp [RowKit.intOf]; omega
          · have HFR2 : Hid (fb chkR l (i + 1) = (W1, T1)) := Lib.hid (by rw [HFR.out, if_neg hW0])
            have HFN2 : Hid (fb chkN l (i + 1) = (B1, A1)) := Lib.hid (by rw [HFN.out, if_neg hB0])
            clear HFR HFN
            clear HPR HPNN
            clear HLC HPC2 HLU HPU2
            clear hE0
            have y1 : (W1 == 0) = false := by simpa using hW0
            have HW0 := Lib.hid hW0
            clear hW0
            have y2 : (B1 == 0) = false := by simpa using hB0
            have HB0 := Lib.hid hB0
            clear hB0
            clear c0 c1 c2
            go_wp2_with fail
            go_roundw
            case rel =>
              refine ⟨i + 1, uni, ucm, rfl, rfl, by rw [HFR2.out], by rw [HFN2.out], by rw [HFR2.out], by rw [HFN2.out], by go_num, by omega, fun h => ?_, fun h => ?_, ?_, ?_, HB3.out⟩
              · rw [HFR2.out] at h; exact absurd h HW0.out
              · rw [HFN2.out] at h; exact absurd h HB0.out
              · omega
              · omega
            case measure => simp [RowKit.intOf]; omega
    · obtain rfl : i = l.length := by omega
      have a1 : decide ((l.length : Int) < (l.length : Int)) = false := decide_eq_false (by omega)
      have efr : fb chkR l l.length = firstBad chkR 0 l := by unfold fb; rw [List.take_of_length_le (Nat.le_refl _)]
      have efn : fb chkN l l.length = firstBad chkN 0 l := by unfold fb; rw [List.take_of_length_le (Nat.le_refl _)]
      rw [List.take_of_length_le (Nat.le_refl _)] at hcm hun
      rw [efr] at HPR hcm ⊢
      rw [efn] at HPNN hun ⊢
      have hp1 : printP chkR ucmL l = if (firstBad chkR 0 l).2 = 0 then (l.flatMap ucmL, 0, 0) else ([], (firstBad chkR 0 l).1, (firstBad chkR 0 l).2) := rfl
      have hp2 : printP chkN uniL l = if (firstBad chkN 0 l).2 = 0 then (l.flatMap uniL, 0, 0) else ([], (firstBad chkN 0 l).1, (firstBad chkN 0 l).2) := rfl
      rw [hp1] at HPC
      rw [hp2] at HPN
      clear hlt hi hlo efr efn hp1 hp2
      generalize firstBad chkR 0 l = FR at *
      generalize firstBad chkN 0 l = FN at *
      obtain ⟨W1, T1⟩ := FR
      obtain ⟨B1, A1⟩ := FN
      dsimp only at hcm hun HPC HPN ⊢
      have HCM := Lib.hid hcm
      have HUN := Lib.hid hun
      clear hcm hun
      rcases HPR.out with hw | hw
      · rcases HPNN.out with hb | hb
        · obtain ⟨rfl, rfl⟩ : W1 = 0 ∧ T1 = 0 := ⟨congrArg Prod.fst hw, congrArg Prod.snd hw⟩
          have HCM1 := Lib.hid (HCM.out rfl)
          rw [if_pos rfl] at HPC
          obtain ⟨S, hSd⟩ : ∃ S : ByteArray, (⟨(l.flatMap ucmL).toArray⟩ : ByteArray) = S := ⟨_, rfl⟩
          obtain rfl : ucm = S := by rw [← hSd]; exact ba_ext (by rw [HCM1.out])
          dsimp only at HPC
          rw [hSd] at HPC
          clear HCM HCM1 hSd hw
          obtain ⟨rfl, rfl⟩ : B1 = 0 ∧ A1 = 0 := ⟨congrArg Prod.fst hb, congrArg Prod.snd hb⟩
          have HUN1 := Lib.hid (HUN.out rfl)
          rw [if_pos rfl] at HPN
          obtain ⟨S2, hS2d⟩ : ∃ S : ByteArray, (⟨(l.flatMap uniL).toArray⟩ : ByteArray) = S := ⟨_, rfl⟩
          obtain rfl : uni = S2 := by rw [← hS2d]; exact ba_ext (by rw [HUN1.out])
          dsimp only at HPN
          rw [hS2d] at HPN
          clear HUN HUN1 hS2d hb
          go_wp2_with fail
          refine (HPC.out wr HLO.out).mono ?_
          rintro _ w1 ⟨rfl, hb1⟩
          have HB1 := Lib.hid hb1
          clear hb1
          go_wp2_with fail
          refine (HPN.out w1 HB1.out).mono ?_
          rintro _ w2 ⟨rfl, hb2⟩
          have HB2 := Lib.hid hb2
          clear hb2
          go_wp2_with fail
          refine (HPK.out w2 HB2.out).mono ?_
          rintro _ w3 ⟨rfl, hb3⟩
          have HB3 := Lib.hid (HB2.out.trans (hb3.mono HB2.out.size))
          clear hb3
          go_wp2_with fail
          refine (HAW.out w3 HB3.out).mono ?_
          rintro _ w4 ⟨rfl, hb4⟩
          have HB4 := Lib.hid hb4
          clear hb4
          go_wp2_with fail
          go_returns
          exact ⟨rfl, HB4.out⟩
        · obtain ⟨rfl, rfl⟩ : W1 = 0 ∧ T1 = 0 := ⟨congrArg Prod.fst hw, congrArg Prod.snd hw⟩
          have HCM1 := Lib.hid (HCM.out rfl)
          rw [if_pos rfl] at HPC
          obtain ⟨S, hSd⟩ : ∃ S : ByteArray, (⟨(l.flatMap ucmL).toArray⟩ : ByteArray) = S := ⟨_, rfl⟩
          obtain rfl : ucm = S := by rw [← hSd]; exact ba_ext (by rw [HCM1.out])
          dsimp only at HPC
          rw [hSd] at HPC
          clear HCM HCM1 hSd hw
          have g3 : (0 : Int) < B1 := hb.1
          have g4 : decide ((0 : Int) < B1) = true := decide_eq_true hb.1
          rw [if_neg hb.2] at HPN
          dsimp only at HPN
          clear HUN hb
          go_wp2_with fail
          refine (HPC.out wr HLO.out).mono ?_
          rintro _ w1 ⟨rfl, hb1⟩
          have HB1 := Lib.hid hb1
          clear hb1
          go_wp2_with fail
          refine (HPN.out w1 HB1.out).mono ?_
          rintro _ w2 ⟨rfl, hb2⟩
          have HB2 := Lib.hid hb2
          clear hb2
          go_wp2_with fail
          refine (HPK.out w2 HB2.out).mono ?_
          rintro _ w3 ⟨rfl, hb3⟩
          have HB3 := Lib.hid (HB2.out.trans (hb3.mono HB2.out.size))
          clear hb3
          go_wp2_with fail
          refine (HAW.out w3 HB3.out).mono ?_
          rintro _ w4 ⟨rfl, hb4⟩
          have HB4 := Lib.hid hb4
          clear hb4
          go_wp2_with fail
          go_returns
          exact ⟨rfl, HB4.out⟩
      · rcases HPNN.out with hb | hb
        · have g1 : (0 : Int) < W1 := hw.1
          have g2 : decide ((0 : Int) < W1) = true := decide_eq_true hw.1
          rw [if_neg hw.2] at HPC
          dsimp only at HPC
          clear HCM hw
          obtain ⟨rfl, rfl⟩ : B1 = 0 ∧ A1 = 0 := ⟨congrArg Prod.fst hb, congrArg Prod.snd hb⟩
          have HUN1 := Lib.hid (HUN.out rfl)
          rw [if_pos rfl] at HPN
          obtain ⟨S2, hS2d⟩ : ∃ S : ByteArray, (⟨(l.flatMap uniL).toArray⟩ : ByteArray) = S := ⟨_, rfl⟩
          obtain rfl : uni = S2 := by rw [← hS2d]; exact ba_ext (by rw [HUN1.out])
          dsimp only at HPN
          rw [hS2d] at HPN
          clear HUN HUN1 hS2d hb
          go_wp2_with fail
          refine (HPC.out wr HLO.out).mono ?_
          rintro _ w1 ⟨rfl, hb1⟩
          have HB1 := Lib.hid hb1
          clear hb1
          go_wp2_with fail
          refine (HPN.out w1 HB1.out).mono ?_
          rintro _ w2 ⟨rfl, hb2⟩
          have HB2 := Lib.hid hb2
          clear hb2
          go_wp2_with fail
          refine (HPK.out w2 HB2.out).mono ?_
          rintro _ w3 ⟨rfl, hb3⟩
          have HB3 := Lib.hid (HB2.out.trans (hb3.mono HB2.out.size))
          clear hb3
          go_wp2_with fail
          refine (HAW.out w3 HB3.out).mono ?_
          rintro _ w4 ⟨rfl, hb4⟩
          have HB4 := Lib.hid hb4
          clear hb4
          go_wp2_with fail
          go_returns
          exact ⟨rfl, HB4.out⟩
        · have g1 : (0 : Int) < W1 := hw.1
          have g2 : decide ((0 : Int) < W1) = true := decide_eq_true hw.1
          rw [if_neg hw.2] at HPC
          dsimp only at HPC
          clear HCM hw
          have g3 : (0 : Int) < B1 := hb.1
          have g4 : decide ((0 : Int) < B1) = true := decide_eq_true hb.1
          rw [if_neg hb.2] at HPN
          dsimp only at HPN
          clear HUN hb
          go_wp2_with fail
          refine (HPC.out wr HLO.out).mono ?_
          rintro _ w1 ⟨rfl, hb1⟩
          have HB1 := Lib.hid hb1
          clear hb1
          go_wp2_with fail
          refine (HPN.out w1 HB1.out).mono ?_
          rintro _ w2 ⟨rfl, hb2⟩
          have HB2 := Lib.hid hb2
          clear hb2
          go_wp2_with fail
          refine (HPK.out w2 HB2.out).mono ?_
          rintro _ w3 ⟨rfl, hb3⟩
          have HB3 := Lib.hid (HB2.out.trans (hb3.mono HB2.out.size))
          clear hb3
          go_wp2_with fail
          refine (HAW.out w3 HB3.out).mono ?_
          rintro _ w4 ⟨rfl, hb4⟩
          have HB4 := Lib.hid hb4
          clear hb4
          go_wp2_with fail
          go_returns
          exact ⟨rfl, HB4.out⟩
end Go.Proofs.YtopaoejapnakiaaGreatDoor.Mf
