/- Walk: the law MapfileJoins. -/
import Derived.Test.YtopaoejapnakiaaGreatDoorJ1
namespace Go.Proofs.YtopaoejapnakiaaGreatDoor.Mf
open Go.RowKit Pl

set_option maxRecDepth 100000 in
set_option maxHeartbeats 6400000 in
theorem mapfileJoins_law {w : World} (hO : Okw w) (s : ByteArray) (_hs : s.size ≤ maxLen) (t : ByteArray) (_ht : t.size ≤ maxLen) : Calls Tryz.prog 4 #[.string s, .string t] w fun e w' => e = .returned (.bool true) ∧ Below w.heap.size w w' := by
  have HAW : Hid (∀ w1, Below w.heap.size w w1 → Calls Tryz.prog 10 #[] w1 fun e w' => e = .returned (.bool true) ∧ Below w.heap.size w w') := Lib.hid fun w1 hb => (awake_any w1 (hO.keep hb)).mono fun _ _ ⟨h, hb'⟩ => ⟨h, hb.trans (hb'.mono hb.size)⟩
  have HOK := Lib.hid hO
  clear hO
  go_enter Tryz.func4, Tryz.ntmps4
  by_cases hbig : 1500 < s.size
  · have a1 : decide ((1500 : Int) < (s.size : Int)) = true := decide_eq_true (by omega)
    clear hbig
    go_wp2_with fail
    refine (HAW.out w (Below.refl _ _)).mono ?_
    rintro _ w1 ⟨rfl, hb1⟩
    go_wp2_with fail
    go_returns
    exact ⟨rfl, hb1⟩
  have a1 : decide ((1500 : Int) < (s.size : Int)) = false := decide_eq_false (by omega)
  by_cases hbt : 1500 < t.size
  · have a2 : decide ((1500 : Int) < (t.size : Int)) = true := decide_eq_true (by omega)
    clear hbig hbt
    go_wp2_with fail
    refine (HAW.out w (Below.refl _ _)).mono ?_
    rintro _ w1 ⟨rfl, hb1⟩
    go_wp2_with fail
    go_returns
    exact ⟨rfl, hb1⟩
  have a2 : decide ((1500 : Int) < (t.size : Int)) = false := decide_eq_false (by omega)
  have HLG := Lib.hid (long_any s (by omega) w)
  cases hlg : longGo 0 s.data.toList with
  | true =>
    rw [hlg] at HLG
    clear hbig hlg hbt
    go_wp2_with fail
    refine HLG.out.mono ?_
    rintro _ _ ⟨rfl, rfl⟩
    go_wp2_with fail
    refine (HAW.out w (Below.refl _ _)).mono ?_
    rintro _ w1 ⟨rfl, hb1⟩
    go_wp2_with fail
    go_returns
    exact ⟨rfl, hb1⟩
  | false =>
    rw [hlg] at HLG
    have hl5 := long_all _ hlg
    have hj := read_join oneC_ok s.data.toList t.data.toList (by rw [bl]; omega) (by rw [bl]; omega) (fun l hl => by have := hl5 l hl; omega)
    have hn := read_note (F := oneU) s.data.toList (by rw [bl]; omega) (fun l hl => by have := hl5 l hl; omega)
    have el : ∀ (x y : ByteArray), (x ++ y).data.toList = x.data.toList ++ y.data.toList := fun x y => by simp
    have e10 : (⟨#[10]⟩ : ByteArray).data.toList = [10] := rfl
    obtain ⟨la, ia, ea, hA⟩ : ∃ l i e, readL oneC (s ++ ⟨#[10]⟩ : ByteArray).data.toList = (l, i, e) := ⟨_, _, _, rfl⟩
    obtain ⟨lb, ib, eb, hB⟩ : ∃ l i e, readL oneC t.data.toList = (l, i, e) := ⟨_, _, _, rfl⟩
    obtain ⟨lc, ic, ec, hC⟩ : ∃ l i e, readL oneC (s ++ ⟨#[10]⟩ ++ t : ByteArray).data.toList = (l, i, e) := ⟨_, _, _, rfl⟩
    obtain ⟨ld, id, ed, hD⟩ : ∃ l i e, readL oneU (s ++ ⟨#[10]⟩ : ByteArray).data.toList = (l, i, e) := ⟨_, _, _, rfl⟩
    have hX : readL oneU (s ++ ⟨#[32, 35, 32]⟩ ++ ⟨#[10]⟩ : ByteArray).data.toList = (ld, id, ed) := by
      rw [← hD, el, el, el]
      exact hn
    have szs : (s ++ ⟨#[10]⟩ : ByteArray).size = s.size + 1 := by rw [ByteArray.size_append]; rfl
    have szn : (s ++ ⟨#[32, 35, 32]⟩ ++ ⟨#[10]⟩ : ByteArray).size = s.size + 3 + 1 := by rw [ByteArray.size_append, ByteArray.size_append]; rfl
    have szt : (s ++ ⟨#[10]⟩ ++ t : ByteArray).size = s.size + 1 + t.size := by rw [ByteArray.size_append, szs]
    have HCA := Lib.hid (mapC_at w HOK.out (by rw [szs]; omega) hA)
    have HCB := Lib.hid (mapC_at w HOK.out (by omega) hB)
    have HCC := Lib.hid (mapC_at w HOK.out (by rw [szt]; omega) hC)
    have HCD := Lib.hid (mapU_at w HOK.out (by rw [szs]; omega) hD)
    have HCX := Lib.hid (mapU_at w HOK.out (by rw [szn]; omega) hX)
    have hlenA := readL_len oneC (s ++ ⟨#[10]⟩ : ByteArray).data.toList
    have hlenB := readL_len oneC t.data.toList
    have hlenD := readL_len oneU (s ++ ⟨#[10]⟩ : ByteArray).data.toList
    rw [hA, bl, szs] at hlenA
    rw [hB, bl] at hlenB
    rw [hD, bl, szs] at hlenD
    have HJ : Hid ((eb = 11 ∧ ib = 0 → (lc, ic, ec) = ([], 0, 11)) ∧ (¬ (eb = 11 ∧ ib = 0) → ea ≠ 0 → (lc, ic, ec) = ([], ia, ea)) ∧ (¬ (eb = 11 ∧ ib = 0) → ea = 0 → eb ≠ 0 → (lc, ic, ec) = ([], ib + (cutL s.data.toList).length, eb)) ∧
        (¬ (eb = 11 ∧ ib = 0) → ea = 0 → eb = 0 → (lc, ic, ec) = (la ++ lb, 0, 0))) := by
      refine Lib.hid ?_
      rw [el, el, e10, List.append_assoc] at hC
      rw [el, e10] at hA
      have hC2 : readL oneC (s.data.toList ++ 10 :: t.data.toList) = (lc, ic, ec) := hC
      rw [hC2, hA, hB] at hj
      exact hj
    have HIB := Lib.hid (readL_nn oneC_ok t.data.toList)
    rw [hB] at HIB
    have HIB : Hid (0 ≤ ib) := HIB
    have HLN := Lib.hid (show la.length ≤ 1501 ∧ lb.length ≤ 1500 ∧ ld.length ≤ 1501 ∧ ib ≤ 1500 ∧ s.size ≤ 1500 by
      dsimp only at hlenA hlenB hlenD
      omega)
    have c1 : ¬ (9223372036854775807 < s.size + 1) := by omega
    have c2 : ¬ (9223372036854775807 < s.size + 3) := by omega
    have c3 : ¬ (9223372036854775807 < s.size + 1 + t.size) := by omega
    have c4 : ¬ (9223372036854775807 < s.size + 3 + 1) := by omega
    clear hbig hlg hl5 hbt hj hn hA hB hC hD hX hlenA hlenB hlenD szs szn szt el e10
    go_wp2_with fail
    refine HLG.out.mono ?_
    rintro _ _ ⟨rfl, rfl⟩
    clear HLG
    go_wp2_with fail
    refine (HCA.out w (Below.refl _ _)).mono ?_
    rintro _ w1 ⟨A1, k1, rfl, hrd1, hz1, hb1⟩
    have HB1 := Lib.hid hb1
    have HR1 := Lib.hid hrd1
    have HZ1 := Lib.hid hz1
    clear hb1 hrd1 hz1 HCA
    go_wp2_with fail
    refine (HCB.out w1 HB1.out).mono ?_
    rintro _ w2 ⟨A2, k2, rfl, hrd2, hz2, hb2⟩
    have HB2 := Lib.hid (HB1.out.trans (hb2.mono HB1.out.size))
    have HR1 := Lib.hid (HR1.out.keep hb2)
    have HR2 := Lib.hid hrd2
    have HZ2 := Lib.hid hz2
    clear hb2 hrd2 hz2 HCB
    go_wp2_with fail
    refine (HCC.out w2 HB2.out).mono ?_
    rintro _ w3 ⟨A3, k3, rfl, hrd3, hz3, hb3⟩
    have HB3 := Lib.hid (HB2.out.trans (hb3.mono HB2.out.size))
    have HR1 := Lib.hid (HR1.out.keep hb3)
    have HR2 := Lib.hid (HR2.out.keep hb3)
    have HR3 := Lib.hid hrd3
    clear hb3 hrd3 hz3 HCC
    go_wp2_with fail
    refine (HCX.out w3 HB3.out).mono ?_
    rintro _ w4 ⟨A4, k4, rfl, hrd4, hz4, hb4⟩
    have HB4 := Lib.hid (HB3.out.trans (hb4.mono HB3.out.size))
    have HR1 := Lib.hid (HR1.out.keep hb4)
    have HR2 := Lib.hid (HR2.out.keep hb4)
    have HR3 := Lib.hid (HR3.out.keep hb4)
    have HR4 := Lib.hid hrd4
    clear hb4 hrd4 hz4 HCX
    go_wp2_with fail
    refine (HCD.out w4 HB4.out).mono ?_
    rintro _ w5 ⟨A5, k5, rfl, hrd5, hz5, hb5⟩
    have HB5 := Lib.hid (HB4.out.trans (hb5.mono HB4.out.size))
    have HR1 := Lib.hid (HR1.out.keep hb5)
    have HR2 := Lib.hid (HR2.out.keep hb5)
    have HR3 := Lib.hid (HR3.out.keep hb5)
    have HR4 := Lib.hid (HR4.out.keep hb5)
    have HR5 := Lib.hid hrd5
    clear hb5 hrd5 hz5 HCD
    have HAL := Lib.hid (alike_any A4 A5 k4 k5 ld (by have := HLN.out; omega) w5 HR4.out HR5.out)
    go_wp2_with fail
    refine HAL.out.mono ?_
    rintro _ w6 ⟨rfl, hb6⟩
    have HB6 := Lib.hid (HB5.out.trans (hb6.mono HB5.out.size))
    have HR1 := Lib.hid (HR1.out.keep hb6)
    have HR2 := Lib.hid (HR2.out.keep hb6)
    have HR3 := Lib.hid (HR3.out.keep hb6)
    clear hb6 HAL HR4 HR5
    have bid : (id != id) = false := bne_self_eq_false id
    have bed : (ed != ed) = false := bne_self_eq_false ed
    by_cases h11 : eb = 11 ∧ ib = 0
    · obtain ⟨rfl, rfl⟩ := h11
      have hc := HJ.out.1 ⟨rfl, rfl⟩
      injection hc with hc1 hc2
      injection hc2 with hc2 hc3
      subst hc1 hc2 hc3
      clear HJ
      go_wp2_with fail
      refine (HAW.out w6 HB6.out).mono ?_
      rintro _ w7 ⟨rfl, hb7⟩
      go_wp2_with fail
      go_returns
      exact ⟨rfl, hb7⟩
    have HJ := Lib.hid (And.intro (HJ.out.2.1 h11) (And.intro (HJ.out.2.2.1 h11) (HJ.out.2.2.2 h11)))
    have b11 : (eb == 11) = false ∨ ((eb == 11) = true ∧ (ib == 0) = false) := by
      by_cases h1 : eb = 11
      · refine .inr ⟨by simp [h1], ?_⟩
        rw [beq_eq_false_iff_ne]
        exact fun h => h11 ⟨h1, h⟩
      · exact .inl (by rw [beq_eq_false_iff_ne]; exact h1)
    clear h11
    by_cases hea : ea = 0
    · subst hea
      by_cases heb : eb = 0
      · subst heb
        have hc := HJ.out.2.2 rfl rfl
        injection hc with hc1 hc2
        injection hc2 with hc2 hc3
        subst hc1 hc2 hc3
        clear HJ b11
        have HRN : Hid (Rows w6.heap.size w6 (.slice none 0 0) []) := Lib.hid ⟨rfl, .inl ⟨rfl, rfl⟩⟩
        go_upto_region 24 with (at_builtin; go_loud (refine wpList_rows w6 rfl _ _ rfl w6.heap.size (.slice none 0 0) [] rfl HRN.out (Nat.le_refl _) A1 la k1 rfl HR1.out HZ1.out (by have := HLN.out; simp; omega) ?_); intro v7 w7 hv7 hb7)
        rw [List.nil_append] at hv7
        have HB67 := Lib.hid hb7
        have HR2 := Lib.hid (HR2.out.keep hb7)
        have HV7 := Lib.hid hv7
        have HS7 := Lib.hid hb7.size
        obtain ⟨A7, k7, rfl⟩ := own_shapeN (show World.ownsRow w7 w6.heap.size RowT 3 v7 la.length (rowcells la) from hv7)
        clear hv7 hb7 HR1 HZ1 HRN
        go_upto_region 25 with (at_builtin; go_loud (refine wpList_rows w7 rfl _ _ rfl w6.heap.size (.slice A7 la.length k7) la rfl HV7.out HS7.out A2 lb k2 rfl HR2.out HZ2.out (by have := HLN.out; omega) ?_); intro v8 w8 hv8 hb8)
        have HB68 := Lib.hid (HB67.out.trans hb8)
        have HB8 := Lib.hid (HB6.out.trans (HB68.out.mono HB6.out.size))
        have HR3 := Lib.hid (HR3.out.keep HB68.out)
        obtain ⟨A8, k8, rfl, hrd8, _⟩ := hv8.rd
        have HR8 := Lib.hid hrd8
        have HAL := Lib.hid (alike_at w A3 A8 k3 k8 (la ++ lb) (by have := HLN.out; rw [List.length_append]; omega) w8 HB8.out HR3.out HR8.out)
        rw [List.length_append] at HAL
        clear hv8 hb8 HB67 HR2 HV7 HS7 HZ2 hrd8 HR3 HR8 HB68
        go_wp2_with fail
        refine HAL.out.mono ?_
        rintro _ w9 ⟨rfl, hb9⟩
        go_wp2_with fail
        refine (HAW.out w9 hb9).mono ?_
        rintro _ w10 ⟨rfl, hb10⟩
        go_wp2_with fail
        go_returns
        exact ⟨rfl, hb10⟩
      · have hc := HJ.out.2.1 rfl heb
        injection hc with hc1 hc2
        injection hc2 with hc2 hc3
        subst hc1 hc2 hc3
        have b1 : (ec != 0) = true := by simpa using heb
        have b2 : (ec == ec) = true := beq_self_eq_true ec
        clear HJ HR1 HR2 HR3 HZ1 HZ2 heb
        rcases b11 with b11 | ⟨b11, b12⟩ <;> (
          go_wp2_with fail
          go_loop [20, 21] (fun vl vp => ∃ p : Nat, p ≤ s.size ∧ vp = .int .i64 p ∧ vl = .int .i64 (((s.data.toList.take p).count 10 + 1 : Nat) : Int)) (fun _ vp => s.size - (RowKit.intOf vp).toNat)
          case atStart => exact ⟨0, Nat.zero_le _, rfl, rfl⟩
          case round =>
            obtain ⟨i, hi, rfl, rfl⟩ := hrel
            by_cases hlt : i < s.size
            · have d1 : decide ((i : Int) < (s.size : Int)) = true := decide_eq_true (by omega)
              have j0 : (0 : Int) ≤ (i : Int) := by omega
              have j1 : (i : Int) < (s.size : Int) := by omega
              have hkw : IntKind.i64.wrap ((i : Int) + 1) = (i : Int) + 1 := IntWalk.i64_in _ (by have := HLN.out; omega)
              have hct := List.count_le_length (a := (10 : UInt8)) (l := s.data.toList.take i)
              rw [List.length_take, bl] at hct
              have hstep : (s.data.toList.take (i + 1)).count 10 = (s.data.toList.take i).count 10 + if s[i] = 10 then 1 else 0 := by
                rw [List.take_succ_eq_append_getElem (by rw [bl]; exact hlt), List.count_append, b_at s i hlt]
                congr 1
                by_cases h : s[i] = 10
                · rw [if_pos h, h]; rfl
                · rw [if_neg h, List.count_singleton, if_neg (by simpa using fun e => h e)]
              obtain ⟨m, hm⟩ : ∃ m, (s.data.toList.take i).count 10 = m := ⟨_, rfl⟩
              rw [hm] at hstep hct ⊢
              have hnw : IntKind.i64.wrap (((m + 1 : Nat) : Int) + 1) = ((m + 1 : Nat) : Int) + 1 := IntWalk.i64_in _ (by have := HLN.out; omega)
              have hnw2 : IntKind.i64.wrap ((m : Int) + 1 + 1) = (m : Int) + 1 + 1 := IntWalk.i64_in _ (by have := HLN.out; omega)
              have HST := Lib.hid hstep
              clear hstep hm hct
              by_cases h10 : s[i] = 10
              · have b1 : ((s[i].toNat : Int) == 10) = true := by rw [h10]; rfl
                have hst := HST.out
                rw [if_pos h10] at hst
                have HST2 := Lib.hid hst
                clear h10 hst HST
                go_wp2_with fail
                go_round
                case rel => exact ⟨i + 1, by omega, by go_num, by rw [HST2.out]; go_num⟩
                case measure => simp [RowKit.intOf]; omega
              · have b1 : ((s[i].toNat : Int) == 10) = false := by
                  rw [beq_eq_false_iff_ne]
                  intro h
                  exact h10 (UInt8.toNat_inj.1 (by have : (10 : UInt8).toNat = 10 := rfl; omega))
                have hst := HST.out
                rw [if_neg h10] at hst
                have HST2 := Lib.hid hst
                clear h10 hst HST
                go_wp2_with fail
                go_round
                case rel => exact ⟨i + 1, by omega, by go_num, by rw [HST2.out]⟩
                case measure => simp [RowKit.intOf]; omega
            · obtain rfl : i = s.size := by omega
              have d1 : decide ((s.size : Int) < (s.size : Int)) = false := decide_eq_false (by omega)
              have hcl2 : (List.take s.size s.data.toList).count 10 + 1 = (cutL s.data.toList).length := by rw [List.take_of_length_le (by rw [bl]; exact Nat.le_refl _), cutL_len]
              have hmx := cutL_len_le s.data.toList
              rw [bl] at hmx
              rw [hcl2]
              obtain ⟨m, hm⟩ : ∃ m, (cutL s.data.toList).length = m := ⟨_, rfl⟩
              rw [hm] at hmx ⊢
              have hw : IntKind.i64.wrap (ib + (m : Int)) = ib + (m : Int) := IntWalk.i64_in _ (by have := HLN.out; have := HIB.out; omega)
              have b3 : (ib + (m : Int) == ib + (m : Int)) = true := beq_self_eq_true _
              clear hcl2 hmx hm hlt
              go_wp2_with fail
              refine (HAW.out w6 HB6.out).mono ?_
              rintro _ w7 ⟨rfl, hb7⟩
              go_wp2_with fail
              go_returns
              exact ⟨rfl, hb7⟩)
    · have hc := HJ.out.1 hea
      injection hc with hc1 hc2
      injection hc2 with hc2 hc3
      subst hc1 hc2 hc3
      have b1 : (ec != 0) = true := by simpa using hea
      have b2 : (ec == ec) = true := beq_self_eq_true ec
      have b3 : (ic == ic) = true := beq_self_eq_true ic
      clear HJ HR1 HR2 HR3 HZ1 HZ2 hea
      rcases b11 with b11 | ⟨b11, b12⟩ <;> (
        go_wp2_with fail
        refine (HAW.out w6 HB6.out).mono ?_
        rintro _ w7 ⟨rfl, hb7⟩
        go_wp2_with fail
        go_returns
        exact ⟨rfl, hb7⟩)
end Go.Proofs.YtopaoejapnakiaaGreatDoor.Mf
