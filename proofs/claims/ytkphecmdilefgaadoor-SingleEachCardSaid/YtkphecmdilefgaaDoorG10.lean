/- Walk: inkhornref17.Wrong. -/
import Derived.Test.YtkphecmdilefgaaDoorG10a
namespace Go.Proofs.YtkphecmdilefgaaDoor.Sg
open Go.RowKit Pl Go.Lib

set_option maxRecDepth 100000 in
set_option maxHeartbeats 40000000 in
theorem wrong17_any (A : Option Addr) (c : Nat) (l : List RRow) (w : World) (hR : RefsAt w A l) (hF : fitR l) (hn : l.length ≤ 1048576) :
    Calls Tryd.prog 22 #[.slice A l.length c] w fun e w' => e = .returned (.tuple #[.int .i64 (wrong17 l).1, .int .i64 (wrong17 l).2]) ∧ Below w.heap.size w w' := by
  obtain ⟨Z, hZ⟩ : ∃ Z, wrong17 l = Z := ⟨_, rfl⟩
  rw [hZ]
  unfold wrong17 at hZ
  have HR := Lib.hid hR
  have HF := Lib.hid hF
  clear hR hF
  by_cases h4 : 4096 < l.length
  · rw [if_pos h4] at hZ
    subst hZ
    have i1 : decide ((4096 : Int) < (l.length : Int)) = true := decide_eq_true (by omega)
    clear h4
    go_enter Tryd.func22, Tryd.ntmps22
    go_wp2
    go_returns
    exact ⟨rfl, Below.refl _ _⟩
  · rw [if_neg h4] at hZ
    have i1 : decide ((4096 : Int) < (l.length : Int)) = false := decide_eq_false (by omega)
    clear h4
    have HZ : Hid (wrongGo (l.take 0) (l.drop 0) = Z) := Lib.hid hZ
    clear hZ
    go_enter Tryd.func22, Tryd.ntmps22
    go_wp2
    go_loopw [4] (fun vi wr => ∃ i : Nat, i ≤ l.length ∧ vi = .int .i64 i ∧ wrongGo (l.take i) (l.drop i) = Z ∧ Below w.heap.size w wr) (fun vi _ => l.length - (intOf vi).toNat)
    case atStart => exact ⟨0, Nat.zero_le _, rfl, HZ.out, Below.refl _ _⟩
    case round =>
      obtain ⟨i, hi, rfl, hz, hb⟩ := hrel
      have HB := Lib.hid hb
      by_cases hlt : i < l.length
      · rw [go_at l i hlt] at hz
        obtain ⟨bk, o, v, rfl, hbk, c0, c1, c2, htx⟩ := (HR.out.keep hb).at_ hlt
        have hfr := HF.out l[i] (List.getElem_mem hlt)
        obtain ⟨r, hr⟩ : ∃ r, l[i] = r := ⟨_, rfl⟩
        rw [hr] at hz c0 c2 htx hfr
        obtain ⟨code, text, flag⟩ := r
        have hw := wrong13_any code v text flag wr htx (by have := hfr.1; unfold maxLen; show code.size ≤ _; simp at this; omega) hfr.2.1 hfr.2.2
        have HW := Lib.hid hw
        have HT := Lib.hid htx
        have HFR := Lib.hid hfr
        have HRR := Lib.hid hr
        have HZI := Lib.hid hz
        obtain ⟨At, ct, rfl, _⟩ := htx.rd
        clear hw htx hfr hr hz hb
        go_wp2_with fail
        refine HW.out.mono ?_
        rintro _ w1 ⟨rfl, hb1⟩
        have HB1 := Lib.hid (HB.out.trans (hb1.mono HB.out.size))
        have HT1 := Lib.hid (HT.out.keep hb1)
        have HR1 := Lib.hid ((HR.out.keep HB.out).keep hb1)
        have d0 := (hb1.cell (p := ⟨bk, o + i * 3, none⟩) hbk).trans c0
        have d1 := (hb1.cell (p := ⟨bk, o + i * 3 + 1, none⟩) hbk).trans c1
        have d2 := (hb1.cell (p := ⟨bk, o + i * 3 + 2, none⟩) hbk).trans c2
        have hbk1 : bk < w1.heap.size := Nat.lt_of_lt_of_le hbk hb1.size
        have hE1 : rowErr1 ⟨code, text, flag⟩ = if wrong13 ⟨code, text, flag⟩ = 0 ∧ 18 < (nfd text).length then 11 else wrong13 ⟨code, text, flag⟩ := rfl
        have hRE : rowErr (l.take i) ⟨code, text, flag⟩ = if rowErr1 ⟨code, text, flag⟩ ≠ 0 then rowErr1 ⟨code, text, flag⟩ else if flag = 1 then 0 else if (l.take i).any (sameC ⟨code, text, flag⟩) = true then 12 else if (l.take i).any (preC ⟨code, text, flag⟩) = true then 10 else 0 := rfl
        have HK := Lib.hid (key_any code (.slice At text.length ct) text flag w1 HT1.out HFR.out.2.1)
        clear hb1 c0 c1 c2 hbk HW HT HB
        generalize wrong13 ⟨code, text, flag⟩ = E0 at *
        by_cases h0 : E0 = 0
        · subst h0
          go_wp2_with fail
          refine HK.out.mono ?_
          rintro _ w2 ⟨v2, rfl, ho2, hb2⟩
          obtain ⟨A2, c2', rfl, _⟩ := TextAt.rd (text_of_own ho2)
          have HB2 := Lib.hid (HB1.out.trans (hb2.mono HB1.out.size))
          have g0 := (hb2.cell (p := ⟨bk, o + i * 3, none⟩) hbk1).trans d0
          have g1 := (hb2.cell (p := ⟨bk, o + i * 3 + 1, none⟩) hbk1).trans d1
          have g2 := (hb2.cell (p := ⟨bk, o + i * 3 + 2, none⟩) hbk1).trans d2
          have HR2 := Lib.hid (HR1.out.keep hb2)
          clear ho2 hb2 d0 d1 d2 HK HT1 HR1 HB1
          by_cases hn18 : 18 < (nfd text).length
          · have n1 : decide ((18 : Int) < ((nfd text).length : Int)) = true := decide_eq_true (by omega)
            rw [if_pos ⟨by first | rfl | trivial, hn18⟩] at hE1
            rw [hE1, if_pos (by decide)] at hRE
            have HRE := Lib.hid hRE
            clear hRE hE1 hn18
            go_wp2_with fail

            go_loopw [5, 6] (fun ve vk wr => ve = .int .i64 11 ∧ vk = .int .i64 0 ∧ Drew w2 wr) (fun _ _ _ => 0)
            case atStart => exact ⟨rfl, rfl, 0, rfl⟩
            case round =>
              obtain ⟨rfl, rfl, m, rfl⟩ := hrel
              go_wp2_with fail
              all_goals
                go_loopw [5, 7] (fun ve vk wr => ve = .int .i64 11 ∧ vk = .int .i64 0 ∧ Drew w2 wr) (fun _ _ _ => 0)
                case atStart => exact ⟨rfl, rfl, m, rfl⟩
                case round =>
                  obtain ⟨rfl, rfl, m, rfl⟩ := hrel
                  go_wp2_with fail
                  all_goals
                    go_returns
                    exact ⟨by rw [← HZI.out, if_pos (by rw [HRE.out]; decide), HRE.out]; rfl, bdN HB2.out _⟩
          · have n1 : decide ((18 : Int) < ((nfd text).length : Int)) = false := decide_eq_false (by omega)
            rw [if_neg (by omega)] at hE1
            rw [hE1, if_neg (by decide)] at hRE
            clear hE1 hn18
            by_cases hf : flag = 1
            · have f1 : (flag != 1) = false := by simp [hf]
              rw [if_pos hf] at hRE
              have HRE := Lib.hid hRE
              clear hRE hf
              go_wp2_with fail

              go_loopw [5, 6] (fun ve vk wr => ve = .int .i64 0 ∧ vk = .int .i64 0 ∧ Drew w2 wr) (fun _ _ _ => 0)
              case atStart => exact ⟨rfl, rfl, 0, rfl⟩
              case round =>
                obtain ⟨rfl, rfl, m, rfl⟩ := hrel
                go_wp2_with fail
                all_goals
                  go_loopw [5, 7] (fun ve vk wr => ve = .int .i64 0 ∧ vk = .int .i64 0 ∧ Drew w2 wr) (fun _ _ _ => 0)
                  case atStart => exact ⟨rfl, rfl, m, rfl⟩
                  case round =>
                    obtain ⟨rfl, rfl, m, rfl⟩ := hrel
                    go_wp2_with fail
                    all_goals
                      go_roundw
                      case rel => exact ⟨i + 1, by omega, by go_num, by rw [← HZI.out, if_neg (by rw [HRE.out]; decide)], bdN HB2.out _⟩
                      case measure => simp [intOf]; omega
            · have f1 : (flag != 1) = true := by simp [hf]
              rw [if_neg hf] at hRE
              have HRE := Lib.hid hRE
              clear hRE hf
              go_wp2_with fail
              go_loopw [5, 6] (fun ve vk wr => ∃ k : Nat, k ≤ i ∧ vk = .int .i64 k ∧ ((ve = .int .i64 0 ∧ (l.take k).any (sameC ⟨code, text, flag⟩) = false) ∨ (ve = .int .i64 12 ∧ (l.take i).any (sameC ⟨code, text, flag⟩) = true)) ∧ Drew w2 wr) (fun _ vk _ => i - (intOf vk).toNat)
              case atStart => exact ⟨0, Nat.zero_le _, rfl, .inl ⟨rfl, rfl⟩, 0, rfl⟩
              case round =>
                obtain ⟨k, hk, rfl, hcase, m, rfl⟩ := hrel
                rcases hcase with ⟨rfl, hany⟩ | ⟨rfl, hany⟩
                · by_cases hki : k < i
                  · have p1 : decide ((k : Int) < (i : Int)) = true := decide_eq_true (by omega)
                    have hkl : k < l.length := by omega
                    obtain ⟨bk2, o2, v2, hA2, hbk2, q0, q1, q2, htx2⟩ := HR2.out.at_ hkl
                    injection hA2 with hA2
                    injection hA2 with e1 e2
                    subst e1 e2
                    have hsn := any_snoc (sameC ⟨code, text, flag⟩) l k hkl
                    have hmono : sameC ⟨code, text, flag⟩ l[k] = true → (l.take i).any (sameC ⟨code, text, flag⟩) = true := fun h => by
                      rw [List.any_eq_true]; exact ⟨l[k], List.mem_take_of_lt l k i hkl hki, h⟩
                    have HM := Lib.hid hmono
                    obtain ⟨q, hq⟩ : ∃ q, l[k] = q := ⟨_, rfl⟩
                    rw [hq] at q0 q2 hsn HM
                    obtain ⟨qc, qt, qf⟩ := q
                    rw [hany, Bool.false_or] at hsn
                    have hsd : sameC ⟨code, text, flag⟩ ⟨qc, qt, qf⟩ = ((qf != 1) && (qc.toList == code.toList)) := rfl
                    have HSN := Lib.hid hsn
                    clear hq hmono hsn hany q1 htx2 hbk2
                    have j0 : (0 : Int) ≤ (k : Int) := by omega
                    have j1 : (k : Int) < (l.length : Int) := by omega
                    have j2 : (0 : Int) ≤ (i : Int) := by omega
                    have j3 : (i : Int) < (l.length : Int) := by omega
                    cases hqf : (qf != 1)
                    · rw [hqf] at hsd
                      have HSD : Hid (sameC ⟨code, text, flag⟩ ⟨qc, qt, qf⟩ = false) := Lib.hid hsd
                      clear hsd
                      go_wp2_with fail
                      go_quiet (fail)
                      go_wp2_with fail
                      go_roundw
                      case rel => exact ⟨k + 1, by omega, by go_num, .inl ⟨rfl, by rw [HSN.out]; exact HSD.out⟩, _, by first | rfl | exact World.drewN_drewN _ _ _⟩
                      case measure => simp [intOf]; omega
                    · rw [hqf, Bool.true_and] at hsd
                      cases hqe : (qc.toList == code.toList)
                      · rw [hqe] at hsd
                        have HSD : Hid (sameC ⟨code, text, flag⟩ ⟨qc, qt, qf⟩ = false) := Lib.hid hsd
                        clear hsd
                        go_wp2_with fail
                        go_quiet (fail)
                        go_wp2_with fail
                        go_roundw
                        case rel => exact ⟨k + 1, by omega, by go_num, .inl ⟨rfl, by rw [HSN.out]; exact HSD.out⟩, _, by first | rfl | exact World.drewN_drewN _ _ _⟩
                        case measure => simp [intOf]; omega
                      · rw [hqe] at hsd
                        have HSD : Hid ((l.take i).any (sameC ⟨code, text, flag⟩) = true) := Lib.hid (HM.out hsd)
                        clear hsd
                        go_wp2_with fail
                        go_quiet (fail)
                        go_wp2_with fail
                        go_roundw
                        case rel => exact ⟨k + 1, by omega, by go_num, .inr ⟨rfl, HSD.out⟩, _, by first | rfl | exact World.drewN_drewN _ _ _⟩
                        case measure => simp [intOf]; omega
                  · obtain rfl : i = k := by omega
                    have p1 : decide ((i : Int) < (i : Int)) = false := decide_eq_false (by omega)
                    have HRE3 : Hid (rowErr (l.take i) ⟨code, text, flag⟩ = if (l.take i).any (preC ⟨code, text, flag⟩) = true then 10 else 0) := Lib.hid (by rw [HRE.out, if_neg (by rw [hany]; decide)])
                    clear hany p1 HRE
                    go_wp2_with fail
                    go_loopw [5, 7] (fun ve vk wr => ∃ k : Nat, k ≤ i ∧ vk = .int .i64 k ∧ ((ve = .int .i64 0 ∧ (l.take k).any (preC ⟨code, text, flag⟩) = false) ∨ (ve = .int .i64 10 ∧ (l.take i).any (preC ⟨code, text, flag⟩) = true)) ∧ Drew w2 wr) (fun _ vk _ => i - (intOf vk).toNat)
                    case atStart => exact ⟨0, Nat.zero_le _, rfl, .inl ⟨rfl, rfl⟩, m, rfl⟩
                    case round =>
                      obtain ⟨k, hk, rfl, hcase, m, rfl⟩ := hrel
                      rcases hcase with ⟨rfl, hany⟩ | ⟨rfl, hany⟩
                      · by_cases hki : k < i
                        · have p1 : decide ((k : Int) < (i : Int)) = true := decide_eq_true (by omega)
                          have hkl : k < l.length := by omega
                          obtain ⟨bk2, o2, v2, hA2, hbk2, q0, q1, q2, htx2⟩ := HR2.out.at_ hkl
                          injection hA2 with hA2
                          injection hA2 with e1 e2
                          subst e1 e2
                          have hsn := any_snoc (preC ⟨code, text, flag⟩) l k hkl
                          have hmono : preC ⟨code, text, flag⟩ l[k] = true → (l.take i).any (preC ⟨code, text, flag⟩) = true := fun h => by
                            rw [List.any_eq_true]; exact ⟨l[k], List.mem_take_of_lt l k i hkl hki, h⟩
                          have HM := Lib.hid hmono
                          have hfq := (HF.out l[k] (List.getElem_mem hkl)).1
                          obtain ⟨q, hq⟩ : ∃ q, l[k] = q := ⟨_, rfl⟩
                          rw [hq] at q0 q2 hsn HM hfq
                          obtain ⟨qc, qt, qf⟩ := q
                          rw [hany, Bool.false_or] at hsn
                          have hsd : preC ⟨code, text, flag⟩ ⟨qc, qt, qf⟩ = ((qf != 1) && (preB qc code || preB code qc)) := rfl
                          have HSN := Lib.hid hsn
                          have hfc := HFR.out.1
                          have hqs : qc.size ≤ maxLen := by unfold maxLen; show qc.size ≤ _; simp at hfq; omega
                          have hcs : code.size ≤ maxLen := by unfold maxLen; omega
                          clear hq hmono hsn hany q1 htx2 hbk2 hfq hfc
                          have j0 : (0 : Int) ≤ (k : Int) := by omega
                          have j1 : (k : Int) < (l.length : Int) := by omega
                          have j2 : (0 : Int) ≤ (i : Int) := by omega
                          have j3 : (i : Int) < (l.length : Int) := by omega
                          cases hqf : (qf != 1)
                          · rw [hqf] at hsd
                            have HSD : Hid (preC ⟨code, text, flag⟩ ⟨qc, qt, qf⟩ = false) := Lib.hid hsd
                            clear hsd hqs hcs
                            go_wp2_with fail
                            go_quiet (fail)
                            go_wp2_with fail
                            go_roundw
                            case rel => exact ⟨k + 1, by omega, by go_num, .inl ⟨rfl, by rw [HSN.out]; exact HSD.out⟩, _, by first | rfl | exact World.drewN_drewN _ _ _⟩
                            case measure => simp [intOf]; omega
                          · rw [hqf, Bool.true_and] at hsd
                            cases hp1 : preB qc code
                            · cases hp2 : preB code qc
                              · rw [hp1, hp2] at hsd
                                have HSD : Hid (preC ⟨code, text, flag⟩ ⟨qc, qt, qf⟩ = false) := Lib.hid hsd
                                clear hsd
                                go_wp2_with fail
                                go_quiet ((go_at_call 38; refine (begins_any _ _ (by assumption) (by assumption) _).mono ?_; rintro _ _ ⟨rfl, rfl⟩; exact ⟨rfl, _, rfl⟩))
                                go_wp2_with fail
                                go_roundw
                                case rel => exact ⟨k + 1, by omega, by go_num, .inl ⟨rfl, by rw [HSN.out]; exact HSD.out⟩, _, by first | rfl | exact World.drewN_drewN _ _ _⟩
                                case measure => simp [intOf]; omega
                              · rw [hp1, hp2] at hsd
                                have HSD : Hid ((l.take i).any (preC ⟨code, text, flag⟩) = true) := Lib.hid (HM.out hsd)
                                clear hsd
                                go_wp2_with fail
                                go_quiet ((go_at_call 38; refine (begins_any _ _ (by assumption) (by assumption) _).mono ?_; rintro _ _ ⟨rfl, rfl⟩; exact ⟨rfl, _, rfl⟩))
                                go_wp2_with fail
                                go_roundw
                                case rel => exact ⟨k + 1, by omega, by go_num, .inr ⟨rfl, HSD.out⟩, _, by first | rfl | exact World.drewN_drewN _ _ _⟩
                                case measure => simp [intOf]; omega
                            · rw [hp1] at hsd
                              have HSD : Hid ((l.take i).any (preC ⟨code, text, flag⟩) = true) := Lib.hid (HM.out hsd)
                              clear hsd
                              go_wp2_with fail
                              go_quiet ((go_at_call 38; refine (begins_any _ _ (by assumption) (by assumption) _).mono ?_; rintro _ _ ⟨rfl, rfl⟩; exact ⟨congrArg (fun b => Ending.returned (.bool b)) hp1, _, rfl⟩))
                              go_wp2_with fail
                              go_roundw
                              case rel => exact ⟨k + 1, by omega, by go_num, .inr ⟨rfl, HSD.out⟩, _, by first | rfl | exact World.drewN_drewN _ _ _⟩
                              case measure => simp [intOf]; omega
                        · obtain rfl : i = k := by omega
                          have p1 : decide ((i : Int) < (i : Int)) = false := decide_eq_false (by omega)
                          have HRE4 : Hid (rowErr (l.take i) ⟨code, text, flag⟩ = 0) := Lib.hid (by rw [HRE3.out, if_neg (by rw [hany]; decide)])
                          clear hany p1
                          go_wp2_with fail
                          go_roundw
                          case rel => exact ⟨i + 1, by omega, by go_num, by rw [← HZI.out, if_neg (by rw [HRE4.out]; decide)], bdN HB2.out _⟩
                          case measure => simp [intOf]; omega
                      · have HRE4 : Hid (rowErr (l.take i) ⟨code, text, flag⟩ = 10) := Lib.hid (by rw [HRE3.out, if_pos hany])
                        clear hany
                        go_wp2_with fail
                        all_goals
                          go_wp2_with fail
                          go_returns
                          exact ⟨by rw [← HZI.out, if_pos (by rw [HRE4.out]; decide), HRE4.out]; rfl, bdN HB2.out _⟩
                · have HRE2 : Hid (rowErr (l.take i) ⟨code, text, flag⟩ = 12) := Lib.hid (by rw [HRE.out, if_pos hany])
                  clear hany
                  go_wp2_with fail
                  all_goals
                    go_loopw [5, 7] (fun ve vk wr => ve = .int .i64 12 ∧ vk = .int .i64 0 ∧ Drew w2 wr) (fun _ _ _ => 0)
                    case atStart => exact ⟨rfl, rfl, m, rfl⟩
                    case round =>
                      obtain ⟨rfl, rfl, m, rfl⟩ := hrel
                      go_wp2_with fail
                      all_goals
                        go_returns
                        exact ⟨by rw [← HZI.out, if_pos (by rw [HRE2.out]; decide), HRE2.out]; rfl, bdN HB2.out _⟩
        · have z0 : (E0 == 0) = false := by simp [h0]
          have z1 : (E0 != 0) = true := by simp [h0]
          rw [if_neg (fun h => h0 h.1)] at hE1
          rw [hE1, if_pos h0] at hRE
          have HRE := Lib.hid hRE
          have HNZ := Lib.hid h0
          clear hRE hE1 h0
          go_wp2_with fail

          go_loopw [5, 6] (fun ve vk wr => ve = .int .i64 E0 ∧ vk = .int .i64 0 ∧ Drew w1 wr) (fun _ _ _ => 0)
          case atStart => exact ⟨rfl, rfl, 0, rfl⟩
          case round =>
            obtain ⟨rfl, rfl, m, rfl⟩ := hrel
            go_wp2_with fail
            all_goals
              go_loopw [5, 7] (fun ve vk wr => ve = .int .i64 E0 ∧ vk = .int .i64 0 ∧ Drew w1 wr) (fun _ _ _ => 0)
              case atStart => exact ⟨rfl, rfl, m, rfl⟩
              case round =>
                obtain ⟨rfl, rfl, m, rfl⟩ := hrel
                go_wp2_with fail
                all_goals
                  go_returns
                  exact ⟨by rw [← HZI.out, if_pos (by rw [HRE.out]; exact HNZ.out), HRE.out]; rfl, bdN HB1.out _⟩
      · obtain rfl : i = l.length := by omega
        rw [List.take_of_length_le (Nat.le_refl _), List.drop_eq_nil_of_le (Nat.le_refl _)] at hz
        have hz : ((0 : Int), (0 : Int)) = Z := hz
        subst hz
        clear hb
        go_wp2_with fail
        go_returns
        exact ⟨rfl, HB.out⟩
end Go.Proofs.YtkphecmdilefgaaDoor.Sg
