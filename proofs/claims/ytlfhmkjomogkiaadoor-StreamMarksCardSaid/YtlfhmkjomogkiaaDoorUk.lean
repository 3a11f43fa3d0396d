/- Walks: utf8.Valid, Cut; the statements' examples (awake). -/
import Derived.Test.YtlfhmkjomogkiaaDoorUj
import Derived.Test.YtlfhmkjomogkiaaDoorUi
import Derived.Test.YtlfhmkjomogkiaaDoorUg
import Derived.Test.YtlfhmkjomogkiaaDoorU3
namespace Go.Proofs.YtlfhmkjomogkiaaDoor.Utf
open Go.RowKit Pl

theorem udec1 (pol : Int) (s : ByteArray) (T : TypeId) (hs : s.size ≤ 1000000) (w : World) (hRL : RL w) :
    Calls Tryd.prog 23 #[.int .i64 pol, .slice (some ⟨w.heap.size, 0, none⟩) 1 1] (w.alloc (.cells #[.string s] T)) (DecPost (w.alloc (.cells #[.string s] T)) (udec pol s.data.toList)) := by
  have h := decode_any pol (some ⟨w.heap.size, 0, none⟩) 1 1 [s] (w.alloc (.cells #[.string s] T)) (hRL.since (by go_grown)) (Rd.of_new w T [.string s] 1 rfl) (Nat.le_refl _) (by decide) (by simp [allB]; exact hs)
  rwa [show allB [s] = s.data.toList from by simp [allB]] at h
theorem valid_any (s : ByteArray) (hs : s.size ≤ 1000000) (w : World) (hRL : RL w) :
    Calls Tryd.prog 27 #[.string s] w fun e w' => e = .returned (.bool ((udec 1 s.data.toList).2.2 == 0)) ∧ Below w.heap.size w w' := by
  have H := Lib.hid (fun T => udec1 1 s T hs w hRL)
  obtain ⟨x, hx⟩ : ∃ x, udec 1 s.data.toList = x := ⟨_, rfl⟩
  rw [hx] at H ⊢
  clear hx
  go_enter Tryd.func27, Tryd.ntmps27
  go_wp2_with fail
  refine (H.out _).mono ?_
  rintro e w1 hd
  obtain ⟨vo, vb, rfl, hst, hb⟩ := hd.since
  clear hd hst
  go_wp2
  go_returns
  exact ⟨rfl, hb⟩

set_option maxRecDepth 100000 in
set_option maxHeartbeats 3200000 in
theorem cut_any (s : ByteArray) (hm : s.size ≤ 1000000) (w : World) (hRL : RL w) :
    Calls Tryd.prog 28 #[.string s] w fun e w' => e = .returned (.int .i64 (ucut s.data.toList)) ∧ Below w.heap.size w w' := by
  have hl : s.data.toList.length = s.size := by simp
  obtain ⟨R, hR⟩ : ∃ R, ucut s.data.toList = R := ⟨_, rfl⟩
  rw [hR]
  unfold ucut at hR
  have HR := Lib.hid hR
  have HL := Lib.hid hl
  have HRL := Lib.hid hRL
  have HN := Lib.hid (fun k w h => utfNext_any (s.extract k s.size) (by simp; unfold maxLen; omega) w h)
  clear hR hl hRL
  go_enter Tryd.func28, Tryd.ntmps28
  go_wp2
  go_loopw [3] (fun k wr => ∃ j : Nat, 1 ≤ j ∧ j ≤ 4 ∧ k = .int .i64 j ∧ Below w.heap.size w wr ∧ ucutGo s.data.toList (4 - j) j = R) (fun k _ => 5 - (intOf k).toNat)
  case atStart => exact ⟨1, by omega, by omega, rfl, Below.refl _ _, HR.out⟩
  case round =>
    obtain ⟨j, hj1, hj4, rfl, hb, hgo⟩ := hrel
    by_cases h4 : j = 4
    · subst h4
      have hE : R = s.size := by rw [← hgo]; exact HL.out
      have HE := Lib.hid hE
      have HB := Lib.hid hb
      clear hgo hE hb
      go_wp2
      go_returns
      exact ⟨by rw [HE.out]; rfl, HB.out⟩
    · by_cases hjs : j ≤ s.size
      · rw [show 4 - j = (3 - j) + 1 from by omega, ucutGo_succ, HL.out, if_pos hjs, headD_drop] at hgo
        have hat : s.size - j < s.size := by omega
        have hge : s.data.toList.getD (s.size - j) 0 = s[s.size - j] := by
          rw [List.getD_eq_getElem?_getD, List.getElem?_eq_getElem (by rw [HL.out]; exact hat), Option.getD_some, byte_at s _ hat]
        rw [hge] at hgo
        obtain ⟨d, hd⟩ : ∃ d, s.size - j = d := ⟨_, rfl⟩
        have hdi : (s.size : Int) - (j : Int) = (d : Int) := by omega
        have hds : d < s.size := by omega
        subst hd
        have HLead := Lib.hid (lead_any s[s.size - j].toNat s[s.size - j].toNat_lt wr (HRL.out.since hb))
        have HGO := Lib.hid hgo
        have HB := Lib.hid hb
        have d1 : decide ((j : Int) < 4) = true := by simp; omega
        have hj3 : j ≤ 3 := by omega
        clear hgo hb h4 hge
        generalize hdd : s.size - j = d at *
        have HDD := Lib.hid hdd
        clear hdd
        by_cases hmany : 0 < uMany s[d].toNat
        · have hg := HGO.out
          rw [if_pos hmany] at hg
          have HG := Lib.hid hg
          have hm2 : (0 : Int) < uMany s[d].toNat := by omega
          unfold leadEnd at HLead
          clear hg hmany
          generalize uMany s[d].toNat = M at *
          generalize uLow s[d].toNat = L at *
          by_cases he : (unext (s.data.toList.drop d)).2.2 = 18
          · have hR : R = d := by have h := HG.out; rw [if_pos he] at h; exact h.symm
            have HN2 := Lib.hid (HN.out d)
            rw [Lib.extract_to_end] at HN2
            generalize unext (s.data.toList.drop d) = x at *
            obtain ⟨r, m, e⟩ := x
            have he' : e = 18 := he
            subst he'
            have HRR := Lib.hid hR
            clear he hR HG
            go_wp2_with fail
            refine HLead.out.mono ?_
            rintro e w1 ⟨rfl, hb1⟩
            have HB1 := Lib.hid (HB.out.trans (hb1.mono HB.out.size))
            clear hb1
            go_wp2_with fail
            refine (HN2.out _ (HRL.out.since HB1.out)).mono ?_
            rintro e w2 ⟨he, hb2⟩
            rw [nextEnd] at he
            subst he
            go_wp2
            go_returns
            exact ⟨by rw [HRR.out]; rfl, HB1.out.trans (hb2.mono HB1.out.size)⟩
          · have hR : R = s.size := by have h := HG.out; rw [if_neg he] at h; exact h.symm
            have HN2 := Lib.hid (HN.out d)
            rw [Lib.extract_to_end] at HN2
            generalize unext (s.data.toList.drop d) = x at *
            obtain ⟨r, m, e⟩ := x
            have he' : (e == 18) = false := by rw [beq_eq_false_iff_ne]; exact he
            have HRR := Lib.hid hR
            clear he hR HG
            go_wp2_with fail
            refine HLead.out.mono ?_
            rintro e w1 ⟨rfl, hb1⟩
            have HB1 := Lib.hid (HB.out.trans (hb1.mono HB.out.size))
            clear hb1
            go_wp2_with fail
            refine (HN2.out _ (HRL.out.since HB1.out)).mono ?_
            rintro e w2 ⟨he, hb2⟩
            rw [nextEnd] at he
            subst he
            go_wp2
            go_returns
            exact ⟨by rw [HRR.out]; rfl, HB1.out.trans (hb2.mono HB1.out.size)⟩
        · have hg := HGO.out
          rw [if_neg hmany, show 3 - j = 4 - (j + 1) from by omega] at hg
          have HG := Lib.hid hg
          have hm0 : uMany s[d].toNat = 0 := by omega
          unfold leadEnd at HLead
          rw [hm0] at HLead
          clear hg hmany hm0
          generalize uLow s[d].toNat = L at *
          go_wp2_with fail
          refine HLead.out.mono ?_
          rintro e w1 ⟨rfl, hb1⟩
          have HB1 := Lib.hid (HB.out.trans (hb1.mono HB.out.size))
          clear hb1
          go_wp2
          go_roundw
          case rel => exact ⟨j + 1, by omega, by omega, by go_num, HB1.out, HG.out⟩
          case measure => simp [intOf]; omega
      · rw [show 4 - j = (3 - j) + 1 from by omega, ucutGo_succ, HL.out, if_neg hjs] at hgo
        have HE := Lib.hid hgo
        have HB := Lib.hid hb
        clear hgo hb
        go_wp2
        go_returns
        exact ⟨by rw [← HE.out]; rfl, HB.out⟩

theorem awake_any (w : World) (hRL : RL w) : Calls Tryd.prog 16 #[] w fun e w' => e = .returned (.bool true) ∧ Below w.heap.size w w' := by
  have e1 : uenc [233, 8364] = ([195, 169, 226, 130, 172], 0) := by decide
  have e2 : unext [226, 130] = (0, 2, 18) := by decide
  have e3 : unext [226, 40] = (0, 1, 17) := by decide
  have e4 : udec 2 [65, 255, 226, 130] = ([65, 65533, 65533], [(1, 1), (2, 2)], 0) := by decide
  have H1 : Hid (∀ (w : World) A c, RL w → Rd w A 2 (i32s [233, 8364]) → Calls Tryd.prog 19 #[.slice A 2 c] w fun e w' => e = .returned (.tuple #[.string ⟨#[195, 169, 226, 130, 172]⟩, .int .i64 0]) ∧ Below w.heap.size w w') := by
    intro w A c h1 h; have := encode_any A 2 c [233, 8364] (by decide) w h1 h; rw [e1] at this; exact this
  have H2 : Hid (∀ (w : World), RL w → Calls Tryd.prog 17 #[.string ⟨#[226, 130]⟩] w fun e w' => e = .returned (.tuple #[.int .i32 0, .int .i64 2, .int .i64 18]) ∧ Below w.heap.size w w') := by
    intro w h1; have := utfNext_any ⟨#[226, 130]⟩ (by decide) w h1; rw [show (⟨#[226, 130]⟩ : ByteArray).data.toList = [226, 130] from rfl, e2] at this; exact this
  have H3 : Hid (∀ (w : World), RL w → Calls Tryd.prog 17 #[.string ⟨#[226, 40]⟩] w fun e w' => e = .returned (.tuple #[.int .i32 0, .int .i64 1, .int .i64 17]) ∧ Below w.heap.size w w') := by
    intro w h1; have := utfNext_any ⟨#[226, 40]⟩ (by decide) w h1; rw [show (⟨#[226, 40]⟩ : ByteArray).data.toList = [226, 40] from rfl, e3] at this; exact this
  have H4 : Hid (∀ (T : TypeId) (w : World), RL w → Calls Tryd.prog 23 #[.int .i64 2, .slice (some ⟨w.heap.size, 0, none⟩) 1 1] (w.alloc (.cells #[.string ⟨#[65, 255, 226, 130]⟩] T)) (DecPost (w.alloc (.cells #[.string ⟨#[65, 255, 226, 130]⟩] T)) ([65, 65533, 65533], [(1, 1), (2, 2)], 0))) := by
    intro T w h1; have := udec1 2 ⟨#[65, 255, 226, 130]⟩ T (by decide) w h1; rw [show (⟨#[65, 255, 226, 130]⟩ : ByteArray).data.toList = [65, 255, 226, 130] from rfl, e4] at this; exact this
  have HRL := Lib.hid hRL
  have hp := hRL.pos
  clear e1 e2 e3 e4 hRL
  go_enter Tryd.func16, Tryd.ntmps16
  go_wp2_with fail
  refine (H1.out _ _ _ (HRL.out.since (by go_grown)) (Rd.of_new w _ [.int .i32 233, .int .i32 8364] 2 rfl)).mono ?_
  rintro e w1 ⟨rfl, hb1⟩
  have HB1 : Hid (Below w.heap.size w w1) := Lib.hid (Below.since_alloc hb1)
  clear hb1
  go_wp2_with fail
  refine (H2.out _ (HRL.out.since HB1.out)).mono ?_
  rintro e w2 ⟨rfl, hb2⟩
  have HB2 := Lib.hid (HB1.out.trans (hb2.mono HB1.out.size))
  clear hb2
  go_wp2_with fail
  refine (H3.out _ (HRL.out.since HB2.out)).mono ?_
  rintro e w3 ⟨rfl, hb3⟩
  have HB3 := Lib.hid (HB2.out.trans (hb3.mono HB2.out.size))
  clear hb3
  go_wp2_with fail
  refine (H4.out _ _ (HRL.out.since HB3.out)).mono ?_
  rintro e w4 hd
  obtain ⟨A1, c1, A2, c2, rfl, r1, r2, hb4⟩ := hd.rd.since
  have HB4 := Lib.hid (HB3.out.trans (hb4.mono HB3.out.size))
  have hz4 := hb4.size
  clear hd hb4 r2
  go_wp2_with fail
  refine (runes_any A1 3 c1 [65, 65533, 65533] (some ⟨w4.heap.size, 0, none⟩) 3 3 [65, 65533, 65533] _ (r1.keep (by go_grown)) (Rd.of_new w4 _ [.int .i32 65, .int .i32 65533, .int .i32 65533] 3 rfl) (by decide)).mono ?_
  rw [decide_eq_true rfl]
  rintro e w5 ⟨rfl, hd5⟩
  have hb5 := hd5.below (w4.alloc (.cells #[.int .i32 65, .int .i32 65533, .int .i32 65533] RuneT)).heap.size
  have HB5 := Lib.hid (HB4.out.trans ((Below.since_alloc hb5).mono HB4.out.size))
  clear hd5 hb5
  go_wp2
  go_returns
  exact ⟨rfl, HB5.out⟩
end Go.Proofs.YtlfhmkjomogkiaaDoor.Utf
