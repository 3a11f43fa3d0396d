/- The statement UtfCuts: its walk. -/
import Derived.Test.YtlfhmkjomogkiaaDoorUk
namespace Go.Proofs.YtlfhmkjomogkiaaDoor.Utf
open Go.RowKit Pl

set_option maxRecDepth 100000 in
set_option maxHeartbeats 3200000 in
theorem utfCuts_law (s : ByteArray) (hm : s.size ≤ maxLen) (w : World) (hRL : RL w) :
    Calls Tryd.prog 8 #[.string s] w fun e w' => e = .returned (.bool true) ∧ Below w.heap.size w w' := by
  have HA := Lib.hid awake_any
  have HRL := Lib.hid hRL
  have HR := Lib.hid (fun (s : ByteArray) hm => refNext_any s hm)
  have hpos : ∀ t : List UInt8, 0 < t.length → 1 ≤ (unext t).2.1 ∧ (unext t).2.1 ≤ t.length := unext_pos
  unfold maxLen at hm
  clear hRL
  by_cases h4 : 400 < s.size
  · have i1 : (400 : Int) < s.size := by omega
    go_enter Tryd.func8, Tryd.ntmps8
    go_wp2_with (go_at_call 16; refine (HA.out _ HRL.out).mono ?_; rintro e w1 ⟨rfl, hb1⟩)
    go_returns
    exact ⟨rfl, hb1⟩
  · have i1 : decide ((400 : Int) < s.size) = false := by simp; omega
    have hsz : s.size ≤ 400 := by omega
    have HC := Lib.hid (fun w h => cut_any s (by omega) w h)
    have hlm := lastMore_utf s.data.toList
    obtain ⟨cut, hcut⟩ : ∃ c, ucut s.data.toList = c := ⟨_, rfl⟩
    rw [hcut] at HC hlm
    rw [show s.data.toList.length = s.size from by simp] at hlm
    generalize unext = nx at *
    have HLM := Lib.hid hlm; have HP := Lib.hid hpos
    clear hlm hpos hcut h4
    go_enter Tryd.func8, Tryd.ntmps8
    go_wp2
    go_loop [3, 4] (fun va vc => ∃ a c : Nat, a ≤ s.size ∧ va = .int .i64 a ∧ vc = .int .i64 c ∧ lastMore nx s.size (s.data.toList.drop a) a c = cut) (fun va _ => s.size - (intOf va).toNat)
    case atStart => exact ⟨0, s.size, Nat.zero_le _, rfl, rfl, by rw [List.drop_zero]; exact HLM.out⟩
    case round =>
      obtain ⟨a, c, ha, rfl, rfl, hlm⟩ := hrel
      by_cases hlt : a < s.size
      · have hst := lastMore_step nx (fun t h => (HP.out t h).1) s.size (s.data.toList.drop a) a c (by simp; omega) (by simp)
        rw [hlm] at hst
        have hp2 := HP.out (s.data.toList.drop a) (by simp; omega)
        have hl2 : (s.data.toList.drop a).length = s.size - a := by simp
        rw [hl2] at hp2
        have HR2 := HR.out (s.extract a s.size) (by simp; unfold maxLen; omega)
        rw [Lib.extract_to_end] at HR2
        rw [List.drop_drop] at hst
        generalize nx (s.data.toList.drop a) = x at *
        obtain ⟨r, n, f⟩ := x
        have hn1 : 1 ≤ n := hp2.1
        have hn2 : n ≤ s.size - a := hp2.2
        have HST2 := Lib.hid hst; have HR3 := Lib.hid HR2
        clear hst hp2 hl2 HR2 hlm
        by_cases hf : f = 18
        · subst hf
          go_wp2_with (go_at_call 18; refine (HR3.out _).mono ?_; rintro e w' ⟨he, rfl⟩; rw [nextEnd] at he; subst he)
          go_round
          case rel => exact ⟨a + n, a, by omega, by go_num, rfl, by have h := HST2.out; rw [if_pos trivial] at h; exact h.symm⟩
          case measure => simp [intOf]; omega
        · have hf' : (f == 18) = false := by simp [hf]
          have HF := Lib.hid hf
          clear hf
          go_wp2_with (go_at_call 18; refine (HR3.out _).mono ?_; rintro e w' ⟨he, rfl⟩; rw [nextEnd] at he; subst he)
          go_round
          case rel => exact ⟨a + n, c, by omega, by go_num, rfl, by have h := HST2.out; rw [if_neg HF.out] at h; exact h.symm⟩
          case measure => simp [intOf]; omega
      · obtain rfl : a = s.size := by omega
        rw [List.drop_of_length_le (by simp), lastMore_end] at hlm
        subst hlm
        go_wp2_with fail
        refine (HC.out _ HRL.out).mono ?_
        rintro e w2 ⟨rfl, hb2⟩
        have HB2 := Lib.hid hb2
        clear hb2
        go_wp2_with (go_at_call 16; refine (HA.out _ (HRL.out.since HB2.out)).mono ?_; rintro e w3 ⟨rfl, hb3⟩)
        go_returns
        exact ⟨rfl, HB2.out.trans (hb3.mono HB2.out.size)⟩
end Go.Proofs.YtlfhmkjomogkiaaDoor.Utf
