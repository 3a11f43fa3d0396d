/- The statement UtfNext: its walk. -/
import Derived.Test.YtlfhmkjomogkiaaDoorUk
namespace Go.Proofs.YtlfhmkjomogkiaaDoor.Utf
open Go.RowKit Pl

theorem utfNext_law (s : ByteArray) (hm : s.size ≤ maxLen) (w : World) (hRL : RL w) :
    Calls Tryd.prog 3 #[.string s] w fun e w' => e = .returned (.bool true) ∧ Below w.heap.size w w' := by
  have HA := Lib.hid awake_any
  have HN := Lib.hid (fun w h => utfNext_any s hm w h)
  have HR := Lib.hid (refNext_any s hm)
  have HRL := Lib.hid hRL
  unfold maxLen at hm
  clear hRL
  by_cases h4 : 400 < s.size
  · have i1 : (400 : Int) < s.size := by omega
    go_enter Tryd.func3, Tryd.ntmps3
    go_wp2_with (go_at_call 16; refine (HA.out _ HRL.out).mono ?_; rintro e w1 ⟨rfl, hb1⟩)
    go_returns
    exact ⟨rfl, hb1⟩
  · have i1 : decide ((400 : Int) < s.size) = false := by simp; omega
    obtain ⟨x, hx⟩ : ∃ x, unext s.data.toList = x := ⟨_, rfl⟩
    rw [hx] at HN HR
    obtain ⟨r, n, f⟩ := x
    clear hx h4
    go_enter Tryd.func3, Tryd.ntmps3
    go_wp2_with (first
      | (go_at_call 16; refine (HA.out _ (HRL.out.since hb1)).mono ?_; rintro e w3 ⟨rfl, hb3⟩)
      | (go_at_call 17; refine (HN.out _ HRL.out).mono ?_; rintro e w1 ⟨he, hb1⟩; rw [nextEnd] at he; subst he)
      | (go_at_call 18; refine (HR.out _).mono ?_; rintro e w2 ⟨he, rfl⟩; rw [nextEnd] at he; subst he))
    go_returns
    exact ⟨rfl, hb1.trans (hb3.mono hb1.size)⟩
end Go.Proofs.YtlfhmkjomogkiaaDoor.Utf
