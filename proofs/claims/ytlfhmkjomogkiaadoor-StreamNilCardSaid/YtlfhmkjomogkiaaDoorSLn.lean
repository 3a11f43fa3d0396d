/- The statement StreamNil: its walk. -/
import Derived.Test.YtlfhmkjomogkiaaDoorSm
namespace Go.Proofs.YtlfhmkjomogkiaaDoor.Str
open Go.RowKit Pl

set_option maxRecDepth 100000 in
theorem streamNil_law (s : ByteArray) (hm : s.size ≤ maxLen) (w : World) (hRL : Utf.RL w) :
    Calls Tryd.prog 14 #[.string s] w fun e w' => e = .returned (.bool true) ∧ Below w.heap.size w w' := by
  have HA := Lib.hid awake_any
  have HF := Lib.hid feed_nil
  have HC := Lib.hid close_nil
  have HB := Lib.hid faults_nil
  have HW := Lib.hid waits_nil
  have HK := Lib.hid kind_nil
  have HT := Lib.hid at_nil
  have HRL := Lib.hid hRL
  unfold maxLen at hm
  clear hRL
  by_cases h4 : 400 < s.size
  · have i1 : (400 : Int) < s.size := by omega
    go_enter Tryd.func14, Tryd.ntmps14
    go_wp2_with (go_at_call 29; refine (HA.out _ HRL.out).mono ?_; rintro e w1 ⟨rfl, hb1⟩)
    go_returns
    exact ⟨rfl, hb1⟩
  · have i1 : decide ((400 : Int) < s.size) = false := by simp; omega
    have hb : Below w.heap.size w (w.alloc (.cells #[.string s] 9)) := (Below.refl _ _).alloc (Nat.le_refl _) _
    have HR2 := Lib.hid (HRL.out.since hb)
    have HB2 := Lib.hid hb
    clear h4 hb
    go_enter Tryd.func14, Tryd.ntmps14
    go_wp2_with (first
      | (go_at_call 29; refine (HA.out _ HR2.out).mono ?_; rintro e w3 ⟨rfl, hb3⟩)
      | (go_at_call 35; refine (HF.out _ _).mono ?_; rintro e w2 ⟨rfl, rfl⟩)
      | (go_at_call 37; refine (HC.out _).mono ?_; rintro e w2 ⟨rfl, rfl⟩)
      | (go_at_call 38; refine (HB.out _).mono ?_; rintro e w2 ⟨rfl, rfl⟩)
      | (go_at_call 36; refine (HW.out _).mono ?_; rintro e w2 ⟨rfl, rfl⟩)
      | (go_at_call 39; refine (HK.out _).mono ?_; rintro e w2 ⟨rfl, rfl⟩)
      | (go_at_call 40; refine (HT.out _).mono ?_; rintro e w2 ⟨rfl, rfl⟩))
    go_returns
    exact ⟨rfl, HB2.out.trans (hb3.mono HB2.out.size)⟩
end Go.Proofs.YtlfhmkjomogkiaaDoor.Str
