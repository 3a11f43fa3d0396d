/- The statements of layer 2: the examples, WideNext. -/
import Derived.Test.YtlfhmkjomogkiaaWf
namespace Go.Proofs.Ytlfhmkjomogkiaa
open Go.RowKit Pl

theorem awake_any (w : World) : Calls Try.prog 11 #[] w fun e w' => e = .returned (.bool true) ∧ Below w.heap.size w w' := by
  have e1 : kenc 2 [128512] = ([216, 61, 222, 0], 0) := by decide
  have e2 : knext 1 [0, 220] = (0, 2, 17) := by decide
  have e3 : knext 1 [61, 216, 0] = (0, 3, 18) := by decide
  have e4 : wguess [255, 254, 65, 0] = (1, 2) := by decide
  have H1 : Hid (∀ (w : World) A c, Rd w A 1 (i32s [128512]) → Calls Try.prog 15 #[.int .i64 2, .slice A 1 c] w fun e w' => e = .returned (.tuple #[.string ⟨#[216, 61, 222, 0]⟩, .int .i64 0]) ∧ Below w.heap.size w w') := by
    intro w A c h; have := encode_any 2 A 1 c [128512] (by decide) w h; rw [e1] at this; exact this
  have H2 : Hid (∀ (w : World), Calls Try.prog 12 #[.int .i64 1, .string ⟨#[0, 220]⟩] w fun e w' => e = .returned (.tuple #[.int .i32 0, .int .i64 2, .int .i64 17]) ∧ Below w.heap.size w w') := by
    intro w; have := wideNext_any 1 ⟨#[0, 220]⟩ (by decide) w; rw [show (⟨#[0, 220]⟩ : ByteArray).data.toList = [0, 220] from rfl, e2] at this; exact this
  have H3 : Hid (∀ (w : World), Calls Try.prog 12 #[.int .i64 1, .string ⟨#[61, 216, 0]⟩] w fun e w' => e = .returned (.tuple #[.int .i32 0, .int .i64 3, .int .i64 18]) ∧ Below w.heap.size w w') := by
    intro w; have := wideNext_any 1 ⟨#[61, 216, 0]⟩ (by decide) w; rw [show (⟨#[61, 216, 0]⟩ : ByteArray).data.toList = [61, 216, 0] from rfl, e3] at this; exact this
  have H4 : Hid (∀ (w : World), Calls Try.prog 19 #[.string ⟨#[255, 254, 65, 0]⟩] w fun e w' => e = .returned (.tuple #[.int .i64 1, .int .i64 2]) ∧ Below w.heap.size w w') := by
    intro w; have := guess_any ⟨#[255, 254, 65, 0]⟩ w; rw [show (⟨#[255, 254, 65, 0]⟩ : ByteArray).data.toList = [255, 254, 65, 0] from rfl, e4] at this; exact this
  clear e1 e2 e3 e4
  go_enter Try.func11, Try.ntmps11
  go_wp2_with fail
  refine (H1.out _ _ _ (Rd.of_new _ _ [.int .i32 128512] 1 rfl)).mono ?_
  rintro e w1 ⟨rfl, hb1⟩
  have hb1' : Below w.heap.size w w1 := below_via hb1 (by go_grown) (by simp)
  clear hb1
  go_wp2_with fail
  refine (H2.out _).mono ?_
  rintro e w2 ⟨rfl, hb2⟩
  go_wp2_with fail
  refine (H3.out _).mono ?_
  rintro e w3 ⟨rfl, hb3⟩
  go_wp2_with fail
  refine (H4.out _).mono ?_
  rintro e w4 ⟨rfl, hb4⟩
  go_wp2_with fail
  go_returns
  have h2 := hb1'.trans (hb2.mono hb1'.size)
  have h3 := h2.trans (hb3.mono h2.size)
  exact ⟨rfl, h3.trans (hb4.mono h3.size)⟩

theorem wideNext_law (k : Int) (s : ByteArray) (hm : s.size ≤ maxLen) (w : World) :
    Calls Try.prog 3 #[.int .i64 k, .string s] w fun e w' => e = .returned (.bool true) ∧ Below w.heap.size w w' := by
  have HA := Lib.hid awake_any
  have HN := Lib.hid (wideNext_any k s hm)
  have HM := Lib.hid (may_any k)
  unfold maxLen at hm
  by_cases h4 : 400 < s.size
  · have i1 : (400 : Int) < s.size := by omega
    go_enter Try.func3, Try.ntmps3
    go_wp2_with (go_at_call 11; refine (HA.out _).mono ?_; rintro e w1 ⟨rfl, hb1⟩)
    go_returns
    exact ⟨rfl, hb1⟩
  · have i1 : decide ((400 : Int) < s.size) = false := by simp; omega
    by_cases hk : 1 ≤ k ∧ k ≤ 4
    · have HR := Lib.hid (refNext_any k hk.1 hk.2 s hm)
      rw [decide_eq_true hk] at HM
      obtain ⟨x, hx⟩ : ∃ x, knext k s.data.toList = x := ⟨_, rfl⟩
      rw [hx] at HN HR
      obtain ⟨r, n, f⟩ := x
      clear hk hx h4
      go_enter Try.func3, Try.ntmps3
      go_wp2_with (first
        | (go_at_call 11; refine (HA.out _).mono ?_; rintro e w3 ⟨rfl, hb3⟩)
        | (go_at_call 12; refine (HN.out _).mono ?_; rintro e w1 ⟨he, hb1⟩; rw [nextEnd] at he; subst he)
        | (go_at_call 13; refine (HM.out _).mono ?_; rintro e w' ⟨rfl, rfl⟩)
        | (go_at_call 14; refine (HR.out _).mono ?_; rintro e w2 ⟨he, rfl⟩; rw [nextEnd] at he; subst he))
      go_returns
      exact ⟨rfl, hb1.trans (hb3.mono hb1.size)⟩
    · rw [decide_eq_false hk] at HM
      rw [show knext k s.data.toList = (0, 0, 16) from if_neg hk] at HN
      clear hk h4
      go_enter Try.func3, Try.ntmps3
      go_wp2_with (first
        | (go_at_call 11; refine (HA.out _).mono ?_; rintro e w3 ⟨rfl, hb3⟩)
        | (go_at_call 12; refine (HN.out _).mono ?_; rintro e w1 ⟨he, hb1⟩; rw [nextEnd] at he; subst he)
        | (go_at_call 13; refine (HM.out _).mono ?_; rintro e w' ⟨rfl, rfl⟩))
      go_returns
      exact ⟨rfl, hb1.trans (hb3.mono hb1.size)⟩
end Go.Proofs.Ytlfhmkjomogkiaa
