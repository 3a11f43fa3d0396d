/- Walks: wide.Encode at every kind, Mark, Guess; the statements' examples (awake). -/
import Derived.Test.YtlfhmkjomogkiaaDoorWe
import Derived.LoopN
namespace Go.Proofs.YtlfhmkjomogkiaaDoor
open Go.RowKit Pl

theorem encode_any (k : Int) (A : Option Addr) (n c : Nat) (l : List Int) (hlen : l.length ≤ 100000) (w : World) (hR : Rd w A n (i32s l)) :
    Calls Tryd.prog 82 #[.int .i64 k, .slice A n c] w fun e w' => encEnd (kenc k l) e ∧ Below w.heap.size w w' := by
  unfold kenc
  by_cases hk : 1 ≤ k ∧ k ≤ 4
  · rw [if_pos hk]
    by_cases h2 : k ≤ 2
    · rw [show wsize k = 2 from by simp [wsize, h2]]; exact encode2 k hk.1 h2 A n c l hlen w hR
    · rw [show wsize k = 4 from by simp [wsize, h2]]; exact encode4 k hk.1 (by omega) hk.2 A n c l hlen w hR
  · rw [if_neg hk]
    have HO := Lib.hid (of_no k (by omega))
    clear hk hR
    go_enter Tryd.func82, Tryd.ntmps82
    go_wp2_with (go_at_call 84; refine (HO.out _).mono ?_; rintro e w1 ⟨⟨a, b, c, rfl⟩, hb1⟩)
    go_returns
    have hs1 := hb1.size
    exact ⟨rfl, by go_grown⟩

theorem mark_any (k : Int) (w : World) :
    Calls Tryd.prog 71 #[.int .i64 k] w fun e w' => e = .returned (.string ⟨(wmark k).toArray⟩) ∧ Below w.heap.size w w' := by
  unfold wmark
  have HE := Lib.hid (fun (w : World) A c h => encode_any k A 1 c [65279] (by decide) w h)
  obtain ⟨x, hx⟩ : ∃ x, kenc k [65279] = x := ⟨_, rfl⟩
  rw [hx] at HE ⊢
  clear hx
  go_enter Tryd.func71, Tryd.ntmps71
  go_wp2_with (go_at_call 82; refine (HE.out _ _ _ (Rd.of_new _ _ [.int .i32 65279] 1 rfl)).mono ?_; rintro e w1 ⟨he, hb1⟩; rw [encEnd] at he; subst he)
  go_returns
  exact ⟨rfl, below_via hb1 (by go_grown) (by simp)⟩

theorem mark_len : (wmark 3).length = 4 ∧ (wmark 4).length = 4 ∧ (wmark 1).length = 2 ∧ (wmark 2).length = 2 := by decide
def IsMark (k : Int) (m : ByteArray) : Prop := ∀ w, Calls Tryd.prog 71 #[.int .i64 k] w fun e w' => e = .returned (.string m) ∧ Below w.heap.size w w'
def IsPre (s m : ByteArray) (p : Bool) : Prop := ∀ w, Calls Tryd.prog 70 #[.string s, .string m] w fun e w' => e = .returned (.bool p) ∧ w = w'
theorem IsMark.out {k : Int} {m : ByteArray} (h : IsMark k m) : ∀ w, Calls Tryd.prog 71 #[.int .i64 k] w fun e w' => e = .returned (.string m) ∧ Below w.heap.size w w' := h
theorem IsPre.out {s m : ByteArray} {p : Bool} (h : IsPre s m p) : ∀ w, Calls Tryd.prog 70 #[.string s, .string m] w fun e w' => e = .returned (.bool p) ∧ w = w' := h

def guessOf (p3 p4 p1 p2 : Bool) (n3 n4 n1 n2 : Int) : Int × Int := if p3 then (3, n3) else if p4 then (4, n4) else if p1 then (1, n1) else if p2 then (2, n2) else (0, 0)
theorem guess_core (s m3 m4 m1 m2 : ByteArray) (p3 p4 p1 p2 : Bool) (HM3 : IsMark 3 m3) (HM4 : IsMark 4 m4) (HM1 : IsMark 1 m1) (HM2 : IsMark 2 m2)
    (HP3 : IsPre s m3 p3) (HP4 : IsPre s m4 p4) (HP1 : IsPre s m1 p1) (HP2 : IsPre s m2 p2) (w : World) :
    Calls Tryd.prog 73 #[.string s] w fun e w' =>
      e = .returned (.tuple #[.int .i64 (guessOf p3 p4 p1 p2 m3.size m4.size m1.size m2.size).1, .int .i64 (guessOf p3 p4 p1 p2 m3.size m4.size m1.size m2.size).2]) ∧ Below w.heap.size w w' := by
  have i0 : ∀ w, (Instr.index 119 (.agg #[.int .i64 3, .int .i64 4, .int .i64 1, .int .i64 2]) (.int .i64 0)).run Tryd.prog w = .ok (.int .i64 3) w := fun _ => by kernel_rfl
  have i1 : ∀ w, (Instr.index 119 (.agg #[.int .i64 3, .int .i64 4, .int .i64 1, .int .i64 2]) (.int .i64 1)).run Tryd.prog w = .ok (.int .i64 4) w := fun _ => by kernel_rfl
  have i2 : ∀ w, (Instr.index 119 (.agg #[.int .i64 3, .int .i64 4, .int .i64 1, .int .i64 2]) (.int .i64 2)).run Tryd.prog w = .ok (.int .i64 1) w := fun _ => by kernel_rfl
  have i3 : ∀ w, (Instr.index 119 (.agg #[.int .i64 3, .int .i64 4, .int .i64 1, .int .i64 2]) (.int .i64 3)).run Tryd.prog w = .ok (.int .i64 2) w := fun _ => by kernel_rfl
  cases p3
  · cases p4
    · cases p1
      · cases p2
        · go_enter Tryd.func73, Tryd.ntmps73
          go_wp2
          refine wp_loop_rounds 5 ?_
          rw [rounds_succ]
          go_wp2_with (first | (go_at_call 71; first | (with_reducible refine (HM3.out _).mono ?_; rintro e w1 ⟨rfl, hb1⟩) | (with_reducible refine (HM4.out _).mono ?_; rintro e w2 ⟨rfl, hb2⟩) | (with_reducible refine (HM1.out _).mono ?_; rintro e w3 ⟨rfl, hb3⟩) | (with_reducible refine (HM2.out _).mono ?_; rintro e w4 ⟨rfl, hb4⟩)) | (go_at_call 70; first | (with_reducible refine (HP3.out _).mono ?_; rintro e w5 ⟨rfl, rfl⟩) | (with_reducible refine (HP4.out _).mono ?_; rintro e w5 ⟨rfl, rfl⟩) | (with_reducible refine (HP1.out _).mono ?_; rintro e w5 ⟨rfl, rfl⟩) | (with_reducible refine (HP2.out _).mono ?_; rintro e w5 ⟨rfl, rfl⟩)))
          rw [rounds_succ]
          go_wp2_with (first | (go_at_call 71; first | (with_reducible refine (HM3.out _).mono ?_; rintro e w1 ⟨rfl, hb1⟩) | (with_reducible refine (HM4.out _).mono ?_; rintro e w2 ⟨rfl, hb2⟩) | (with_reducible refine (HM1.out _).mono ?_; rintro e w3 ⟨rfl, hb3⟩) | (with_reducible refine (HM2.out _).mono ?_; rintro e w4 ⟨rfl, hb4⟩)) | (go_at_call 70; first | (with_reducible refine (HP3.out _).mono ?_; rintro e w5 ⟨rfl, rfl⟩) | (with_reducible refine (HP4.out _).mono ?_; rintro e w5 ⟨rfl, rfl⟩) | (with_reducible refine (HP1.out _).mono ?_; rintro e w5 ⟨rfl, rfl⟩) | (with_reducible refine (HP2.out _).mono ?_; rintro e w5 ⟨rfl, rfl⟩)))
          rw [rounds_succ]
          go_wp2_with (first | (go_at_call 71; first | (with_reducible refine (HM3.out _).mono ?_; rintro e w1 ⟨rfl, hb1⟩) | (with_reducible refine (HM4.out _).mono ?_; rintro e w2 ⟨rfl, hb2⟩) | (with_reducible refine (HM1.out _).mono ?_; rintro e w3 ⟨rfl, hb3⟩) | (with_reducible refine (HM2.out _).mono ?_; rintro e w4 ⟨rfl, hb4⟩)) | (go_at_call 70; first | (with_reducible refine (HP3.out _).mono ?_; rintro e w5 ⟨rfl, rfl⟩) | (with_reducible refine (HP4.out _).mono ?_; rintro e w5 ⟨rfl, rfl⟩) | (with_reducible refine (HP1.out _).mono ?_; rintro e w5 ⟨rfl, rfl⟩) | (with_reducible refine (HP2.out _).mono ?_; rintro e w5 ⟨rfl, rfl⟩)))
          rw [rounds_succ]
          go_wp2_with (first | (go_at_call 71; first | (with_reducible refine (HM3.out _).mono ?_; rintro e w1 ⟨rfl, hb1⟩) | (with_reducible refine (HM4.out _).mono ?_; rintro e w2 ⟨rfl, hb2⟩) | (with_reducible refine (HM1.out _).mono ?_; rintro e w3 ⟨rfl, hb3⟩) | (with_reducible refine (HM2.out _).mono ?_; rintro e w4 ⟨rfl, hb4⟩)) | (go_at_call 70; first | (with_reducible refine (HP3.out _).mono ?_; rintro e w5 ⟨rfl, rfl⟩) | (with_reducible refine (HP4.out _).mono ?_; rintro e w5 ⟨rfl, rfl⟩) | (with_reducible refine (HP1.out _).mono ?_; rintro e w5 ⟨rfl, rfl⟩) | (with_reducible refine (HP2.out _).mono ?_; rintro e w5 ⟨rfl, rfl⟩)))
          rw [rounds_succ]
          go_wp2_with (first | (go_at_call 71; first | (with_reducible refine (HM3.out _).mono ?_; rintro e w1 ⟨rfl, hb1⟩) | (with_reducible refine (HM4.out _).mono ?_; rintro e w2 ⟨rfl, hb2⟩) | (with_reducible refine (HM1.out _).mono ?_; rintro e w3 ⟨rfl, hb3⟩) | (with_reducible refine (HM2.out _).mono ?_; rintro e w4 ⟨rfl, hb4⟩)) | (go_at_call 70; first | (with_reducible refine (HP3.out _).mono ?_; rintro e w5 ⟨rfl, rfl⟩) | (with_reducible refine (HP4.out _).mono ?_; rintro e w5 ⟨rfl, rfl⟩) | (with_reducible refine (HP1.out _).mono ?_; rintro e w5 ⟨rfl, rfl⟩) | (with_reducible refine (HP2.out _).mono ?_; rintro e w5 ⟨rfl, rfl⟩)))
          go_returns
          exact ⟨rfl, ((hb1.trans (hb2.mono hb1.size)).trans (hb3.mono (hb1.trans (hb2.mono hb1.size)).size)).trans (hb4.mono ((hb1.trans (hb2.mono hb1.size)).trans (hb3.mono (hb1.trans (hb2.mono hb1.size)).size)).size)⟩
        · go_enter Tryd.func73, Tryd.ntmps73
          go_wp2
          refine wp_loop_rounds 5 ?_
          rw [rounds_succ]
          go_wp2_with (first | (go_at_call 71; first | (with_reducible refine (HM3.out _).mono ?_; rintro e w1 ⟨rfl, hb1⟩) | (with_reducible refine (HM4.out _).mono ?_; rintro e w2 ⟨rfl, hb2⟩) | (with_reducible refine (HM1.out _).mono ?_; rintro e w3 ⟨rfl, hb3⟩) | (with_reducible refine (HM2.out _).mono ?_; rintro e w4 ⟨rfl, hb4⟩)) | (go_at_call 70; first | (with_reducible refine (HP3.out _).mono ?_; rintro e w5 ⟨rfl, rfl⟩) | (with_reducible refine (HP4.out _).mono ?_; rintro e w5 ⟨rfl, rfl⟩) | (with_reducible refine (HP1.out _).mono ?_; rintro e w5 ⟨rfl, rfl⟩) | (with_reducible refine (HP2.out _).mono ?_; rintro e w5 ⟨rfl, rfl⟩)))
          rw [rounds_succ]
          go_wp2_with (first | (go_at_call 71; first | (with_reducible refine (HM3.out _).mono ?_; rintro e w1 ⟨rfl, hb1⟩) | (with_reducible refine (HM4.out _).mono ?_; rintro e w2 ⟨rfl, hb2⟩) | (with_reducible refine (HM1.out _).mono ?_; rintro e w3 ⟨rfl, hb3⟩) | (with_reducible refine (HM2.out _).mono ?_; rintro e w4 ⟨rfl, hb4⟩)) | (go_at_call 70; first | (with_reducible refine (HP3.out _).mono ?_; rintro e w5 ⟨rfl, rfl⟩) | (with_reducible refine (HP4.out _).mono ?_; rintro e w5 ⟨rfl, rfl⟩) | (with_reducible refine (HP1.out _).mono ?_; rintro e w5 ⟨rfl, rfl⟩) | (with_reducible refine (HP2.out _).mono ?_; rintro e w5 ⟨rfl, rfl⟩)))
          rw [rounds_succ]
          go_wp2_with (first | (go_at_call 71; first | (with_reducible refine (HM3.out _).mono ?_; rintro e w1 ⟨rfl, hb1⟩) | (with_reducible refine (HM4.out _).mono ?_; rintro e w2 ⟨rfl, hb2⟩) | (with_reducible refine (HM1.out _).mono ?_; rintro e w3 ⟨rfl, hb3⟩) | (with_reducible refine (HM2.out _).mono ?_; rintro e w4 ⟨rfl, hb4⟩)) | (go_at_call 70; first | (with_reducible refine (HP3.out _).mono ?_; rintro e w5 ⟨rfl, rfl⟩) | (with_reducible refine (HP4.out _).mono ?_; rintro e w5 ⟨rfl, rfl⟩) | (with_reducible refine (HP1.out _).mono ?_; rintro e w5 ⟨rfl, rfl⟩) | (with_reducible refine (HP2.out _).mono ?_; rintro e w5 ⟨rfl, rfl⟩)))
          rw [rounds_succ]
          go_wp2_with (first | (go_at_call 71; first | (with_reducible refine (HM3.out _).mono ?_; rintro e w1 ⟨rfl, hb1⟩) | (with_reducible refine (HM4.out _).mono ?_; rintro e w2 ⟨rfl, hb2⟩) | (with_reducible refine (HM1.out _).mono ?_; rintro e w3 ⟨rfl, hb3⟩) | (with_reducible refine (HM2.out _).mono ?_; rintro e w4 ⟨rfl, hb4⟩)) | (go_at_call 70; first | (with_reducible refine (HP3.out _).mono ?_; rintro e w5 ⟨rfl, rfl⟩) | (with_reducible refine (HP4.out _).mono ?_; rintro e w5 ⟨rfl, rfl⟩) | (with_reducible refine (HP1.out _).mono ?_; rintro e w5 ⟨rfl, rfl⟩) | (with_reducible refine (HP2.out _).mono ?_; rintro e w5 ⟨rfl, rfl⟩)))
          go_returns
          exact ⟨rfl, ((hb1.trans (hb2.mono hb1.size)).trans (hb3.mono (hb1.trans (hb2.mono hb1.size)).size)).trans (hb4.mono ((hb1.trans (hb2.mono hb1.size)).trans (hb3.mono (hb1.trans (hb2.mono hb1.size)).size)).size)⟩
      · go_enter Tryd.func73, Tryd.ntmps73
        go_wp2
        refine wp_loop_rounds 5 ?_
        rw [rounds_succ]
        go_wp2_with (first | (go_at_call 71; first | (with_reducible refine (HM3.out _).mono ?_; rintro e w1 ⟨rfl, hb1⟩) | (with_reducible refine (HM4.out _).mono ?_; rintro e w2 ⟨rfl, hb2⟩) | (with_reducible refine (HM1.out _).mono ?_; rintro e w3 ⟨rfl, hb3⟩) | (with_reducible refine (HM2.out _).mono ?_; rintro e w4 ⟨rfl, hb4⟩)) | (go_at_call 70; first | (with_reducible refine (HP3.out _).mono ?_; rintro e w5 ⟨rfl, rfl⟩) | (with_reducible refine (HP4.out _).mono ?_; rintro e w5 ⟨rfl, rfl⟩) | (with_reducible refine (HP1.out _).mono ?_; rintro e w5 ⟨rfl, rfl⟩) | (with_reducible refine (HP2.out _).mono ?_; rintro e w5 ⟨rfl, rfl⟩)))
        rw [rounds_succ]
        go_wp2_with (first | (go_at_call 71; first | (with_reducible refine (HM3.out _).mono ?_; rintro e w1 ⟨rfl, hb1⟩) | (with_reducible refine (HM4.out _).mono ?_; rintro e w2 ⟨rfl, hb2⟩) | (with_reducible refine (HM1.out _).mono ?_; rintro e w3 ⟨rfl, hb3⟩) | (with_reducible refine (HM2.out _).mono ?_; rintro e w4 ⟨rfl, hb4⟩)) | (go_at_call 70; first | (with_reducible refine (HP3.out _).mono ?_; rintro e w5 ⟨rfl, rfl⟩) | (with_reducible refine (HP4.out _).mono ?_; rintro e w5 ⟨rfl, rfl⟩) | (with_reducible refine (HP1.out _).mono ?_; rintro e w5 ⟨rfl, rfl⟩) | (with_reducible refine (HP2.out _).mono ?_; rintro e w5 ⟨rfl, rfl⟩)))
        rw [rounds_succ]
        go_wp2_with (first | (go_at_call 71; first | (with_reducible refine (HM3.out _).mono ?_; rintro e w1 ⟨rfl, hb1⟩) | (with_reducible refine (HM4.out _).mono ?_; rintro e w2 ⟨rfl, hb2⟩) | (with_reducible refine (HM1.out _).mono ?_; rintro e w3 ⟨rfl, hb3⟩) | (with_reducible refine (HM2.out _).mono ?_; rintro e w4 ⟨rfl, hb4⟩)) | (go_at_call 70; first | (with_reducible refine (HP3.out _).mono ?_; rintro e w5 ⟨rfl, rfl⟩) | (with_reducible refine (HP4.out _).mono ?_; rintro e w5 ⟨rfl, rfl⟩) | (with_reducible refine (HP1.out _).mono ?_; rintro e w5 ⟨rfl, rfl⟩) | (with_reducible refine (HP2.out _).mono ?_; rintro e w5 ⟨rfl, rfl⟩)))
        go_returns
        exact ⟨rfl, (hb1.trans (hb2.mono hb1.size)).trans (hb3.mono (hb1.trans (hb2.mono hb1.size)).size)⟩
    · go_enter Tryd.func73, Tryd.ntmps73
      go_wp2
      refine wp_loop_rounds 5 ?_
      rw [rounds_succ]
      go_wp2_with (first | (go_at_call 71; first | (with_reducible refine (HM3.out _).mono ?_; rintro e w1 ⟨rfl, hb1⟩) | (with_reducible refine (HM4.out _).mono ?_; rintro e w2 ⟨rfl, hb2⟩) | (with_reducible refine (HM1.out _).mono ?_; rintro e w3 ⟨rfl, hb3⟩) | (with_reducible refine (HM2.out _).mono ?_; rintro e w4 ⟨rfl, hb4⟩)) | (go_at_call 70; first | (with_reducible refine (HP3.out _).mono ?_; rintro e w5 ⟨rfl, rfl⟩) | (with_reducible refine (HP4.out _).mono ?_; rintro e w5 ⟨rfl, rfl⟩) | (with_reducible refine (HP1.out _).mono ?_; rintro e w5 ⟨rfl, rfl⟩) | (with_reducible refine (HP2.out _).mono ?_; rintro e w5 ⟨rfl, rfl⟩)))
      rw [rounds_succ]
      go_wp2_with (first | (go_at_call 71; first | (with_reducible refine (HM3.out _).mono ?_; rintro e w1 ⟨rfl, hb1⟩) | (with_reducible refine (HM4.out _).mono ?_; rintro e w2 ⟨rfl, hb2⟩) | (with_reducible refine (HM1.out _).mono ?_; rintro e w3 ⟨rfl, hb3⟩) | (with_reducible refine (HM2.out _).mono ?_; rintro e w4 ⟨rfl, hb4⟩)) | (go_at_call 70; first | (with_reducible refine (HP3.out _).mono ?_; rintro e w5 ⟨rfl, rfl⟩) | (with_reducible refine (HP4.out _).mono ?_; rintro e w5 ⟨rfl, rfl⟩) | (with_reducible refine (HP1.out _).mono ?_; rintro e w5 ⟨rfl, rfl⟩) | (with_reducible refine (HP2.out _).mono ?_; rintro e w5 ⟨rfl, rfl⟩)))
      go_returns
      exact ⟨rfl, hb1.trans (hb2.mono hb1.size)⟩
  · go_enter Tryd.func73, Tryd.ntmps73
    go_wp2
    refine wp_loop_rounds 5 ?_
    rw [rounds_succ]
    go_wp2_with (first | (go_at_call 71; first | (with_reducible refine (HM3.out _).mono ?_; rintro e w1 ⟨rfl, hb1⟩) | (with_reducible refine (HM4.out _).mono ?_; rintro e w2 ⟨rfl, hb2⟩) | (with_reducible refine (HM1.out _).mono ?_; rintro e w3 ⟨rfl, hb3⟩) | (with_reducible refine (HM2.out _).mono ?_; rintro e w4 ⟨rfl, hb4⟩)) | (go_at_call 70; first | (with_reducible refine (HP3.out _).mono ?_; rintro e w5 ⟨rfl, rfl⟩) | (with_reducible refine (HP4.out _).mono ?_; rintro e w5 ⟨rfl, rfl⟩) | (with_reducible refine (HP1.out _).mono ?_; rintro e w5 ⟨rfl, rfl⟩) | (with_reducible refine (HP2.out _).mono ?_; rintro e w5 ⟨rfl, rfl⟩)))
    go_returns
    exact ⟨rfl, hb1⟩

theorem guess_any (s : ByteArray) (w : World) :
    Calls Tryd.prog 73 #[.string s] w fun e w' =>
      e = .returned (.tuple #[.int .i64 (wguess s.data.toList).1, .int .i64 (wguess s.data.toList).2]) ∧ Below w.heap.size w w' := by
  have hm : ∀ k, IsMark k ⟨(wmark k).toArray⟩ := fun k w => mark_any k w
  have hp : ∀ k, IsPre s ⟨(wmark k).toArray⟩ ((wmark k).isPrefixOf s.data.toList) := fun k w => (hasPrefix_any s ⟨(wmark k).toArray⟩ w).mono fun e w' ⟨he, hw⟩ => ⟨he, hw.symm⟩
  have h := guess_core s _ _ _ _ _ _ _ _ (hm 3) (hm 4) (hm 1) (hm 2) (hp 3) (hp 4) (hp 1) (hp 2) w
  have hs : ∀ k, (⟨(wmark k).toArray⟩ : ByteArray).size = (wmark k).length := fun k => by simp [ByteArray.size]
  rw [hs, hs, hs, hs, mark_len.1, mark_len.2.1, mark_len.2.2.1, mark_len.2.2.2] at h
  exact h
end Go.Proofs.YtlfhmkjomogkiaaDoor
