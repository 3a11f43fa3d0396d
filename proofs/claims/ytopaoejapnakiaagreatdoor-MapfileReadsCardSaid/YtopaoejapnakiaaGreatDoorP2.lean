/- Plain: the first lines of a text. -/
import Derived.Test.YtopaoejapnakiaaGreatDoorP1
namespace Go.Proofs.YtopaoejapnakiaaGreatDoor.Mf

/-- A text's first lines. -/
def headL : Nat → List UInt8 → List UInt8
  | 0, _ => []
  | _ + 1, [] => []
  | n + 1, c :: t => c :: (if c = 10 then headL n t else headL (n + 1) t)
theorem headL_zero (s : List UInt8) : headL 0 s = [] := by cases s <;> rfl
theorem headL_rec (n : Nat) (c : UInt8) (t : List UInt8) : headL (n + 1) (c :: t) = c :: (if c = 10 then headL n t else headL (n + 1) t) := by rw [headL]
theorem lines_head : ∀ (s : List UInt8) (n : Nat), linesOf (headL n s) = (linesOf s).take n := by
  intro s
  induction s with
  | nil =>
    intro n
    cases n with
    | zero => rfl
    | succ n => rw [headL]; rfl
  | cons c t ih =>
    intro n
    cases n with
    | zero => rw [headL_zero]; rfl
    | succ n =>
      rw [headL_rec, linesOf_rec, linesOf_rec]
      by_cases h : c = 10
      · rw [if_pos h, if_pos h, if_pos h, ih n]
        rfl
      · rw [if_neg h, if_neg h, if_neg h, ih (n + 1)]
        cases linesOf t with
        | nil => simp [consL]
        | cons x y => rfl
theorem headL_le : ∀ (s : List UInt8) (n : Nat), (headL n s).length ≤ s.length := by
  intro s
  induction s with
  | nil => intro n; cases n <;> simp [headL]
  | cons c t ih =>
    intro n
    cases n with
    | zero => rw [headL_zero]; simp
    | succ n =>
      rw [headL_rec]
      simp only [List.length_cons]
      split
      · have := ih n; omega
      · have := ih (n + 1); omega
theorem fits_head (s : List UInt8) (n : Nat) (h : fits s = true) : fits (headL n s) = true := by
  unfold fits at h ⊢
  rw [Bool.and_eq_true] at h
  rw [lines_head, Bool.and_eq_true]
  refine ⟨List.all_eq_true.2 fun x hx => List.all_eq_true.1 h.1 x (List.mem_of_mem_take hx), ?_⟩
  have := of_decide_eq_true h.2
  exact decide_eq_true (by rw [List.length_take]; omega)
theorem fits_of (s : List UInt8) (hs : s.length ≤ 4096) (hl : ∀ l ∈ linesOf s, l.length ≤ 512) : fits s = true := by
  unfold fits
  rw [Bool.and_eq_true]
  have := lines_len s
  exact ⟨List.all_eq_true.2 fun x hx => decide_eq_true (hl x hx), decide_eq_true (by omega)⟩
section
variable {F : List UInt8 → One} (hF : ∀ s, F s ≠ .err 0)
include hF
theorem readGo_first : ∀ (b : List (List UInt8)) (j : Nat) (out : List LRow) (n : Nat), (readGo F j out b).2.2 ≠ 0 → (readGo F j out b).2.1 = j + n →
    (readGo F j out (b.take (n - 1))).2.2 = 0 ∧ readGo F j out (b.take n) = readGo F j out b := by
  intro b
  induction b with
  | nil => intro j out n h; exact absurd rfl h
  | cons s t ih =>
    intro j out n h1 h2
    have hf := (readGo_facts hF (s :: t) j out).2 h1
    obtain ⟨m, rfl⟩ : ∃ m, n = m + 1 := ⟨n - 1, by omega⟩
    rw [Nat.add_sub_cancel, List.take_succ_cons, readGo_cons]
    rw [readGo_cons] at h1 h2 ⊢
    cases h : F (clean s) with
    | none =>
      rw [h] at h1 h2
      simp only at h1 h2 ⊢
      have hf2 := (readGo_facts hF t (j + 1) out).2 h1
      obtain ⟨k, rfl⟩ : ∃ k, m = k + 1 := ⟨m - 1, by omega⟩
      obtain ⟨q1, q2⟩ := ih (j + 1) out (k + 1) h1 (by omega)
      rw [Nat.add_sub_cancel] at q1
      rw [List.take_succ_cons, readGo_cons, h]
      exact ⟨q1, q2⟩
    | row x =>
      rw [h] at h1 h2
      simp only at h1 h2 ⊢
      have hf2 := (readGo_facts hF t (j + 1) (out ++ [x])).2 h1
      obtain ⟨k, rfl⟩ : ∃ k, m = k + 1 := ⟨m - 1, by omega⟩
      obtain ⟨q1, q2⟩ := ih (j + 1) (out ++ [x]) (k + 1) h1 (by omega)
      rw [Nat.add_sub_cancel] at q1
      rw [List.take_succ_cons, readGo_cons, h]
      exact ⟨q1, q2⟩
    | err e =>
      rw [h] at h2
      simp only at h2 ⊢
      obtain rfl : m = 0 := by omega
      exact ⟨rfl, by trivial⟩
/-- The first wrong line is told. -/
theorem read_first (s : List UInt8) (hs : s.length ≤ 1500) (hl : ∀ l ∈ linesOf s, l.length ≤ 512) :
    ((readL F s).2.2 = 0 → (readL F s).2.1 = 0 ∧ (readL F (headL 1 s)).2 = (0, 0) ∧ ∃ u, (readL F s).1 = (readL F (headL 1 s)).1 ++ u) ∧
    ((readL F s).2.2 ≠ 0 → ∃ n : Nat, (readL F s).2.1 = (n : Int) + 1 ∧ (readL F s).1 = [] ∧ (readL F (headL n s)).2 = (0, 0) ∧ (readL F (headL (n + 1) s)).2 = (readL F s).2) := by
  have f := fits_of s (by omega) hl
  have hR : readL F s = readGo F 0 [] (linesOf s) := by unfold readL; rw [if_pos f]
  have hH : ∀ n, readL F (headL n s) = readGo F 0 [] ((linesOf s).take n) := fun n => by unfold readL; rw [if_pos (fits_head s n f), lines_head]
  rw [hR, hH]
  obtain ⟨f1, f2⟩ := readGo_facts hF (linesOf s) 0 []
  refine ⟨fun h => ⟨f1 h, ?_⟩, fun h => ?_⟩
  · have ha := readGo_append hF ((linesOf s).take 1) ((linesOf s).drop 1) 0 []
    rw [List.take_append_drop] at ha
    obtain ⟨g1, g2⟩ := readGo_facts hF ((linesOf s).take 1) 0 []
    by_cases h0 : (readGo F 0 [] ((linesOf s).take 1)).2.2 = 0
    · rw [if_pos h0] at ha
      refine ⟨Prod.ext (g1 h0) h0, ?_⟩
      have sh := readGo_shift hF ((linesOf s).drop 1) (0 + ((linesOf s).take 1).length) 0 (readGo F 0 [] ((linesOf s).take 1)).1 []
      rw [List.append_nil, Nat.add_zero, ← ha] at sh
      by_cases h3 : (readGo F 0 [] ((linesOf s).drop 1)).2.2 = 0
      · rw [if_pos h3] at sh
        exact ⟨_, by rw [sh]⟩
      · rw [if_neg h3] at sh
        rw [sh] at h
        exact absurd h h3
    · rw [if_neg h0] at ha
      rw [ha] at h
      exact absurd h h0
  · obtain ⟨q1, q2, q3⟩ := f2 h
    obtain ⟨n, hn⟩ : ∃ n : Nat, (readGo F 0 [] (linesOf s)).2.1 = ((n + 1 : Nat) : Int) := ⟨((readGo F 0 [] (linesOf s)).2.1 - 1).toNat, by omega⟩
    obtain ⟨p1, p2⟩ := readGo_first hF (linesOf s) 0 [] (n + 1) h (by rw [hn]; omega)
    rw [Nat.add_sub_cancel] at p1
    refine ⟨n, by rw [hn]; omega, q1, ?_, ?_⟩
    · rw [hH]
      exact Prod.ext ((readGo_facts hF ((linesOf s).take n) 0 []).1 p1) p1
    · rw [hH, p2]
end
theorem oneU_ne (s : List UInt8) : oneU s ≠ .err 0 := by
  unfold oneU
  split
  · simp
  · split
    · simp
    · split <;> simp
    · split
      · simp
      · rename_i h
        intro he
        injection he with he
        exact h he
theorem oneC_ne (s : List UInt8) : oneC s ≠ .err 0 := by
  unfold oneC
  split
  · simp
  · split
    · simp
    · split
      · simp
      · rename_i h
        intro he
        injection he with he
        exact h he
end Go.Proofs.YtopaoejapnakiaaGreatDoor.Mf
