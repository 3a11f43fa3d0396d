/- Plain: what Replace and Skip leave, side by side, unit by unit. -/
import Derived.Test.YtlfhmkjomogkiaaDoorPlain4
namespace Go.Proofs.YtlfhmkjomogkiaaDoor
namespace Pl

/-- From a place to the end: what Replace leaves, the faults, what Skip leaves. -/
inductive Merge (ch : Int → List UInt8) (S : Nat) : Nat → List Int → List (Nat × Nat) → List Int → Prop
  | done : Merge ch S S [] [] []
  | ok (a : Nat) (r : Int) (A : List Int) (x : List (Nat × Nat)) (c : List Int) : scal r = true → Merge ch S (a + (ch r).length) A x c → Merge ch S a (r :: A) x (r :: c)
  | bad (a n : Nat) (A : List Int) (x : List (Nat × Nat)) (c : List Int) : 1 ≤ n → Merge ch S (a + n) A x c → Merge ch S a (65533 :: A) ((a, n) :: x) c
theorem Merge.ge {ch : Int → List UInt8} {S a : Nat} {A c : List Int} {x : List (Nat × Nat)} (h : Merge ch S a A x c) : a ≤ S ∧ ∀ y ∈ x, a ≤ y.1 := by
  induction h with
  | done => exact ⟨Nat.le_refl _, by simp⟩
  | ok a r A x c _ _ ih => exact ⟨by omega, fun y hy => by have := ih.2 y hy; omega⟩
  | bad a n A x c _ _ ih =>
    refine ⟨by omega, fun y hy => ?_⟩
    rcases List.mem_cons.1 hy with rfl | h
    · exact Nat.le_refl _
    · have := ih.2 y h; omega
theorem Merge.len {ch : Int → List UInt8} {S a : Nat} {A c : List Int} {x : List (Nat × Nat)} (h : Merge ch S a A x c) : A.length = c.length + x.length := by
  induction h with
  | done => rfl
  | ok a r A x c _ _ ih => simp; omega
  | bad a n A x c _ _ ih => simp; omega
section
variable {nx : List UInt8 → Int × Nat × Int} {ch : Int → List UInt8} (C : Codec nx ch)
include C
theorem Codec.merge_go : ∀ (f : Nat) (t : List UInt8) (a : Nat) (o p : List Int) (b : List (Nat × Nat)), t.length ≤ f →
    ∃ (A c : List Int) (x : List (Nat × Nat)), decL nx 2 f t a o b = (o ++ A, b ++ x, 0) ∧ decL nx 3 f t a p b = (p ++ c, b ++ x, 0) ∧ Merge ch (a + t.length) a A x c := by
  intro f
  induction f with
  | zero =>
    intro t a o p b h
    have : t = [] := List.eq_nil_of_length_eq_zero (by omega)
    subst this
    exact ⟨[], [], [], by simp [decL], by simp [decL], Merge.done⟩
  | succ f ih =>
    intro t a o p b h
    by_cases h0 : t.length = 0
    · have : t = [] := List.eq_nil_of_length_eq_zero h0
      subst this
      exact ⟨[], [], [], by simp [decL], by simp [decL], Merge.done⟩
    · have hpos := C.pos t (by omega)
      rw [decL_succ, decL_succ, if_neg h0, if_neg h0]
      by_cases he : (nx t).2.2 = 0
      · rw [if_pos he, if_pos he]
        obtain ⟨hs, ht⟩ := C.ok t he
        have hl : (ch (nx t).1).length = (nx t).2.1 := by rw [← ht, List.length_take]; omega
        obtain ⟨A, c, x, h1, h2, h3⟩ := ih (t.drop (nx t).2.1) (a + (nx t).2.1) (o ++ [(nx t).1]) (p ++ [(nx t).1]) b (by rw [List.length_drop]; omega)
        refine ⟨(nx t).1 :: A, (nx t).1 :: c, x, by rw [h1]; simp, by rw [h2]; simp, ?_⟩
        refine Merge.ok a _ A x c hs ?_
        rw [hl]
        rw [List.length_drop, show a + (nx t).2.1 + (t.length - (nx t).2.1) = a + t.length from by omega] at h3
        exact h3
      · rw [if_neg he, if_neg he, if_neg (show ¬ (2 : Int) = 1 by decide), if_pos rfl, if_neg (show ¬ (3 : Int) = 1 by decide), if_neg (show ¬ (3 : Int) = 2 by decide)]
        obtain ⟨A, c, x, h1, h2, h3⟩ := ih (t.drop (nx t).2.1) (a + (nx t).2.1) (o ++ [65533]) p (b ++ [(a, (nx t).2.1)]) (by rw [List.length_drop]; omega)
        refine ⟨65533 :: A, c, (a, (nx t).2.1) :: x, by rw [h1]; simp, by rw [h2]; simp, ?_⟩
        refine Merge.bad a _ A x c hpos.1 ?_
        rw [List.length_drop, show a + (nx t).2.1 + (t.length - (nx t).2.1) = a + t.length from by omega] at h3
        exact h3
theorem Codec.merge (t : List UInt8) : ∃ (A c : List Int) (x : List (Nat × Nat)), dec nx 2 t = (A, x, 0) ∧ dec nx 3 t = (c, x, 0) ∧ Merge ch t.length 0 A x c := by
  have h := C.merge_go t.length t 0 [] [] [] (Nat.le_refl _)
  simpa [dec] using h
end
theorem Merge.inv {ch : Int → List UInt8} {S a : Nat} {L z : List Int} {y : List (Nat × Nat)} (h : Merge ch S a L y z) :
    (L = [] ∧ y = [] ∧ z = [] ∧ a = S) ∨ (∃ r L' z', L = r :: L' ∧ z = r :: z' ∧ scal r = true ∧ Merge ch S (a + (ch r).length) L' y z') ∨
    (∃ n L' y', L = 65533 :: L' ∧ y = (a, n) :: y' ∧ 1 ≤ n ∧ Merge ch S (a + n) L' y' z) := by
  cases h with
  | done => exact .inl ⟨rfl, rfl, rfl, rfl⟩
  | ok => exact .inr (.inl ⟨_, _, _, rfl, rfl, by assumption, by assumption⟩)
  | bad => exact .inr (.inr ⟨_, _, _, rfl, rfl, by assumption, by assumption⟩)
theorem drop_cons {α : Type} {l t : List α} {i : Nat} {a : α} (h : l.drop i = a :: t) : ∃ hi : i < l.length, l[i] = a ∧ t = l.drop (i + 1) := by
  have hi : i < l.length := by
    rcases Nat.lt_or_ge i l.length with h1 | h1
    · exact h1
    · rw [List.drop_of_length_le h1] at h; cases h
  rw [List.drop_eq_getElem_cons hi] at h
  injection h with h1 h2
  exact ⟨hi, h1, h2.symm⟩
/-- A place in the lists, and the next unit. -/
theorem Merge.at_ {ch : Int → List UInt8} {S a : Nat} {A c : List Int} {x : List (Nat × Nat)} {i k m : Nat} (hch : ∀ r, 1 ≤ (ch r).length) (h : Merge ch S a (A.drop i) (x.drop k) (c.drop m)) (hi : i ≤ A.length) (hk : k ≤ x.length) :
    (i = A.length ∧ a = S ∧ k = x.length) ∨
    (∃ (h1 : i < A.length) (h2 : m < c.length), scal A[i] = true ∧ c[m] = A[i] ∧ (k = x.length ∨ ∃ h3 : k < x.length, a < x[k].1) ∧ a + (ch A[i]).length ≤ S ∧ Merge ch S (a + (ch A[i]).length) (A.drop (i + 1)) (x.drop k) (c.drop (m + 1))) ∨
    (∃ (h1 : i < A.length) (h3 : k < x.length), A[i] = 65533 ∧ x[k].1 = a ∧ 1 ≤ x[k].2 ∧ a + x[k].2 ≤ S ∧ Merge ch S (a + x[k].2) (A.drop (i + 1)) (x.drop (k + 1)) (c.drop m)) := by
  rcases h.inv with ⟨e1, e2, _, e4⟩ | ⟨r, L', z', e1, e2, hs, h2⟩ | ⟨n, L', y', e1, e2, hn, h2⟩
  · left
    have h1 := List.drop_eq_nil_iff.1 e1
    have h3 := List.drop_eq_nil_iff.1 e2
    exact ⟨by omega, e4, by omega⟩
  · right; left
    obtain ⟨a1, a2, a3⟩ := drop_cons e1
    obtain ⟨b1, b2, b3⟩ := drop_cons e2
    subst a2
    subst a3 b3
    have hg := h2.ge
    refine ⟨a1, b1, hs, b2, ?_, hg.1, h2⟩
    by_cases hkx : k = x.length
    · exact .inl hkx
    · refine .inr ⟨by omega, ?_⟩
      have hmem : x[k]'(by omega) ∈ x.drop k := by rw [List.drop_eq_getElem_cons (by omega)]; exact List.mem_cons_self ..
      have h4 := hg.2 _ hmem
      have h5 := hch A[i]
      omega
  · right; right
    obtain ⟨a1, a2, a3⟩ := drop_cons e1
    obtain ⟨b1, b2, b3⟩ := drop_cons e2
    subst a3 b3
    have hg := h2.ge
    refine ⟨a1, b1, a2, by rw [b2], by rw [b2]; exact hn, by rw [b2]; exact hg.1, ?_⟩
    rw [b2]
    exact h2
end Pl
end Go.Proofs.YtlfhmkjomogkiaaDoor
