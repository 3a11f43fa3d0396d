/- Plain: UTF-8: Strict, and Cut of Encode; that bytes that may be cut at their end are read alone. -/
import Derived.Test.YtlfhmkjomogkiaaDoorU3
namespace Go.Proofs.YtlfhmkjomogkiaaDoor
namespace Pl

theorem ugo_err (m : Nat) : ∀ (t : List UInt8) (x lo hi n : Nat), (ugo m t x lo hi n).2.2 ≠ 0 → (ugo m t x lo hi n).2.1 < m := by
  intro t
  induction t with
  | nil =>
    intro x lo hi n h
    rw [ugo_nil] at h ⊢
    split at h
    · exact absurd rfl h
    · rename_i hm; rw [if_neg hm]; show n < m; omega
  | cons c t ih =>
    intro x lo hi n h
    rw [ugo_cons] at h ⊢
    split at h
    · exact absurd rfl h
    · rename_i hm
      rw [if_neg hm]
      split at h
      · rename_i hc; rw [if_pos hc]; show n < m; omega
      · rename_i hc
        rw [if_neg hc]
        exact ih _ _ _ _ h
theorem unext_err (t : List UInt8) (h : (unext t).2.2 ≠ 0) : (unext t).2.1 ≤ 3 := by
  cases t with
  | nil => simp [unext]
  | cons b t =>
    rw [unext] at h ⊢
    split
    · simp
    · rename_i hb
      rw [if_neg hb] at h
      have hm := uBad_many hb
      have := ugo_err _ _ _ _ _ _ h
      omega
theorem utf_strict (t : List UInt8) :
    ∃ m : List Int, m.all scal = true ∧ ((dec unext 1 t = (m, [], 0) ∧ m.flatMap uch = t) ∨
      ∃ n, 1 ≤ n ∧ n ≤ 3 ∧ (m.flatMap uch).length + n ≤ t.length ∧ dec unext 1 t = (m, [((m.flatMap uch).length, n)], 17) ∧ m.flatMap uch = t.take (m.flatMap uch).length) := by
  obtain ⟨m, hm, h⟩ := utf_codec.strict t.length t 0 [] (Nat.le_refl _) rfl
  refine ⟨m, hm, ?_⟩
  rcases h with ⟨h1, h2⟩ | ⟨n, h1, h2, h3, h4, h5, h6⟩
  · exact .inl ⟨h1, h2⟩
  · refine .inr ⟨n, h1, by rw [h5]; exact unext_err _ h6, h2, ?_, h4⟩
    rw [Nat.zero_add] at h3
    exact h3
theorem ucut_enc : ∀ l : List Int, l.all scal = true → ucut (l.flatMap uch) = (l.flatMap uch).length := by
  intro l
  induction l with
  | nil => intro _; exact ucut_nil
  | cons r l ih =>
    intro h
    simp only [List.all_cons, Bool.and_eq_true] at h
    have hf := uch_find r (l.flatMap uch) h.1
    have hp := utf_codec.ch_pos r h.1
    rw [List.flatMap_cons, ucut_step _ (by rw [List.length_append]; omega) (by rw [hf]; simp), hf, List.drop_left, ih h.2, List.length_append]
theorem ucut_P (u : List UInt8) (h : ucut u = u.length) (hne : u ≠ []) : (unext u).2.2 ≠ 18 ∧ ucut (u.drop (unext u).2.1) = (u.drop (unext u).2.1).length := by
  have h0 : 0 < u.length := List.length_pos_iff.2 hne
  have h1 : (unext u).2.2 ≠ 18 := by
    intro he
    have := ucut_more u h0 he
    omega
  refine ⟨h1, ?_⟩
  have h3 := ucut_step u h0 h1
  rw [List.length_drop]
  omega
/-- Bytes that are characters alone end with no beginning. -/
theorem valid_cut : ∀ (f : Nat) (t : List UInt8) (a : Nat) (o : List Int), t.length ≤ f → (decL unext 1 f t a o []).2.2 = 0 → ucut t = t.length := by
  intro f
  induction f with
  | zero =>
    intro t a o h _
    have : t = [] := List.eq_nil_of_length_eq_zero (by omega)
    subst this
    rfl
  | succ f ih =>
    intro t a o h he
    by_cases h0 : t.length = 0
    · have : t = [] := List.eq_nil_of_length_eq_zero h0
      subst this
      rfl
    · have hp := unext_pos t (by omega)
      rw [decL_succ, if_neg h0] at he
      by_cases hx : (unext t).2.2 = 0
      · rw [if_pos hx] at he
        have h2 := ih _ _ _ (by rw [List.length_drop]; omega) he
        rw [ucut_step t (by omega) (by rw [hx]; decide), h2, List.length_drop]
        omega
      · rw [if_neg hx, if_pos rfl] at he
        cases he
theorem utf_valid_cut (t : List UInt8) (h : (dec unext 1 t).2.2 = 0) : ucut t = t.length := valid_cut _ _ _ _ (Nat.le_refl _) h

end Pl
end Go.Proofs.YtlfhmkjomogkiaaDoor
