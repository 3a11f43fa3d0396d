/- Plain: Strict, and Cut of Encode. -/
import Derived.Test.YtlfhmkjomogkiaaPlain5
namespace Go.Proofs.Ytlfhmkjomogkiaa
namespace Pl

theorem wcut_enc (size : Nat) (big : Bool) (h2 : size = 2 ∨ size = 4) : ∀ l : List Int, l.all scal = true → wcut size big (l.flatMap (wchar size big)) = (l.flatMap (wchar size big)).length := by
  intro l
  induction l with
  | nil => intro _; exact wcut_nil size big
  | cons r l ih =>
    intro h
    simp only [List.all_cons, Bool.and_eq_true] at h
    have hf := wchar_find size big r (l.flatMap (wchar size big)) h2 h.1
    rw [List.flatMap_cons, wcut_step size big _ h2 (by rw [hf]; simp), hf, List.drop_left, ih h.2, List.length_append]
theorem Codec.dec_strict {nx : List UInt8 → Int × Nat × Int} {ch : Int → List UInt8} (C : Codec nx ch) (t : List UInt8) :
    ∃ m : List Int, m.all scal = true ∧ ((dec nx 1 t = (m, [], 0) ∧ m.flatMap ch = t) ∨
      ∃ n, 1 ≤ n ∧ (m.flatMap ch).length + n ≤ t.length ∧ dec nx 1 t = (m, [((m.flatMap ch).length, n)], 17) ∧ m.flatMap ch = t.take (m.flatMap ch).length) := by
  obtain ⟨m, hm, h⟩ := C.strict t.length t 0 [] (Nat.le_refl _) rfl
  refine ⟨m, hm, ?_⟩
  rcases h with ⟨h1, h2⟩ | ⟨n, h1, h2, h3, h4, _⟩
  · exact .inl ⟨h1, h2⟩
  · refine .inr ⟨n, h1, h2, ?_, h4⟩
    rw [Nat.zero_add] at h3
    exact h3
/-- No fault is behind the bytes. -/
theorem decL_at (nx : List UInt8 → Int × Nat × Int) (pol : Int) (hp : ∀ t, 0 < t.length → (nx t).2.1 ≤ t.length) : ∀ (f : Nat) (t : List UInt8) (a : Nat) (o : List Int) (b : List (Nat × Nat)) (N : Nat), a + t.length ≤ N → (∀ x ∈ b, x.1 ≤ N) → ∀ x ∈ (decL nx pol f t a o b).2.1, x.1 ≤ N := by
  intro f
  induction f with
  | zero => intro t a o b N _ hb x hx; exact hb x (by simpa [decL] using hx)
  | succ f ih =>
    intro t a o b N hN hb x hx
    rw [decL] at hx
    by_cases h0 : t.length = 0
    · rw [if_pos h0] at hx; exact hb x hx
    · have h1 := hp t (by omega)
      have hb2 : ∀ x ∈ b ++ [(a, (nx t).2.1)], x.1 ≤ N := by
        intro x hx
        rcases List.mem_append.1 hx with h | h
        · exact hb x h
        · simp at h; subst h; show a ≤ N; omega
      rw [if_neg h0] at hx
      split at hx
      · exact ih _ _ _ _ N (by rw [List.length_drop]; omega) hb x hx
      · split at hx
        · exact hb2 x hx
        · exact ih _ _ _ _ N (by rw [List.length_drop]; omega) hb2 x hx
theorem dec_at (nx : List UInt8 → Int × Nat × Int) (pol : Int) (hp : ∀ t, 0 < t.length → (nx t).2.1 ≤ t.length) (t : List UInt8) : ∀ x ∈ (dec nx pol t).2.1, x.1 ≤ t.length :=
  decL_at nx pol hp t.length t 0 [] [] t.length (by omega) (by simp)

end Pl
end Go.Proofs.Ytlfhmkjomogkiaa
