/- Plain: Strict, and Cut of Encode. -/
import Derived.Test.YtlfhmkjomogkiaaPlain5
namespace Go.Proofs.Ytlfhmkjomogkiaa
namespace Pl

theorem wcut_enc (size : Nat) (big : Bool) (h2 : size = 2 ∨ size = 4) : ∀ l : List Int, l.all scal = true → wcut size big (l.flatMap (wchar size big)) = (l.flatMap (wchar size big)).length := by
  intro l
  induction l with
  | nil => intro _; exact wcut_nil size big
  | cons r l ih =>
    intro h
    simp only [List.all_cons, Bool.and_eq_true] at h
    have hf := wchar_find size big r (l.flatMap (wchar size big)) h2 h.1
    rw [List.flatMap_cons, wcut_step size big _ h2 (by rw [hf]; simp), hf, List.drop_left, ih h.2, List.length_append]
theorem Codec.dec_strict {nx : List UInt8 → Int × Nat × Int} {ch : Int → List UInt8} (C : Codec nx ch) (t : List UInt8) :
    ∃ m : List Int, m.all scal = true ∧ ((dec nx 1 t = (m, [], 0) ∧ m.flatMap ch = t) ∨
      ∃ n, 1 ≤ n ∧ (m.flatMap ch).length + n ≤ t.length ∧ dec nx 1 t = (m, [((m.flatMap ch).length, n)], 17) ∧ m.flatMap ch = t.take (m.flatMap ch).length) := by
  obtain ⟨m, hm, h⟩ := C.strict t.length t 0 [] (Nat.le_refl _) rfl
  refine ⟨m, hm, ?_⟩
  rcases h with ⟨h1, h2⟩ | ⟨n, h1, h2, h3, h4, _⟩
  · exact .inl ⟨h1, h2⟩
  · refine .inr ⟨n, h1, h2, ?_, h4⟩
    rw [Nat.zero_add] at h3
    exact h3

end Pl
end Go.Proofs.Ytlfhmkjomogkiaa
