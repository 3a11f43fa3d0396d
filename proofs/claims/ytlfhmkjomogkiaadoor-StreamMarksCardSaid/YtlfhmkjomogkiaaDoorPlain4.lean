/- Plain: what follows of a coding whose characters are found again: by any such coding, whatever its bytes are. -/
import Derived.Test.YtlfhmkjomogkiaaDoorPlain3
namespace Go.Proofs.YtlfhmkjomogkiaaDoor
namespace Pl

theorem decL_succ (nx : List UInt8 → Int × Nat × Int) (pol : Int) (f : Nat) (t : List UInt8) (a : Nat) (o : List Int) (b : List (Nat × Nat)) : decL nx pol (f + 1) t a o b =
    if t.length = 0 then (o, b, 0)
    else if (nx t).2.2 = 0 then decL nx pol f (t.drop (nx t).2.1) (a + (nx t).2.1) (o ++ [(nx t).1]) b
    else if pol = 1 then (o, b ++ [(a, (nx t).2.1)], 17)
    else decL nx pol f (t.drop (nx t).2.1) (a + (nx t).2.1) (if pol = 2 then o ++ [65533] else o) (b ++ [(a, (nx t).2.1)]) := rfl
/-- A coding: 'nx' tells the character with which bytes begin, 'ch' the bytes of a character. -/
structure Codec (nx : List UInt8 → Int × Nat × Int) (ch : Int → List UInt8) : Prop where
  pos : ∀ t, 0 < t.length → 1 ≤ (nx t).2.1 ∧ (nx t).2.1 ≤ t.length
  ok : ∀ t, (nx t).2.2 = 0 → scal (nx t).1 = true ∧ t.take (nx t).2.1 = ch (nx t).1
  find : ∀ r rest, scal r = true → nx (ch r ++ rest) = (r, (ch r).length, 0)
  app : ∀ u t, (nx u).2.2 ≠ 18 → nx (u ++ t) = nx u
  more : ∀ t, (nx t).2.2 = 18 → (nx t).2.1 = t.length
section
variable {nx : List UInt8 → Int × Nat × Int} {ch : Int → List UInt8} (C : Codec nx ch)
include C
theorem Codec.ch_pos (r : Int) (h : scal r = true) : 1 ≤ (ch r).length := by
  have h1 := C.find r [0] h
  have h2 := C.pos (ch r ++ [0]) (by simp)
  rw [h1] at h2
  exact h2.1
/-- Decode of Encode. -/
theorem Codec.dec_enc (pol : Int) : ∀ (l : List Int) (f a : Nat) (o : List Int) (b : List (Nat × Nat)), l.all scal = true → (l.flatMap ch).length ≤ f → decL nx pol f (l.flatMap ch) a o b = (o ++ l, b, 0) := by
  intro l
  induction l with
  | nil => intro f a o b _ _; simp [decL_end]
  | cons r l ih =>
    intro f a o b hall hf
    simp only [List.all_cons, Bool.and_eq_true] at hall
    have h1 := C.find r (l.flatMap ch) hall.1
    have h2 := C.ch_pos r hall.1
    rw [List.flatMap_cons] at hf ⊢
    rw [List.length_append] at hf
    rw [decL_ok nx pol (fun t h => (C.pos t h).1) f _ a o b (by rw [List.length_append]; omega) (by rw [List.length_append]; omega) (by rw [h1]), h1]
    simp only [List.drop_left]
    rw [ih _ _ _ _ hall.2 (by omega)]
    simp
theorem Codec.dec_all (pol : Int) (l : List Int) (h : l.all scal = true) : dec nx pol (l.flatMap ch) = (l, [], 0) := by
  have := C.dec_enc pol l (l.flatMap ch).length 0 [] [] h (Nat.le_refl _)
  simpa [dec] using this
/-- What Strict leaves: the characters' bytes are the bytes ahead of the first malformed unit. -/
theorem Codec.strict : ∀ (f : Nat) (t : List UInt8) (a : Nat) (o : List Int), t.length ≤ f → o.all scal = true →
    ∃ m : List Int, m.all scal = true ∧
      ((decL nx 1 f t a o [] = (o ++ m, [], 0) ∧ m.flatMap ch = t) ∨
       ∃ n, 1 ≤ n ∧ (m.flatMap ch).length + n ≤ t.length ∧ decL nx 1 f t a o [] = (o ++ m, [(a + (m.flatMap ch).length, n)], 17) ∧ m.flatMap ch = t.take (m.flatMap ch).length ∧ n = (nx (t.drop (m.flatMap ch).length)).2.1 ∧ (nx (t.drop (m.flatMap ch).length)).2.2 ≠ 0) := by
  intro f
  induction f with
  | zero =>
    intro t a o h _
    have : t = [] := List.eq_nil_of_length_eq_zero (by omega)
    subst this
    exact ⟨[], rfl, .inl ⟨by simp [decL], rfl⟩⟩
  | succ f ih =>
    intro t a o h ho
    by_cases h0 : t.length = 0
    · have : t = [] := List.eq_nil_of_length_eq_zero h0
      subst this
      exact ⟨[], rfl, .inl ⟨by simp [decL], rfl⟩⟩
    · have hp := C.pos t (by omega)
      rw [decL, if_neg h0]
      by_cases he : (nx t).2.2 = 0
      · rw [if_pos he]
        obtain ⟨hs, ht⟩ := C.ok t he
        have hl : (ch (nx t).1).length = (nx t).2.1 := by rw [← ht, List.length_take]; omega
        obtain ⟨m, hm, hcase⟩ := ih (t.drop (nx t).2.1) (a + (nx t).2.1) (o ++ [(nx t).1]) (by rw [List.length_drop]; omega) (by rw [List.all_append, ho]; simp [hs])
        refine ⟨(nx t).1 :: m, by simp [hs, hm], ?_⟩
        rcases hcase with ⟨h1, h2⟩ | ⟨n, hn1, hn2, h1, h2, h3, h4⟩
        · refine .inl ⟨by rw [h1]; simp, ?_⟩
          rw [List.flatMap_cons, h2, ← ht, List.take_append_drop]
        · have hlen : (((nx t).1 :: m).flatMap ch).length = (nx t).2.1 + (m.flatMap ch).length := by rw [List.flatMap_cons, List.length_append, hl]
          refine .inr ⟨n, hn1, ?_, ?_, ?_, ?_, ?_⟩
          · rw [hlen]; rw [List.length_drop] at hn2; omega
          · rw [h1, hlen, ← Nat.add_assoc]; simp
          · rw [hlen, List.flatMap_cons, h2, ← ht, List.take_add, List.length_take]
            congr 2
            rw [List.length_drop] at hn2 ⊢
            omega
          · rw [hlen, h3, List.drop_drop]
          · rw [hlen, ← List.drop_drop]; exact h4
      · rw [if_neg he, if_pos rfl]
        exact ⟨[], rfl, .inr ⟨(nx t).2.1, hp.1, by simpa using hp.2, by simp, by simp, by simp, by simpa using he⟩⟩
/-- How many bytes faults have. -/
def lens (b : List (Nat × Nat)) : Nat := (b.map (·.2)).sum
omit C in
theorem lens_append (a b : List (Nat × Nat)) : lens (a ++ b) = lens a + lens b := by simp [lens]
/-- Replace and Skip: the same faults; as many characters more as there are faults; all bytes. -/
theorem Codec.both : ∀ (f : Nat) (t : List UInt8) (a : Nat) (o p : List Int) (b : List (Nat × Nat)), t.length ≤ f → p.all scal = true →
    ∃ (A c : List Int) (x : List (Nat × Nat)), decL nx 2 f t a o b = (o ++ A, b ++ x, 0) ∧ decL nx 3 f t a p b = (p ++ c, b ++ x, 0) ∧ c.all scal = true ∧ A.length = c.length + x.length ∧
      (c.flatMap ch).length + lens x = t.length := by
  intro f
  induction f with
  | zero =>
    intro t a o p b h _
    have : t = [] := List.eq_nil_of_length_eq_zero (by omega)
    subst this
    exact ⟨[], [], [], by simp [decL], by simp [decL], rfl, rfl, rfl⟩
  | succ f ih =>
    intro t a o p b h hp
    by_cases h0 : t.length = 0
    · have : t = [] := List.eq_nil_of_length_eq_zero h0
      subst this
      exact ⟨[], [], [], by simp [decL], by simp [decL], rfl, rfl, rfl⟩
    · have hpos := C.pos t (by omega)
      rw [decL, decL, if_neg h0, if_neg h0]
      by_cases he : (nx t).2.2 = 0
      · rw [if_pos he, if_pos he]
        obtain ⟨hs, ht⟩ := C.ok t he
        have hl : (ch (nx t).1).length = (nx t).2.1 := by rw [← ht, List.length_take]; omega
        obtain ⟨A, c, x, h1, h2, h3, h4, h5⟩ := ih (t.drop (nx t).2.1) (a + (nx t).2.1) (o ++ [(nx t).1]) (p ++ [(nx t).1]) b (by rw [List.length_drop]; omega) (by rw [List.all_append, hp]; simp [hs])
        refine ⟨(nx t).1 :: A, (nx t).1 :: c, x, by rw [h1]; simp, by rw [h2]; simp, by simp [hs, h3], by simp; omega, ?_⟩
        rw [List.flatMap_cons, List.length_append, hl]
        rw [List.length_drop] at h5
        omega
      · rw [if_neg he, if_neg he, if_neg (show ¬ (2 : Int) = 1 by decide), if_pos rfl, if_neg (show ¬ (3 : Int) = 1 by decide), if_neg (show ¬ (3 : Int) = 2 by decide)]
        obtain ⟨A, c, x, h1, h2, h3, h4, h5⟩ := ih (t.drop (nx t).2.1) (a + (nx t).2.1) (o ++ [65533]) p (b ++ [(a, (nx t).2.1)]) (by rw [List.length_drop]; omega) hp
        refine ⟨65533 :: A, c, (a, (nx t).2.1) :: x, by rw [h1]; simp, by rw [h2]; simp, h3, by simp; omega, ?_⟩
        rw [List.length_drop] at h5
        simp [lens] at h5 ⊢
        omega
theorem Codec.replace_skip (t : List UInt8) :
    ∃ (A c : List Int) (x : List (Nat × Nat)), dec nx 2 t = (A, x, 0) ∧ dec nx 3 t = (c, x, 0) ∧ c.all scal = true ∧ A.length = c.length + x.length ∧ (c.flatMap ch).length + lens x = t.length := by
  have h := C.both t.length t 0 [] [] [] (Nat.le_refl _) rfl
  simpa [dec] using h
/-- Faults, further behind. -/
def shiftF (k : Nat) (b : List (Nat × Nat)) : List (Nat × Nat) := b.map fun x => (k + x.1, x.2)
omit C in
theorem decL_shift (pol : Int) (k : Nat) : ∀ (f : Nat) (t : List UInt8) (a : Nat) (o : List Int) (b : List (Nat × Nat)),
    decL nx pol f t (k + a) o (shiftF k b) = ((decL nx pol f t a o b).1, shiftF k (decL nx pol f t a o b).2.1, (decL nx pol f t a o b).2.2) := by
  intro f
  induction f with
  | zero => intro t a o b; simp [decL]
  | succ f ih =>
    intro t a o b
    rw [decL, decL]
    split
    · rfl
    · split
      · rw [Nat.add_assoc, ih]
      · split
        · simp [shiftF]
        · have h := ih (t.drop (nx t).2.1) (a + (nx t).2.1) (if pol = 2 then o ++ [65533] else o) (b ++ [(a, (nx t).2.1)])
          rw [show shiftF k (b ++ [(a, (nx t).2.1)]) = shiftF k b ++ [(k + a, (nx t).2.1)] from by simp [shiftF]] at h
          rw [Nat.add_assoc, h]
omit C in
theorem decL_acc (pol : Int) : ∀ (f : Nat) (t : List UInt8) (a : Nat) (o : List Int) (b : List (Nat × Nat)),
    decL nx pol f t a o b = (o ++ (decL nx pol f t a [] []).1, b ++ (decL nx pol f t a [] []).2.1, (decL nx pol f t a [] []).2.2) := by
  intro f
  induction f with
  | zero => intro t a o b; simp [decL]
  | succ f ih =>
    intro t a o b
    rw [decL, decL]
    split
    · simp
    · split
      · rw [ih, ih _ _ ([] ++ [(nx t).1])]; simp
      · split
        · simp
        · rw [ih, ih _ _ (if pol = 2 then [] ++ [65533] else []) ([] ++ [(a, (nx t).2.1)])]
          split <;> simp
/-- Bytes that end with no beginning, and others behind them. -/
theorem Codec.joins (P : List UInt8 → Prop) (hP : ∀ u, P u → u ≠ [] → (nx u).2.2 ≠ 18 ∧ P (u.drop (nx u).2.1)) (t : List UInt8) : ∀ (f g : Nat) (u : List UInt8) (a : Nat) (o : List Int) (b : List (Nat × Nat)),
    P u → u.length ≤ f → (u ++ t).length ≤ g → decL nx 2 g (u ++ t) a o b = decL nx 2 g t (a + u.length) (decL nx 2 f u a o b).1 (decL nx 2 f u a o b).2.1 ∧ (decL nx 2 f u a o b).2.2 = 0 := by
  intro f
  induction f with
  | zero =>
    intro g u a o b hu h hg
    have : u = [] := List.eq_nil_of_length_eq_zero (by omega)
    subst this
    simp [decL]
  | succ f ih =>
    intro g u a o b hu h hg
    by_cases h0 : u.length = 0
    · have : u = [] := List.eq_nil_of_length_eq_zero h0
      subst this
      simp [decL]
    · have hne : u ≠ [] := by intro e; subst e; simp at h0
      obtain ⟨hm, hd⟩ := hP u hu hne
      have hpos := C.pos u (by omega)
      have happ := C.app u t hm
      have hdr : (u ++ t).drop (nx u).2.1 = u.drop (nx u).2.1 ++ t := by rw [List.drop_append_of_le_length hpos.2]
      have hlen : (u.drop (nx u).2.1 ++ t).length ≤ g := by rw [← hdr, List.length_drop]; omega
      rw [decL_succ nx 2 f u, if_neg h0]
      by_cases he : (nx u).2.2 = 0
      · rw [decL_ok nx 2 (fun t h => (C.pos t h).1) g (u ++ t) a o b (by rw [List.length_append]; omega) hg (by rw [happ]; exact he), happ, hdr, if_pos he]
        have h2 := ih g (u.drop (nx u).2.1) (a + (nx u).2.1) (o ++ [(nx u).1]) b hd (by rw [List.length_drop]; omega) hlen
        rw [List.length_drop, show a + (nx u).2.1 + (u.length - (nx u).2.1) = a + u.length from by omega] at h2
        exact h2
      · rw [decL_more nx 2 (fun t h => (C.pos t h).1) g (u ++ t) a o b (by rw [List.length_append]; omega) hg (by rw [happ]; exact he) (by decide), happ, hdr, if_neg he, if_neg (show ¬ (2 : Int) = 1 by decide), if_pos rfl]
        have h2 := ih g (u.drop (nx u).2.1) (a + (nx u).2.1) (o ++ [65533]) (b ++ [(a, (nx u).2.1)]) hd (by rw [List.length_drop]; omega) hlen
        rw [List.length_drop, show a + (nx u).2.1 + (u.length - (nx u).2.1) = a + u.length from by omega] at h2
        exact h2
theorem Codec.join (P : List UInt8 → Prop) (hP : ∀ u, P u → u ≠ [] → (nx u).2.2 ≠ 18 ∧ P (u.drop (nx u).2.1)) (u t : List UInt8) (hu : P u) :
    dec nx 2 (u ++ t) = ((dec nx 2 u).1 ++ (dec nx 2 t).1, (dec nx 2 u).2.1 ++ shiftF u.length (dec nx 2 t).2.1, 0) ∧ (dec nx 2 u).2.2 = 0 ∧ (dec nx 2 t).2.2 = 0 := by
  obtain ⟨h1, h2⟩ := C.joins P hP t u.length (u ++ t).length u 0 [] [] hu (Nat.le_refl _) (Nat.le_refl _)
  have h3 : ∀ t, (dec nx 2 t).2.2 = 0 := by
    intro t
    obtain ⟨A, c, x, hA, _⟩ := C.replace_skip t
    rw [hA]
  refine ⟨?_, h3 u, h3 t⟩
  show decL nx 2 _ (u ++ t) 0 [] [] = _
  rw [h1, Nat.zero_add, decL_acc, decL_fuel nx 2 (fun t h => (C.pos t h).1) (u ++ t).length t.length t u.length [] [] (by rw [List.length_append]; omega) (Nat.le_refl _)]
  have h4 := decL_shift (nx := nx) 2 u.length t.length t 0 [] []
  rw [show shiftF u.length [] = [] from rfl, Nat.add_zero] at h4
  rw [h4]
  have h5 := h3 t
  unfold dec at h5 ⊢
  rw [h5]
end

theorem Codec.dec_strict {nx : List UInt8 → Int × Nat × Int} {ch : Int → List UInt8} (C : Codec nx ch) (t : List UInt8) :
    ∃ m : List Int, m.all scal = true ∧ ((dec nx 1 t = (m, [], 0) ∧ m.flatMap ch = t) ∨
      ∃ n, 1 ≤ n ∧ (m.flatMap ch).length + n ≤ t.length ∧ dec nx 1 t = (m, [((m.flatMap ch).length, n)], 17) ∧ m.flatMap ch = t.take (m.flatMap ch).length) := by
  obtain ⟨m, hm, h⟩ := C.strict t.length t 0 [] (Nat.le_refl _) rfl
  refine ⟨m, hm, ?_⟩
  rcases h with ⟨h1, h2⟩ | ⟨n, h1, h2, h3, h4, _⟩
  · exact .inl ⟨h1, h2⟩
  · refine .inr ⟨n, h1, h2, ?_, h4⟩
    rw [Nat.zero_add] at h3
    exact h3
/-- No fault is behind the bytes. -/
theorem decL_at (nx : List UInt8 → Int × Nat × Int) (pol : Int) (hp : ∀ t, 0 < t.length → (nx t).2.1 ≤ t.length) : ∀ (f : Nat) (t : List UInt8) (a : Nat) (o : List Int) (b : List (Nat × Nat)) (N : Nat), a + t.length ≤ N → (∀ x ∈ b, x.1 ≤ N) → ∀ x ∈ (decL nx pol f t a o b).2.1, x.1 ≤ N := by
  intro f
  induction f with
  | zero => intro t a o b N _ hb x hx; exact hb x (by simpa [decL] using hx)
  | succ f ih =>
    intro t a o b N hN hb x hx
    rw [decL] at hx
    by_cases h0 : t.length = 0
    · rw [if_pos h0] at hx; exact hb x hx
    · have h1 := hp t (by omega)
      have hb2 : ∀ x ∈ b ++ [(a, (nx t).2.1)], x.1 ≤ N := by
        intro x hx
        rcases List.mem_append.1 hx with h | h
        · exact hb x h
        · simp at h; subst h; show a ≤ N; omega
      rw [if_neg h0] at hx
      split at hx
      · exact ih _ _ _ _ N (by rw [List.length_drop]; omega) hb x hx
      · split at hx
        · exact hb2 x hx
        · exact ih _ _ _ _ N (by rw [List.length_drop]; omega) hb2 x hx
theorem dec_at (nx : List UInt8 → Int × Nat × Int) (pol : Int) (hp : ∀ t, 0 < t.length → (nx t).2.1 ≤ t.length) (t : List UInt8) : ∀ x ∈ (dec nx pol t).2.1, x.1 ≤ t.length :=
  decL_at nx pol hp t.length t 0 [] [] t.length (by omega) (by simp)

end Pl
end Go.Proofs.YtlfhmkjomogkiaaDoor
