/- Plain: units turned about. -/
import Derived.Test.YtlfhmkjomogkiaaPlain5
namespace Go.Proofs.Ytlfhmkjomogkiaa
namespace Pl

/-- The first units of bytes, each turned about. -/
def turnJ (size : Nat) (l : List UInt8) (j : Nat) : List UInt8 := (List.range j).flatMap fun i => ((l.drop (i * size)).take size).reverse
theorem turnJ_succ (size : Nat) (l : List UInt8) (j : Nat) : turnJ size l (j + 1) = turnJ size l j ++ ((l.drop (j * size)).take size).reverse := by
  simp [turnJ, List.range_succ]
theorem units_length (size : Nat) (big : Bool) (us : List Nat) : (us.flatMap (unitB size big)).length = us.length * size := flat_unit_length size big us
theorem units_drop (size : Nat) (big : Bool) : ∀ (us : List Nat) (m : Nat), (us.flatMap (unitB size big)).drop (m * size) = (us.drop m).flatMap (unitB size big) := by
  intro us
  induction us with
  | nil => intro m; simp
  | cons u us ih =>
    intro m
    cases m with
    | zero => simp
    | succ m =>
      rw [List.flatMap_cons, List.drop_succ_cons, ← ih m, show (m + 1) * size = size + m * size from by rw [Nat.succ_mul]; omega, ← List.drop_drop, List.drop_left' (unitB_length size big u)]
theorem unit_reverse (size u : Nat) : (unitB size false u).reverse = unitB size true u := by simp [unitB]
/-- Units turned about are the units the other way. -/
theorem turnJ_units (size : Nat) (us : List Nat) : ∀ j, j ≤ us.length → turnJ size (us.flatMap (unitB size false)) j = (us.take j).flatMap (unitB size true) := by
  intro j
  induction j with
  | zero => intro _; simp [turnJ]
  | succ j ih =>
    intro hj
    rw [turnJ_succ, ih (by omega), units_drop, flatMap_snoc _ us j (by omega), ← unit_reverse]
    congr 2
    rw [List.drop_eq_getElem_cons (by omega : j < us.length), List.flatMap_cons]
    exact List.take_left' (unitB_length size false _)
theorem turnJ_all (size : Nat) (us : List Nat) : turnJ size (us.flatMap (unitB size false)) us.length = us.flatMap (unitB size true) := by
  rw [turnJ_units size us _ (Nat.le_refl _), List.take_of_length_le (Nat.le_refl _)]
/-- Whole units are units. -/
theorem units_of (size : Nat) : ∀ (n : Nat) (l : List UInt8), l.length = n * size → ∃ us : List Nat, us.length = n ∧ (∀ u ∈ us, u < 256 ^ size) ∧ l = us.flatMap (unitB size false) := by
  intro n
  induction n with
  | zero =>
    intro l h
    exact ⟨[], rfl, by simp, by simpa using h⟩
  | succ n ih =>
    intro l h
    rw [Nat.succ_mul] at h
    obtain ⟨us, h1, h2, h3⟩ := ih (l.drop size) (by rw [List.length_drop]; omega)
    refine ⟨unitN size false l :: us, by simp [h1], ?_, ?_⟩
    · intro u hu
      rcases List.mem_cons.1 hu with rfl | hu
      · exact unitN_lt size false l
      · exact h2 u hu
    · rw [List.flatMap_cons, ← h3, unitB_unitN size false l (by omega), List.take_append_drop]
theorem wn_one {size len n m : Nat} (h : ¬ len < size) (hh : ¬ (size = 2 ∧ 55296 ≤ n ∧ n < 56320)) : (wnextN size len n m).2.1 = size := by
  unfold wnextN
  rw [if_neg h]
  split
  · rename_i h2; exact absurd h2 hh
  · split <;> rfl
/-- The first character of units does not hang on the way in which they stand. -/
theorem wnext_units (size : Nat) (h2 : size = 2 ∨ size = 4) (us : List Nat) (hu : ∀ u ∈ us, u < 256 ^ size) (hne : us ≠ []) :
    wnext size true (us.flatMap (unitB size true)) = wnext size false (us.flatMap (unitB size false)) ∧ ∃ m, 1 ≤ m ∧ (wnext size false (us.flatMap (unitB size false))).2.1 = m * size := by
  obtain ⟨u, rest, rfl⟩ := List.exists_cons_of_ne_nil hne
  have hu0 := hu u (List.mem_cons_self ..)
  have hlen : ∀ big, ((u :: rest).flatMap (unitB size big)).length = (rest.length + 1) * size := fun big => by rw [units_length]; rfl
  have hn : ∀ big, unitN size big ((u :: rest).flatMap (unitB size big)) = u := fun big => by rw [List.flatMap_cons]; exact unitN_unitB size big u _ hu0
  have hsz : ¬ (rest.length + 1) * size < size := by rw [Nat.succ_mul]; omega
  unfold wnext
  rw [hlen, hlen, hn, hn]
  by_cases hh : size = 2 ∧ 55296 ≤ u ∧ u < 56320
  · obtain ⟨rfl, ha, hb⟩ := hh
    cases rest with
    | nil => exact ⟨by rw [wn_high_short (by simp) ha hb (by simp), wn_high_short (by simp) ha hb (by simp)], 1, Nat.le_refl _, by rw [wn_high_short (by simp) ha hb (by simp)]; rfl⟩
    | cons v rest =>
      have hv : ∀ big, unitN 2 big (((u :: v :: rest).flatMap (unitB 2 big)).drop 2) = v := fun big => by
        rw [List.flatMap_cons, List.drop_left' (unitB_length 2 big u), List.flatMap_cons]
        exact unitN_unitB 2 big v _ (hu v (by simp))
      rw [hv, hv]
      refine ⟨rfl, ?_⟩
      have h4 : ¬ ((v :: rest).length + 1) * 2 < 4 := by simp; omega
      by_cases hp : 56320 ≤ v ∧ v < 57344
      · exact ⟨2, by decide, by rw [wn_pair ha hb h4 hp.1 hp.2]⟩
      · exact ⟨1, by decide, by rw [wn_high_bad ha hb h4 (by omega)]⟩
  · exact ⟨wn_other hh, 1, Nat.le_refl _, by rw [wn_one hsz hh, Nat.one_mul]⟩
theorem decL_units (size : Nat) (pol : Int) (h2 : size = 2 ∨ size = 4) : ∀ (f : Nat) (us : List Nat) (a : Nat) (o : List Int) (b : List (Nat × Nat)), (∀ u ∈ us, u < 256 ^ size) →
    decL (wnext size true) pol f (us.flatMap (unitB size true)) a o b = decL (wnext size false) pol f (us.flatMap (unitB size false)) a o b := by
  intro f
  induction f with
  | zero => intro us a o b _; rfl
  | succ f ih =>
    intro us a o b hu
    rw [decL_succ, decL_succ, units_length, units_length]
    by_cases h0 : us.length * size = 0
    · rw [if_pos h0, if_pos h0]
    · rw [if_neg h0, if_neg h0]
      have hne : us ≠ [] := by intro e; subst e; simp at h0
      obtain ⟨h1, m, _, h3⟩ := wnext_units size h2 us hu hne
      rw [h1, h3, units_drop, units_drop]
      have hu' : ∀ u ∈ us.drop m, u < 256 ^ size := fun u h => hu u (List.mem_of_mem_drop h)
      split
      · exact ih _ _ _ _ hu'
      · split
        · rfl
        · exact ih _ _ _ _ hu'
theorem dec_units (size : Nat) (pol : Int) (h2 : size = 2 ∨ size = 4) (us : List Nat) (hu : ∀ u ∈ us, u < 256 ^ size) : dec (wnext size true) pol (us.flatMap (unitB size true)) = dec (wnext size false) pol (us.flatMap (unitB size false)) := by
  unfold dec
  rw [decL_units size pol h2 _ us 0 [] [] hu, units_length, units_length]
/-- Characters' bytes are units' bytes. -/
theorem flat_wchar (size : Nat) (big : Bool) (l : List Int) : l.flatMap (wchar size big) = (l.flatMap fun r => wunits size r.toNat).flatMap (unitB size big) := by
  rw [List.flatMap_assoc]; rfl

end Pl
end Go.Proofs.Ytlfhmkjomogkiaa
