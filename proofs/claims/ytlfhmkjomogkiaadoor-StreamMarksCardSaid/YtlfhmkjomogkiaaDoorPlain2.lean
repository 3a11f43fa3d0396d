/- Plain: where wide bytes may be cut. -/
import Derived.Test.YtlfhmkjomogkiaaDoorPlain
namespace Go.Proofs.YtlfhmkjomogkiaaDoor
namespace Pl

/-- How many wide bytes are ahead of a beginning at the end that is not whole. -/
def wcut (size : Nat) (big : Bool) (l : List UInt8) : Nat :=
  if size = 2 ∧ 0 < l.length / size * size ∧ 55296 ≤ unitN 2 big (l.drop (l.length / size * size - 2)) ∧ unitN 2 big (l.drop (l.length / size * size - 2)) < 56320 then l.length / size * size - 2
  else l.length / size * size
/-- The reference's loop over all units, which keeps the place of the last one that is not whole. -/
def lastMore (nx : List UInt8 → Int × Nat × Int) : Nat → List UInt8 → Nat → Nat → Nat
  | 0, _, _, cut => cut
  | f + 1, t, at', cut => if t.length = 0 then cut else lastMore nx f (t.drop (nx t).2.1) (at' + (nx t).2.1) (if (nx t).2.2 = 18 then at' else cut)
theorem wn_pos (size len n m : Nat) (h : 0 < len) (hs : 0 < size) (_h2 : size = 2 ∨ size = 4) : 1 ≤ (wnextN size len n m).2.1 ∧ (wnextN size len n m).2.1 ≤ len := by
  unfold wnextN
  split
  · exact ⟨h, Nat.le_refl _⟩
  · split
    · split
      · exact ⟨h, Nat.le_refl _⟩
      · split <;> simp <;> omega
    · split <;> simp <;> omega
theorem wnext_pos (size : Nat) (big : Bool) (l : List UInt8) (h : 0 < l.length) (h2 : size = 2 ∨ size = 4) : 1 ≤ (wnext size big l).2.1 ∧ (wnext size big l).2.1 ≤ l.length :=
  wn_pos _ _ _ _ h (by omega) h2
theorem wsize_cases (k : Int) : wsize k = 2 ∨ wsize k = 4 := by unfold wsize; split <;> simp
theorem wcut_le (size : Nat) (big : Bool) (l : List UInt8) : wcut size big l ≤ l.length := by
  have : l.length / size * size ≤ l.length := Nat.div_mul_le_self _ _
  unfold wcut; split <;> omega
/-- A unit that is not whole: nothing is ahead of it. -/
theorem wcut_more (size : Nat) (big : Bool) (l : List UInt8) (h2 : size = 2 ∨ size = 4) (hm : (wnext size big l).2.2 = 18) : wcut size big l = 0 ∧ (wnext size big l).2.1 = l.length := by
  unfold wnext wnextN at *
  split at hm
  · rename_i hl
    rw [if_pos hl]
    refine ⟨?_, rfl⟩
    unfold wcut
    have : l.length / size = 0 := Nat.div_eq_of_lt hl
    simp [this]
  · rename_i hl
    rw [if_neg hl]
    split at hm
    · rename_i hh
      rw [if_pos hh]
      split at hm
      · rename_i h4
        rw [if_pos h4]
        obtain ⟨rfl, ha, hb⟩ := hh
        refine ⟨?_, rfl⟩
        unfold wcut
        have : l.length / 2 = 1 := by omega
        simp [this, ha, hb]
      · split at hm <;> simp at hm
    · split at hm <;> simp at hm
theorem drop_drop' {α : Type} (l : List α) (a b : Nat) : (l.drop a).drop b = l.drop (a + b) := by rw [List.drop_drop]
/-- A whole unit: what is ahead of the beginning at the end is it, and what is behind it. -/
theorem wcut_step (size : Nat) (big : Bool) (l : List UInt8) (h2 : size = 2 ∨ size = 4) (hm : (wnext size big l).2.2 ≠ 18) :
    wcut size big l = (wnext size big l).2.1 + wcut size big (l.drop (wnext size big l).2.1) := by
  rcases h2 with rfl | rfl
  · unfold wnext wnextN at *
    split at hm
    · simp at hm
    · rename_i hl
      rw [if_neg hl]
      split at hm
      · rename_i hh
        rw [if_pos hh]
        split at hm
        · simp at hm
        · rename_i h4
          rw [if_neg h4]
          obtain ⟨_, ha, hb⟩ := hh
          by_cases hp : 56320 ≤ unitN 2 big (l.drop 2) ∧ unitN 2 big (l.drop 2) < 57344
          · rw [if_pos hp]
            show wcut 2 big l = 4 + wcut 2 big (l.drop 4)
            unfold wcut
            rw [List.length_drop]
            have e : (l.length - 4) / 2 * 2 = l.length / 2 * 2 - 4 := by omega
            rw [e]
            by_cases hz : l.length / 2 * 2 = 4
            · rw [hz, if_neg (by rintro ⟨_, _, _, hx⟩; exact absurd hx (by show ¬ unitN 2 big (l.drop 2) < 56320; omega)), if_neg (by simp)]
            · rw [drop_drop', show 4 + (l.length / 2 * 2 - 4 - 2) = l.length / 2 * 2 - 2 from by omega]
              split <;> split <;> omega
          · rw [if_neg hp]
            show wcut 2 big l = 2 + wcut 2 big (l.drop 2)
            unfold wcut
            rw [List.length_drop]
            have e : (l.length - 2) / 2 * 2 = l.length / 2 * 2 - 2 := by omega
            rw [e, drop_drop', show 2 + (l.length / 2 * 2 - 2 - 2) = l.length / 2 * 2 - 2 from by omega]
            split <;> split <;> omega
      · rename_i hh
        have hgoal : wcut 2 big l = 2 + wcut 2 big (l.drop 2) := by
          unfold wcut
          rw [List.length_drop]
          have e : (l.length - 2) / 2 * 2 = l.length / 2 * 2 - 2 := by omega
          rw [e]
          by_cases hz : l.length / 2 * 2 = 2
          · rw [hz]
            simp only [Nat.sub_self, List.drop_zero]
            rw [if_neg (by rintro ⟨_, _, hx⟩; exact hh ⟨rfl, hx⟩), if_neg (by simp)]
          · rw [drop_drop', show 2 + (l.length / 2 * 2 - 2 - 2) = l.length / 2 * 2 - 2 from by omega]
            split <;> split <;> omega
        rw [if_neg hh]
        split <;> exact hgoal
  · have hgoal : ¬ l.length < 4 → wcut 4 big l = 4 + wcut 4 big (l.drop 4) := by
      intro hl
      unfold wcut
      rw [if_neg (by simp), if_neg (by simp), List.length_drop]
      omega
    unfold wnext wnextN at *
    split at hm
    · simp at hm
    · rename_i hl
      rw [if_neg hl, if_neg (by simp)]
      split <;> exact hgoal hl
theorem wcut_nil (size : Nat) (big : Bool) : wcut size big [] = 0 := by
  unfold wcut; simp
theorem lastMore_wcut (size : Nat) (big : Bool) (h2 : size = 2 ∨ size = 4) : ∀ (f : Nat) (t : List UInt8) (at' cut : Nat), t.length ≤ f →
    lastMore (wnext size big) f t at' cut = if wcut size big t < t.length then at' + wcut size big t else cut := by
  intro f
  induction f with
  | zero =>
    intro t a c h
    have : t = [] := List.eq_nil_of_length_eq_zero (by omega)
    subst this
    simp [lastMore]
  | succ f ih =>
    intro t a c h
    by_cases h0 : t.length = 0
    · have : t = [] := List.eq_nil_of_length_eq_zero h0
      subst this
      simp [lastMore]
    · have hp := wnext_pos size big t (by omega) h2
      rw [lastMore, if_neg h0, ih _ _ _ (by rw [List.length_drop]; omega)]
      by_cases hm : (wnext size big t).2.2 = 18
      · obtain ⟨hc, hn⟩ := wcut_more size big t h2 hm
        rw [if_pos hm, hn, List.drop_length, wcut_nil, hc, if_neg (by simp), if_pos (by omega)]
        rfl
      · have hs := wcut_step size big t h2 hm
        rw [if_neg hm, hs, List.length_drop]
        by_cases hx : wcut size big (t.drop (wnext size big t).2.1) < t.length - (wnext size big t).2.1
        · rw [if_pos hx, if_pos (by omega)]; omega
        · rw [if_neg hx, if_neg (by omega)]
/-- What the reference's loop over all units comes to. -/
theorem lastMore_all (size : Nat) (big : Bool) (h2 : size = 2 ∨ size = 4) (l : List UInt8) : lastMore (wnext size big) l.length l 0 l.length = wcut size big l := by
  rw [lastMore_wcut size big h2 _ _ _ _ (Nat.le_refl _)]
  have := wcut_le size big l
  split <;> omega
theorem lastMore_fuel (nx : List UInt8 → Int × Nat × Int) (hp : ∀ t, 0 < t.length → 1 ≤ (nx t).2.1) : ∀ (f g : Nat) (t : List UInt8) (a c : Nat), t.length ≤ f → t.length ≤ g → lastMore nx f t a c = lastMore nx g t a c := by
  intro f
  induction f with
  | zero =>
    intro g t a c h1 h2
    have : t.length = 0 := by omega
    cases g <;> simp [lastMore, this]
  | succ f ih =>
    intro g t a c h1 h2
    by_cases h0 : t.length = 0
    · cases g <;> simp [lastMore, h0]
    · cases g with
      | zero => omega
      | succ g =>
        have := hp t (by omega)
        rw [lastMore, lastMore, if_neg h0, if_neg h0]
        exact ih _ _ _ _ (by rw [List.length_drop]; omega) (by rw [List.length_drop]; omega)

theorem lastMore_step (nx : List UInt8 → Int × Nat × Int) (hp : ∀ t, 0 < t.length → 1 ≤ (nx t).2.1) (F : Nat) (t : List UInt8) (a c : Nat) (h0 : 0 < t.length) (hF : t.length ≤ F) :
    lastMore nx F t a c = lastMore nx F (t.drop (nx t).2.1) (a + (nx t).2.1) (if (nx t).2.2 = 18 then a else c) := by
  have h1 := hp t h0
  cases F with
  | zero => omega
  | succ F =>
    rw [lastMore, if_neg (by omega)]
    exact lastMore_fuel nx hp _ _ _ _ _ (by rw [List.length_drop]; omega) (by rw [List.length_drop]; omega)
theorem lastMore_end (nx : List UInt8 → Int × Nat × Int) (F : Nat) (a c : Nat) : lastMore nx F [] a c = c := by cases F <;> simp [lastMore]
/-- The kind whose mark bytes begin with, sought from the i-th of the four on. -/
def ordF (i : Nat) : Int := [3, 4, 1, 2].getD i 0
def guessFrom (p : Nat → Bool) (n : Nat → Nat) (j : Nat) : Int × Int :=
  if j = 0 then (if p 0 then (3, n 0) else if p 1 then (4, n 1) else if p 2 then (1, n 2) else if p 3 then (2, n 3) else (0, 0))
  else if j = 1 then (if p 1 then (4, n 1) else if p 2 then (1, n 2) else if p 3 then (2, n 3) else (0, 0))
  else if j = 2 then (if p 2 then (1, n 2) else if p 3 then (2, n 3) else (0, 0))
  else if j = 3 then (if p 3 then (2, n 3) else (0, 0)) else (0, 0)
theorem guessFrom_step (p : Nat → Bool) (n : Nat → Nat) (j : Nat) (h : j < 4) : guessFrom p n j = if p j then (ordF j, (n j : Int)) else guessFrom p n (j + 1) := by
  match j, h with
  | 0, _ => rfl
  | 1, _ => rfl
  | 2, _ => rfl
  | 3, _ => rfl
theorem prefix_iff (l m : List UInt8) : l.isPrefixOf m = true ↔ l.length ≤ m.length ∧ m.take l.length = l := by
  rw [List.isPrefixOf_iff_prefix]
  constructor
  · intro h
    exact ⟨h.length_le, (List.prefix_iff_eq_take.1 h).symm⟩
  · rintro ⟨_, h2⟩
    exact List.prefix_iff_eq_take.2 h2.symm

end Pl
end Go.Proofs.YtlfhmkjomogkiaaDoor
