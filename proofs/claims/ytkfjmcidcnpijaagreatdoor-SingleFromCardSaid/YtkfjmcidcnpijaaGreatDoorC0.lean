/- Plain: classes of characters, what a few characters are, the reference's sort. -/
namespace Go.Proofs.YtkfjmcidcnpijaaGreatDoor
namespace Pl
/-- A character's class. -/
def cls (r : Int) : Int :=
  if r = 768 then 230 else
  if r = 769 then 230 else
  if r = 770 then 230 else
  if r = 771 then 230 else
  if r = 772 then 230 else
  if r = 776 then 230 else
  if r = 778 then 230 else
  if r = 803 then 220 else
  if r = 804 then 220 else
  if r = 817 then 220 else
  if r = 807 then 202 else
  if r = 808 then 202 else
  if r = 824 then 1 else
  if r = 837 then 240 else
  0
theorem cls_nonneg (r : Int) : 0 ≤ cls r := by
  unfold cls
  by_cases h768 : r = 768
  · rw [if_pos h768]; decide
  rw [if_neg h768]
  by_cases h769 : r = 769
  · rw [if_pos h769]; decide
  rw [if_neg h769]
  by_cases h770 : r = 770
  · rw [if_pos h770]; decide
  rw [if_neg h770]
  by_cases h771 : r = 771
  · rw [if_pos h771]; decide
  rw [if_neg h771]
  by_cases h772 : r = 772
  · rw [if_pos h772]; decide
  rw [if_neg h772]
  by_cases h776 : r = 776
  · rw [if_pos h776]; decide
  rw [if_neg h776]
  by_cases h778 : r = 778
  · rw [if_pos h778]; decide
  rw [if_neg h778]
  by_cases h803 : r = 803
  · rw [if_pos h803]; decide
  rw [if_neg h803]
  by_cases h804 : r = 804
  · rw [if_pos h804]; decide
  rw [if_neg h804]
  by_cases h817 : r = 817
  · rw [if_pos h817]; decide
  rw [if_neg h817]
  by_cases h807 : r = 807
  · rw [if_pos h807]; decide
  rw [if_neg h807]
  by_cases h808 : r = 808
  · rw [if_pos h808]; decide
  rw [if_neg h808]
  by_cases h824 : r = 824
  · rw [if_pos h824]; decide
  rw [if_neg h824]
  by_cases h837 : r = 837
  · rw [if_pos h837]; decide
  rw [if_neg h837]
  decide
theorem cls_le (r : Int) : cls r ≤ 240 := by
  unfold cls
  by_cases h768 : r = 768
  · rw [if_pos h768]; decide
  rw [if_neg h768]
  by_cases h769 : r = 769
  · rw [if_pos h769]; decide
  rw [if_neg h769]
  by_cases h770 : r = 770
  · rw [if_pos h770]; decide
  rw [if_neg h770]
  by_cases h771 : r = 771
  · rw [if_pos h771]; decide
  rw [if_neg h771]
  by_cases h772 : r = 772
  · rw [if_pos h772]; decide
  rw [if_neg h772]
  by_cases h776 : r = 776
  · rw [if_pos h776]; decide
  rw [if_neg h776]
  by_cases h778 : r = 778
  · rw [if_pos h778]; decide
  rw [if_neg h778]
  by_cases h803 : r = 803
  · rw [if_pos h803]; decide
  rw [if_neg h803]
  by_cases h804 : r = 804
  · rw [if_pos h804]; decide
  rw [if_neg h804]
  by_cases h817 : r = 817
  · rw [if_pos h817]; decide
  rw [if_neg h817]
  by_cases h807 : r = 807
  · rw [if_pos h807]; decide
  rw [if_neg h807]
  by_cases h808 : r = 808
  · rw [if_pos h808]; decide
  rw [if_neg h808]
  by_cases h824 : r = 824
  · rw [if_pos h824]; decide
  rw [if_neg h824]
  by_cases h837 : r = 837
  · rw [if_pos h837]; decide
  rw [if_neg h837]
  decide
/-- What a character is. -/
def oneR (r : Int) : List Int :=
  if r = 196 then [65, 776] else
  if r = 228 then [97, 776] else
  if r = 225 then [97, 769] else
  if r = 7841 then [97, 803] else
  if r = 7853 then [97, 803, 770] else
  if r = 197 then [65, 778] else
  if r = 8491 then [65, 778] else
  if r = 836 then [776, 769] else
  [r]
theorem oneR_len (r : Int) : 1 ≤ (oneR r).length ∧ (oneR r).length ≤ 3 := by
  unfold oneR
  repeat (split; · decide)
  simp
/-- One pass of the reference's sort. -/
def pass : Int → List Int → List Int
  | c, [] => [c]
  | c, b :: t => if 0 < cls b ∧ cls b < cls c then b :: pass c t else c :: pass b t
def passL : List Int → List Int
  | [] => []
  | c :: t => pass c t
def passN : Nat → List Int → List Int
  | 0, l => l
  | n + 1, l => passN n (passL l)
def sortRef (l : List Int) : List Int := passN l.length l
theorem pass_len : ∀ (t : List Int) (c : Int), (pass c t).length = t.length + 1 := by
  intro t
  induction t with
  | nil => intro c; rfl
  | cons b t ih =>
    intro c
    unfold pass
    split
    · rw [List.length_cons, ih]; rfl
    · rw [List.length_cons, ih]; rfl
theorem passL_len (l : List Int) : (passL l).length = l.length := by
  cases l with
  | nil => rfl
  | cons c t => exact pass_len t c
theorem passN_len : ∀ (n : Nat) (l : List Int), (passN n l).length = l.length := by
  intro n
  induction n with
  | zero => intro l; rfl
  | succ n ih => intro l; show (passN n (passL l)).length = _; rw [ih, passL_len]
theorem sortRef_len (l : List Int) : (sortRef l).length = l.length := passN_len _ _
theorem pass_mem : ∀ (t : List Int) (c x : Int), x ∈ pass c t ↔ x = c ∨ x ∈ t := by
  intro t
  induction t with
  | nil => intro c x; simp [pass]
  | cons b t ih =>
    intro c x
    unfold pass
    split
    · rw [List.mem_cons, ih, List.mem_cons]
      constructor
      · rintro (h | h | h)
        · exact .inr (.inl h)
        · exact .inl h
        · exact .inr (.inr h)
      · rintro (h | h | h)
        · exact .inr (.inl h)
        · exact .inl h
        · exact .inr (.inr h)
    · rw [List.mem_cons, ih, List.mem_cons]
theorem passN_mem : ∀ (n : Nat) (l : List Int) (x : Int), x ∈ passN n l ↔ x ∈ l := by
  intro n
  induction n with
  | zero => intro l x; exact Iff.rfl
  | succ n ih =>
    intro l x
    show x ∈ passN n (passL l) ↔ _
    rw [ih]
    cases l with
    | nil => exact Iff.rfl
    | cons c t => show x ∈ pass c t ↔ _; rw [pass_mem, List.mem_cons]
theorem sortRef_mem (l : List Int) (x : Int) : x ∈ sortRef l ↔ x ∈ l := passN_mem _ _ _
/-- How many of these have a greater class. -/
def over (x : Int) (pre : List Int) : Nat := pre.countP fun y => decide (cls x < cls y)
def push (c : Int) (pre : List Int) : List Int := if cls c = 0 then [] else c :: pre
/-- No character of a row has more than k of a greater class ahead of it, back to the last base. -/
def Dle (k : Nat) : List Int → List Int → Prop
  | _, [] => True
  | pre, x :: t => (cls x = 0 ∨ over x pre ≤ k) ∧ Dle k (push x pre) t
theorem over_cons (x c : Int) (pre : List Int) : over x (c :: pre) = over x pre + if cls x < cls c then 1 else 0 := by
  unfold over
  rw [List.countP_cons]
  by_cases h : cls x < cls c
  · simp [h]
  · simp [h]
theorem over_swap (x b c : Int) (pre : List Int) : over x (b :: c :: pre) = over x (c :: b :: pre) := by
  rw [over_cons, over_cons, over_cons, over_cons]; omega
theorem Dle_over (k : Nat) : ∀ (t p q : List Int), (∀ x, over x p = over x q) → Dle k p t → Dle k q t := by
  intro t
  induction t with
  | nil => intro p q _ _; trivial
  | cons x t ih =>
    intro p q h hd
    obtain ⟨h1, h2⟩ := hd
    refine ⟨by rw [← h x]; exact h1, ih (push x p) (push x q) (fun y => ?_) h2⟩
    unfold push
    split
    · rfl
    · rw [over_cons, over_cons, h y]
theorem over_zero (x : Int) (pre : List Int) (h : ∀ y ∈ pre, cls y ≤ cls x) : over x pre = 0 := by
  unfold over
  rw [List.countP_eq_zero]
  intro y hy
  have := h y hy
  simp
  omega
/-- One pass takes one off. -/
theorem pass_step (k : Nat) : ∀ (t pre : List Int) (c : Int), (cls c = 0 ∨ ∀ y ∈ pre, cls y ≤ cls c) → Dle (k + 1) (push c pre) t → Dle k pre (pass c t) := by
  intro t
  induction t with
  | nil =>
    intro pre c hc _
    refine ⟨?_, trivial⟩
    rcases hc with h | h
    · exact .inl h
    · right; rw [over_zero c pre h]; omega
  | cons b t ih =>
    intro pre c hc hd
    unfold pass
    by_cases hs : 0 < cls b ∧ cls b < cls c
    · rw [if_pos hs]
      have hc0 : cls c ≠ 0 := by omega
      have hb0 : cls b ≠ 0 := by omega
      have hp : push c pre = c :: pre := if_neg hc0
      have hmax : ∀ y ∈ pre, cls y ≤ cls c := hc.resolve_left hc0
      rw [hp] at hd
      obtain ⟨h1, h2⟩ := hd
      have h1 := h1.resolve_left hb0
      rw [over_cons, if_pos hs.2] at h1
      refine ⟨.inr (by omega), ?_⟩
      have hpb : push b pre = b :: pre := if_neg hb0
      rw [hpb]
      refine ih (b :: pre) c (.inr ?_) ?_
      · intro y hy
        rcases List.mem_cons.1 hy with rfl | hy
        · omega
        · exact hmax y hy
      · have hpc : push c (b :: pre) = c :: b :: pre := if_neg hc0
        rw [hpc]
        have h3 : push b (c :: pre) = b :: c :: pre := if_neg hb0
        rw [h3] at h2
        exact Dle_over _ t _ _ (fun x => over_swap x b c pre) h2
    · rw [if_neg hs]
      refine ⟨?_, ?_⟩
      · rcases hc with h | h
        · exact .inl h
        · right; rw [over_zero c pre h]; omega
      · obtain ⟨_, h2⟩ := hd
        refine ih (push c pre) b ?_ h2
        by_cases hb0 : cls b = 0
        · exact .inl hb0
        · right
          have hbp := cls_nonneg b
          have hbc : cls c ≤ cls b := by omega
          intro y hy
          unfold push at hy
          split at hy
          · simp at hy
          · rename_i hc0
            have hmax := hc.resolve_left hc0
            rcases List.mem_cons.1 hy with rfl | hy
            · exact hbc
            · have := hmax y hy; omega
theorem passL_step (k : Nat) (l : List Int) (h : Dle (k + 1) [] l) : Dle k [] (passL l) := by
  cases l with
  | nil => trivial
  | cons c t => exact pass_step k t [] c (.inr (by simp)) h.2
theorem passN_step : ∀ (n : Nat) (l : List Int), Dle n [] l → Dle 0 [] (passN n l) := by
  intro n
  induction n with
  | zero => intro l h; exact h
  | succ n ih => intro l h; exact ih _ (passL_step n l h)
theorem Dle_len : ∀ (t pre : List Int) (n : Nat), pre.length + t.length ≤ n → Dle n pre t := by
  intro t
  induction t with
  | nil => intro pre n _; trivial
  | cons x t ih =>
    intro pre n h
    refine ⟨.inr ?_, ih _ _ ?_⟩
    · have : over x pre ≤ pre.length := List.countP_le_length
      simp at h
      omega
    · unfold push
      simp at h
      split
      · simp; omega
      · simp; omega
/-- No character with a class stands behind one of a greater class. -/
def Rising : List Int → Prop
  | [] => True
  | [_] => True
  | a :: b :: t => (cls b = 0 ∨ cls a ≤ cls b) ∧ Rising (b :: t)
theorem rising_of : ∀ (t pre : List Int) (c : Int), Dle 0 (push c pre) t → Rising (c :: t) := by
  intro t
  induction t with
  | nil => intro pre c _; trivial
  | cons b t ih =>
    intro pre c h
    obtain ⟨h1, h2⟩ := h
    refine ⟨?_, ih _ b h2⟩
    rcases h1 with h1 | h1
    · exact .inl h1
    · right
      unfold push at h1
      split at h1
      · rename_i h0; rw [h0]; exact cls_nonneg b
      · rw [over_cons] at h1
        split at h1
        · omega
        · omega
theorem sortRef_rising (l : List Int) : Rising (sortRef l) := by
  have h := passN_step l.length l (Dle_len l [] l.length (by simp))
  unfold sortRef
  cases hs : passN l.length l with
  | nil => trivial
  | cons c t =>
    rw [hs] at h
    exact rising_of t [] c h.2
/-- The NFD of the small database. -/
def nfd (l : List Int) : List Int := sortRef (l.flatMap oneR)
end Pl
end Go.Proofs.YtkfjmcidcnpijaaGreatDoor
