/- Plain: lines of texts put together; what is read of them. -/
import Derived.Test.YtopaoejapnakiaaGreatDoorM2
namespace Go.Proofs.YtopaoejapnakiaaGreatDoor.Mf

def consL (c : UInt8) : List (List UInt8) → List (List UInt8)
  | [] => [[c]]
  | l :: ls => (c :: l) :: ls
theorem linesOf_rec (c : UInt8) (u : List UInt8) : linesOf (c :: u) = if c = 10 then [] :: linesOf u else consL c (linesOf u) := by
  rw [linesOf_cons _ (by simp)]
  by_cases h : c = 10
  · subst h
    rw [if_pos rfl]
    rfl
  · rw [if_neg h]
    have hw : (c :: u).takeWhile (· != 10) = c :: u.takeWhile (· != 10) := by
      rw [List.takeWhile_cons, if_pos (by simpa using h)]
    rw [hw, List.length_cons, List.drop_succ_cons]
    cases u with
    | nil => rfl
    | cons d v => rw [linesOf_cons (d :: v) (by simp)]; rfl
/-- The lines of a text behind which a line feed stands. -/
def cutL : List UInt8 → List (List UInt8)
  | [] => [[]]
  | c :: t => if c = 10 then [] :: cutL t else consL c (cutL t)
theorem cutL_rec (c : UInt8) (t : List UInt8) : cutL (c :: t) = if c = 10 then [] :: cutL t else consL c (cutL t) := rfl
theorem cutL_ne (s : List UInt8) : cutL s ≠ [] := by
  cases s with
  | nil => simp [cutL]
  | cons c t =>
    unfold cutL
    split
    · simp
    · cases cutL t <;> simp [consL]
theorem consL_append (c : UInt8) (a b : List (List UInt8)) (h : a ≠ []) : consL c (a ++ b) = consL c a ++ b := by
  cases a with
  | nil => exact absurd rfl h
  | cons x y => rfl
theorem linesOf_cut (s t : List UInt8) : linesOf (s ++ 10 :: t) = cutL s ++ linesOf t := by
  induction s with
  | nil => rw [List.nil_append, linesOf_rec, if_pos rfl]; rfl
  | cons c s ih =>
    rw [List.cons_append, linesOf_rec, ih, cutL_rec]
    by_cases h : c = 10
    · rw [if_pos h, if_pos h]; rfl
    · rw [if_neg h, if_neg h, consL_append _ _ _ (cutL_ne s)]
theorem linesOf_lf (s : List UInt8) : linesOf (s ++ [10]) = cutL s := by rw [linesOf_cut, linesOf_nil, List.append_nil]
theorem cutL_len (s : List UInt8) : (cutL s).length = s.count 10 + 1 := by
  induction s with
  | nil => rfl
  | cons c t ih =>
    rw [cutL_rec]
    by_cases h : c = 10
    · rw [if_pos h, List.length_cons, ih, List.count_cons, if_pos (by rw [h]; rfl)]
    · rw [if_neg h, List.count_cons, if_neg (by simpa using h)]
      have := cutL_ne t
      cases hc : cutL t with
      | nil => exact absurd hc this
      | cons x y => rw [hc] at ih; exact ih
theorem cutL_len_le (s : List UInt8) : (cutL s).length ≤ s.length + 1 := by
  rw [cutL_len]
  have := List.count_le_length (a := (10 : UInt8)) (l := s)
  omega
theorem lines_len (s : List UInt8) : (linesOf s).length ≤ s.length := by
  induction s with
  | nil => exact Nat.le_refl _
  | cons c t ih =>
    rw [linesOf_rec]
    by_cases h : c = 10
    · rw [if_pos h, List.length_cons, List.length_cons]; omega
    · rw [if_neg h]
      cases hc : linesOf t with
      | nil => simp [consL]
      | cons x y => rw [hc] at ih; simp only [consL, List.length_cons] at ih ⊢; omega
theorem lines_each (s : List UInt8) : ∀ l ∈ linesOf s, l.length ≤ s.length := by
  induction s with
  | nil => intro l h; rw [linesOf_nil] at h; cases h
  | cons c t ih =>
    rw [linesOf_rec]
    by_cases h : c = 10
    · rw [if_pos h]
      intro l hl
      rcases List.mem_cons.1 hl with rfl | hl
      · simp
      · have := ih l hl; rw [List.length_cons]; omega
    · rw [if_neg h]
      intro l hl
      cases hc : linesOf t with
      | nil => rw [hc] at hl; simp [consL] at hl; subst hl; simp
      | cons x y =>
        rw [hc] at hl ih
        rcases List.mem_cons.1 hl with rfl | hl
        · have := ih x (by simp); simp only [List.length_cons]; omega
        · have := ih l (List.mem_cons_of_mem _ hl); simp only [List.length_cons]; omega
theorem fits_cut (s t : List UInt8) (hs : s.length ≤ 2000) (ht : t.length ≤ 2000) (hl : ∀ l ∈ cutL s, l.length ≤ 512) : fits (s ++ 10 :: t) = fits t := by
  unfold fits
  rw [linesOf_cut, List.all_append]
  have h1 : (cutL s).all (fun l => decide (l.length ≤ 512)) = true := List.all_eq_true.2 fun l h => decide_eq_true (hl l h)
  have h2 := cutL_len_le s
  have h3 := lines_len t
  rw [h1, decide_eq_true (by rw [List.length_append]; omega), decide_eq_true (by omega)]
  simp
theorem fits_lf (s : List UInt8) (hs : s.length ≤ 2000) (hl : ∀ l ∈ cutL s, l.length ≤ 512) : fits (s ++ [10]) = true := by
  rw [fits_cut s [] hs (by simp) hl]
  rfl
theorem readGo_cons (F : List UInt8 → One) (i : Nat) (out : List LRow) (s : List UInt8) (t : List (List UInt8)) : readGo F i out (s :: t) = match F (clean s) with
    | .none => readGo F (i + 1) out t
    | .err e => ([], (i : Int) + 1, e)
    | .row x => readGo F (i + 1) (out ++ [x]) t := rfl
section
variable {F : List UInt8 → One} (hF : ∀ s, F s ≠ .err 0)
include hF
theorem readGo_facts : ∀ (b : List (List UInt8)) (i : Nat) (out : List LRow), ((readGo F i out b).2.2 = 0 → (readGo F i out b).2.1 = 0) ∧ ((readGo F i out b).2.2 ≠ 0 → (readGo F i out b).1 = [] ∧ (i : Int) < (readGo F i out b).2.1 ∧ (readGo F i out b).2.1 ≤ i + b.length) := by
  intro b
  induction b with
  | nil => intro i out; exact ⟨fun _ => rfl, fun h => absurd rfl h⟩
  | cons s t ih =>
    intro i out
    rw [readGo_cons]
    cases h : F (clean s) with
    | none =>
      obtain ⟨h1, h2⟩ := ih (i + 1) out
      simp only
      exact ⟨h1, fun h => ⟨(h2 h).1, by have := (h2 h).2; omega, by have := (h2 h).2.2; rw [List.length_cons]; omega⟩⟩
    | row x =>
      obtain ⟨h1, h2⟩ := ih (i + 1) (out ++ [x])
      simp only
      exact ⟨h1, fun h => ⟨(h2 h).1, by have := (h2 h).2; omega, by have := (h2 h).2.2; rw [List.length_cons]; omega⟩⟩
    | err e =>
      refine ⟨fun he => ?_, fun _ => ⟨rfl, by simp only; omega, by simp only [List.length_cons]; omega⟩⟩
      have he : e = 0 := he
      subst he
      exact absurd h (hF _)
theorem readGo_shift : ∀ (b : List (List UInt8)) (i j : Nat) (out o2 : List LRow), readGo F (i + j) (out ++ o2) b = if (readGo F j o2 b).2.2 = 0 then (out ++ (readGo F j o2 b).1, 0, 0) else ([], (readGo F j o2 b).2.1 + i, (readGo F j o2 b).2.2) := by
  intro b
  induction b with
  | nil => intro i j out o2; simp [readGo]
  | cons s t ih =>
    intro i j out o2
    rw [readGo_cons, readGo_cons]
    cases h : F (clean s) with
    | none => exact ih i (j + 1) out o2
    | row x =>
      have := ih i (j + 1) out (o2 ++ [x])
      rw [← List.append_assoc] at this
      exact this
    | err e =>
      have he : e ≠ 0 := fun he => by subst he; exact absurd h (hF _)
      simp only
      rw [if_neg he]
      congr 2
      omega
theorem readGo_append : ∀ (a b : List (List UInt8)) (i : Nat) (out : List LRow), readGo F i out (a ++ b) = if (readGo F i out a).2.2 = 0 then readGo F (i + a.length) (readGo F i out a).1 b else readGo F i out a := by
  intro a
  induction a with
  | nil => intro b i out; simp [readGo]
  | cons s t ih =>
    intro b i out
    rw [List.cons_append, readGo_cons, readGo_cons]
    cases h : F (clean s) with
    | none =>
      simp only
      rw [ih b (i + 1) out, List.length_cons, show i + 1 + t.length = i + (t.length + 1) by omega]
    | row x =>
      simp only
      rw [ih b (i + 1) (out ++ [x]), List.length_cons, show i + 1 + t.length = i + (t.length + 1) by omega]
    | err e =>
      have he : e ≠ 0 := fun he => by subst he; exact absurd h (hF _)
      simp only
      rw [if_neg he]
/-- A text behind a text of whole lines. -/
theorem read_join (s t : List UInt8) (hs : s.length ≤ 2000) (ht : t.length ≤ 2000) (hl : ∀ l ∈ cutL s, l.length ≤ 512) :
    ((readL F t).2.2 = 11 ∧ (readL F t).2.1 = 0 → readL F (s ++ 10 :: t) = ([], 0, 11)) ∧
    (¬ ((readL F t).2.2 = 11 ∧ (readL F t).2.1 = 0) → (readL F (s ++ [10])).2.2 ≠ 0 → readL F (s ++ 10 :: t) = ([], (readL F (s ++ [10])).2.1, (readL F (s ++ [10])).2.2)) ∧
    (¬ ((readL F t).2.2 = 11 ∧ (readL F t).2.1 = 0) → (readL F (s ++ [10])).2.2 = 0 → (readL F t).2.2 ≠ 0 → readL F (s ++ 10 :: t) = ([], (readL F t).2.1 + (cutL s).length, (readL F t).2.2)) ∧
    (¬ ((readL F t).2.2 = 11 ∧ (readL F t).2.1 = 0) → (readL F (s ++ [10])).2.2 = 0 → (readL F t).2.2 = 0 → readL F (s ++ 10 :: t) = ((readL F (s ++ [10])).1 ++ (readL F t).1, 0, 0)) := by
  have hA : readL F (s ++ [10]) = readGo F 0 [] (cutL s) := by unfold readL; rw [if_pos (fits_lf s hs hl), linesOf_lf]
  have hC : readL F (s ++ 10 :: t) = if fits t = true then readGo F 0 [] (cutL s ++ linesOf t) else ([], 0, 11) := by unfold readL; rw [fits_cut s t hs ht hl, linesOf_cut]
  by_cases hf : fits t = true
  · have hB : readL F t = readGo F 0 [] (linesOf t) := by unfold readL; rw [if_pos hf]
    rw [if_pos hf, readGo_append hF] at hC
    rw [hA, hB]
    have fa := readGo_facts hF (cutL s) 0 []
    have fb := readGo_facts hF (linesOf t) 0 []
    have sh := readGo_shift hF (linesOf t) (cutL s).length 0 (readGo F 0 [] (cutL s)).1 []
    rw [List.append_nil, Nat.add_zero] at sh
    rw [Nat.zero_add, sh] at hC
    generalize readGo F 0 [] (cutL s) = A at *
    generalize readGo F 0 [] (linesOf t) = B at *
    refine ⟨fun h => ?_, fun h ha => ?_, fun h ha hb => ?_, fun h ha hb => ?_⟩
    · have := fb.2 (by rw [h.1]; decide)
      rw [h.2] at this
      exact absurd this.2.1 (by decide)
    · rw [hC, if_neg ha]
      have := (fa.2 ha).1
      obtain ⟨a1, a2, a3⟩ := A
      simp only at this ⊢
      rw [this]
    · rw [hC, if_pos ha, if_neg hb]
    · rw [hC, if_pos ha, if_pos hb]
  · have hB : readL F t = ([], 0, 11) := by unfold readL; rw [if_neg hf]
    rw [if_neg hf] at hC
    rw [hB]
    exact ⟨fun _ => hC, fun h => absurd ⟨rfl, rfl⟩ h, fun h => absurd ⟨rfl, rfl⟩ h, fun h => absurd ⟨rfl, rfl⟩ h⟩
end
theorem rtrim_sp (l : List UInt8) : rtrim (l ++ [32]) = rtrim l := by
  unfold rtrim
  rw [List.reverse_append]
  rfl
theorem clean_note (l : List UInt8) : clean (l ++ [32, 35, 32]) = clean l := by
  unfold clean
  by_cases h : ∃ c ∈ l, c = 35
  · rw [List.takeWhile_append, if_neg]
    intro h2
    obtain ⟨c, hc, rfl⟩ := h
    have h3 : (l.takeWhile (· != 35)) = l := (List.takeWhile_prefix _).eq_of_length h2
    have h4 := List.all_takeWhile (p := (· != (35 : UInt8))) (l := l)
    rw [h3] at h4
    have h5 := List.all_eq_true.1 h4 _ hc
    simp at h5
  · have h1 : ∀ c ∈ l, (c != 35) = true := fun c hc => by
      rw [bne_iff_ne]
      exact fun he => h ⟨c, hc, he⟩
    rw [List.takeWhile_append_of_pos h1]
    have h2 : List.takeWhile (fun x : UInt8 => x != 35) [32, 35, 32] = [32] := by decide
    rw [h2, rtrim_sp]
    congr 1
    have h3 : l.takeWhile (fun x : UInt8 => x != 35) = (l ++ []).takeWhile (fun x : UInt8 => x != 35) := by rw [List.append_nil]
    rw [h3, List.takeWhile_append_of_pos h1]
    simp
/-- The last line's end is put on. -/
theorem cutL_snoc (s e : List UInt8) (he : ∀ c ∈ e, c ≠ 10) : ∃ a l, cutL s = a ++ [l] ∧ cutL (s ++ e) = a ++ [l ++ e] := by
  induction s with
  | nil =>
    refine ⟨[], [], rfl, ?_⟩
    rw [List.nil_append, List.nil_append]
    induction e with
    | nil => rfl
    | cons c e ih =>
      rw [cutL_rec, if_neg (he c (by simp)), ih (fun d hd => he d (List.mem_cons_of_mem _ hd))]
      rfl
  | cons c s ih =>
    obtain ⟨a, l, h1, h2⟩ := ih
    rw [List.cons_append, cutL_rec, cutL_rec]
    by_cases h : c = 10
    · rw [if_pos h, if_pos h, h1, h2]
      exact ⟨[] :: a, l, rfl, rfl⟩
    · rw [if_neg h, if_neg h, h1, h2]
      cases a with
      | nil => exact ⟨[], c :: l, rfl, rfl⟩
      | cons x y => exact ⟨(c :: x) :: y, l, rfl, rfl⟩
theorem readGo_same {F : List UInt8 → One} : ∀ (a : List (List UInt8)) (i : Nat) (out : List LRow) (l m : List UInt8), clean l = clean m → readGo F i out (a ++ [l]) = readGo F i out (a ++ [m]) := by
  intro a
  induction a with
  | nil => intro i out l m h; simp only [List.nil_append, readGo, h]
  | cons s t ih =>
    intro i out l m h
    simp only [List.cons_append, readGo]
    cases F (clean s) with
    | none => exact ih _ _ _ _ h
    | row x => exact ih _ _ _ _ h
    | err e => rfl
theorem read_note {F : List UInt8 → One} (s : List UInt8) (hs : s.length ≤ 1500) (hl : ∀ l ∈ cutL s, l.length ≤ 509) : readL F (s ++ [32, 35, 32] ++ [10]) = readL F (s ++ [10]) := by
  obtain ⟨a, l, h1, h2⟩ := cutL_snoc s [32, 35, 32] (by decide)
  have f1 : fits (s ++ [10]) = true := fits_lf s (by omega) (fun x hx => by have := hl x hx; omega)
  have f2 : fits (s ++ [32, 35, 32] ++ [10]) = true := by
    refine fits_lf _ (by rw [List.length_append]; show s.length + 3 ≤ _; omega) (fun x hx => ?_)
    rw [h2] at hx
    rw [h1] at hl
    rcases List.mem_append.1 hx with h | h
    · have := hl x (List.mem_append_left _ h); omega
    · obtain rfl : x = l ++ [32, 35, 32] := by simpa using h
      have := hl l (by simp)
      rw [List.length_append]
      show l.length + 3 ≤ 512
      omega
  unfold readL
  rw [if_pos f1, if_pos f2, linesOf_lf, linesOf_lf, h1, h2]
  exact readGo_same _ _ _ _ _ (clean_note l)
end Go.Proofs.YtopaoejapnakiaaGreatDoor.Mf
