/- Plain: what charset.New has taken of rows, and which row it does not take: as the reference says. -/
import Derived.Test.YtkfjmcidcnpijaaGreatDoorGD
import Derived.Test.YtkfjmcidcnpijaaGreatDoorGB
namespace Go.Proofs.YtkfjmcidcnpijaaGreatDoor.Sg
open Go.RowKit Pl Go.Lib

/-- A row as a value. -/
abbrev rowV (r : RowV) : Value := .agg #[.string r.code, .string r.text, .int .i64 r.flag]
/-- The texts by codes, for decoding. -/
def hasCode (t : List UInt8) (q : RowV) : Bool := q.flag != 1 && t == q.code.data.toList
def textsF (pre : List RowV) : List UInt8 → Option ByteArray := fun t => (pre.find? (hasCode t)).map (·.text)
/-- Is a text a beginning of a code, shorter than n? -/
def pfx (n : Nat) (code t : List UInt8) : Bool := decide (t.length < n) && t.isPrefixOf code
def hasHead (t : List UInt8) (q : RowV) : Bool := q.flag != 1 && pfx q.code.data.toList.length q.code.data.toList t
def headsF (pre : List RowV) : List UInt8 → Option Bool := fun t => if pre.any (hasHead t) = true then some true else none
def headsK (code : List UInt8) (i : Nat) (g : List UInt8 → Option Bool) : List UInt8 → Option Bool := fun t => if pfx i code t = true then some true else g t
/-- What decodes answers. -/
def errD (f : List UInt8 → Option ByteArray) (g : List UInt8 → Option Bool) (code : List UInt8) : Int :=
  if (f code).isSome = true then 12 else if (g code).isSome = true then 10 else if (List.range code.length).any (fun i => (f (code.take i)).isSome) = true then 10 else 0
theorem textsF_some (pre : List RowV) (t : List UInt8) : (textsF pre t).isSome = pre.any (hasCode t) := by
  unfold textsF
  rw [Option.isSome_map]
  induction pre with
  | nil => rfl
  | cons a l ih =>
    rw [List.find?_cons, List.any_cons]
    cases h : hasCode t a with
    | true => rfl
    | false => rw [Bool.false_or, ← ih]
theorem headsF_some (pre : List RowV) (t : List UInt8) : (headsF pre t).isSome = pre.any (hasHead t) := by
  unfold headsF
  cases h : pre.any (hasHead t) <;> simp
theorem textsF_snoc (pre : List RowV) (r : RowV) (h1 : r.flag ≠ 1) (h : (textsF pre r.code.data.toList).isSome = false) : (fun t => if t = r.code.data.toList then some r.text else textsF pre t) = textsF (pre ++ [r]) := by
  funext t
  unfold textsF at *
  rw [List.find?_append]
  by_cases ht : t = r.code.data.toList
  · subst ht
    rw [if_pos rfl]
    cases hf : pre.find? (hasCode r.code.data.toList) with
    | none => simp [hasCode, h1]
    | some a => rw [hf] at h; simp at h
  · rw [if_neg ht]
    cases hf : pre.find? (hasCode t) with
    | none => simp [hasCode, ht]
    | some a => rfl
theorem textsF_skip (pre : List RowV) (r : RowV) (h1 : r.flag = 1) : textsF (pre ++ [r]) = textsF pre := by
  funext t
  unfold textsF
  rw [List.find?_append]
  have : hasCode t r = false := by simp [hasCode, h1]
  cases hf : pre.find? (hasCode t) <;> simp [this]
theorem headsF_skip (pre : List RowV) (r : RowV) (h1 : r.flag = 1) : headsF (pre ++ [r]) = headsF pre := by
  funext t
  unfold headsF
  rw [List.any_append]
  have : hasHead t r = false := by simp [hasHead, h1]
  simp [this]
theorem headsF_snoc (pre : List RowV) (r : RowV) (h1 : r.flag ≠ 1) : headsK r.code.data.toList r.code.data.toList.length (headsF pre) = headsF (pre ++ [r]) := by
  funext t
  unfold headsK headsF
  rw [List.any_append]
  have h2 : [r].any (hasHead t) = pfx r.code.data.toList.length r.code.data.toList t := by
    show (hasHead t r || false) = _
    rw [Bool.or_false]
    unfold hasHead
    have h3 : (r.flag != 1) = true := by simp [h1]
    rw [h3, Bool.true_and]
  rw [h2]
  cases pfx r.code.data.toList.length r.code.data.toList t <;> cases pre.any (hasHead t) <;> rfl
theorem headsK_zero (code : List UInt8) (g : List UInt8 → Option Bool) : headsK code 0 g = g := by
  funext t
  simp [headsK, pfx]
theorem pre_iff_take (t code : List UInt8) : t.isPrefixOf code = true ↔ t.length ≤ code.length ∧ t = code.take t.length := by
  rw [List.isPrefixOf_iff_prefix, List.prefix_iff_eq_take]
  constructor
  · intro h
    exact ⟨by have h2 := congrArg List.length h; simp at h2; omega, h⟩
  · exact fun h => h.2
theorem pfx_succ (code t : List UInt8) (i : Nat) (hi : i < code.length) : pfx (i + 1) code t = true ↔ t = code.take i ∨ pfx i code t = true := by
  unfold pfx
  rw [Bool.and_eq_true, Bool.and_eq_true, decide_eq_true_eq, decide_eq_true_eq, pre_iff_take]
  constructor
  · rintro ⟨h1, h2, h3⟩
    by_cases he : t.length = i
    · left; rw [← he]; exact h3
    · exact .inr ⟨by omega, h2, h3⟩
  · rintro (h | ⟨h1, h2, h3⟩)
    · have hl : t.length = i := by rw [h, List.length_take]; omega
      exact ⟨by omega, by omega, by rw [hl]; exact h⟩
    · exact ⟨by omega, h2, h3⟩
theorem headsK_succ (code : List UInt8) (i : Nat) (hi : i < code.length) (g : List UInt8 → Option Bool) : (fun t => if t = code.take i then some true else headsK code i g t) = headsK code (i + 1) g := by
  funext t
  unfold headsK
  by_cases h : pfx (i + 1) code t = true
  · rw [if_pos h]
    rcases (pfx_succ code t i hi).1 h with h2 | h2
    · rw [if_pos h2]
    · rw [if_pos h2]; simp
  · rw [if_neg h, if_neg (fun h2 => h ((pfx_succ code t i hi).2 (.inl h2))), if_neg (fun h2 => h ((pfx_succ code t i hi).2 (.inr h2)))]
theorem plainR_valid (r : RowV) (h : wrong13 (plainR r) = 0) : validD r.text.data.toList = true ∧ plainR r = ⟨r.code, runesL r.text.data.toList, r.flag⟩ ∧ 1 ≤ r.code.size ∧ r.code.size ≤ 4 ∧ 1 ≤ (runesL r.text.data.toList).length ∧ (runesL r.text.data.toList).length ≤ 18 := by
  have hv : validD r.text.data.toList = true := by
    by_cases hv : validD r.text.data.toList = true
    · exact hv
    · unfold plainR at h
      rw [if_neg hv] at h
      exact absurd h (by decide)
  have hp : plainR r = ⟨r.code, runesL r.text.data.toList, r.flag⟩ := by unfold plainR; rw [if_pos hv]
  refine ⟨hv, hp, ?_⟩
  rw [hp] at h
  unfold wrong13 at h
  by_cases hs : 1 ≤ r.code.size ∧ r.code.size ≤ 4 ∧ 1 ≤ (runesL r.text.data.toList).length ∧ (runesL r.text.data.toList).length ≤ 18
  · exact hs
  · rw [if_neg hs] at h
    exact absurd h (by decide)
theorem any_map_congr {α β : Type} (f : α → β) (p : β → Bool) (q : α → Bool) : ∀ (l : List α), (∀ x ∈ l, p (f x) = q x) → (l.map f).any p = l.any q := by
  intro l
  induction l with
  | nil => intro _; rfl
  | cons a l ih =>
    intro h
    rw [List.map_cons, List.any_cons, List.any_cons, h a (by simp), ih (fun x hx => h x (by simp [hx]))]
theorem any_or2 {α : Type} (p q : α → Bool) : ∀ l : List α, (l.any fun x => p x || q x) = (l.any p || l.any q) := by
  intro l
  induction l with
  | nil => rfl
  | cons a l ih => rw [List.any_cons, List.any_cons, List.any_cons, ih]; cases p a <;> cases q a <;> cases l.any p <;> cases l.any q <;> rfl
theorem rowErr_eq (pre : List RowV) (r : RowV) (hp : ∀ q ∈ pre, wrong13 (plainR q) = 0) (hr : wrong13 (plainR r) = 0) :
    rowErr (pre.map plainR) (plainR r) = if 18 < (nfd (runesL r.text.data.toList)).length then 11 else if r.flag = 1 then 0 else errD (textsF pre) (headsF pre) r.code.data.toList := by
  obtain ⟨_, e, _⟩ := plainR_valid r hr
  have h1 : rowErr1 (plainR r) = if 18 < (nfd (runesL r.text.data.toList)).length then 11 else 0 := by
    unfold rowErr1
    rw [hr, e]
    simp
  unfold rowErr
  rw [h1]
  by_cases hk : 18 < (nfd (runesL r.text.data.toList)).length
  · rw [if_pos hk, if_pos (by decide), if_pos hk]
  rw [if_neg hk, if_neg (by decide), if_neg hk, e]
  show (if r.flag = 1 then (0 : Int) else _) = _
  by_cases hf : r.flag = 1
  · rw [if_pos hf, if_pos hf]
  rw [if_neg hf, if_neg hf]
  have hs : (pre.map plainR).any (sameC ⟨r.code, runesL r.text.data.toList, r.flag⟩) = pre.any (hasCode r.code.data.toList) := by
    refine any_map_congr _ _ _ _ fun q hq => ?_
    obtain ⟨_, eq, _⟩ := plainR_valid q (hp q hq)
    rw [eq]
    show ((q.flag != 1) && (q.code.toList == r.code.toList)) = ((q.flag != 1) && (r.code.data.toList == q.code.data.toList))
    rw [ba_toList, ba_toList, BEq.comm]
  rw [hs, ← textsF_some]
  unfold errD
  by_cases hh : (textsF pre r.code.data.toList).isSome = true
  · rw [if_pos hh, if_pos hh]
  rw [if_neg hh, if_neg hh]
  have hno : ∀ q ∈ pre, q.flag ≠ 1 → r.code.data.toList ≠ q.code.data.toList := by
    intro q hq hqf he
    rw [textsF_some] at hh
    apply hh
    rw [List.any_eq_true]
    exact ⟨q, hq, by simp [hasCode, hqf, he]⟩
  have hc : (pre.map plainR).any (preC ⟨r.code, runesL r.text.data.toList, r.flag⟩) = (pre.any (hasHead r.code.data.toList) || pre.any fun q => q.flag != 1 && pfx r.code.data.toList.length r.code.data.toList q.code.data.toList) := by
    rw [← any_or2]
    refine any_map_congr _ _ _ _ fun q hq => ?_
    obtain ⟨_, eq, _⟩ := plainR_valid q (hp q hq)
    rw [eq]
    show ((q.flag != 1) && (r.code.data.toList.isPrefixOf q.code.data.toList || q.code.data.toList.isPrefixOf r.code.data.toList)) = (((q.flag != 1) && pfx q.code.data.toList.length q.code.data.toList r.code.data.toList) || ((q.flag != 1) && pfx r.code.data.toList.length r.code.data.toList q.code.data.toList))
    by_cases hqf : q.flag = 1
    · simp [hqf]
    have hne := hno q hq hqf
    have hd : ∀ a b : List UInt8, a ≠ b → a.isPrefixOf b = pfx b.length b a := by
      intro a b hab
      unfold pfx
      by_cases ha : a.isPrefixOf b = true
      · have h2 := (pre_iff_take a b).1 ha
        have hl : a.length < b.length := by
          rcases Nat.lt_or_eq_of_le h2.1 with h3 | h3
          · exact h3
          · exact absurd (by rw [h2.2, h3, List.take_length]) hab
        rw [ha, decide_eq_true hl]; rfl
      · have ha : a.isPrefixOf b = false := Bool.eq_false_iff.2 ha
        rw [ha, Bool.and_false]
    rw [hd _ _ hne, hd _ _ (Ne.symm hne)]
    have : (q.flag != 1) = true := by simp [hqf]
    rw [this, Bool.true_and, Bool.true_and, Bool.true_and]
  rw [hc, headsF_some]
  have ht : (List.range r.code.data.toList.length).any (fun i => (textsF pre (r.code.data.toList.take i)).isSome) = pre.any fun q => q.flag != 1 && pfx r.code.data.toList.length r.code.data.toList q.code.data.toList := by
    rw [Bool.eq_iff_iff, List.any_eq_true, List.any_eq_true]
    constructor
    · rintro ⟨i, hi, h⟩
      rw [textsF_some, List.any_eq_true] at h
      obtain ⟨q, hq, h⟩ := h
      unfold hasCode at h
      rw [Bool.and_eq_true, beq_iff_eq] at h
      refine ⟨q, hq, ?_⟩
      rw [List.mem_range] at hi
      rw [h.1, Bool.true_and]
      unfold pfx
      have hl : q.code.data.toList.length = i := by rw [← h.2, List.length_take]; omega
      rw [Bool.and_eq_true, decide_eq_true_eq, pre_iff_take, hl]
      exact ⟨hi, by omega, h.2.symm⟩
    · rintro ⟨q, hq, h⟩
      rw [Bool.and_eq_true] at h
      obtain ⟨h1, h2⟩ := h
      unfold pfx at h2
      rw [Bool.and_eq_true, decide_eq_true_eq, pre_iff_take] at h2
      refine ⟨q.code.data.toList.length, List.mem_range.2 h2.1, ?_⟩
      rw [textsF_some, List.any_eq_true]
      refine ⟨q, hq, ?_⟩
      unfold hasCode
      rw [h1, Bool.true_and, beq_iff_eq]
      exact h2.2.2.symm
  rw [ht]
  cases pre.any (hasHead r.code.data.toList) <;> cases (pre.any fun q => q.flag != 1 && pfx r.code.data.toList.length r.code.data.toList q.code.data.toList) <;> simp
/-- A byte's text. -/
theorem text_back (s : ByteArray) (h : validD s.data.toList = true) : runesBytes (runesL s.data.toList) = s := by
  refine ByteArray.ext (Array.toList_inj.1 ?_)
  rw [runesBytes_eq _ (fun r hr => ⟨(runesL_scal _ r hr).1, (runesL_scal _ r hr).2.2⟩), textB_runes _ _ (Nat.le_refl _) h]
theorem text_eq (code : ByteArray) : ∀ (l : List RowV), (∀ q ∈ l, wrong13 (plainR q) = 0) → (textsF l code.data.toList).getD ⟨#[]⟩ = runesBytes ((textOf code (l.map plainR)).getD []) := by
  intro l
  induction l with
  | nil => intro _; rfl
  | cons q l ih =>
    intro h
    obtain ⟨hv, eq, _⟩ := plainR_valid q (h q (by simp))
    have ih := ih (fun x hx => h x (by simp [hx]))
    unfold textsF at *
    rw [List.find?_cons, List.map_cons, eq]
    show _ = runesBytes ((if ((q.flag != 1) && (q.code.toList == code.toList)) = true then some (runesL q.text.data.toList) else textOf code (l.map plainR)).getD [])
    rw [ba_toList, ba_toList]
    unfold hasCode at *
    rw [BEq.comm (a := q.code.data.toList)]
    by_cases hc : ((q.flag != 1) && (code.data.toList == q.code.data.toList)) = true
    · rw [hc]
      exact (text_back _ hv).symm
    · have hc' : ((q.flag != 1) && (code.data.toList == q.code.data.toList)) = false := by simpa using hc
      rw [hc']
      exact ih
theorem oneR_scal (r : Int) (h : 0 ≤ r ∧ r ≤ 1114111) : ∀ x ∈ oneR r, 0 ≤ x ∧ x ≤ 1114111 := by
  intro x
  unfold oneR
  repeat' split
  all_goals
    intro hx
    simp only [List.mem_cons, List.not_mem_nil, or_false] at hx
    omega
theorem nfd_good (l : List Int) (h0 : 0 < l.length) (hs : scal l) (h18 : (nfd l).length ≤ 18) : goodKey (nfd l) := by
  refine ⟨?_, h18, sortRef_rising _, ?_⟩
  · intro h
    have h2 : (nfd l).length = (l.flatMap oneR).length := sortRef_len _
    rw [h] at h2
    cases l with
    | nil => simp at h0
    | cons a l =>
      have := (oneR_len a).1
      simp only [List.flatMap_cons, List.length_append, List.length_nil] at h2
      omega
  · intro r hr
    have hr : r ∈ l.flatMap oneR := (sortRef_mem _ _).1 hr
    obtain ⟨a, ha, hr⟩ := List.mem_flatMap.1 hr
    exact oneR_scal a (hs a ha) r hr
theorem scal_runes (l : List UInt8) : scal (runesL l) := fun r hr => ⟨(runesL_scal l r hr).1, (runesL_scal l r hr).2.2⟩
end Go.Proofs.YtkfjmcidcnpijaaGreatDoor.Sg
