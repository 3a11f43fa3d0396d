/- Plain: the reference's way to read a line of a ucm, without fuel. -/
import Derived.Test.YtopaoejapnakiaaGreatDoorM10
namespace Go.Proofs.YtopaoejapnakiaaGreatDoor.Mf
open Go.RowKit

theorem charsR_fuel : ∀ (n m : Nat) (s : List UInt8), s.length < n → s.length < m → charsR n s = charsR m s := by
  intro n
  induction n with
  | zero => intro m s h; omega
  | succ n ih =>
    intro m s h1 h2
    cases m with
    | zero => omega
    | succ m =>
      unfold charsR
      cases hw : wordO [60, 85] s with
      | none => rfl
      | some s1 =>
        have e1 := (wordO_head hw).2
        simp only
        cases hr : runeO s1 with
        | none => rfl
        | some x =>
          obtain ⟨r, s2⟩ := x
          have e2 := runeO_rest hr
          simp only
          cases hv : wordO [62] s2 with
          | none => rfl
          | some t =>
            have e3 := (wordO_head hv).2
            simp only
            rw [ih m t (by omega) (by omega)]
def charsF (s : List UInt8) : Option (List Int × List UInt8) := charsR (s.length + 1) s
/-- One character of a ucm's line. -/
def charT (s : List UInt8) : Option (Int × List UInt8) := match runeO s with
  | none => none
  | some (r, t) => match t with
    | [] => none
    | c :: u => if c = 62 then some (r, u) else none
theorem wordO_one (a : UInt8) (s : List UInt8) : wordO [a] s = match s with | [] => none | c :: u => if c = a then some u else none := by
  unfold wordO
  cases s with
  | nil => rfl
  | cons c u =>
    rw [List.isPrefixOf_cons_cons, List.isPrefixOf_nil_left, Bool.and_true]
    simp only [beq_iff_eq]
    by_cases h : c = a
    · rw [if_pos h.symm, if_pos h]; rfl
    · rw [if_neg (fun h2 => h h2.symm), if_neg h]
theorem charT_le {s : List UInt8} {r : Int} {t : List UInt8} (h : charT s = some (r, t)) : t.length < s.length := by
  unfold charT at h
  cases hr : runeO s with
  | none => rw [hr] at h; cases h
  | some x =>
    obtain ⟨r2, t2⟩ := x
    have e := runeO_rest hr
    rw [hr] at h
    cases t2 with
    | nil => cases h
    | cons c u =>
      rw [List.length_cons] at e
      simp only at h
      split at h
      · injection h with h; injection h with _ h; rw [← h]; omega
      · cases h
theorem charsF_eq (s : List UInt8) : charsF s = if s.take 2 = [60, 85] then (match charT (s.drop 2) with
    | none => none
    | some (r, t) => match charsF t with
      | none => none
      | some (l, u) => some (r :: l, u)) else some ([], s) := by
  have h0 : charsF s = match wordO [60, 85] s with
      | none => some ([], s)
      | some s1 => match runeO s1 with
        | none => none
        | some (r, s2) => match wordO [62] s2 with
          | none => none
          | some t => match charsR s.length t with
            | none => none
            | some (l, u) => some (r :: l, u) := rfl
  rw [h0, wordO_two]
  by_cases h : s.take 2 = [60, 85]
  · rw [if_pos h, if_pos h]
    have hl : 2 ≤ s.length := by
      have := congrArg List.length h
      rw [List.length_take] at this
      simp at this
      omega
    simp only
    unfold charT
    cases hr : runeO (s.drop 2) with
    | none => rfl
    | some x =>
      obtain ⟨r, s2⟩ := x
      have e2 := runeO_rest hr
      rw [List.length_drop] at e2
      simp only
      rw [wordO_one]
      cases s2 with
      | nil => rfl
      | cons c u =>
        rw [List.length_cons] at e2
        simp only
        by_cases hc : c = 62
        · rw [if_pos hc, if_pos hc]
          simp only
          rw [charsR_fuel s.length (u.length + 1) u (by omega) (by omega)]
          rfl
        · rw [if_neg hc, if_neg hc]
  · rw [if_neg h, if_neg h]
theorem codesR_fuel : ∀ (n m : Nat) (s : List UInt8), s.length < n → s.length < m → codesR n s = codesR m s := by
  intro n
  induction n with
  | zero => intro m s h; omega
  | succ n ih =>
    intro m s h1 h2
    cases m with
    | zero => omega
    | succ m =>
      unfold codesR
      cases hw : wordO [92, 120] s with
      | none => rfl
      | some s1 =>
        have e1 := (wordO_head hw).2
        simp only
        cases hr : byteO s1 with
        | none => rfl
        | some x =>
          obtain ⟨r, t⟩ := x
          have e2 := byteO_rest hr
          simp only
          rw [ih m t (by omega) (by omega)]
def codesF (s : List UInt8) : Option (List UInt8 × List UInt8) := codesR (s.length + 1) s
theorem codesF_eq (s : List UInt8) : codesF s = if s.take 2 = [92, 120] then (match byteO (s.drop 2) with
    | none => none
    | some (r, t) => match codesF t with
      | none => none
      | some (l, u) => some (r :: l, u)) else some ([], s) := by
  have h0 : codesF s = match wordO [92, 120] s with
      | none => some ([], s)
      | some s1 => match byteO s1 with
        | none => none
        | some (r, t) => match codesR s.length t with
          | none => none
          | some (l, u) => some (r :: l, u) := rfl
  rw [h0, wordO_two]
  by_cases h : s.take 2 = [92, 120]
  · rw [if_pos h, if_pos h]
    have hl : 2 ≤ s.length := by
      have := congrArg List.length h
      rw [List.length_take] at this
      simp at this
      omega
    simp only
    cases hr : byteO (s.drop 2) with
    | none => rfl
    | some x =>
      obtain ⟨r, t⟩ := x
      have e2 := byteO_rest hr
      rw [List.length_drop] at e2
      simp only
      rw [codesR_fuel s.length (t.length + 1) t (by omega) (by omega)]
      rfl
  · rw [if_neg h, if_neg h]
/-- The end of a line: its flag. -/
def tailC (x : List UInt8) : Option Int := match x with
  | [a, c] => if a = 124 ∧ 48 ≤ c ∧ c ≤ 57 then some ((c.toNat : Int) - 48) else none
  | _ => none
theorem tailC_eq (x : List UInt8) : (match wordO [124] x with | none => none | some y => flagO y) = tailC x := by
  rw [wordO_one]
  cases x with
  | nil => rfl
  | cons a y =>
    simp only
    by_cases ha : a = 124
    · rw [if_pos ha]
      simp only
      unfold tailC flagO
      cases y with
      | nil => rfl
      | cons c z =>
        cases z with
        | nil => simp [ha]
        | cons d z => rfl
    · rw [if_neg ha]
      unfold tailC
      cases y with
      | nil => rfl
      | cons c z =>
        cases z with
        | nil => simp [ha]
        | cons d z => rfl
theorem refC_eq (s : List UInt8) : refC s = match charsF s with
    | none => none
    | some (l, t) => if l = [] then none else if nsp t = 0 then none else match codesF (t.drop (nsp t)) with
      | none => none
      | some (c, v) => if c = [] then none else if nsp v = 0 then none else match tailC (v.drop (nsp v)) with
        | none => none
        | some f => some (c, l, f) := by
  have h0 : refC s = match charsF s with
    | none => none
    | some (l, t) => if l = [] then none else match gapO t with
      | none => none
      | some u => match codesF u with
        | none => none
        | some (c, v) => if c = [] then none else match gapO v with
          | none => none
          | some x => match wordO [124] x with
            | none => none
            | some y => match flagO y with
              | none => none
              | some f => some (c, l, f) := rfl
  rw [h0]
  cases charsF s with
  | none => rfl
  | some y =>
    obtain ⟨l, t⟩ := y
    simp only
    by_cases hl : l = []
    · rw [if_pos hl, if_pos hl]
    rw [if_neg hl, if_neg hl, gapO_nsp]
    by_cases hn : nsp t = 0
    · rw [if_neg (by omega), if_pos hn]
    rw [if_pos (by omega), if_neg hn]
    simp only
    cases codesF (t.drop (nsp t)) with
    | none => rfl
    | some z =>
      obtain ⟨c, v⟩ := z
      simp only
      by_cases hc : c = []
      · rw [if_pos hc, if_pos hc]
      rw [if_neg hc, if_neg hc, gapO_nsp]
      by_cases hn : nsp v = 0
      · rw [if_neg (by omega), if_pos hn]
      rw [if_pos (by omega), if_neg hn]
      simp only
      rw [← tailC_eq]
      cases wordO [124] (v.drop (nsp v)) with
      | none => rfl
      | some y => rfl
/-- What Ucm answers. -/
def CRefPost (w : World) (L : Option (List UInt8 × List Int × Int)) (e : Ending) (w' : World) : Prop :=
  ∃ (rc : ByteArray) (rv : Value) (fl how : Int), e = .returned (.tuple #[.agg #[.string rc, rv, .int .i64 fl], .int .i64 how]) ∧ Below w.heap.size w w' ∧ match L with
    | none => how = 0
    | some (c, l, f) => how = 1 ∧ rc = ⟨c.toArray⟩ ∧ TextAt w' rv l ∧ fl = f
end Go.Proofs.YtopaoejapnakiaaGreatDoor.Mf
