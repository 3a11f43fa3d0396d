/- Plain: reading lines of mappings: hex digits, words, rows of both kinds; the program's way and the reference's are one. -/
import Derived.Test.YtopaoejapnakiaaGreatDoorG1
namespace Go.Proofs.YtopaoejapnakiaaGreatDoor
namespace Mf
/-- A hex digit's number. -/
def hexV (c : UInt8) : Option Nat :=
  if 48 ≤ c ∧ c ≤ 57 then some (c.toNat - 48) else if 65 ≤ c ∧ c ≤ 70 then some (c.toNat - 55) else if 97 ≤ c ∧ c ≤ 102 then some (c.toNat - 87) else none
def isHex (c : UInt8) : Bool := (hexV c).isSome
/-- A blank or a tab. -/
def sp (c : UInt8) : Bool := c == 32 || c == 9
/-- The hex digits at the front, at most so many. -/
def digs : Nat → List UInt8 → List UInt8
  | 0, _ => []
  | _, [] => []
  | n + 1, c :: t => if isHex c then c :: digs n t else []
def numOf (d : List UInt8) : Nat := d.foldl (fun n c => n * 16 + (hexV c).getD 0) 0
theorem digs_hex (n : Nat) : ∀ s, ∀ c ∈ digs n s, isHex c = true := by
  induction n with
  | zero => intro s c h; simp [digs] at h
  | succ n ih =>
    intro s c h
    cases s with
    | nil => simp [digs] at h
    | cons d t =>
      unfold digs at h
      split at h
      · rcases List.mem_cons.1 h with rfl | h
        · assumption
        · exact ih t c h
      · simp at h
theorem digs_len (n : Nat) (s : List UInt8) : (digs n s).length ≤ n := by
  induction n generalizing s with
  | zero => simp [digs]
  | succ n ih =>
    cases s with
    | nil => simp [digs]
    | cons c t =>
      unfold digs
      split
      · simp [ih t]
      · simp
theorem digs_le (n : Nat) (s : List UInt8) : (digs n s).length ≤ s.length := by
  induction n generalizing s with
  | zero => simp [digs]
  | succ n ih =>
    cases s with
    | nil => simp [digs]
    | cons c t =>
      unfold digs
      split
      · simp [ih t]
      · simp
theorem digs_take (n : Nat) (s : List UInt8) : digs n s = s.take (digs n s).length := by
  induction n generalizing s with
  | zero => simp [digs]
  | succ n ih =>
    cases s with
    | nil => simp [digs]
    | cons c t =>
      unfold digs
      split
      · rw [List.length_cons, List.take_succ_cons, ← ih t]
      · simp
/-- A word goes over. -/
def wordO (w s : List UInt8) : Option (List UInt8) := if w.isPrefixOf s = true then some (s.drop w.length) else none
def gapO (s : List UInt8) : Option (List UInt8) := if (s.dropWhile sp).length < s.length then some (s.dropWhile sp) else none
def byteO (s : List UInt8) : Option (UInt8 × List UInt8) := if (digs 2 s).length = 2 then some (UInt8.ofNat (numOf (digs 2 s)), s.drop 2) else none
def runeO (s : List UInt8) : Option (Int × List UInt8) :=
  if 4 ≤ (digs 7 s).length ∧ (digs 7 s).length ≤ 6 then some ((numOf (digs 7 s) : Int), s.drop (digs 7 s).length) else none
/-- Does a text go on with more of a code? -/
def ends (t : List UInt8) : Bool := match t with | [] => true | c :: _ => sp c
/-- The bytes of a code in a line of unicode.org's kind. -/
def bytesU : Nat → List UInt8 → Option (List UInt8 × List UInt8)
  | 0, _ => none
  | n + 1, s => match byteO s with
    | none => none
    | some (b, t) => if ends t = true then some ([b], t) else match bytesU n t with
      | none => none
      | some (c, u) => some (b :: c, u)
def runesU : Nat → List UInt8 → Option (List Int × List UInt8)
  | 0, _ => none
  | n + 1, s => match runeO s with
    | none => none
    | some (r, t) => match wordO [43] t with
      | none => some ([r], t)
      | some u => match runesU n u with
        | none => none
        | some (c, v) => some (r :: c, v)
/-- A line of unicode.org's kind: its code, and the characters with what stands behind. -/
def unicodeO (s : List UInt8) : Option (List UInt8 × Option (List Int × List UInt8)) :=
  match wordO [48, 120] s with
  | none => none
  | some s1 => match bytesU (s1.length + 1) s1 with
    | none => none
    | some (c, t) => if t = [] then some (c, none) else match gapO t with
      | none => none
      | some u => match wordO [48, 120] u with
        | none => none
        | some v => match runesU (v.length + 1) v with
          | none => none
          | some x => some (c, some x)
/-- Pairs of hex digits, as many as there are. -/
def pairs : Nat → List UInt8 → List UInt8 × List UInt8
  | 0, s => ([], s)
  | n + 1, s => match byteO s with
    | none => ([], s)
    | some (b, t) => (b :: (pairs n t).1, (pairs n t).2)
theorem pairs_none (n : Nat) (s : List UInt8) (h : byteO s = none) : pairs n s = ([], s) := by
  cases n with
  | zero => rfl
  | succ n => unfold pairs; rw [h]
theorem sp_not_hex (c : UInt8) (h : sp c = true) : isHex c = false := by
  unfold sp at h
  rw [Bool.or_eq_true, beq_iff_eq, beq_iff_eq] at h
  rcases h with rfl | rfl <;> decide
theorem byteO_ends (t : List UInt8) (h : ends t = true) : byteO t = none := by
  unfold byteO
  rw [if_neg]
  cases t with
  | nil => decide
  | cons c u =>
    have : digs 2 (c :: u) = [] := by unfold digs; rw [sp_not_hex c h]; rfl
    rw [this]; decide
theorem byteO_rest {s : List UInt8} {b : UInt8} {t : List UInt8} (h : byteO s = some (b, t)) : t.length < s.length := by
  unfold byteO at h
  split at h
  · rename_i h2
    have h3 := digs_le 2 s
    injection h with h
    injection h with _ h
    rw [← h, List.length_drop]
    omega
  · cases h
theorem bytes_pairs : ∀ (n : Nat) (s : List UInt8), s.length < n → bytesU n s = if (pairs n s).1 ≠ [] ∧ ends (pairs n s).2 = true then some (pairs n s) else none := by
  intro n
  induction n with
  | zero => intro s h; omega
  | succ n ih =>
    intro s hs
    cases hb : byteO s with
    | none =>
      rw [pairs_none _ s hb, if_neg (fun h => h.1 rfl)]
      unfold bytesU
      rw [hb]
    | some bt =>
      obtain ⟨b, t⟩ := bt
      have hl := byteO_rest hb
      have hp : pairs (n + 1) s = (b :: (pairs n t).1, (pairs n t).2) := by
        show (match byteO s with | none => _ | some (b, t) => _) = _
        rw [hb]
      have hbu : bytesU (n + 1) s = if ends t = true then some ([b], t) else match bytesU n t with | none => none | some (c, u) => some (b :: c, u) := by
        show (match byteO s with | none => _ | some (b, t) => _) = _
        rw [hb]
      rw [hp, hbu]
      by_cases he : ends t = true
      · rw [if_pos he, pairs_none n t (byteO_ends t he), if_pos ⟨by simp, he⟩]
      · rw [if_neg he, ih t (by omega)]
        by_cases hc : (pairs n t).1 = []
        · rw [if_neg (fun h => h.1 hc), if_neg]
          rintro ⟨_, h2⟩
          cases hbt : byteO t with
          | none => rw [pairs_none n t hbt] at h2; exact he h2
          | some x =>
            obtain ⟨b2, t2⟩ := x
            cases n with
            | zero => have := byteO_rest hbt; omega
            | succ n =>
              have : pairs (n + 1) t = (b2 :: (pairs n t2).1, (pairs n t2).2) := by
                show (match byteO t with | none => _ | some (b, t) => _) = _
                rw [hbt]
              rw [this] at hc
              cases hc
        · by_cases h2 : ends (pairs n t).2 = true
          · rw [if_pos ⟨hc, h2⟩, if_pos ⟨by simp, h2⟩]
          · rw [if_neg (fun h => h2 h.2), if_neg (fun h => h2 h.2)]
/-- What a line of unicode.org's kind is. -/
inductive Line where
  | bad
  | bare (code : List UInt8)
  | row (code : List UInt8) (text : List Int)
def outU (s : List UInt8) : Line := match unicodeO s with
  | none => .bad
  | some (c, none) => .bare c
  | some (c, some (l, rest)) => if rest = [] then .row c l else .bad
/-- The characters, as the reference reads them. -/
def runesR : Nat → List UInt8 → Option (List Int)
  | 0, _ => none
  | n + 1, s => match runeO s with
    | none => none
    | some (r, t) => match t with
      | [] => some [r]
      | c :: u => if c = 43 then (match runesR n u with | none => none | some l => some (r :: l)) else none
def refU (s : List UInt8) : Line := match wordO [48, 120] s with
  | none => .bad
  | some s1 => if (pairs (s1.length + 1) s1).1 = [] then .bad else if (pairs (s1.length + 1) s1).2 = [] then .bare (pairs (s1.length + 1) s1).1 else match gapO (pairs (s1.length + 1) s1).2 with
    | none => .bad
    | some u => match wordO [48, 120] u with
      | none => .bad
      | some v => match runesR (v.length + 1) v with
        | none => .bad
        | some l => .row (pairs (s1.length + 1) s1).1 l
theorem runes_ref : ∀ (n : Nat) (s : List UInt8), runesR n s = match runesU n s with | none => none | some (l, rest) => if rest = [] then some l else none := by
  intro n
  induction n with
  | zero => intro s; rfl
  | succ n ih =>
    intro s
    unfold runesR runesU
    cases hr : runeO s with
    | none => rfl
    | some x =>
      obtain ⟨r, t⟩ := x
      cases t with
      | nil => simp [wordO]
      | cons c u =>
        by_cases hc : c = 43
        · subst hc
          have hw : wordO [43] (43 :: u) = some u := by simp [wordO]
          simp only [hw, if_pos, ih u]
          cases runesU n u with
          | none => rfl
          | some y =>
            obtain ⟨l, rest⟩ := y
            by_cases h0 : rest = []
            · simp [h0]
            · simp [h0]
        · have hw : wordO [43] (c :: u) = none := by
            unfold wordO
            rw [if_neg]
            simp only [List.isPrefixOf_cons_cons, List.isPrefixOf_nil_left, Bool.and_true, beq_iff_eq]
            exact fun h => hc h.symm
          simp only [hw, if_neg hc]
          rfl
theorem gap_ends (t : List UInt8) (h : ends t = false) : gapO t = none := by
  cases t with
  | nil => cases h
  | cons c u =>
    have h : sp c = false := h
    unfold gapO
    rw [List.dropWhile_cons, h]
    simp
theorem outU_eq (s : List UInt8) : outU s = refU s := by
  unfold outU unicodeO refU
  cases wordO [48, 120] s with
  | none => rfl
  | some s1 =>
    simp only
    rw [bytes_pairs _ s1 (Nat.lt_succ_self _)]
    generalize pairs (s1.length + 1) s1 = p
    obtain ⟨c, t⟩ := p
    simp only
    by_cases hc : c = []
    · simp [hc]
    · by_cases he : ends t = true
      · rw [if_pos ⟨hc, he⟩, if_neg hc]
        simp only
        by_cases ht : t = []
        · rw [if_pos ht, if_pos ht]
        · rw [if_neg ht, if_neg ht]
          cases gapO t with
          | none => rfl
          | some u =>
            simp only
            cases wordO [48, 120] u with
            | none => rfl
            | some v =>
              simp only
              rw [runes_ref]
              cases runesU (v.length + 1) v with
              | none => rfl
              | some x =>
                obtain ⟨l, rest⟩ := x
                by_cases h0 : rest = []
                · simp [h0]
                · simp [h0]
      · have he' : ends t = false := by simpa using he
        have ht : t ≠ [] := fun h => by rw [h] at he'; cases he'
        rw [if_neg (fun h => he h.2), if_neg hc, if_neg ht, gap_ends t he']
/-- The characters of a line of a ucm: the program's way, the reference's. -/
def charsP : Nat → List UInt8 → Option (List Int × List UInt8)
  | 0, _ => none
  | n + 1, s => match wordO [60, 85] s with
    | none => none
    | some s1 => match runeO s1 with
      | none => none
      | some (r, s2) => match wordO [62] s2 with
        | none => none
        | some t => if t.head? = some 60 then (match charsP n t with | none => none | some (l, u) => some (r :: l, u)) else some ([r], t)
def charsR : Nat → List UInt8 → Option (List Int × List UInt8)
  | 0, _ => none
  | n + 1, s => match wordO [60, 85] s with
    | none => some ([], s)
    | some s1 => match runeO s1 with
      | none => none
      | some (r, s2) => match wordO [62] s2 with
        | none => none
        | some t => match charsR n t with | none => none | some (l, u) => some (r :: l, u)
def codesP : Nat → List UInt8 → Option (List UInt8 × List UInt8)
  | 0, _ => none
  | n + 1, s => match wordO [92, 120] s with
    | none => none
    | some s1 => match byteO s1 with
      | none => none
      | some (b, t) => if t.head? = some 92 then (match codesP n t with | none => none | some (l, u) => some (b :: l, u)) else some ([b], t)
def codesR : Nat → List UInt8 → Option (List UInt8 × List UInt8)
  | 0, _ => none
  | n + 1, s => match wordO [92, 120] s with
    | none => some ([], s)
    | some s1 => match byteO s1 with
      | none => none
      | some (b, t) => match codesR n t with | none => none | some (l, u) => some (b :: l, u)
def flagO (v : List UInt8) : Option Int := match v with
  | [c] => if 48 ≤ c ∧ c ≤ 57 then some ((c.toNat : Int) - 48) else none
  | _ => none
def ucmO (s : List UInt8) : Option (List UInt8 × List Int × Int) :=
  match charsP (s.length + 1) s with
  | none => none
  | some (l, t) => match gapO t with
    | none => none
    | some u => match codesP (u.length + 1) u with
      | none => none
      | some (c, v) => match gapO v with
        | none => none
        | some x => match wordO [124] x with
          | none => none
          | some y => match flagO y with
            | none => none
            | some f => some (c, l, f)
def refC (s : List UInt8) : Option (List UInt8 × List Int × Int) :=
  match charsR (s.length + 1) s with
  | none => none
  | some (l, t) => if l = [] then none else match gapO t with
    | none => none
    | some u => match codesR (u.length + 1) u with
      | none => none
      | some (c, v) => if c = [] then none else match gapO v with
        | none => none
        | some x => match wordO [124] x with
          | none => none
          | some y => match flagO y with
            | none => none
            | some f => some (c, l, f)
theorem wordO_head {w : List UInt8} {a : UInt8} {s t : List UInt8} (h : wordO (a :: w) s = some t) : s.head? = some a ∧ t.length < s.length := by
  unfold wordO at h
  split at h
  · rename_i hp
    injection h with h
    cases s with
    | nil => cases hp
    | cons c u =>
      rw [List.isPrefixOf_cons_cons, Bool.and_eq_true, beq_iff_eq] at hp
      rw [← h, hp.1]
      refine ⟨rfl, ?_⟩
      rw [List.length_drop, List.length_cons, List.length_cons]
      omega
  · cases h
theorem runeO_rest {s : List UInt8} {r : Int} {t : List UInt8} (h : runeO s = some (r, t)) : t.length ≤ s.length := by
  unfold runeO at h
  split at h
  · injection h with h
    injection h with _ h
    rw [← h, List.length_drop]
    omega
  · cases h
theorem chars_ref : ∀ (n : Nat) (s : List UInt8), s.length < n → charsP n s = match charsR n s with | none => none | some (l, t) => if l ≠ [] ∧ t.head? ≠ some 60 then some (l, t) else none := by
  intro n
  induction n with
  | zero => intro s h; omega
  | succ n ih =>
    intro s hs
    unfold charsP charsR
    cases hw : wordO [60, 85] s with
    | none => simp
    | some s1 =>
      have h1 := (wordO_head hw).2
      simp only
      cases hr : runeO s1 with
      | none => rfl
      | some x =>
        obtain ⟨r, s2⟩ := x
        have h2 := runeO_rest hr
        simp only
        cases hv : wordO [62] s2 with
        | none => rfl
        | some t =>
          have h3 := (wordO_head hv).2
          simp only
          rw [ih t (by omega)]
          by_cases hh : t.head? = some 60
          · rw [if_pos hh]
            cases hc : charsR n t with
            | none => rfl
            | some y =>
              obtain ⟨l, u⟩ := y
              simp only
              by_cases hl : l = []
              · have hu : u = t := by
                  subst hl
                  cases n with
                  | zero => cases hc
                  | succ n =>
                    unfold charsR at hc
                    cases hw2 : wordO [60, 85] t with
                    | none => rw [hw2] at hc; injection hc with hc; injection hc with _ hc; exact hc.symm
                    | some q =>
                      rw [hw2] at hc
                      simp only at hc
                      cases hr2 : runeO q with
                      | none => rw [hr2] at hc; cases hc
                      | some z =>
                        obtain ⟨r2, s3⟩ := z
                        rw [hr2] at hc
                        simp only at hc
                        cases hv2 : wordO [62] s3 with
                        | none => rw [hv2] at hc; cases hc
                        | some t3 =>
                          rw [hv2] at hc
                          simp only at hc
                          cases hc2 : charsR n t3 with
                          | none => rw [hc2] at hc; cases hc
                          | some y2 => obtain ⟨l2, u2⟩ := y2; rw [hc2] at hc; simp at hc
                subst hl hu
                simp [hh]
              · by_cases hu : u.head? = some 60
                · simp [hu]
                · simp [hl, hu]
          · rw [if_neg hh]
            have hc : charsR n t = some ([], t) := by
              cases n with
              | zero => omega
              | succ n =>
                unfold charsR
                cases hw2 : wordO [60, 85] t with
                | none => rfl
                | some q => exact absurd (wordO_head hw2).1 hh
            rw [hc]
            simp [hh]
theorem codes_ref : ∀ (n : Nat) (s : List UInt8), s.length < n → codesP n s = match codesR n s with | none => none | some (l, t) => if l ≠ [] ∧ t.head? ≠ some 92 then some (l, t) else none := by
  intro n
  induction n with
  | zero => intro s h; omega
  | succ n ih =>
    intro s hs
    unfold codesP codesR
    cases hw : wordO [92, 120] s with
    | none => simp
    | some s1 =>
      have h1 := (wordO_head hw).2
      simp only
      cases hr : byteO s1 with
      | none => rfl
      | some x =>
        obtain ⟨r, t⟩ := x
        have h2 := byteO_rest hr
        simp only
        rw [ih t (by omega)]
        by_cases hh : t.head? = some 92
        · rw [if_pos hh]
          cases hc : codesR n t with
          | none => rfl
          | some y =>
            obtain ⟨l, u⟩ := y
            simp only
            by_cases hl : l = []
            · have hu : u = t := by
                subst hl
                cases n with
                | zero => cases hc
                | succ n =>
                  unfold codesR at hc
                  cases hw2 : wordO [92, 120] t with
                  | none => rw [hw2] at hc; injection hc with hc; injection hc with _ hc; exact hc.symm
                  | some q =>
                    rw [hw2] at hc
                    simp only at hc
                    cases hr2 : byteO q with
                    | none => rw [hr2] at hc; cases hc
                    | some z =>
                      obtain ⟨r2, t3⟩ := z
                      rw [hr2] at hc
                      simp only at hc
                      cases hc2 : codesR n t3 with
                      | none => rw [hc2] at hc; cases hc
                      | some y2 => obtain ⟨l2, u2⟩ := y2; rw [hc2] at hc; simp at hc
              subst hl hu
              simp [hh]
            · by_cases hu : u.head? = some 92
              · simp [hu]
              · simp [hl, hu]
        · rw [if_neg hh]
          have hc : codesR n t = some ([], t) := by
            cases n with
            | zero => omega
            | succ n =>
              unfold codesR
              cases hw2 : wordO [92, 120] t with
              | none => rfl
              | some q => exact absurd (wordO_head hw2).1 hh
          rw [hc]
          simp [hh]
theorem gap_head (t : List UInt8) (c : UInt8) (h : t.head? = some c) (hs : sp c = false) : gapO t = none := by
  cases t with
  | nil => cases h
  | cons d u =>
    injection h with h
    subst h
    exact gap_ends _ hs
theorem ucm_ref (s : List UInt8) : ucmO s = refC s := by
  unfold ucmO refC
  rw [chars_ref _ s (Nat.lt_succ_self _)]
  cases charsR (s.length + 1) s with
  | none => rfl
  | some x =>
    obtain ⟨l, t⟩ := x
    simp only
    by_cases hl : l = []
    · simp [hl]
    by_cases hh : t.head? = some 60
    · rw [if_neg (fun h => h.2 hh), if_neg hl, gap_head t 60 hh (by decide)]
    rw [if_pos ⟨hl, hh⟩, if_neg hl]
    simp only
    cases gapO t with
    | none => rfl
    | some u =>
      simp only
      rw [codes_ref _ u (Nat.lt_succ_self _)]
      cases codesR (u.length + 1) u with
      | none => rfl
      | some y =>
        obtain ⟨c, v⟩ := y
        simp only
        by_cases hc : c = []
        · simp [hc]
        by_cases hh2 : v.head? = some 92
        · rw [if_neg (fun h => h.2 hh2), if_neg hc, gap_head v 92 hh2 (by decide)]
        rw [if_pos ⟨hc, hh2⟩, if_neg hc]
end Mf
end Go.Proofs.YtopaoejapnakiaaGreatDoor
