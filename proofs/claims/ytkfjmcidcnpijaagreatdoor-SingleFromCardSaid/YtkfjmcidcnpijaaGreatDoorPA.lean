/- Joined of: M1, M2, P1, P2, H1, H2, V1, V2. -/
import Derived.Test.YtkfjmcidcnpijaaGreatDoorG1
import Derived.Lib.Case
import Derived.Lib.Repeat
/- Plain: reading lines of mappings: hex digits, words, rows of both kinds; the program's way and the reference's are one. -/
namespace Go.Proofs.YtkfjmcidcnpijaaGreatDoor
namespace Mf
/-- A hex digit's number. -/
def hexV (c : UInt8) : Option Nat :=
  if 48 ≤ c ∧ c ≤ 57 then some (c.toNat - 48) else if 65 ≤ c ∧ c ≤ 70 then some (c.toNat - 55) else if 97 ≤ c ∧ c ≤ 102 then some (c.toNat - 87) else none
def isHex (c : UInt8) : Bool := (hexV c).isSome
/-- A blank or a tab. -/
def sp (c : UInt8) : Bool := c == 32 || c == 9
/-- The hex digits at the front, at most so many. -/
def digs : Nat → List UInt8 → List UInt8
  | 0, _ => []
  | _, [] => []
  | n + 1, c :: t => if isHex c then c :: digs n t else []
def numOf (d : List UInt8) : Nat := d.foldl (fun n c => n * 16 + (hexV c).getD 0) 0
theorem digs_hex (n : Nat) : ∀ s, ∀ c ∈ digs n s, isHex c = true := by
  induction n with
  | zero => intro s c h; simp [digs] at h
  | succ n ih =>
    intro s c h
    cases s with
    | nil => simp [digs] at h
    | cons d t =>
      unfold digs at h
      split at h
      · rcases List.mem_cons.1 h with rfl | h
        · assumption
        · exact ih t c h
      · simp at h
theorem digs_len (n : Nat) (s : List UInt8) : (digs n s).length ≤ n := by
  induction n generalizing s with
  | zero => simp [digs]
  | succ n ih =>
    cases s with
    | nil => simp [digs]
    | cons c t =>
      unfold digs
      split
      · simp [ih t]
      · simp
theorem digs_le (n : Nat) (s : List UInt8) : (digs n s).length ≤ s.length := by
  induction n generalizing s with
  | zero => simp [digs]
  | succ n ih =>
    cases s with
    | nil => simp [digs]
    | cons c t =>
      unfold digs
      split
      · simp [ih t]
      · simp
theorem digs_take (n : Nat) (s : List UInt8) : digs n s = s.take (digs n s).length := by
  induction n generalizing s with
  | zero => simp [digs]
  | succ n ih =>
    cases s with
    | nil => simp [digs]
    | cons c t =>
      unfold digs
      split
      · rw [List.length_cons, List.take_succ_cons, ← ih t]
      · simp
/-- A word goes over. -/
def wordO (w s : List UInt8) : Option (List UInt8) := if w.isPrefixOf s = true then some (s.drop w.length) else none
def gapO (s : List UInt8) : Option (List UInt8) := if (s.dropWhile sp).length < s.length then some (s.dropWhile sp) else none
def byteO (s : List UInt8) : Option (UInt8 × List UInt8) := if (digs 2 s).length = 2 then some (UInt8.ofNat (numOf (digs 2 s)), s.drop 2) else none
def runeO (s : List UInt8) : Option (Int × List UInt8) :=
  if 4 ≤ (digs 7 s).length ∧ (digs 7 s).length ≤ 6 then some ((numOf (digs 7 s) : Int), s.drop (digs 7 s).length) else none
/-- Does a text go on with more of a code? -/
def ends (t : List UInt8) : Bool := match t with | [] => true | c :: _ => sp c
/-- The bytes of a code in a line of unicode.org's kind. -/
def bytesU : Nat → List UInt8 → Option (List UInt8 × List UInt8)
  | 0, _ => none
  | n + 1, s => match byteO s with
    | none => none
    | some (b, t) => if ends t = true then some ([b], t) else match bytesU n t with
      | none => none
      | some (c, u) => some (b :: c, u)
def runesU : Nat → List UInt8 → Option (List Int × List UInt8)
  | 0, _ => none
  | n + 1, s => match runeO s with
    | none => none
    | some (r, t) => match wordO [43] t with
      | none => some ([r], t)
      | some u => match runesU n u with
        | none => none
        | some (c, v) => some (r :: c, v)
/-- A line of unicode.org's kind: its code, and the characters with what stands behind. -/
def unicodeO (s : List UInt8) : Option (List UInt8 × Option (List Int × List UInt8)) :=
  match wordO [48, 120] s with
  | none => none
  | some s1 => match bytesU (s1.length + 1) s1 with
    | none => none
    | some (c, t) => if t = [] then some (c, none) else match gapO t with
      | none => none
      | some u => match wordO [48, 120] u with
        | none => none
        | some v => match runesU (v.length + 1) v with
          | none => none
          | some x => some (c, some x)
/-- Pairs of hex digits, as many as there are. -/
def pairs : Nat → List UInt8 → List UInt8 × List UInt8
  | 0, s => ([], s)
  | n + 1, s => match byteO s with
    | none => ([], s)
    | some (b, t) => (b :: (pairs n t).1, (pairs n t).2)
theorem pairs_none (n : Nat) (s : List UInt8) (h : byteO s = none) : pairs n s = ([], s) := by
  cases n with
  | zero => rfl
  | succ n => unfold pairs; rw [h]
theorem sp_not_hex (c : UInt8) (h : sp c = true) : isHex c = false := by
  unfold sp at h
  rw [Bool.or_eq_true, beq_iff_eq, beq_iff_eq] at h
  rcases h with rfl | rfl <;> decide
theorem byteO_ends (t : List UInt8) (h : ends t = true) : byteO t = none := by
  unfold byteO
  rw [if_neg]
  cases t with
  | nil => decide
  | cons c u =>
    have : digs 2 (c :: u) = [] := by unfold digs; rw [sp_not_hex c h]; rfl
    rw [this]; decide
theorem byteO_rest {s : List UInt8} {b : UInt8} {t : List UInt8} (h : byteO s = some (b, t)) : t.length < s.length := by
  unfold byteO at h
  split at h
  · rename_i h2
    have h3 := digs_le 2 s
    injection h with h
    injection h with _ h
    rw [← h, List.length_drop]
    omega
  · cases h
theorem bytes_pairs : ∀ (n : Nat) (s : List UInt8), s.length < n → bytesU n s = if (pairs n s).1 ≠ [] ∧ ends (pairs n s).2 = true then some (pairs n s) else none := by
  intro n
  induction n with
  | zero => intro s h; omega
  | succ n ih =>
    intro s hs
    cases hb : byteO s with
    | none =>
      rw [pairs_none _ s hb, if_neg (fun h => h.1 rfl)]
      unfold bytesU
      rw [hb]
    | some bt =>
      obtain ⟨b, t⟩ := bt
      have hl := byteO_rest hb
      have hp : pairs (n + 1) s = (b :: (pairs n t).1, (pairs n t).2) := by
        show (match byteO s with | none => _ | some (b, t) => _) = _
        rw [hb]
      have hbu : bytesU (n + 1) s = if ends t = true then some ([b], t) else match bytesU n t with | none => none | some (c, u) => some (b :: c, u) := by
        show (match byteO s with | none => _ | some (b, t) => _) = _
        rw [hb]
      rw [hp, hbu]
      by_cases he : ends t = true
      · rw [if_pos he, pairs_none n t (byteO_ends t he), if_pos ⟨by simp, he⟩]
      · rw [if_neg he, ih t (by omega)]
        by_cases hc : (pairs n t).1 = []
        · rw [if_neg (fun h => h.1 hc), if_neg]
          rintro ⟨_, h2⟩
          cases hbt : byteO t with
          | none => rw [pairs_none n t hbt] at h2; exact he h2
          | some x =>
            obtain ⟨b2, t2⟩ := x
            cases n with
            | zero => have := byteO_rest hbt; omega
            | succ n =>
              have : pairs (n + 1) t = (b2 :: (pairs n t2).1, (pairs n t2).2) := by
                show (match byteO t with | none => _ | some (b, t) => _) = _
                rw [hbt]
              rw [this] at hc
              cases hc
        · by_cases h2 : ends (pairs n t).2 = true
          · rw [if_pos ⟨hc, h2⟩, if_pos ⟨by simp, h2⟩]
          · rw [if_neg (fun h => h2 h.2), if_neg (fun h => h2 h.2)]
/-- What a line of unicode.org's kind is. -/
inductive Line where
  | bad
  | bare (code : List UInt8)
  | row (code : List UInt8) (text : List Int)
def outU (s : List UInt8) : Line := match unicodeO s with
  | none => .bad
  | some (c, none) => .bare c
  | some (c, some (l, rest)) => if rest = [] then .row c l else .bad
/-- The characters, as the reference reads them. -/
def runesR : Nat → List UInt8 → Option (List Int)
  | 0, _ => none
  | n + 1, s => match runeO s with
    | none => none
    | some (r, t) => match t with
      | [] => some [r]
      | c :: u => if c = 43 then (match runesR n u with | none => none | some l => some (r :: l)) else none
def refU (s : List UInt8) : Line := match wordO [48, 120] s with
  | none => .bad
  | some s1 => if (pairs (s1.length + 1) s1).1 = [] then .bad else if (pairs (s1.length + 1) s1).2 = [] then .bare (pairs (s1.length + 1) s1).1 else match gapO (pairs (s1.length + 1) s1).2 with
    | none => .bad
    | some u => match wordO [48, 120] u with
      | none => .bad
      | some v => match runesR (v.length + 1) v with
        | none => .bad
        | some l => .row (pairs (s1.length + 1) s1).1 l
theorem runes_ref : ∀ (n : Nat) (s : List UInt8), runesR n s = match runesU n s with | none => none | some (l, rest) => if rest = [] then some l else none := by
  intro n
  induction n with
  | zero => intro s; rfl
  | succ n ih =>
    intro s
    unfold runesR runesU
    cases hr : runeO s with
    | none => rfl
    | some x =>
      obtain ⟨r, t⟩ := x
      cases t with
      | nil => simp [wordO]
      | cons c u =>
        by_cases hc : c = 43
        · subst hc
          have hw : wordO [43] (43 :: u) = some u := by simp [wordO]
          simp only [hw, if_pos, ih u]
          cases runesU n u with
          | none => rfl
          | some y =>
            obtain ⟨l, rest⟩ := y
            by_cases h0 : rest = []
            · simp [h0]
            · simp [h0]
        · have hw : wordO [43] (c :: u) = none := by
            unfold wordO
            rw [if_neg]
            simp only [List.isPrefixOf_cons_cons, List.isPrefixOf_nil_left, Bool.and_true, beq_iff_eq]
            exact fun h => hc h.symm
          simp only [hw, if_neg hc]
          rfl
theorem gap_ends (t : List UInt8) (h : ends t = false) : gapO t = none := by
  cases t with
  | nil => cases h
  | cons c u =>
    have h : sp c = false := h
    unfold gapO
    rw [List.dropWhile_cons, h]
    simp
theorem outU_eq (s : List UInt8) : outU s = refU s := by
  unfold outU unicodeO refU
  cases wordO [48, 120] s with
  | none => rfl
  | some s1 =>
    simp only
    rw [bytes_pairs _ s1 (Nat.lt_succ_self _)]
    generalize pairs (s1.length + 1) s1 = p
    obtain ⟨c, t⟩ := p
    simp only
    by_cases hc : c = []
    · simp [hc]
    · by_cases he : ends t = true
      · rw [if_pos ⟨hc, he⟩, if_neg hc]
        simp only
        by_cases ht : t = []
        · rw [if_pos ht, if_pos ht]
        · rw [if_neg ht, if_neg ht]
          cases gapO t with
          | none => rfl
          | some u =>
            simp only
            cases wordO [48, 120] u with
            | none => rfl
            | some v =>
              simp only
              rw [runes_ref]
              cases runesU (v.length + 1) v with
              | none => rfl
              | some x =>
                obtain ⟨l, rest⟩ := x
                by_cases h0 : rest = []
                · simp [h0]
                · simp [h0]
      · have he' : ends t = false := by simpa using he
        have ht : t ≠ [] := fun h => by rw [h] at he'; cases he'
        rw [if_neg (fun h => he h.2), if_neg hc, if_neg ht, gap_ends t he']
/-- The characters of a line of a ucm: the program's way, the reference's. -/
def charsP : Nat → List UInt8 → Option (List Int × List UInt8)
  | 0, _ => none
  | n + 1, s => match wordO [60, 85] s with
    | none => none
    | some s1 => match runeO s1 with
      | none => none
      | some (r, s2) => match wordO [62] s2 with
        | none => none
        | some t => if t.head? = some 60 then (match charsP n t with | none => none | some (l, u) => some (r :: l, u)) else some ([r], t)
def charsR : Nat → List UInt8 → Option (List Int × List UInt8)
  | 0, _ => none
  | n + 1, s => match wordO [60, 85] s with
    | none => some ([], s)
    | some s1 => match runeO s1 with
      | none => none
      | some (r, s2) => match wordO [62] s2 with
        | none => none
        | some t => match charsR n t with | none => none | some (l, u) => some (r :: l, u)
def codesP : Nat → List UInt8 → Option (List UInt8 × List UInt8)
  | 0, _ => none
  | n + 1, s => match wordO [92, 120] s with
    | none => none
    | some s1 => match byteO s1 with
      | none => none
      | some (b, t) => if t.head? = some 92 then (match codesP n t with | none => none | some (l, u) => some (b :: l, u)) else some ([b], t)
def codesR : Nat → List UInt8 → Option (List UInt8 × List UInt8)
  | 0, _ => none
  | n + 1, s => match wordO [92, 120] s with
    | none => some ([], s)
    | some s1 => match byteO s1 with
      | none => none
      | some (b, t) => match codesR n t with | none => none | some (l, u) => some (b :: l, u)
def flagO (v : List UInt8) : Option Int := match v with
  | [c] => if 48 ≤ c ∧ c ≤ 57 then some ((c.toNat : Int) - 48) else none
  | _ => none
def ucmO (s : List UInt8) : Option (List UInt8 × List Int × Int) :=
  match charsP (s.length + 1) s with
  | none => none
  | some (l, t) => match gapO t with
    | none => none
    | some u => match codesP (u.length + 1) u with
      | none => none
      | some (c, v) => match gapO v with
        | none => none
        | some x => match wordO [124] x with
          | none => none
          | some y => match flagO y with
            | none => none
            | some f => some (c, l, f)
def refC (s : List UInt8) : Option (List UInt8 × List Int × Int) :=
  match charsR (s.length + 1) s with
  | none => none
  | some (l, t) => if l = [] then none else match gapO t with
    | none => none
    | some u => match codesR (u.length + 1) u with
      | none => none
      | some (c, v) => if c = [] then none else match gapO v with
        | none => none
        | some x => match wordO [124] x with
          | none => none
          | some y => match flagO y with
            | none => none
            | some f => some (c, l, f)
theorem wordO_head {w : List UInt8} {a : UInt8} {s t : List UInt8} (h : wordO (a :: w) s = some t) : s.head? = some a ∧ t.length < s.length := by
  unfold wordO at h
  split at h
  · rename_i hp
    injection h with h
    cases s with
    | nil => cases hp
    | cons c u =>
      rw [List.isPrefixOf_cons_cons, Bool.and_eq_true, beq_iff_eq] at hp
      rw [← h, hp.1]
      refine ⟨rfl, ?_⟩
      rw [List.length_drop, List.length_cons, List.length_cons]
      omega
  · cases h
theorem runeO_rest {s : List UInt8} {r : Int} {t : List UInt8} (h : runeO s = some (r, t)) : t.length ≤ s.length := by
  unfold runeO at h
  split at h
  · injection h with h
    injection h with _ h
    rw [← h, List.length_drop]
    omega
  · cases h
theorem chars_ref : ∀ (n : Nat) (s : List UInt8), s.length < n → charsP n s = match charsR n s with | none => none | some (l, t) => if l ≠ [] ∧ t.head? ≠ some 60 then some (l, t) else none := by
  intro n
  induction n with
  | zero => intro s h; omega
  | succ n ih =>
    intro s hs
    unfold charsP charsR
    cases hw : wordO [60, 85] s with
    | none => simp
    | some s1 =>
      have h1 := (wordO_head hw).2
      simp only
      cases hr : runeO s1 with
      | none => rfl
      | some x =>
        obtain ⟨r, s2⟩ := x
        have h2 := runeO_rest hr
        simp only
        cases hv : wordO [62] s2 with
        | none => rfl
        | some t =>
          have h3 := (wordO_head hv).2
          simp only
          rw [ih t (by omega)]
          by_cases hh : t.head? = some 60
          · rw [if_pos hh]
            cases hc : charsR n t with
            | none => rfl
            | some y =>
              obtain ⟨l, u⟩ := y
              simp only
              by_cases hl : l = []
              · have hu : u = t := by
                  subst hl
                  cases n with
                  | zero => cases hc
                  | succ n =>
                    unfold charsR at hc
                    cases hw2 : wordO [60, 85] t with
                    | none => rw [hw2] at hc; injection hc with hc; injection hc with _ hc; exact hc.symm
                    | some q =>
                      rw [hw2] at hc
                      simp only at hc
                      cases hr2 : runeO q with
                      | none => rw [hr2] at hc; cases hc
                      | some z =>
                        obtain ⟨r2, s3⟩ := z
                        rw [hr2] at hc
                        simp only at hc
                        cases hv2 : wordO [62] s3 with
                        | none => rw [hv2] at hc; cases hc
                        | some t3 =>
                          rw [hv2] at hc
                          simp only at hc
                          cases hc2 : charsR n t3 with
                          | none => rw [hc2] at hc; cases hc
                          | some y2 => obtain ⟨l2, u2⟩ := y2; rw [hc2] at hc; simp at hc
                subst hl hu
                simp [hh]
              · by_cases hu : u.head? = some 60
                · simp [hu]
                · simp [hl, hu]
          · rw [if_neg hh]
            have hc : charsR n t = some ([], t) := by
              cases n with
              | zero => omega
              | succ n =>
                unfold charsR
                cases hw2 : wordO [60, 85] t with
                | none => rfl
                | some q => exact absurd (wordO_head hw2).1 hh
            rw [hc]
            simp [hh]
theorem codes_ref : ∀ (n : Nat) (s : List UInt8), s.length < n → codesP n s = match codesR n s with | none => none | some (l, t) => if l ≠ [] ∧ t.head? ≠ some 92 then some (l, t) else none := by
  intro n
  induction n with
  | zero => intro s h; omega
  | succ n ih =>
    intro s hs
    unfold codesP codesR
    cases hw : wordO [92, 120] s with
    | none => simp
    | some s1 =>
      have h1 := (wordO_head hw).2
      simp only
      cases hr : byteO s1 with
      | none => rfl
      | some x =>
        obtain ⟨r, t⟩ := x
        have h2 := byteO_rest hr
        simp only
        rw [ih t (by omega)]
        by_cases hh : t.head? = some 92
        · rw [if_pos hh]
          cases hc : codesR n t with
          | none => rfl
          | some y =>
            obtain ⟨l, u⟩ := y
            simp only
            by_cases hl : l = []
            · have hu : u = t := by
                subst hl
                cases n with
                | zero => cases hc
                | succ n =>
                  unfold codesR at hc
                  cases hw2 : wordO [92, 120] t with
                  | none => rw [hw2] at hc; injection hc with hc; injection hc with _ hc; exact hc.symm
                  | some q =>
                    rw [hw2] at hc
                    simp only at hc
                    cases hr2 : byteO q with
                    | none => rw [hr2] at hc; cases hc
                    | some z =>
                      obtain ⟨r2, t3⟩ := z
                      rw [hr2] at hc
                      simp only at hc
                      cases hc2 : codesR n t3 with
                      | none => rw [hc2] at hc; cases hc
                      | some y2 => obtain ⟨l2, u2⟩ := y2; rw [hc2] at hc; simp at hc
              subst hl hu
              simp [hh]
            · by_cases hu : u.head? = some 92
              · simp [hu]
              · simp [hl, hu]
        · rw [if_neg hh]
          have hc : codesR n t = some ([], t) := by
            cases n with
            | zero => omega
            | succ n =>
              unfold codesR
              cases hw2 : wordO [92, 120] t with
              | none => rfl
              | some q => exact absurd (wordO_head hw2).1 hh
          rw [hc]
          simp [hh]
theorem gap_head (t : List UInt8) (c : UInt8) (h : t.head? = some c) (hs : sp c = false) : gapO t = none := by
  cases t with
  | nil => cases h
  | cons d u =>
    injection h with h
    subst h
    exact gap_ends _ hs
theorem ucm_ref (s : List UInt8) : ucmO s = refC s := by
  unfold ucmO refC
  rw [chars_ref _ s (Nat.lt_succ_self _)]
  cases charsR (s.length + 1) s with
  | none => rfl
  | some x =>
    obtain ⟨l, t⟩ := x
    simp only
    by_cases hl : l = []
    · simp [hl]
    by_cases hh : t.head? = some 60
    · rw [if_neg (fun h => h.2 hh), if_neg hl, gap_head t 60 hh (by decide)]
    rw [if_pos ⟨hl, hh⟩, if_neg hl]
    simp only
    cases gapO t with
    | none => rfl
    | some u =>
      simp only
      rw [codes_ref _ u (Nat.lt_succ_self _)]
      cases codesR (u.length + 1) u with
      | none => rfl
      | some y =>
        obtain ⟨c, v⟩ := y
        simp only
        by_cases hc : c = []
        · simp [hc]
        by_cases hh2 : v.head? = some 92
        · rw [if_neg (fun h => h.2 hh2), if_neg hc, gap_head v 92 hh2 (by decide)]
        rw [if_pos ⟨hc, hh2⟩, if_neg hc]
end Mf
end Go.Proofs.YtkfjmcidcnpijaaGreatDoor
/- Plain: a text's lines, and the rows that are read of them. -/
namespace Go.Proofs.YtkfjmcidcnpijaaGreatDoor
namespace Mf
/-- Lines: cut behind each line feed. -/
def split : Nat → List UInt8 → List (List UInt8)
  | 0, _ => []
  | n + 1, s => if s = [] then [] else s.takeWhile (· != 10) :: split n (s.drop ((s.takeWhile (· != 10)).length + 1))
def linesOf (s : List UInt8) : List (List UInt8) := split s.length s
theorem split_fuel : ∀ (n m : Nat) (s : List UInt8), s.length ≤ n → s.length ≤ m → split n s = split m s := by
  intro n
  induction n with
  | zero =>
    intro m s h _
    have h0 : s = [] := List.eq_nil_of_length_eq_zero (Nat.le_zero.1 h)
    subst h0
    cases m <;> simp [split]
  | succ n ih =>
    intro m s h1 h2
    cases m with
    | zero =>
      have h0 : s = [] := List.eq_nil_of_length_eq_zero (Nat.le_zero.1 h2)
      subst h0
      simp [split]
    | succ m =>
      unfold split
      by_cases hs : s = []
      · rw [if_pos hs, if_pos hs]
      · rw [if_neg hs, if_neg hs]
        congr 1
        exact ih m _ (by rw [List.length_drop]; omega) (by rw [List.length_drop]; omega)
theorem linesOf_nil : linesOf [] = [] := rfl
theorem linesOf_cons (s : List UInt8) (h : s ≠ []) : linesOf s = s.takeWhile (· != 10) :: linesOf (s.drop ((s.takeWhile (· != 10)).length + 1)) := by
  unfold linesOf
  cases s with
  | nil => exact absurd rfl h
  | cons c t =>
    rw [List.length_cons]
    show (if c :: t = [] then [] else _) = _
    rw [if_neg h]
    congr 1
    refine split_fuel _ _ _ ?_ (Nat.le_refl _)
    rw [List.length_drop, List.length_cons]
    omega
/-- What counts of a line. -/
def rtrim (l : List UInt8) : List UInt8 := (l.reverse.dropWhile sp).reverse
def clean (l : List UInt8) : List UInt8 := rtrim (l.takeWhile (· != 35))
def fits (s : List UInt8) : Bool := (linesOf s).all (fun l => decide (l.length ≤ 512)) && decide ((linesOf s).length ≤ 4096)
/-- A row, its code, its characters, its flag. -/
structure LRow where
  code : List UInt8
  text : List Int
  flag : Int
/-- What is wrong with a row. -/
def wrongL (x : LRow) : Int :=
  if 1 ≤ x.code.length ∧ x.code.length ≤ 4 ∧ 1 ≤ x.text.length ∧ x.text.length ≤ 18 ∧ x.text.all (fun r => decide (0 ≤ r ∧ (r < 55296 ∨ 57343 < r) ∧ r ≤ 1114111)) = true then (if x.flag = 0 ∨ x.flag = 1 ∨ x.flag = 3 then 0 else 16) else 11
/-- A line: none, or what is wrong (0: nothing), or a row. -/
inductive One where
  | none
  | err (e : Int)
  | row (x : LRow)
def oneU (s : List UInt8) : One := if s = [] then .none else match outU s with
  | .bad => .err 10
  | .bare c => if c.length ≤ 4 then .none else .err 11
  | .row c l => if wrongL ⟨c, l, 0⟩ = 0 then .row ⟨c, l, 0⟩ else .err (wrongL ⟨c, l, 0⟩)
def oneC (s : List UInt8) : One := if s = [] then .none else match ucmO s with
  | none => .err 10
  | some (c, l, f) => if wrongL ⟨c, l, f⟩ = 0 then .row ⟨c, l, f⟩ else .err (wrongL ⟨c, l, f⟩)
/-- The rows, the number of a line that is wrong, and how. -/
def readGo (F : List UInt8 → One) : Nat → List LRow → List (List UInt8) → List LRow × Int × Int
  | _, out, [] => (out, 0, 0)
  | i, out, s :: t => match F (clean s) with
    | .none => readGo F (i + 1) out t
    | .err e => ([], (i : Int) + 1, e)
    | .row x => readGo F (i + 1) (out ++ [x]) t
def readL (F : List UInt8 → One) (s : List UInt8) : List LRow × Int × Int := if fits s = true then readGo F 0 [] (linesOf s) else ([], 0, 11)
end Mf
end Go.Proofs.YtkfjmcidcnpijaaGreatDoor
/- Plain: lines of texts put together; what is read of them. -/
namespace Go.Proofs.YtkfjmcidcnpijaaGreatDoor.Mf

def consL (c : UInt8) : List (List UInt8) → List (List UInt8)
  | [] => [[c]]
  | l :: ls => (c :: l) :: ls
theorem linesOf_rec (c : UInt8) (u : List UInt8) : linesOf (c :: u) = if c = 10 then [] :: linesOf u else consL c (linesOf u) := by
  rw [linesOf_cons _ (by simp)]
  by_cases h : c = 10
  · subst h
    rw [if_pos rfl]
    rfl
  · rw [if_neg h]
    have hw : (c :: u).takeWhile (· != 10) = c :: u.takeWhile (· != 10) := by
      rw [List.takeWhile_cons, if_pos (by simpa using h)]
    rw [hw, List.length_cons, List.drop_succ_cons]
    cases u with
    | nil => rfl
    | cons d v => rw [linesOf_cons (d :: v) (by simp)]; rfl
/-- The lines of a text behind which a line feed stands. -/
def cutL : List UInt8 → List (List UInt8)
  | [] => [[]]
  | c :: t => if c = 10 then [] :: cutL t else consL c (cutL t)
theorem cutL_rec (c : UInt8) (t : List UInt8) : cutL (c :: t) = if c = 10 then [] :: cutL t else consL c (cutL t) := rfl
theorem cutL_ne (s : List UInt8) : cutL s ≠ [] := by
  cases s with
  | nil => simp [cutL]
  | cons c t =>
    unfold cutL
    split
    · simp
    · cases cutL t <;> simp [consL]
theorem consL_append (c : UInt8) (a b : List (List UInt8)) (h : a ≠ []) : consL c (a ++ b) = consL c a ++ b := by
  cases a with
  | nil => exact absurd rfl h
  | cons x y => rfl
theorem linesOf_cut (s t : List UInt8) : linesOf (s ++ 10 :: t) = cutL s ++ linesOf t := by
  induction s with
  | nil => rw [List.nil_append, linesOf_rec, if_pos rfl]; rfl
  | cons c s ih =>
    rw [List.cons_append, linesOf_rec, ih, cutL_rec]
    by_cases h : c = 10
    · rw [if_pos h, if_pos h]; rfl
    · rw [if_neg h, if_neg h, consL_append _ _ _ (cutL_ne s)]
theorem linesOf_lf (s : List UInt8) : linesOf (s ++ [10]) = cutL s := by rw [linesOf_cut, linesOf_nil, List.append_nil]
theorem cutL_len (s : List UInt8) : (cutL s).length = s.count 10 + 1 := by
  induction s with
  | nil => rfl
  | cons c t ih =>
    rw [cutL_rec]
    by_cases h : c = 10
    · rw [if_pos h, List.length_cons, ih, List.count_cons, if_pos (by rw [h]; rfl)]
    · rw [if_neg h, List.count_cons, if_neg (by simpa using h)]
      have := cutL_ne t
      cases hc : cutL t with
      | nil => exact absurd hc this
      | cons x y => rw [hc] at ih; exact ih
theorem cutL_len_le (s : List UInt8) : (cutL s).length ≤ s.length + 1 := by
  rw [cutL_len]
  have := List.count_le_length (a := (10 : UInt8)) (l := s)
  omega
theorem lines_len (s : List UInt8) : (linesOf s).length ≤ s.length := by
  induction s with
  | nil => exact Nat.le_refl _
  | cons c t ih =>
    rw [linesOf_rec]
    by_cases h : c = 10
    · rw [if_pos h, List.length_cons, List.length_cons]; omega
    · rw [if_neg h]
      cases hc : linesOf t with
      | nil => simp [consL]
      | cons x y => rw [hc] at ih; simp only [consL, List.length_cons] at ih ⊢; omega
theorem lines_each (s : List UInt8) : ∀ l ∈ linesOf s, l.length ≤ s.length := by
  induction s with
  | nil => intro l h; rw [linesOf_nil] at h; cases h
  | cons c t ih =>
    rw [linesOf_rec]
    by_cases h : c = 10
    · rw [if_pos h]
      intro l hl
      rcases List.mem_cons.1 hl with rfl | hl
      · simp
      · have := ih l hl; rw [List.length_cons]; omega
    · rw [if_neg h]
      intro l hl
      cases hc : linesOf t with
      | nil => rw [hc] at hl; simp [consL] at hl; subst hl; simp
      | cons x y =>
        rw [hc] at hl ih
        rcases List.mem_cons.1 hl with rfl | hl
        · have := ih x (by simp); simp only [List.length_cons]; omega
        · have := ih l (List.mem_cons_of_mem _ hl); simp only [List.length_cons]; omega
theorem fits_cut (s t : List UInt8) (hs : s.length ≤ 2000) (ht : t.length ≤ 2000) (hl : ∀ l ∈ cutL s, l.length ≤ 512) : fits (s ++ 10 :: t) = fits t := by
  unfold fits
  rw [linesOf_cut, List.all_append]
  have h1 : (cutL s).all (fun l => decide (l.length ≤ 512)) = true := List.all_eq_true.2 fun l h => decide_eq_true (hl l h)
  have h2 := cutL_len_le s
  have h3 := lines_len t
  rw [h1, decide_eq_true (by rw [List.length_append]; omega), decide_eq_true (by omega)]
  simp
theorem fits_lf (s : List UInt8) (hs : s.length ≤ 2000) (hl : ∀ l ∈ cutL s, l.length ≤ 512) : fits (s ++ [10]) = true := by
  rw [fits_cut s [] hs (by simp) hl]
  rfl
theorem readGo_cons (F : List UInt8 → One) (i : Nat) (out : List LRow) (s : List UInt8) (t : List (List UInt8)) : readGo F i out (s :: t) = match F (clean s) with
    | .none => readGo F (i + 1) out t
    | .err e => ([], (i : Int) + 1, e)
    | .row x => readGo F (i + 1) (out ++ [x]) t := rfl
section
variable {F : List UInt8 → One} (hF : ∀ s, F s ≠ .err 0)
include hF
theorem readGo_facts : ∀ (b : List (List UInt8)) (i : Nat) (out : List LRow), ((readGo F i out b).2.2 = 0 → (readGo F i out b).2.1 = 0) ∧ ((readGo F i out b).2.2 ≠ 0 → (readGo F i out b).1 = [] ∧ (i : Int) < (readGo F i out b).2.1 ∧ (readGo F i out b).2.1 ≤ i + b.length) := by
  intro b
  induction b with
  | nil => intro i out; exact ⟨fun _ => rfl, fun h => absurd rfl h⟩
  | cons s t ih =>
    intro i out
    rw [readGo_cons]
    cases h : F (clean s) with
    | none =>
      obtain ⟨h1, h2⟩ := ih (i + 1) out
      simp only
      exact ⟨h1, fun h => ⟨(h2 h).1, by have := (h2 h).2; omega, by have := (h2 h).2.2; rw [List.length_cons]; omega⟩⟩
    | row x =>
      obtain ⟨h1, h2⟩ := ih (i + 1) (out ++ [x])
      simp only
      exact ⟨h1, fun h => ⟨(h2 h).1, by have := (h2 h).2; omega, by have := (h2 h).2.2; rw [List.length_cons]; omega⟩⟩
    | err e =>
      refine ⟨fun he => ?_, fun _ => ⟨rfl, by simp only; omega, by simp only [List.length_cons]; omega⟩⟩
      have he : e = 0 := he
      subst he
      exact absurd h (hF _)
theorem readGo_shift : ∀ (b : List (List UInt8)) (i j : Nat) (out o2 : List LRow), readGo F (i + j) (out ++ o2) b = if (readGo F j o2 b).2.2 = 0 then (out ++ (readGo F j o2 b).1, 0, 0) else ([], (readGo F j o2 b).2.1 + i, (readGo F j o2 b).2.2) := by
  intro b
  induction b with
  | nil => intro i j out o2; simp [readGo]
  | cons s t ih =>
    intro i j out o2
    rw [readGo_cons, readGo_cons]
    cases h : F (clean s) with
    | none => exact ih i (j + 1) out o2
    | row x =>
      have := ih i (j + 1) out (o2 ++ [x])
      rw [← List.append_assoc] at this
      exact this
    | err e =>
      have he : e ≠ 0 := fun he => by subst he; exact absurd h (hF _)
      simp only
      rw [if_neg he]
      congr 2
      omega
theorem readGo_append : ∀ (a b : List (List UInt8)) (i : Nat) (out : List LRow), readGo F i out (a ++ b) = if (readGo F i out a).2.2 = 0 then readGo F (i + a.length) (readGo F i out a).1 b else readGo F i out a := by
  intro a
  induction a with
  | nil => intro b i out; simp [readGo]
  | cons s t ih =>
    intro b i out
    rw [List.cons_append, readGo_cons, readGo_cons]
    cases h : F (clean s) with
    | none =>
      simp only
      rw [ih b (i + 1) out, List.length_cons, show i + 1 + t.length = i + (t.length + 1) by omega]
    | row x =>
      simp only
      rw [ih b (i + 1) (out ++ [x]), List.length_cons, show i + 1 + t.length = i + (t.length + 1) by omega]
    | err e =>
      have he : e ≠ 0 := fun he => by subst he; exact absurd h (hF _)
      simp only
      rw [if_neg he]
/-- A text behind a text of whole lines. -/
theorem read_join (s t : List UInt8) (hs : s.length ≤ 2000) (ht : t.length ≤ 2000) (hl : ∀ l ∈ cutL s, l.length ≤ 512) :
    ((readL F t).2.2 = 11 ∧ (readL F t).2.1 = 0 → readL F (s ++ 10 :: t) = ([], 0, 11)) ∧
    (¬ ((readL F t).2.2 = 11 ∧ (readL F t).2.1 = 0) → (readL F (s ++ [10])).2.2 ≠ 0 → readL F (s ++ 10 :: t) = ([], (readL F (s ++ [10])).2.1, (readL F (s ++ [10])).2.2)) ∧
    (¬ ((readL F t).2.2 = 11 ∧ (readL F t).2.1 = 0) → (readL F (s ++ [10])).2.2 = 0 → (readL F t).2.2 ≠ 0 → readL F (s ++ 10 :: t) = ([], (readL F t).2.1 + (cutL s).length, (readL F t).2.2)) ∧
    (¬ ((readL F t).2.2 = 11 ∧ (readL F t).2.1 = 0) → (readL F (s ++ [10])).2.2 = 0 → (readL F t).2.2 = 0 → readL F (s ++ 10 :: t) = ((readL F (s ++ [10])).1 ++ (readL F t).1, 0, 0)) := by
  have hA : readL F (s ++ [10]) = readGo F 0 [] (cutL s) := by unfold readL; rw [if_pos (fits_lf s hs hl), linesOf_lf]
  have hC : readL F (s ++ 10 :: t) = if fits t = true then readGo F 0 [] (cutL s ++ linesOf t) else ([], 0, 11) := by unfold readL; rw [fits_cut s t hs ht hl, linesOf_cut]
  by_cases hf : fits t = true
  · have hB : readL F t = readGo F 0 [] (linesOf t) := by unfold readL; rw [if_pos hf]
    rw [if_pos hf, readGo_append hF] at hC
    rw [hA, hB]
    have fa := readGo_facts hF (cutL s) 0 []
    have fb := readGo_facts hF (linesOf t) 0 []
    have sh := readGo_shift hF (linesOf t) (cutL s).length 0 (readGo F 0 [] (cutL s)).1 []
    rw [List.append_nil, Nat.add_zero] at sh
    rw [Nat.zero_add, sh] at hC
    generalize readGo F 0 [] (cutL s) = A at *
    generalize readGo F 0 [] (linesOf t) = B at *
    refine ⟨fun h => ?_, fun h ha => ?_, fun h ha hb => ?_, fun h ha hb => ?_⟩
    · have := fb.2 (by rw [h.1]; decide)
      rw [h.2] at this
      exact absurd this.2.1 (by decide)
    · rw [hC, if_neg ha]
      have := (fa.2 ha).1
      obtain ⟨a1, a2, a3⟩ := A
      simp only at this ⊢
      rw [this]
    · rw [hC, if_pos ha, if_neg hb]
    · rw [hC, if_pos ha, if_pos hb]
  · have hB : readL F t = ([], 0, 11) := by unfold readL; rw [if_neg hf]
    rw [if_neg hf] at hC
    rw [hB]
    exact ⟨fun _ => hC, fun h => absurd ⟨rfl, rfl⟩ h, fun h => absurd ⟨rfl, rfl⟩ h, fun h => absurd ⟨rfl, rfl⟩ h⟩
end
theorem rtrim_sp (l : List UInt8) : rtrim (l ++ [32]) = rtrim l := by
  unfold rtrim
  rw [List.reverse_append]
  rfl
theorem clean_note (l : List UInt8) : clean (l ++ [32, 35, 32]) = clean l := by
  unfold clean
  by_cases h : ∃ c ∈ l, c = 35
  · rw [List.takeWhile_append, if_neg]
    intro h2
    obtain ⟨c, hc, rfl⟩ := h
    have h3 : (l.takeWhile (· != 35)) = l := (List.takeWhile_prefix _).eq_of_length h2
    have h4 := List.all_takeWhile (p := (· != (35 : UInt8))) (l := l)
    rw [h3] at h4
    have h5 := List.all_eq_true.1 h4 _ hc
    simp at h5
  · have h1 : ∀ c ∈ l, (c != 35) = true := fun c hc => by
      rw [bne_iff_ne]
      exact fun he => h ⟨c, hc, he⟩
    rw [List.takeWhile_append_of_pos h1]
    have h2 : List.takeWhile (fun x : UInt8 => x != 35) [32, 35, 32] = [32] := by decide
    rw [h2, rtrim_sp]
    congr 1
    have h3 : l.takeWhile (fun x : UInt8 => x != 35) = (l ++ []).takeWhile (fun x : UInt8 => x != 35) := by rw [List.append_nil]
    rw [h3, List.takeWhile_append_of_pos h1]
    simp
/-- The last line's end is put on. -/
theorem cutL_snoc (s e : List UInt8) (he : ∀ c ∈ e, c ≠ 10) : ∃ a l, cutL s = a ++ [l] ∧ cutL (s ++ e) = a ++ [l ++ e] := by
  induction s with
  | nil =>
    refine ⟨[], [], rfl, ?_⟩
    rw [List.nil_append, List.nil_append]
    induction e with
    | nil => rfl
    | cons c e ih =>
      rw [cutL_rec, if_neg (he c (by simp)), ih (fun d hd => he d (List.mem_cons_of_mem _ hd))]
      rfl
  | cons c s ih =>
    obtain ⟨a, l, h1, h2⟩ := ih
    rw [List.cons_append, cutL_rec, cutL_rec]
    by_cases h : c = 10
    · rw [if_pos h, if_pos h, h1, h2]
      exact ⟨[] :: a, l, rfl, rfl⟩
    · rw [if_neg h, if_neg h, h1, h2]
      cases a with
      | nil => exact ⟨[], c :: l, rfl, rfl⟩
      | cons x y => exact ⟨(c :: x) :: y, l, rfl, rfl⟩
theorem readGo_same {F : List UInt8 → One} : ∀ (a : List (List UInt8)) (i : Nat) (out : List LRow) (l m : List UInt8), clean l = clean m → readGo F i out (a ++ [l]) = readGo F i out (a ++ [m]) := by
  intro a
  induction a with
  | nil => intro i out l m h; simp only [List.nil_append, readGo, h]
  | cons s t ih =>
    intro i out l m h
    simp only [List.cons_append, readGo]
    cases F (clean s) with
    | none => exact ih _ _ _ _ h
    | row x => exact ih _ _ _ _ h
    | err e => rfl
theorem read_note {F : List UInt8 → One} (s : List UInt8) (hs : s.length ≤ 1500) (hl : ∀ l ∈ cutL s, l.length ≤ 509) : readL F (s ++ [32, 35, 32] ++ [10]) = readL F (s ++ [10]) := by
  obtain ⟨a, l, h1, h2⟩ := cutL_snoc s [32, 35, 32] (by decide)
  have f1 : fits (s ++ [10]) = true := fits_lf s (by omega) (fun x hx => by have := hl x hx; omega)
  have f2 : fits (s ++ [32, 35, 32] ++ [10]) = true := by
    refine fits_lf _ (by rw [List.length_append]; show s.length + 3 ≤ _; omega) (fun x hx => ?_)
    rw [h2] at hx
    rw [h1] at hl
    rcases List.mem_append.1 hx with h | h
    · have := hl x (List.mem_append_left _ h); omega
    · obtain rfl : x = l ++ [32, 35, 32] := by simpa using h
      have := hl l (by simp)
      rw [List.length_append]
      show l.length + 3 ≤ 512
      omega
  unfold readL
  rw [if_pos f1, if_pos f2, linesOf_lf, linesOf_lf, h1, h2]
  exact readGo_same _ _ _ _ _ (clean_note l)
end Go.Proofs.YtkfjmcidcnpijaaGreatDoor.Mf
/- Plain: the first lines of a text. -/
namespace Go.Proofs.YtkfjmcidcnpijaaGreatDoor.Mf

/-- A text's first lines. -/
def headL : Nat → List UInt8 → List UInt8
  | 0, _ => []
  | _ + 1, [] => []
  | n + 1, c :: t => c :: (if c = 10 then headL n t else headL (n + 1) t)
theorem headL_zero (s : List UInt8) : headL 0 s = [] := by cases s <;> rfl
theorem headL_rec (n : Nat) (c : UInt8) (t : List UInt8) : headL (n + 1) (c :: t) = c :: (if c = 10 then headL n t else headL (n + 1) t) := by rw [headL]
theorem lines_head : ∀ (s : List UInt8) (n : Nat), linesOf (headL n s) = (linesOf s).take n := by
  intro s
  induction s with
  | nil =>
    intro n
    cases n with
    | zero => rfl
    | succ n => rw [headL]; rfl
  | cons c t ih =>
    intro n
    cases n with
    | zero => rw [headL_zero]; rfl
    | succ n =>
      rw [headL_rec, linesOf_rec, linesOf_rec]
      by_cases h : c = 10
      · rw [if_pos h, if_pos h, if_pos h, ih n]
        rfl
      · rw [if_neg h, if_neg h, if_neg h, ih (n + 1)]
        cases linesOf t with
        | nil => simp [consL]
        | cons x y => rfl
theorem headL_le : ∀ (s : List UInt8) (n : Nat), (headL n s).length ≤ s.length := by
  intro s
  induction s with
  | nil => intro n; cases n <;> simp [headL]
  | cons c t ih =>
    intro n
    cases n with
    | zero => rw [headL_zero]; simp
    | succ n =>
      rw [headL_rec]
      simp only [List.length_cons]
      split
      · have := ih n; omega
      · have := ih (n + 1); omega
theorem fits_head (s : List UInt8) (n : Nat) (h : fits s = true) : fits (headL n s) = true := by
  unfold fits at h ⊢
  rw [Bool.and_eq_true] at h
  rw [lines_head, Bool.and_eq_true]
  refine ⟨List.all_eq_true.2 fun x hx => List.all_eq_true.1 h.1 x (List.mem_of_mem_take hx), ?_⟩
  have := of_decide_eq_true h.2
  exact decide_eq_true (by rw [List.length_take]; omega)
theorem fits_of (s : List UInt8) (hs : s.length ≤ 4096) (hl : ∀ l ∈ linesOf s, l.length ≤ 512) : fits s = true := by
  unfold fits
  rw [Bool.and_eq_true]
  have := lines_len s
  exact ⟨List.all_eq_true.2 fun x hx => decide_eq_true (hl x hx), decide_eq_true (by omega)⟩
section
variable {F : List UInt8 → One} (hF : ∀ s, F s ≠ .err 0)
include hF
theorem readGo_first : ∀ (b : List (List UInt8)) (j : Nat) (out : List LRow) (n : Nat), (readGo F j out b).2.2 ≠ 0 → (readGo F j out b).2.1 = j + n →
    (readGo F j out (b.take (n - 1))).2.2 = 0 ∧ readGo F j out (b.take n) = readGo F j out b := by
  intro b
  induction b with
  | nil => intro j out n h; exact absurd rfl h
  | cons s t ih =>
    intro j out n h1 h2
    have hf := (readGo_facts hF (s :: t) j out).2 h1
    obtain ⟨m, rfl⟩ : ∃ m, n = m + 1 := ⟨n - 1, by omega⟩
    rw [Nat.add_sub_cancel, List.take_succ_cons, readGo_cons]
    rw [readGo_cons] at h1 h2 ⊢
    cases h : F (clean s) with
    | none =>
      rw [h] at h1 h2
      simp only at h1 h2 ⊢
      have hf2 := (readGo_facts hF t (j + 1) out).2 h1
      obtain ⟨k, rfl⟩ : ∃ k, m = k + 1 := ⟨m - 1, by omega⟩
      obtain ⟨q1, q2⟩ := ih (j + 1) out (k + 1) h1 (by omega)
      rw [Nat.add_sub_cancel] at q1
      rw [List.take_succ_cons, readGo_cons, h]
      exact ⟨q1, q2⟩
    | row x =>
      rw [h] at h1 h2
      simp only at h1 h2 ⊢
      have hf2 := (readGo_facts hF t (j + 1) (out ++ [x])).2 h1
      obtain ⟨k, rfl⟩ : ∃ k, m = k + 1 := ⟨m - 1, by omega⟩
      obtain ⟨q1, q2⟩ := ih (j + 1) (out ++ [x]) (k + 1) h1 (by omega)
      rw [Nat.add_sub_cancel] at q1
      rw [List.take_succ_cons, readGo_cons, h]
      exact ⟨q1, q2⟩
    | err e =>
      rw [h] at h2
      simp only at h2 ⊢
      obtain rfl : m = 0 := by omega
      exact ⟨rfl, by trivial⟩
/-- The first wrong line is told. -/
theorem read_first (s : List UInt8) (hs : s.length ≤ 1500) (hl : ∀ l ∈ linesOf s, l.length ≤ 512) :
    ((readL F s).2.2 = 0 → (readL F s).2.1 = 0 ∧ (readL F (headL 1 s)).2 = (0, 0) ∧ ∃ u, (readL F s).1 = (readL F (headL 1 s)).1 ++ u) ∧
    ((readL F s).2.2 ≠ 0 → ∃ n : Nat, (readL F s).2.1 = (n : Int) + 1 ∧ (readL F s).1 = [] ∧ (readL F (headL n s)).2 = (0, 0) ∧ (readL F (headL (n + 1) s)).2 = (readL F s).2) := by
  have f := fits_of s (by omega) hl
  have hR : readL F s = readGo F 0 [] (linesOf s) := by unfold readL; rw [if_pos f]
  have hH : ∀ n, readL F (headL n s) = readGo F 0 [] ((linesOf s).take n) := fun n => by unfold readL; rw [if_pos (fits_head s n f), lines_head]
  rw [hR, hH]
  obtain ⟨f1, f2⟩ := readGo_facts hF (linesOf s) 0 []
  refine ⟨fun h => ⟨f1 h, ?_⟩, fun h => ?_⟩
  · have ha := readGo_append hF ((linesOf s).take 1) ((linesOf s).drop 1) 0 []
    rw [List.take_append_drop] at ha
    obtain ⟨g1, g2⟩ := readGo_facts hF ((linesOf s).take 1) 0 []
    by_cases h0 : (readGo F 0 [] ((linesOf s).take 1)).2.2 = 0
    · rw [if_pos h0] at ha
      refine ⟨Prod.ext (g1 h0) h0, ?_⟩
      have sh := readGo_shift hF ((linesOf s).drop 1) (0 + ((linesOf s).take 1).length) 0 (readGo F 0 [] ((linesOf s).take 1)).1 []
      rw [List.append_nil, Nat.add_zero, ← ha] at sh
      by_cases h3 : (readGo F 0 [] ((linesOf s).drop 1)).2.2 = 0
      · rw [if_pos h3] at sh
        exact ⟨_, by rw [sh]⟩
      · rw [if_neg h3] at sh
        rw [sh] at h
        exact absurd h h3
    · rw [if_neg h0] at ha
      rw [ha] at h
      exact absurd h h0
  · obtain ⟨q1, q2, q3⟩ := f2 h
    obtain ⟨n, hn⟩ : ∃ n : Nat, (readGo F 0 [] (linesOf s)).2.1 = ((n + 1 : Nat) : Int) := ⟨((readGo F 0 [] (linesOf s)).2.1 - 1).toNat, by omega⟩
    obtain ⟨p1, p2⟩ := readGo_first hF (linesOf s) 0 [] (n + 1) h (by rw [hn]; omega)
    rw [Nat.add_sub_cancel] at p1
    refine ⟨n, by rw [hn]; omega, q1, ?_, ?_⟩
    · rw [hH]
      exact Prod.ext ((readGo_facts hF ((linesOf s).take n) 0 []).1 p1) p1
    · rw [hH, p2]
end
theorem oneU_ne (s : List UInt8) : oneU s ≠ .err 0 := by
  unfold oneU
  split
  · simp
  · split
    · simp
    · split <;> simp
    · split
      · simp
      · rename_i h
        intro he
        injection he with he
        exact h he
theorem oneC_ne (s : List UInt8) : oneC s ≠ .err 0 := by
  unfold oneC
  split
  · simp
  · split
    · simp
    · split
      · simp
      · rename_i h
        intro he
        injection he with he
        exact h he
end Go.Proofs.YtkfjmcidcnpijaaGreatDoor.Mf
/- Plain: hex digits of numbers, as they are written. -/
namespace Go.Proofs.YtkfjmcidcnpijaaGreatDoor.Mf
/-- A small hex digit. -/
def hexd (d : Nat) : UInt8 := if d < 10 then UInt8.ofNat (48 + d) else UInt8.ofNat (87 + d)
def hxF : Nat → Nat → List UInt8 → List UInt8
  | 0, m, acc => hexd m :: acc
  | k + 1, m, acc => if m < 16 then hexd m :: acc else hxF k (m / 16) (hexd (m % 16) :: acc)
theorem hexd_lt (d : Nat) (h : d < 16) : (hexd d).toNat < 128 := by
  unfold hexd
  split
  · rw [UInt8.toNat_ofNat']; omega
  · rw [UInt8.toNat_ofNat']; omega
theorem hxF_facts : ∀ (k m : Nat) (acc : List UInt8), (k = 0 → m < 16) → m < 16 ^ (k + 1) → (∀ b ∈ acc, b.toNat < 128) → (∀ b ∈ hxF k m acc, b.toNat < 128) ∧ (hxF k m acc).length ≤ acc.length + k + 1 ∧ 1 ≤ (hxF k m acc).length := by
  intro k
  induction k with
  | zero =>
    intro m acc h0 _ ha
    refine ⟨fun b hb => ?_, by simp [hxF], by simp [hxF]⟩
    rcases List.mem_cons.1 hb with rfl | hb
    · exact hexd_lt _ (h0 rfl)
    · exact ha b hb
  | succ k ih =>
    intro m acc _ hm ha
    unfold hxF
    split
    · rename_i h16
      refine ⟨fun b hb => ?_, by simp, by simp⟩
      rcases List.mem_cons.1 hb with rfl | hb
      · exact hexd_lt _ h16
      · exact ha b hb
    · have hm2 : m / 16 < 16 ^ (k + 1) := by rw [Nat.div_lt_iff_lt_mul (by decide)]; rw [Nat.pow_succ] at hm; exact hm
      obtain ⟨h1, h2, h3⟩ := ih (m / 16) (hexd (m % 16) :: acc) (fun hk => by subst hk; simpa using hm2) hm2 (fun b hb => by
        rcases List.mem_cons.1 hb with rfl | hb
        · exact hexd_lt _ (Nat.mod_lt _ (by decide))
        · exact ha b hb)
      exact ⟨h1, by rw [List.length_cons] at h2; omega, h3⟩
/-- What written answers: great hex digits, so many at least. -/
def upL (n : Nat) : List UInt8 := Lib.toUpperA (hxF 6 n [])
def wrt (n least : Nat) : List UInt8 := Lib.repeatL [48] (least - (upL n).length) ++ upL n
/-- A great hex digit. -/
def hexG (d : Nat) : UInt8 := if d < 10 then UInt8.ofNat (48 + d) else UInt8.ofNat (55 + d)
theorem upper_hexd : ∀ d : Fin 16, Lib.upperB (hexd d.val) = hexG d.val := by decide
theorem hexV_hexG : ∀ d : Fin 16, hexV (hexG d.val) = some d.val := by decide
/-- The last digits of a number, so many. -/
def grN : Nat → Nat → List UInt8
  | 0, _ => []
  | k + 1, n => grN k (n / 16) ++ [hexG (n % 16)]
/-- How many digits a number has (0 has one). -/
def cnt : Nat → Nat → Nat
  | 0, _ => 1
  | k + 1, m => if m < 16 then 1 else cnt k (m / 16) + 1
theorem hexd_mod (m : Nat) : Lib.upperB (hexd (m % 16)) = hexG (m % 16) := upper_hexd ⟨m % 16, Nat.mod_lt _ (by decide)⟩
theorem hxF_up : ∀ (k m : Nat) (acc : List UInt8), m < 16 ^ (k + 1) → Lib.toUpperA (hxF k m acc) = grN (cnt k m) m ++ Lib.toUpperA acc := by
  intro k
  induction k with
  | zero =>
    intro m acc h
    have hm : m % 16 = m := Nat.mod_eq_of_lt (by simpa using h)
    show Lib.upperB (hexd m) :: Lib.toUpperA acc = ([] ++ [hexG (m % 16)]) ++ _
    rw [← hexd_mod, hm]
    rfl
  | succ k ih =>
    intro m acc h
    unfold hxF cnt
    by_cases h16 : m < 16
    · have hm : m % 16 = m := Nat.mod_eq_of_lt h16
      rw [if_pos h16, if_pos h16]
      show Lib.upperB (hexd m) :: Lib.toUpperA acc = ([] ++ [hexG (m % 16)]) ++ _
      rw [← hexd_mod, hm]
      rfl
    · rw [if_neg h16, if_neg h16, ih (m / 16) _ (by rw [Nat.div_lt_iff_lt_mul (by decide)]; rw [Nat.pow_succ] at h; exact h)]
      show grN _ (m / 16) ++ (Lib.upperB (hexd (m % 16)) :: Lib.toUpperA acc) = (grN _ (m / 16) ++ [hexG (m % 16)]) ++ _
      rw [hexd_mod, List.append_assoc]
      rfl
theorem grN_len : ∀ (k n : Nat), (grN k n).length = k
  | 0, _ => rfl
  | k + 1, n => by rw [grN, List.length_append, grN_len k]; rfl
theorem cnt_pos : ∀ (k n : Nat), 1 ≤ cnt k n
  | 0, _ => Nat.le_refl _
  | k + 1, n => by
    unfold cnt
    split
    · exact Nat.le_refl _
    · omega
theorem cnt_lt : ∀ (k n : Nat), n < 16 ^ (k + 1) → n < 16 ^ cnt k n
  | 0, n, h => h
  | k + 1, n, h => by
    unfold cnt
    split
    · rename_i h1; simpa using h1
    · have := cnt_lt k (n / 16) (by rw [Nat.div_lt_iff_lt_mul (by decide)]; rw [Nat.pow_succ] at h; exact h)
      rw [Nat.div_lt_iff_lt_mul (by decide)] at this
      rw [Nat.pow_succ]
      exact this
theorem cnt_le : ∀ (k n j : Nat), 1 ≤ j → n < 16 ^ j → cnt k n ≤ j
  | 0, _, j, h1, _ => h1
  | k + 1, n, j, h1, h => by
    unfold cnt
    split
    · exact h1
    · rename_i h16
      cases j with
      | zero => omega
      | succ j =>
        cases j with
        | zero => omega
        | succ j =>
          have := cnt_le k (n / 16) (j + 1) (by omega) (by rw [Nat.div_lt_iff_lt_mul (by decide)]; rw [Nat.pow_succ] at h; exact h)
          omega
theorem cnt_fuel : ∀ (k n : Nat), n < 16 ^ (k + 1) → cnt (k + 1) n = cnt k n
  | 0, n, h => by unfold cnt; rw [if_pos (by simpa using h)]
  | k + 1, n, h => by
    unfold cnt
    split
    · rfl
    · rw [cnt_fuel k (n / 16) (by rw [Nat.div_lt_iff_lt_mul (by decide)]; rw [Nat.pow_succ] at h; exact h)]
theorem grN_zero : ∀ k, grN k 0 = Lib.repeatL [48] k
  | 0 => rfl
  | k + 1 => by
    rw [grN, Nat.zero_div, grN_zero k, ← Lib.repeatL_one [48], Lib.repeatL_one, show [hexG (0 % 16)] = Lib.repeatL [48] 1 from rfl, ← Lib.repeatL_add]
theorem grN_lead : ∀ (c j n : Nat), n < 16 ^ c → grN (j + c) n = Lib.repeatL [48] j ++ grN c n
  | 0, j, n, h => by
    obtain rfl : n = 0 := by simpa using h
    rw [Nat.add_zero, grN_zero, grN, List.append_nil]
  | c + 1, j, n, h => by
    rw [← Nat.add_assoc, grN, grN_lead c j (n / 16) (by rw [Nat.div_lt_iff_lt_mul (by decide)]; rw [Nat.pow_succ] at h; exact h), grN, List.append_assoc]
theorem upL_eq (n : Nat) (h : n ≤ 1114111) : upL n = grN (cnt 6 n) n := by
  unfold upL
  rw [hxF_up 6 n [] (by omega)]
  exact List.append_nil _
/-- Written is the last digits, so many as wanted, or as there are. -/
theorem wrt_eq (n least : Nat) (h : n ≤ 1114111) : wrt n least = grN (max least (cnt 6 n)) n := by
  unfold wrt
  rw [upL_eq n h, grN_len]
  have h1 := cnt_lt 6 n (by omega)
  by_cases hl : least ≤ cnt 6 n
  · rw [Nat.sub_eq_zero_of_le hl, Nat.max_eq_right hl]
    rfl
  · have e : max least (cnt 6 n) = (least - cnt 6 n) + cnt 6 n := by omega
    rw [e, grN_lead _ _ _ h1]
theorem hexG_hex (m : Nat) : isHex (hexG (m % 16)) = true := by
  unfold isHex
  rw [hexV_hexG ⟨m % 16, Nat.mod_lt _ (by decide)⟩]
  rfl
theorem grN_hex : ∀ (k n : Nat), ∀ c ∈ grN k n, isHex c = true
  | 0, _, c, h => by cases h
  | k + 1, n, c, h => by
    rw [grN, List.mem_append] at h
    rcases h with h | h
    · exact grN_hex k _ c h
    · rw [List.mem_singleton.1 h]; exact hexG_hex n
theorem numOf_end (d : List UInt8) (c : UInt8) : numOf (d ++ [c]) = numOf d * 16 + (hexV c).getD 0 := by
  unfold numOf
  rw [List.foldl_append]
  rfl
theorem grN_num : ∀ (k n : Nat), n < 16 ^ k → numOf (grN k n) = n
  | 0, n, h => by
    obtain rfl : n = 0 := by simpa using h
    rfl
  | k + 1, n, h => by
    rw [grN, numOf_end, grN_num k (n / 16) (by rw [Nat.div_lt_iff_lt_mul (by decide)]; rw [Nat.pow_succ] at h; exact h), hexV_hexG ⟨n % 16, Nat.mod_lt _ (by decide)⟩]
    show n / 16 * 16 + n % 16 = n
    omega
/-- Digits that tell a number, so many at least and at most. -/
structure Dig (d : List UInt8) (n lo hi : Nat) : Prop where
  hex : ∀ c ∈ d, isHex c = true
  num : numOf d = n
  least : lo ≤ d.length
  most : d.length ≤ hi
theorem wrt_dig4 (n : Nat) (h : n ≤ 1114111) : Dig (wrt n 4) n 4 6 := by
  have h1 := cnt_lt 6 n (by omega)
  have h2 := cnt_le 6 n 6 (by omega) (by omega)
  rw [wrt_eq n 4 h]
  refine ⟨grN_hex _ _, grN_num _ _ ?_, by rw [grN_len]; omega, by rw [grN_len]; omega⟩
  exact Nat.lt_of_lt_of_le h1 (Nat.pow_le_pow_right (by decide) (by omega))
theorem wrt_dig2 (n : Nat) (h : n < 256) : Dig (wrt n 2) n 2 2 := by
  have h2 := cnt_le 6 n 2 (by omega) (by omega)
  rw [wrt_eq n 2 (by omega), Nat.max_eq_left h2]
  exact ⟨grN_hex _ _, grN_num _ _ (by omega), by rw [grN_len]; exact Nat.le_refl _, by rw [grN_len]; exact Nat.le_refl _⟩
/-- Small digits are as good. -/
def lowB (c : UInt8) : UInt8 := if 65 ≤ c ∧ c ≤ 70 then c + 32 else c
set_option maxRecDepth 100000 in
theorem hexV_low_fin : ∀ n : Fin 256, hexV (lowB (UInt8.ofNat n.val)) = hexV (UInt8.ofNat n.val) := by decide
theorem hexV_low (c : UInt8) : hexV (lowB c) = hexV c := by
  have h := hexV_low_fin ⟨c.toNat, c.toNat_lt⟩
  simpa using h
theorem numOf_low (d : List UInt8) : numOf (d.map lowB) = numOf d := by
  unfold numOf
  rw [List.foldl_map]
  congr 1
  funext n c
  rw [hexV_low]
theorem Dig.low {d : List UInt8} {n lo hi : Nat} (h : Dig d n lo hi) : Dig (d.map lowB) n lo hi := by
  refine ⟨fun c hc => ?_, (numOf_low d).trans h.num, by rw [List.length_map]; exact h.least, by rw [List.length_map]; exact h.most⟩
  obtain ⟨x, hx, rfl⟩ := List.mem_map.1 hc
  have := h.hex x hx
  unfold isHex at this ⊢
  rw [hexV_low]
  exact this
end Go.Proofs.YtkfjmcidcnpijaaGreatDoor.Mf
/- Plain: the reference's way to write hex digits. -/
namespace Go.Proofs.YtkfjmcidcnpijaaGreatDoor.Mf
def dgN (m : Nat) : Nat := if m = 0 then 0 else cnt 6 m
/-- What is still to be written. -/
def grT (m : Nat) (l : Int) : List UInt8 := grN (max l.toNat (dgN m)) m
theorem dgN_step (m : Nat) (h0 : 0 < m) (h : m ≤ 1114111) : dgN m = dgN (m / 16) + 1 := by
  unfold dgN
  rw [if_neg (by omega)]
  by_cases h16 : m < 16
  · rw [if_pos (by omega)]
    show (if m < 16 then 1 else _) = _
    rw [if_pos h16]
  · rw [if_neg (by omega)]
    show (if m < 16 then 1 else cnt 5 (m / 16) + 1) = _
    rw [if_neg h16, cnt_fuel 5 (m / 16) (by omega)]
theorem grT_step (m : Nat) (l : Int) (h : m ≤ 1114111) (hc : 0 < m ∨ 0 < l) : grT m l = grT (m / 16) (l - 1) ++ [hexG (m % 16)] := by
  have e : max l.toNat (dgN m) = max (l - 1).toNat (dgN (m / 16)) + 1 := by
    by_cases hm : m = 0
    · subst hm
      have : dgN 0 = 0 := rfl
      rw [Nat.zero_div, this]
      omega
    · rw [dgN_step m (by omega) h]
      omega
  unfold grT
  rw [e]
  rfl
theorem grT_end (l : Int) (hl : l ≤ 0) : grT 0 l = [] := by
  unfold grT
  have e : max l.toNat (dgN 0) = 0 := by have : dgN 0 = 0 := rfl; omega
  rw [e]
  rfl
theorem grT_wrt (n least : Nat) (h : n ≤ 1114111) (h1 : 1 ≤ least) : grT n least = wrt n least := by
  rw [wrt_eq n least h]
  unfold grT dgN
  by_cases h0 : n = 0
  · subst h0
    rw [if_pos rfl]
    have : cnt 6 0 = 1 := rfl
    rw [this]
    congr 1
    omega
  · rw [if_neg h0]
    congr 1
theorem grT_len (n : Nat) (l : Int) (h : n ≤ 1114111) (hl : l ≤ 4) : (grT n l).length ≤ 6 := by
  unfold grT
  rw [grN_len]
  have : dgN n ≤ 6 := by
    unfold dgN
    split
    · omega
    · exact cnt_le 6 n 6 (by omega) (by omega)
  omega
end Go.Proofs.YtkfjmcidcnpijaaGreatDoor.Mf
/- Plain: lines that are printed are read as their rows. -/
namespace Go.Proofs.YtkfjmcidcnpijaaGreatDoor.Mf
theorem digs_app : ∀ (d rest : List UInt8) (n : Nat), (∀ c ∈ d, isHex c = true) → d.length ≤ n → (d.length = n ∨ ∀ c, rest.head? = some c → isHex c = false) → digs n (d ++ rest) = d := by
  intro d
  induction d with
  | nil =>
    intro rest n _ _ hr
    cases n with
    | zero => rfl
    | succ n =>
      cases rest with
      | nil => rfl
      | cons c t =>
        rcases hr with hr | hr
        · cases hr
        · have h := hr c rfl
          show (if isHex c then c :: digs n t else []) = []
          rw [h]
          rfl
  | cons c d ih =>
    intro rest n hd hn hr
    cases n with
    | zero => simp at hn
    | succ n =>
      show (if isHex c then c :: digs n (d ++ rest) else []) = _
      rw [hd c List.mem_cons_self, if_pos rfl, ih rest n (fun x hx => hd x (List.mem_cons_of_mem _ hx)) (by simpa using hn) (hr.imp (fun h => by simpa using h) id)]
theorem runeO_app {d : List UInt8} {n : Nat} (h : Dig d n 4 6) (rest : List UInt8) (hr : ∀ c, rest.head? = some c → isHex c = false) : runeO (d ++ rest) = some ((n : Int), rest) := by
  have e := digs_app d rest 7 h.hex (by have := h.most; omega) (.inr hr)
  unfold runeO
  rw [e, if_pos ⟨h.least, h.most⟩, h.num, List.drop_left]
theorem byteO_app {d : List UInt8} {n : Nat} (h : Dig d n 2 2) (rest : List UInt8) : byteO (d ++ rest) = some (UInt8.ofNat n, rest) := by
  have hl : d.length = 2 := Nat.le_antisymm h.most h.least
  have e := digs_app d rest 2 h.hex (by omega) (.inl hl)
  unfold byteO
  rw [e, if_pos hl, h.num, show d ++ rest = d ++ rest from rfl]
  congr 2
  rw [← hl, List.drop_left]
theorem wordO_app (w s : List UInt8) : wordO w (w ++ s) = some s := by
  unfold wordO
  rw [if_pos, List.drop_left]
  rw [List.isPrefixOf_iff_prefix]
  exact List.prefix_append w s
theorem wordO_none {a : UInt8} {w s : List UInt8} (h : s.head? ≠ some a) : wordO (a :: w) s = none := by
  cases hw : wordO (a :: w) s with
  | none => rfl
  | some t => exact absurd (wordO_head hw).1 h
theorem gapO_app (g u : List UInt8) (hg : g ≠ []) (hs : ∀ c ∈ g, sp c = true) (hu : ∀ c, u.head? = some c → sp c = false) : gapO (g ++ u) = some u := by
  have e : (g ++ u).dropWhile sp = u := by
    rw [List.dropWhile_append_of_pos hs]
    cases u with
    | nil => rfl
    | cons c t => rw [List.dropWhile_cons, hu c rfl]; rfl
  unfold gapO
  have hl : 0 < g.length := List.length_pos_iff.2 hg
  rw [e, if_pos (by rw [List.length_append]; omega)]
/-- The characters, and the bytes, as printed with any digits. -/
def charG (D : Nat → List UInt8) : List Int → List UInt8
  | [] => []
  | r :: t => [60, 85] ++ D r.toNat ++ [62] ++ charG D t
def codeG (E : Nat → List UInt8) (pre : List UInt8) : List UInt8 → List UInt8
  | [] => []
  | b :: t => pre ++ E b.toNat ++ codeG E pre t
def markG (D : Nat → List UInt8) : List UInt8 → List Int → List UInt8
  | _, [] => []
  | m, r :: t => m ++ D r.toNat ++ markG D [43] t
def Dig4 (D : Nat → List UInt8) : Prop := ∀ n, n ≤ 1114111 → Dig (D n) n 4 6
def Dig2 (E : Nat → List UInt8) : Prop := ∀ n, n < 256 → Dig (E n) n 2 2
def Chars (l : List Int) : Prop := ∀ r ∈ l, 0 ≤ r ∧ r ≤ 1114111
theorem Chars.tail {r : Int} {l : List Int} (h : Chars (r :: l)) : Chars l := fun x hx => h x (List.mem_cons_of_mem _ hx)
theorem Chars.one {r : Int} {l : List Int} (h : Chars (r :: l)) : r.toNat ≤ 1114111 ∧ (r.toNat : Int) = r := by have := h r List.mem_cons_self; omega
theorem charsR_app {D : Nat → List UInt8} (hD : Dig4 D) : ∀ (l : List Int) (rest : List UInt8) (n : Nat), Chars l → l.length < n → rest.head? ≠ some 60 → charsR n (charG D l ++ rest) = some (l, rest) := by
  intro l
  induction l with
  | nil =>
    intro rest n _ hn hr
    cases n with
    | zero => omega
    | succ n =>
      unfold charsR
      rw [show charG D [] ++ rest = rest from rfl, wordO_none hr]
  | cons r t ih =>
    intro rest n hl hn hr
    cases n with
    | zero => omega
    | succ n =>
      obtain ⟨h1, h2⟩ := hl.one
      have e : charG D (r :: t) ++ rest = [60, 85] ++ (D r.toNat ++ ([62] ++ (charG D t ++ rest))) := by simp [charG]
      unfold charsR
      rw [e, wordO_app]
      simp only
      rw [runeO_app (hD _ h1) _ (fun c hc => by injection hc with hc; subst hc; decide)]
      simp only
      rw [wordO_app]
      simp only
      rw [ih rest n hl.tail (by simpa using hn) hr, h2]
theorem codesR_app {E : Nat → List UInt8} (hE : Dig2 E) : ∀ (l : List UInt8) (rest : List UInt8) (n : Nat), l.length < n → rest.head? ≠ some 92 → codesR n (codeG E [92, 120] l ++ rest) = some (l, rest) := by
  intro l
  induction l with
  | nil =>
    intro rest n hn hr
    cases n with
    | zero => omega
    | succ n =>
      unfold codesR
      rw [show codeG E [92, 120] [] ++ rest = rest from rfl, wordO_none hr]
  | cons b t ih =>
    intro rest n hn hr
    cases n with
    | zero => omega
    | succ n =>
      have e : codeG E [92, 120] (b :: t) ++ rest = [92, 120] ++ (E b.toNat ++ (codeG E [92, 120] t ++ rest)) := by simp [codeG]
      unfold codesR
      rw [e, wordO_app]
      simp only
      rw [byteO_app (hE _ b.toNat_lt)]
      simp only
      rw [ih rest n (by simpa using hn) hr, UInt8.ofNat_toNat]
theorem pairs_app {E : Nat → List UInt8} (hE : Dig2 E) : ∀ (l : List UInt8) (rest : List UInt8) (n : Nat), l.length ≤ n → byteO rest = none → pairs n (codeG E [] l ++ rest) = (l, rest) := by
  intro l
  induction l with
  | nil => intro rest n _ hr; exact pairs_none n rest hr
  | cons b t ih =>
    intro rest n hn hr
    cases n with
    | zero => simp at hn
    | succ n =>
      have e : codeG E [] (b :: t) ++ rest = E b.toNat ++ (codeG E [] t ++ rest) := by simp [codeG]
      show (match byteO (codeG E [] (b :: t) ++ rest) with | none => _ | some (b, t) => _) = _
      rw [e, byteO_app (hE _ b.toNat_lt)]
      simp only
      rw [ih rest n (by simpa using hn) hr, UInt8.ofNat_toNat]
theorem markG_cons (D : Nat → List UInt8) (m : List UInt8) (r : Int) (t : List Int) : markG D m (r :: t) = m ++ markG D [] (r :: t) := by simp [markG]
theorem markG_plus (D : Nat → List UInt8) (t : List Int) (h : t ≠ []) : markG D [43] t = 43 :: markG D [] t := by
  cases t with
  | nil => exact absurd rfl h
  | cons r t => exact markG_cons D [43] r t
theorem runesR_app {D : Nat → List UInt8} (hD : Dig4 D) : ∀ (t : List Int) (r : Int) (n : Nat), Chars (r :: t) → t.length < n → runesR n (markG D [] (r :: t)) = some (r :: t) := by
  intro t
  induction t with
  | nil =>
    intro r n hl hn
    cases n with
    | zero => omega
    | succ n =>
      obtain ⟨h1, h2⟩ := hl.one
      unfold runesR
      rw [show markG D [] [r] = D r.toNat ++ [] by simp [markG], runeO_app (hD _ h1) [] (fun c hc => by cases hc)]
      simp only
      rw [h2]
  | cons x t ih =>
    intro r n hl hn
    cases n with
    | zero => omega
    | succ n =>
      obtain ⟨h1, h2⟩ := hl.one
      have e : markG D [] (r :: x :: t) = D r.toNat ++ (43 :: markG D [] (x :: t)) := by rw [← markG_plus D (x :: t) (by simp)]; rfl
      unfold runesR
      rw [e, runeO_app (hD _ h1) _ (fun c hc => by injection hc with hc; subst hc; decide)]
      simp only
      rw [if_pos trivial, ih x n hl.tail (by simpa using hn), h2]
theorem charG_len {D : Nat → List UInt8} (hD : Dig4 D) : ∀ (l : List Int), Chars l → l.length ≤ (charG D l).length ∧ (charG D l).length ≤ 9 * l.length
  | [], _ => ⟨Nat.zero_le _, Nat.zero_le _⟩
  | r :: t, hl => by
    have h1 := charG_len hD t hl.tail
    have h2 := (hD _ hl.one.1).most
    show _ ≤ ([60, 85] ++ D r.toNat ++ [62] ++ charG D t).length ∧ ([60, 85] ++ D r.toNat ++ [62] ++ charG D t).length ≤ _
    simp only [List.length_append, List.length_cons, List.length_nil]
    omega
theorem codeG_len {E : Nat → List UInt8} (hE : Dig2 E) (pre : List UInt8) : ∀ (l : List UInt8), l.length ≤ (codeG E pre l).length ∧ (codeG E pre l).length = (pre.length + 2) * l.length
  | [] => ⟨Nat.zero_le _, rfl⟩
  | b :: t => by
    have h1 := codeG_len hE pre t
    have h2 := (hE _ b.toNat_lt).most
    have h3 := (hE _ b.toNat_lt).least
    show _ ≤ (pre ++ E b.toNat ++ codeG E pre t).length ∧ (pre ++ E b.toNat ++ codeG E pre t).length = _
    simp only [List.length_append, List.length_cons, Nat.mul_add, Nat.mul_one]
    omega
theorem markG_len {D : Nat → List UInt8} (hD : Dig4 D) : ∀ (l : List Int) (m : List UInt8), Chars l → l.length ≤ (markG D m l).length ∧ (markG D m l).length ≤ m.length + 7 * l.length
  | [], m, _ => ⟨Nat.zero_le _, Nat.zero_le _⟩
  | r :: t, m, hl => by
    have h1 := markG_len hD t [43] hl.tail
    have h2 := (hD _ hl.one.1).most
    have h3 := (hD _ hl.one.1).least
    show _ ≤ (m ++ D r.toNat ++ markG D [43] t).length ∧ (m ++ D r.toNat ++ markG D [43] t).length ≤ _
    simp only [List.length_append, List.length_cons, List.length_nil] at *
    omega
/-- A row's line in a ucm. -/
def lineC (D E : Nat → List UInt8) (code : List UInt8) (text : List Int) (fl : UInt8) : List UInt8 := charG D text ++ ([32] ++ (codeG E [92, 120] code ++ ([32] ++ ([124] ++ [fl]))))
theorem ucmO_line {D E : Nat → List UInt8} (hD : Dig4 D) (hE : Dig2 E) (code : List UInt8) (text : List Int) (fl : UInt8) (hc : code ≠ []) (ht : text ≠ []) (hl : Chars text) (hf : 48 ≤ fl ∧ fl ≤ 57) :
    ucmO (lineC D E code text fl) = some (code, text, (fl.toNat : Int) - 48) := by
  have l1 := (charG_len hD text hl).1
  have l2 := (codeG_len hE [92, 120] code).1
  rw [ucm_ref]
  unfold refC lineC
  rw [charsR_app hD text _ _ hl (by rw [List.length_append]; omega) (fun h => by cases h)]
  simp only
  rw [if_neg ht, gapO_app [32] _ (by simp) (by decide) (fun c h => by
    cases code with
    | nil => exact absurd rfl hc
    | cons b t => injection h with h; subst h; decide)]
  simp only
  rw [codesR_app hE code _ _ (by rw [List.length_append]; omega) (fun h => by cases h)]
  simp only
  rw [if_neg hc, gapO_app [32] _ (by simp) (by decide) (fun c h => by injection h with h; subst h; decide)]
  simp only
  rw [wordO_app]
  simp only
  unfold flagO
  simp only
  rw [if_pos hf]
/-- A row's line of unicode.org's kind. -/
def lineU (D E : Nat → List UInt8) (gap : List UInt8) (code : List UInt8) (text : List Int) : List UInt8 := [48, 120] ++ (codeG E [] code ++ (gap ++ ([48, 120] ++ markG D [] text)))
theorem outU_line {D E : Nat → List UInt8} (hD : Dig4 D) (hE : Dig2 E) (gap code : List UInt8) (text : List Int) (hg : gap ≠ []) (hs : ∀ c ∈ gap, sp c = true) (hc : code ≠ []) (ht : text ≠ []) (hl : Chars text) :
    outU (lineU D E gap code text) = .row code text := by
  have l2 := (codeG_len hE [] code).1
  have he : ends (gap ++ ([48, 120] ++ markG D [] text)) = true := by
    cases gap with
    | nil => exact absurd rfl hg
    | cons c t => exact hs c List.mem_cons_self
  rw [outU_eq]
  unfold refU lineU
  rw [wordO_app]
  simp only
  rw [pairs_app hE code _ _ (by rw [List.length_append]; omega) (byteO_ends _ he)]
  simp only
  rw [if_neg hc, if_neg (by simp [hg]), gapO_app gap _ hg hs (fun c h => by injection h with h; subst h; decide)]
  simp only
  rw [wordO_app]
  simp only
  cases text with
  | nil => exact absurd rfl ht
  | cons r t =>
    rw [runesR_app hD t r _ hl (by have := (markG_len hD (r :: t) [] hl).1; rw [List.length_cons] at this; omega)]
theorem outU_bare {E : Nat → List UInt8} (hE : Dig2 E) (code : List UInt8) (hc : code ≠ []) : outU ([48, 120] ++ codeG E [] code) = .bare code := by
  have l2 := (codeG_len hE [] code).1
  have h := pairs_app hE code [] ((codeG E [] code).length + 1) (by omega) (byteO_ends [] rfl)
  rw [List.append_nil] at h
  rw [outU_eq]
  unfold refU
  rw [wordO_app]
  simp only
  rw [h]
  simp only
  rw [if_neg hc, if_pos trivial]
/-- Lines without a line feed, one behind the other. -/
theorem cutL_one (l : List UInt8) (h : ∀ c ∈ l, c ≠ 10) : cutL l = [l] := by
  induction l with
  | nil => rfl
  | cons c t ih => rw [cutL_rec, if_neg (h c List.mem_cons_self), ih (fun x hx => h x (List.mem_cons_of_mem _ hx))]; rfl
theorem lines_flat {α : Type} (line : α → List UInt8) : ∀ (L : List α), (∀ a ∈ L, ∀ c ∈ line a, c ≠ 10) → linesOf (L.flatMap fun a => line a ++ [10]) = L.map line
  | [], _ => rfl
  | a :: L, h => by
    have ih := lines_flat line L (fun x hx => h x (List.mem_cons_of_mem _ hx))
    have e : (a :: L).flatMap (fun a => line a ++ [10]) = line a ++ 10 :: L.flatMap fun a => line a ++ [10] := by simp
    rw [e, linesOf_cut, cutL_one _ (h a List.mem_cons_self), ih]
    rfl
theorem rtrim_id (a : List UInt8) (z : UInt8) (h : sp z = false) : rtrim (a ++ [z]) = a ++ [z] := by
  unfold rtrim
  rw [List.reverse_append]
  show ((z :: a.reverse).dropWhile sp).reverse = _
  rw [List.dropWhile_cons, h]
  simp
theorem clean_id (a : List UInt8) (z : UInt8) (h : sp z = false) (hn : ∀ c ∈ a ++ [z], c ≠ 35) : clean (a ++ [z]) = a ++ [z] := by
  unfold clean
  have e : (a ++ [z]).takeWhile (· != 35) = a ++ [z] := by
    have h3 := List.takeWhile_append_of_pos (p := fun x : UInt8 => x != 35) (l₁ := a ++ [z]) (l₂ := []) (fun c hc => by simpa using hn c hc)
    simpa using h3
  rw [e, rtrim_id a z h]
theorem readGo_flat {F : List UInt8 → One} {α : Type} (line : α → List UInt8) (row : α → LRow) : ∀ (L : List α) (i : Nat) (out : List LRow), (∀ a ∈ L, F (clean (line a)) = .row (row a)) → readGo F i out (L.map line) = (out ++ L.map row, 0, 0)
  | [], _, out, _ => by simp [readGo]
  | a :: L, i, out, h => by
    rw [List.map_cons, readGo_cons, h a List.mem_cons_self]
    simp only
    rw [readGo_flat line row L (i + 1) _ (fun x hx => h x (List.mem_cons_of_mem _ hx))]
    simp
theorem read_flat {F : List UInt8 → One} {α : Type} (line : α → List UInt8) (row : α → LRow) (L : List α) (hL : L.length ≤ 4096) (h : ∀ a ∈ L, (∀ c ∈ line a, c ≠ 10) ∧ (line a).length ≤ 512 ∧ F (clean (line a)) = .row (row a)) :
    readL F (L.flatMap fun a => line a ++ [10]) = (L.map row, 0, 0) := by
  have e := lines_flat line L (fun a ha => (h a ha).1)
  unfold readL fits
  rw [e, if_pos, readGo_flat line row L 0 [] (fun a ha => (h a ha).2.2)]
  · rfl
  · rw [Bool.and_eq_true]
    refine ⟨List.all_eq_true.2 fun x hx => ?_, decide_eq_true (by rw [List.length_map]; exact hL)⟩
    obtain ⟨a, ha, rfl⟩ := List.mem_map.1 hx
    exact decide_eq_true (h a ha).2.1
end Go.Proofs.YtkfjmcidcnpijaaGreatDoor.Mf
/- Plain: texts that are printed are read as their rows. -/
namespace Go.Proofs.YtkfjmcidcnpijaaGreatDoor.Mf
/-- A byte that ends no line. -/
def okB (c : UInt8) : Prop := c ≠ 10 ∧ c ≠ 35
theorem hex_okB {c : UInt8} (h : isHex c = true) : okB c ∧ sp c = false := by
  refine ⟨⟨?_, ?_⟩, ?_⟩
  · rintro rfl; exact absurd h (by decide)
  · rintro rfl; exact absurd h (by decide)
  · cases hs : sp c with
    | false => rfl
    | true => rw [sp_not_hex c hs] at h; cases h
theorem Dig.okB {d : List UInt8} {n lo hi : Nat} (h : Dig d n lo hi) : ∀ c ∈ d, okB c := fun c hc => (hex_okB (h.hex c hc)).1
theorem charG_ok {D : Nat → List UInt8} (hD : Dig4 D) : ∀ (l : List Int), Chars l → ∀ c ∈ charG D l, okB c
  | [], _, c, h => by cases h
  | r :: t, hl, c, h => by
    have h : c ∈ [60, 85] ++ D r.toNat ++ [62] ++ charG D t := h
    simp only [List.mem_append, List.mem_cons, List.not_mem_nil, or_false] at h
    rcases h with ((h | h) | h) | h
    · rcases h with rfl | rfl <;> exact ⟨by decide, by decide⟩
    · exact (hD _ hl.one.1).okB c h
    · subst h; exact ⟨by decide, by decide⟩
    · exact charG_ok hD t hl.tail c h
theorem codeG_ok {E : Nat → List UInt8} (hE : Dig2 E) (pre : List UInt8) (hp : ∀ c ∈ pre, okB c) : ∀ (l : List UInt8), ∀ c ∈ codeG E pre l, okB c
  | [], c, h => by cases h
  | b :: t, c, h => by
    have h : c ∈ pre ++ E b.toNat ++ codeG E pre t := h
    simp only [List.mem_append] at h
    rcases h with (h | h) | h
    · exact hp c h
    · exact (hE _ b.toNat_lt).okB c h
    · exact codeG_ok hE pre hp t c h
theorem markG_ok {D : Nat → List UInt8} (hD : Dig4 D) : ∀ (l : List Int) (m : List UInt8), (∀ c ∈ m, okB c) → Chars l → ∀ c ∈ markG D m l, okB c
  | [], _, _, _, c, h => by cases h
  | r :: t, m, hm, hl, c, h => by
    have h : c ∈ m ++ D r.toNat ++ markG D [43] t := h
    simp only [List.mem_append] at h
    rcases h with (h | h) | h
    · exact hm c h
    · exact (hD _ hl.one.1).okB c h
    · exact markG_ok hD t [43] (fun x hx => by rw [List.mem_singleton.1 hx]; exact ⟨by decide, by decide⟩) hl.tail c h
theorem dig_last {d : List UInt8} {n lo hi : Nat} (h : Dig d n lo hi) (hlo : 1 ≤ lo) : ∃ a z, d = a ++ [z] ∧ sp z = false := by
  have hne : d ≠ [] := by intro he; have := h.least; rw [he] at this; simp at this; omega
  refine ⟨d.dropLast, d.getLast hne, (List.dropLast_concat_getLast hne).symm, (hex_okB (h.hex _ (List.getLast_mem hne))).2⟩
theorem markG_last {D : Nat → List UInt8} (hD : Dig4 D) : ∀ (t : List Int) (r : Int) (m : List UInt8), Chars (r :: t) → ∃ a z, markG D m (r :: t) = a ++ [z] ∧ sp z = false
  | [], r, m, hl => by
    obtain ⟨a, z, h1, h2⟩ := dig_last (hD _ hl.one.1) (by omega)
    exact ⟨m ++ a, z, by show m ++ D r.toNat ++ [] = _; rw [h1]; simp, h2⟩
  | x :: t, r, m, hl => by
    obtain ⟨a, z, h1, h2⟩ := markG_last hD t x [43] hl.tail
    exact ⟨m ++ D r.toNat ++ a, z, by show m ++ D r.toNat ++ markG D [43] (x :: t) = _; rw [h1]; simp, h2⟩
theorem codeG_last {E : Nat → List UInt8} (hE : Dig2 E) (pre : List UInt8) : ∀ (t : List UInt8) (b : UInt8), ∃ a z, codeG E pre (b :: t) = a ++ [z] ∧ sp z = false
  | [], b => by
    obtain ⟨a, z, h1, h2⟩ := dig_last (hE _ b.toNat_lt) (by omega)
    exact ⟨pre ++ a, z, by show pre ++ E b.toNat ++ [] = _; rw [h1]; simp, h2⟩
  | x :: t, b => by
    obtain ⟨a, z, h1, h2⟩ := codeG_last hE pre t x
    exact ⟨pre ++ E b.toNat ++ a, z, by show pre ++ E b.toNat ++ codeG E pre (x :: t) = _; rw [h1]; simp, h2⟩
theorem wrongL_facts {x : LRow} (h : wrongL x = 0) : (1 ≤ x.code.length ∧ x.code.length ≤ 4) ∧ (1 ≤ x.text.length ∧ x.text.length ≤ 18) ∧ Chars x.text ∧ (x.flag = 0 ∨ x.flag = 1 ∨ x.flag = 3) := by
  unfold wrongL at h
  split at h
  · rename_i h1
    split at h
    · rename_i h2
      obtain ⟨a, b, c, d, e⟩ := h1
      refine ⟨⟨a, b⟩, ⟨c, d⟩, fun r hr => ?_, h2⟩
      have := of_decide_eq_true (List.all_eq_true.1 e r hr)
      exact ⟨this.1, this.2.2⟩
    · cases h
  · cases h
/-- The flag's digit. -/
def flagB (f : Int) : UInt8 := UInt8.ofNat (48 + f.toNat)
theorem flagB_facts {f : Int} (h : f = 0 ∨ f = 1 ∨ f = 3) : (48 ≤ flagB f ∧ flagB f ≤ 57) ∧ ((flagB f).toNat : Int) - 48 = f ∧ okB (flagB f) ∧ sp (flagB f) = false := by
  rcases h with rfl | rfl | rfl <;> exact ⟨by decide, by decide, ⟨by decide, by decide⟩, by decide⟩
theorem oneC_line {D E : Nat → List UInt8} (hD : Dig4 D) (hE : Dig2 E) (x : LRow) (h : wrongL x = 0) :
    (∀ c ∈ lineC D E x.code x.text (flagB x.flag), c ≠ 10) ∧ (lineC D E x.code x.text (flagB x.flag)).length ≤ 512 ∧ oneC (clean (lineC D E x.code x.text (flagB x.flag))) = .row x := by
  obtain ⟨h1, h2, h3, h4⟩ := wrongL_facts h
  obtain ⟨f1, f2, f3, f4⟩ := flagB_facts h4
  have hok : ∀ c ∈ lineC D E x.code x.text (flagB x.flag), okB c := by
    intro c hc
    unfold lineC at hc
    simp only [List.mem_append, List.mem_singleton] at hc
    rcases hc with hc | hc | hc | hc | hc | hc
    · exact charG_ok hD _ h3 c hc
    · subst hc; exact ⟨by decide, by decide⟩
    · exact codeG_ok hE _ (fun c h => by
        simp only [List.mem_cons, List.not_mem_nil, or_false] at h
        rcases h with rfl | rfl <;> exact ⟨by decide, by decide⟩) _ c hc
    · subst hc; exact ⟨by decide, by decide⟩
    · subst hc; exact ⟨by decide, by decide⟩
    · subst hc; exact f3
  have hne : lineC D E x.code x.text (flagB x.flag) = (charG D x.text ++ ([32] ++ (codeG E [92, 120] x.code ++ ([32] ++ [124])))) ++ [flagB x.flag] := by simp [lineC]
  have hcl : clean (lineC D E x.code x.text (flagB x.flag)) = lineC D E x.code x.text (flagB x.flag) := by
    rw [hne] at hok ⊢
    exact clean_id _ _ f4 (fun c hc => (hok c hc).2)
  refine ⟨fun c hc => (hok c hc).1, ?_, ?_⟩
  · have l1 := (charG_len hD x.text h3).2
    have l2 := (codeG_len hE [92, 120] x.code).2
    have l3 : ([92, 120] : List UInt8).length = 2 := rfl
    unfold lineC
    simp only [List.length_append, List.length_cons, List.length_nil] at *
    omega
  · rw [hcl]
    unfold oneC
    rw [if_neg (by rw [hne]; simp), ucmO_line hD hE _ _ _ (by intro h; rw [h] at h1; simp at h1) (by intro h; rw [h] at h2; simp at h2) h3 f1, f2]
    simp only
    rw [if_pos h]
theorem oneU_line {D E : Nat → List UInt8} (hD : Dig4 D) (hE : Dig2 E) (gap : List UInt8) (hg : gap ≠ []) (hs : ∀ c ∈ gap, sp c = true) (hgl : gap.length ≤ 10) (x : LRow) (h : wrongL x = 0) (h0 : x.flag = 0) :
    (∀ c ∈ lineU D E gap x.code x.text, c ≠ 10) ∧ (lineU D E gap x.code x.text).length ≤ 512 ∧ oneU (clean (lineU D E gap x.code x.text)) = .row x := by
  obtain ⟨h1, h2, h3, h4⟩ := wrongL_facts h
  have hspok : ∀ c, sp c = true → okB c := by
    intro c hc
    unfold sp at hc
    rw [Bool.or_eq_true, beq_iff_eq, beq_iff_eq] at hc
    rcases hc with rfl | rfl <;> exact ⟨by decide, by decide⟩
  have h0x : ∀ c ∈ ([48, 120] : List UInt8), okB c := fun c h => by
    simp only [List.mem_cons, List.not_mem_nil, or_false] at h
    rcases h with rfl | rfl <;> exact ⟨by decide, by decide⟩
  have hok : ∀ c ∈ lineU D E gap x.code x.text, okB c := by
    intro c hc
    unfold lineU at hc
    rcases List.mem_append.1 hc with hc | hc
    · exact h0x c hc
    rcases List.mem_append.1 hc with hc | hc
    · exact codeG_ok hE _ (fun c h => by cases h) _ c hc
    rcases List.mem_append.1 hc with hc | hc
    · exact hspok c (hs c hc)
    rcases List.mem_append.1 hc with hc | hc
    · exact h0x c hc
    · exact markG_ok hD _ [] (fun c h => by cases h) h3 c hc
  obtain ⟨a, z, hne, hz⟩ : ∃ a z, lineU D E gap x.code x.text = a ++ [z] ∧ sp z = false := by
    cases ht : x.text with
    | nil => rw [ht] at h2; simp at h2
    | cons r t =>
      rw [ht] at h3
      obtain ⟨a, z, e1, e2⟩ := markG_last hD t r [] h3
      exact ⟨[48, 120] ++ (codeG E [] x.code ++ (gap ++ ([48, 120] ++ a))), z, by unfold lineU; rw [e1]; simp, e2⟩
  have hcl : clean (lineU D E gap x.code x.text) = lineU D E gap x.code x.text := by
    rw [hne] at hok ⊢
    exact clean_id _ _ hz (fun c hc => (hok c hc).2)
  refine ⟨fun c hc => (hok c hc).1, ?_, ?_⟩
  · have l1 := (markG_len hD x.text [] h3).2
    have l2 := (codeG_len hE [] x.code).2
    have l3 : ([] : List UInt8).length = 0 := rfl
    unfold lineU
    simp only [List.length_append, List.length_cons, List.length_nil] at *
    omega
  · rw [hcl]
    unfold oneU
    rw [if_neg (by rw [hne]; simp), outU_line hD hE gap _ _ hg hs (by intro h; rw [h] at h1; simp at h1) (by intro h; rw [h] at h2; simp at h2) h3]
    simp only
    have hx : (⟨x.code, x.text, 0⟩ : LRow) = x := by cases x; simp_all
    rw [hx, if_pos h]
theorem oneU_bare {E : Nat → List UInt8} (hE : Dig2 E) (code : List UInt8) (h1 : 1 ≤ code.length) (h4 : code.length ≤ 4) :
    (∀ c ∈ [48, 120] ++ codeG E [] code, c ≠ 10) ∧ ([48, 120] ++ codeG E [] code).length ≤ 512 ∧ oneU (clean ([48, 120] ++ codeG E [] code)) = .none := by
  have hok : ∀ c ∈ [48, 120] ++ codeG E [] code, okB c := by
    intro c hc
    rcases List.mem_append.1 hc with h | hc
    · simp only [List.mem_cons, List.not_mem_nil, or_false] at h
      rcases h with rfl | rfl <;> exact ⟨by decide, by decide⟩
    · exact codeG_ok hE _ (fun c h => by cases h) _ c hc
  cases code with
  | nil => simp at h1
  | cons b t =>
    obtain ⟨a, z, e1, e2⟩ := codeG_last hE [] t b
    have hne : [48, 120] ++ codeG E [] (b :: t) = ([48, 120] ++ a) ++ [z] := by rw [e1]; simp
    have hcl : clean ([48, 120] ++ codeG E [] (b :: t)) = [48, 120] ++ codeG E [] (b :: t) := by
      rw [hne] at hok ⊢
      exact clean_id _ _ e2 (fun c hc => (hok c hc).2)
    refine ⟨fun c hc => (hok c hc).1, ?_, ?_⟩
    · have l2 := (codeG_len hE [] (b :: t)).2
      simp only [List.length_append, List.length_cons, List.length_nil] at *
      omega
    · rw [hcl]
      unfold oneU
      rw [if_neg (by rw [hne]; simp), outU_bare hE _ (by simp)]
      simp only
      rw [if_pos h4]
/-- THE STAGE'S THEOREM, plainly: what is printed is read as the rows. -/
theorem read_ucm {D E : Nat → List UInt8} (hD : Dig4 D) (hE : Dig2 E) (L : List LRow) (hL : L.length ≤ 4096) (h : ∀ x ∈ L, wrongL x = 0) :
    readL oneC (L.flatMap fun x => lineC D E x.code x.text (flagB x.flag) ++ [10]) = (L, 0, 0) := by
  have := read_flat (F := oneC) (fun x : LRow => lineC D E x.code x.text (flagB x.flag)) id L hL (fun x hx => oneC_line hD hE x (h x hx))
  simpa using this
theorem read_uni {D E : Nat → List UInt8} (hD : Dig4 D) (hE : Dig2 E) (gap : List UInt8) (hg : gap ≠ []) (hs : ∀ c ∈ gap, sp c = true) (hgl : gap.length ≤ 10) (L : List LRow) (hL : L.length ≤ 4096) (h : ∀ x ∈ L, wrongL x = 0 ∧ x.flag = 0) :
    readL oneU (L.flatMap fun x => lineU D E gap x.code x.text ++ [10]) = (L, 0, 0) := by
  have := read_flat (F := oneU) (fun x : LRow => lineU D E gap x.code x.text) id L hL (fun x hx => oneU_line hD hE gap hg hs hgl x (h x hx).1 (h x hx).2)
  simpa using this
end Go.Proofs.YtkfjmcidcnpijaaGreatDoor.Mf
