/- Joined of: N1, N2, N3. -/
import Derived.Test.YtkfjmcidcnpijaaGreatDoorPA
import Derived.Lib.Bytealg
import Derived.Lib.Case
/- Plain: a reader's state, what each step turns it to, and what a line is by it. -/
namespace Go.Proofs.YtkfjmcidcnpijaaGreatDoor.Mf

structure RS where
  s : List UInt8
  ok : Bool
  c : List UInt8
  t : List Int
  f : Int
def RS.word (x : RS) (p : List UInt8) : RS := ⟨if p.isPrefixOf x.s = true then x.s.drop p.length else x.s, x.ok, x.c, x.t, x.f⟩
def RS.needs (x : RS) (p : List UInt8) : RS := ⟨if p.isPrefixOf x.s = true then x.s.drop p.length else x.s, p.isPrefixOf x.s && x.ok, x.c, x.t, x.f⟩
def RS.gap (x : RS) : RS := ⟨x.s.dropWhile sp, x.ok && decide ((x.s.dropWhile sp).length < x.s.length), x.c, x.t, x.f⟩
def RS.byte (x : RS) : RS := ⟨x.s.drop (digs 2 x.s).length, x.ok && decide ((digs 2 x.s).length = 2), x.c ++ [UInt8.ofNat (numOf (digs 2 x.s))], x.t, x.f⟩
def RS.rune (x : RS) : RS := ⟨x.s.drop (digs 7 x.s).length, x.ok && decide (4 ≤ (digs 7 x.s).length ∧ (digs 7 x.s).length ≤ 6), x.c, x.t ++ [(numOf (digs 7 x.s) : Int)], x.f⟩
def flagN (d : List UInt8) : Int := match d with | [c] => if 48 ≤ c ∧ c ≤ 57 then (c.toNat : Int) - 48 else 0 | _ => 0
def flagK (d : List UInt8) : Bool := match d with | [c] => decide (48 ≤ c ∧ c ≤ 57) | _ => false
def RS.flag (x : RS) : RS := ⟨x.s.drop (digs 1 x.s).length, x.ok && flagK (digs 1 x.s), x.c, x.t, flagN (digs 1 x.s)⟩
/-- Does the code go on? -/
def RS.more (x : RS) : Bool := x.ok && !ends x.s
def bytesS : Nat → RS → RS
  | 0, x => x
  | n + 1, x => if x.more = true then bytesS n x.byte else x
def runesS : Nat → RS → RS
  | 0, x => x
  | n + 1, x => if x.ok = true ∧ [43].isPrefixOf x.s = true then runesS n (x.word [43]).rune else x
def unicodeS (x : RS) : RS × Bool :=
  if (bytesS (x.s.length + 1) (x.needs [48, 120]).byte).s = [] then (bytesS (x.s.length + 1) (x.needs [48, 120]).byte, false)
  else (runesS (x.s.length + 1) ((bytesS (x.s.length + 1) (x.needs [48, 120]).byte).gap.needs [48, 120]).rune, true)
def charS (x : RS) : RS := (x.needs [60, 85]).rune.needs [62]
def codeS (x : RS) : RS := (x.needs [92, 120]).byte
def charsS : Nat → RS → RS
  | 0, x => x
  | n + 1, x => if x.ok = true ∧ [60].isPrefixOf x.s = true then charsS n (charS x) else x
def codesS : Nat → RS → RS
  | 0, x => x
  | n + 1, x => if x.ok = true ∧ [92].isPrefixOf x.s = true then codesS n (codeS x) else x
def ucmS (x : RS) : RS := ((codesS (x.s.length + 1) (codeS (charsS (x.s.length + 1) (charS x)).gap)).gap.needs [124]).flag
/-- What a line is, by what was read. -/
def oneOf (y : RS) (some : Bool) : One :=
  if some = false ∧ y.ok = true then (if y.c.length ≤ 4 then .none else .err 11)
  else if y.ok = false ∨ y.s ≠ [] then .err 10
  else if wrongL ⟨y.c, y.t, y.f⟩ = 0 then .row ⟨y.c, y.t, y.f⟩ else .err (wrongL ⟨y.c, y.t, y.f⟩)

theorem RS.byte_ok {x : RS} (h : x.ok = false) : x.byte.ok = false := by unfold RS.byte; simp [h]
theorem RS.rune_ok {x : RS} (h : x.ok = false) : x.rune.ok = false := by unfold RS.rune; simp [h]
theorem RS.gap_ok {x : RS} (h : x.ok = false) : x.gap.ok = false := by unfold RS.gap; simp [h]
theorem RS.needs_ok {x : RS} (p : List UInt8) (h : x.ok = false) : (x.needs p).ok = false := by unfold RS.needs; simp [h]
theorem RS.flag_ok {x : RS} (h : x.ok = false) : x.flag.ok = false := by unfold RS.flag; simp [h]
theorem bytesS_off (n : Nat) {x : RS} (h : x.ok = false) : bytesS n x = x := by
  cases n with
  | zero => rfl
  | succ n => unfold bytesS RS.more; simp [h]
theorem runesS_off (n : Nat) {x : RS} (h : x.ok = false) : runesS n x = x := by
  cases n with
  | zero => rfl
  | succ n => unfold runesS; simp [h]
theorem charsS_off (n : Nat) {x : RS} (h : x.ok = false) : charsS n x = x := by
  cases n with
  | zero => rfl
  | succ n => unfold charsS; simp [h]
theorem codesS_off (n : Nat) {x : RS} (h : x.ok = false) : codesS n x = x := by
  cases n with
  | zero => rfl
  | succ n => unfold codesS; simp [h]
theorem byte_run (x : RS) (h : x.ok = true) : match byteO x.s with | none => x.byte.ok = false | some (b, t) => x.byte = ⟨t, true, x.c ++ [b], x.t, x.f⟩ := by
  unfold byteO RS.byte
  by_cases h2 : (digs 2 x.s).length = 2
  · rw [if_pos h2]
    simp [h2, h]
  · rw [if_neg h2]
    simp [h2]
theorem rune_run (x : RS) (h : x.ok = true) : match runeO x.s with | none => x.rune.ok = false | some (r, t) => x.rune = ⟨t, true, x.c, x.t ++ [r], x.f⟩ := by
  unfold runeO RS.rune
  by_cases h2 : 4 ≤ (digs 7 x.s).length ∧ (digs 7 x.s).length ≤ 6
  · rw [if_pos h2]
    simp [h2, h]
  · rw [if_neg h2]
    simp only [decide_eq_false h2, Bool.and_false]
theorem needs_run (x : RS) (p : List UInt8) (h : x.ok = true) : match wordO p x.s with | none => (x.needs p).ok = false | some t => x.needs p = ⟨t, true, x.c, x.t, x.f⟩ := by
  unfold wordO RS.needs
  by_cases h2 : p.isPrefixOf x.s = true
  · rw [if_pos h2]
    simp [h2, h]
  · rw [if_neg h2]
    simp [h2]
theorem gap_run (x : RS) (h : x.ok = true) : match gapO x.s with | none => x.gap.ok = false | some t => x.gap = ⟨t, true, x.c, x.t, x.f⟩ := by
  unfold gapO RS.gap
  by_cases h2 : (x.s.dropWhile sp).length < x.s.length
  · rw [if_pos h2]
    simp [h2, h]
  · rw [if_neg h2]
    simp [h2]
theorem bytes_run : ∀ (n : Nat) (x : RS), x.ok = true → x.s.length < n → match bytesU n x.s with | none => (bytesS n x.byte).ok = false | some (c, t) => bytesS n x.byte = ⟨t, true, x.c ++ c, x.t, x.f⟩ := by
  intro n
  induction n with
  | zero => intro x _ h; omega
  | succ n ih =>
    intro x hok hl
    have hr := byte_run x hok
    unfold bytesU
    cases hb : byteO x.s with
    | none =>
      rw [hb] at hr
      simp only at hr ⊢
      rw [bytesS_off _ hr]
      exact hr
    | some bt =>
      obtain ⟨b, t⟩ := bt
      have hlt := byteO_rest hb
      rw [hb] at hr
      simp only at hr ⊢
      rw [hr]
      by_cases he : ends t = true
      · rw [if_pos he]
        unfold bytesS RS.more
        simp [he]
      · rw [if_neg he]
        have h1 : bytesS (n + 1) ⟨t, true, x.c ++ [b], x.t, x.f⟩ = bytesS n (RS.byte ⟨t, true, x.c ++ [b], x.t, x.f⟩) := by
          show (if RS.more _ = true then _ else _) = _
          rw [if_pos]
          unfold RS.more
          simp [he]
        rw [h1]
        have h2 := ih ⟨t, true, x.c ++ [b], x.t, x.f⟩ rfl (by show t.length < n; omega)
        have h2 : match bytesU n t with | none => (bytesS n (RS.byte ⟨t, true, x.c ++ [b], x.t, x.f⟩)).ok = false | some (c, t_1) => bytesS n (RS.byte ⟨t, true, x.c ++ [b], x.t, x.f⟩) = ⟨t_1, true, x.c ++ [b] ++ c, x.t, x.f⟩ := h2
        cases hu : bytesU n t with
        | none => rw [hu] at h2; exact h2
        | some y =>
          obtain ⟨c, u⟩ := y
          rw [hu] at h2
          simp only at h2 ⊢
          rw [h2, List.append_assoc]
          rfl
theorem runes_run : ∀ (n m : Nat) (x : RS), x.ok = true → x.s.length < n → x.s.length < m → match runesU n x.s with | none => (runesS m x.rune).ok = false | some (l, t) => runesS m x.rune = ⟨t, true, x.c, x.t ++ l, x.f⟩ := by
  intro n
  induction n with
  | zero => intro m x _ h; omega
  | succ n ih =>
    intro m x hok hl hm
    have hr := rune_run x hok
    unfold runesU
    cases hb : runeO x.s with
    | none =>
      rw [hb] at hr
      simp only at hr ⊢
      rw [runesS_off _ hr]
      exact hr
    | some bt =>
      obtain ⟨r, t⟩ := bt
      have hlt := runeO_rest hb
      rw [hb] at hr
      simp only at hr ⊢
      rw [hr]
      obtain ⟨m, rfl⟩ : ∃ k, m = k + 1 := ⟨m - 1, by omega⟩
      cases hw : wordO [43] t with
      | none =>
        simp only
        unfold runesS
        rw [if_neg]
        rintro ⟨_, h2⟩
        unfold wordO at hw
        rw [if_pos h2] at hw
        cases hw
      | some u =>
        have hu := (wordO_head hw).2
        have hpre : [43].isPrefixOf t = true := by
          unfold wordO at hw
          split at hw
          · assumption
          · cases hw
        have hue : t.drop 1 = u := by
          unfold wordO at hw
          rw [if_pos hpre] at hw
          injection hw
        have h1 : runesS (m + 1) ⟨t, true, x.c, x.t ++ [r], x.f⟩ = runesS m (RS.rune ⟨u, true, x.c, x.t ++ [r], x.f⟩) := by
          show (if _ ∧ _ then _ else _) = _
          rw [if_pos ⟨rfl, hpre⟩]
          unfold RS.word
          simp only [hpre, if_pos]
          rw [← hue]
          rfl
        simp only
        rw [h1]
        have h2 := ih m ⟨u, true, x.c, x.t ++ [r], x.f⟩ rfl (by show u.length < n; omega) (by show u.length < m; omega)
        have h2 : match runesU n u with | none => (runesS m (RS.rune ⟨u, true, x.c, x.t ++ [r], x.f⟩)).ok = false | some (l, v) => runesS m (RS.rune ⟨u, true, x.c, x.t ++ [r], x.f⟩) = ⟨v, true, x.c, x.t ++ [r] ++ l, x.f⟩ := h2
        cases hv : runesU n u with
        | none => rw [hv] at h2; exact h2
        | some y =>
          obtain ⟨l, v⟩ := y
          rw [hv] at h2
          simp only at h2 ⊢
          rw [h2, List.append_assoc]
          rfl
theorem runes_fuel : ∀ (n m : Nat) (s : List UInt8), s.length < n → s.length < m → runesU n s = runesU m s := by
  intro n
  induction n with
  | zero => intro m s h; omega
  | succ n ih =>
    intro m s h1 h2
    obtain ⟨m, rfl⟩ : ∃ k, m = k + 1 := ⟨m - 1, by omega⟩
    unfold runesU
    cases hb : runeO s with
    | none => rfl
    | some x =>
      obtain ⟨r, t⟩ := x
      have hlt := runeO_rest hb
      simp only
      cases hw : wordO [43] t with
      | none => rfl
      | some u =>
        have := (wordO_head hw).2
        simp only
        rw [ih m u (by omega) (by omega)]
theorem bytes_fuel : ∀ (n m : Nat) (s : List UInt8), s.length < n → s.length < m → bytesU n s = bytesU m s := by
  intro n
  induction n with
  | zero => intro m s h; omega
  | succ n ih =>
    intro m s h1 h2
    obtain ⟨m, rfl⟩ : ∃ k, m = k + 1 := ⟨m - 1, by omega⟩
    unfold bytesU
    cases hb : byteO s with
    | none => rfl
    | some x =>
      obtain ⟨r, t⟩ := x
      have hlt := byteO_rest hb
      simp only
      rw [ih m t (by omega) (by omega)]
theorem bytesU_le : ∀ (n : Nat) (s : List UInt8) {c t : List UInt8}, bytesU n s = some (c, t) → t.length < s.length := by
  intro n
  induction n with
  | zero => intro s c t h; cases h
  | succ n ih =>
    intro s c t h
    unfold bytesU at h
    cases hb : byteO s with
    | none => rw [hb] at h; cases h
    | some x =>
      obtain ⟨b, u⟩ := x
      have hlt := byteO_rest hb
      rw [hb] at h
      simp only at h
      split at h
      · injection h with h; injection h with _ h; rw [← h]; exact hlt
      · cases hu : bytesU n u with
        | none => rw [hu] at h; cases h
        | some y =>
          obtain ⟨c2, u2⟩ := y
          rw [hu] at h
          simp only at h
          injection h with h; injection h with _ h
          have := ih u hu
          rw [← h]; omega
theorem oneOf_bad {y : RS} (b : Bool) (h : y.ok = false) : oneOf y b = .err 10 := by
  unfold oneOf
  rw [if_neg (fun h2 => by rw [h] at h2; cases h2.2), if_pos (.inl h)]
theorem unicode_one (s : List UInt8) (hs : s ≠ []) : oneOf (unicodeS ⟨s, true, [], [], 0⟩).1 (unicodeS ⟨s, true, [], [], 0⟩).2 = oneU s := by
  unfold oneU
  rw [if_neg hs]
  unfold outU unicodeO
  have hn := needs_run ⟨s, true, [], [], 0⟩ [48, 120] rfl
  have hn : match wordO [48, 120] s with | none => (RS.needs ⟨s, true, [], [], 0⟩ [48, 120]).ok = false | some t => RS.needs ⟨s, true, [], [], 0⟩ [48, 120] = ⟨t, true, [], [], 0⟩ := hn
  unfold unicodeS
  simp only
  generalize RS.needs ⟨s, true, [], [], 0⟩ [48, 120] = x1 at *
  cases hw : wordO [48, 120] s with
  | none =>
    rw [hw] at hn
    simp only at hn ⊢
    rw [bytesS_off _ (RS.byte_ok hn)]
    split
    · exact oneOf_bad _ (RS.byte_ok hn)
    · have h1 := RS.rune_ok (RS.needs_ok [48, 120] (RS.gap_ok (RS.byte_ok hn)))
      rw [runesS_off _ h1]
      exact oneOf_bad _ h1
  | some s1 =>
    have hl1 := (wordO_head hw).2
    rw [hw] at hn
    simp only at hn ⊢
    subst hn
    have hb := bytes_run (s.length + 1) ⟨s1, true, [], [], 0⟩ rfl (by show s1.length < _; omega)
    have hb : match bytesU (s.length + 1) s1 with | none => (bytesS (s.length + 1) (RS.byte ⟨s1, true, [], [], 0⟩)).ok = false | some (c, t) => bytesS (s.length + 1) (RS.byte ⟨s1, true, [], [], 0⟩) = ⟨t, true, [] ++ c, [], 0⟩ := hb
    rw [bytes_fuel (s.length + 1) (s1.length + 1) s1 (by omega) (by omega)] at hb
    generalize bytesS (s.length + 1) (RS.byte ⟨s1, true, [], [], 0⟩) = x2 at *
    cases hbu : bytesU (s1.length + 1) s1 with
    | none =>
      rw [hbu] at hb
      simp only at hb ⊢
      split
      · exact oneOf_bad _ hb
      · have h1 := RS.rune_ok (RS.needs_ok [48, 120] (RS.gap_ok hb))
        rw [runesS_off _ h1]
        exact oneOf_bad _ h1
    | some y =>
      obtain ⟨c, t⟩ := y
      have hl2 := bytesU_le _ _ hbu
      rw [hbu] at hb
      simp only [List.nil_append] at hb ⊢
      subst hb
      simp only
      by_cases ht : t = []
      · rw [if_pos ht, if_pos ht]
        unfold oneOf
        rw [if_pos ⟨rfl, rfl⟩]
      · rw [if_neg ht, if_neg ht]
        have hg := gap_run ⟨t, true, c, [], 0⟩ rfl
        have hg : match gapO t with | none => (RS.gap ⟨t, true, c, [], 0⟩).ok = false | some u => RS.gap ⟨t, true, c, [], 0⟩ = ⟨u, true, c, [], 0⟩ := hg
        generalize RS.gap ⟨t, true, c, [], 0⟩ = x3 at *
        cases hgo : gapO t with
        | none =>
          rw [hgo] at hg
          simp only at hg ⊢
          have h1 := RS.rune_ok (RS.needs_ok [48, 120] hg)
          rw [runesS_off _ h1]
          exact oneOf_bad _ h1
        | some u =>
          have hl3 : u.length < t.length := by
            unfold gapO at hgo
            split at hgo
            · injection hgo with hgo; rw [← hgo]; assumption
            · cases hgo
          rw [hgo] at hg
          simp only at hg ⊢
          subst hg
          have hn2 := needs_run ⟨u, true, c, [], 0⟩ [48, 120] rfl
          have hn2 : match wordO [48, 120] u with | none => (RS.needs ⟨u, true, c, [], 0⟩ [48, 120]).ok = false | some v => RS.needs ⟨u, true, c, [], 0⟩ [48, 120] = ⟨v, true, c, [], 0⟩ := hn2
          generalize RS.needs ⟨u, true, c, [], 0⟩ [48, 120] = x4 at *
          cases hwo : wordO [48, 120] u with
          | none =>
            rw [hwo] at hn2
            simp only at hn2 ⊢
            have h1 := RS.rune_ok hn2
            rw [runesS_off _ h1]
            exact oneOf_bad _ h1
          | some v =>
            have hl4 := (wordO_head hwo).2
            rw [hwo] at hn2
            simp only at hn2 ⊢
            subst hn2
            have hr := runes_run (v.length + 1) (s.length + 1) ⟨v, true, c, [], 0⟩ rfl (Nat.lt_succ_self _) (by show v.length < _; omega)
            have hr : match runesU (v.length + 1) v with | none => (runesS (s.length + 1) (RS.rune ⟨v, true, c, [], 0⟩)).ok = false | some (l, t) => runesS (s.length + 1) (RS.rune ⟨v, true, c, [], 0⟩) = ⟨t, true, c, [] ++ l, 0⟩ := hr
            generalize runesS (s.length + 1) (RS.rune ⟨v, true, c, [], 0⟩) = x5 at *
            cases hru : runesU (v.length + 1) v with
            | none =>
              rw [hru] at hr
              exact oneOf_bad _ hr
            | some z =>
              obtain ⟨l, rest⟩ := z
              rw [hru] at hr
              simp only [List.nil_append] at hr ⊢
              subst hr
              unfold oneOf
              simp only
              by_cases h0 : rest = []
              · simp [h0]
              · simp [h0]
theorem pre1 (c : UInt8) (t : List UInt8) : [c].isPrefixOf t = true ↔ t.head? = some c := by
  cases t with
  | nil => simp
  | cons d u =>
    rw [List.isPrefixOf_cons_cons, List.isPrefixOf_nil_left, Bool.and_true, beq_iff_eq, List.head?_cons]
    exact ⟨fun h => by rw [h], fun h => by injection h with h; exact h.symm⟩
def charO (s : List UInt8) : Option (Int × List UInt8) := match wordO [60, 85] s with
  | none => none
  | some s1 => match runeO s1 with
    | none => none
    | some (r, s2) => match wordO [62] s2 with
      | none => none
      | some t => some (r, t)
def codeO (s : List UInt8) : Option (UInt8 × List UInt8) := match wordO [92, 120] s with
  | none => none
  | some s1 => byteO s1
theorem charsP_eq (n : Nat) (s : List UInt8) : charsP (n + 1) s = match charO s with | none => none | some (r, t) => if t.head? = some 60 then (match charsP n t with | none => none | some (l, u) => some (r :: l, u)) else some ([r], t) := by
  show (match wordO [60, 85] s with | none => none | some s1 => _) = _
  unfold charO
  cases wordO [60, 85] s with
  | none => rfl
  | some s1 =>
    simp only
    cases runeO s1 with
    | none => rfl
    | some x =>
      obtain ⟨r, s2⟩ := x
      simp only
      cases wordO [62] s2 with
      | none => rfl
      | some t => rfl
theorem codesP_eq (n : Nat) (s : List UInt8) : codesP (n + 1) s = match codeO s with | none => none | some (r, t) => if t.head? = some 92 then (match codesP n t with | none => none | some (l, u) => some (r :: l, u)) else some ([r], t) := by
  show (match wordO [92, 120] s with | none => none | some s1 => _) = _
  unfold codeO
  cases wordO [92, 120] s with
  | none => rfl
  | some s1 =>
    simp only
    cases byteO s1 with
    | none => rfl
    | some x => rfl
theorem charO_le {s : List UInt8} {r : Int} {t : List UInt8} (h : charO s = some (r, t)) : t.length < s.length := by
  unfold charO at h
  cases hw : wordO [60, 85] s with
  | none => rw [hw] at h; cases h
  | some s1 =>
    have h1 := (wordO_head hw).2
    rw [hw] at h
    simp only at h
    cases hr : runeO s1 with
    | none => rw [hr] at h; cases h
    | some x =>
      obtain ⟨r2, s2⟩ := x
      have h2 := runeO_rest hr
      rw [hr] at h
      simp only at h
      cases hv : wordO [62] s2 with
      | none => rw [hv] at h; cases h
      | some u =>
        have h3 := (wordO_head hv).2
        rw [hv] at h
        simp only at h
        injection h with h; injection h with _ h
        rw [← h]; omega
theorem codeO_le {s : List UInt8} {r : UInt8} {t : List UInt8} (h : codeO s = some (r, t)) : t.length < s.length := by
  unfold codeO at h
  cases hw : wordO [92, 120] s with
  | none => rw [hw] at h; cases h
  | some s1 =>
    have h1 := (wordO_head hw).2
    rw [hw] at h
    have := byteO_rest h
    omega
theorem char_run (x : RS) (h : x.ok = true) : match charO x.s with | none => (charS x).ok = false | some (r, t) => charS x = ⟨t, true, x.c, x.t ++ [r], x.f⟩ := by
  unfold charO charS
  have h1 := needs_run x [60, 85] h
  cases hw : wordO [60, 85] x.s with
  | none =>
    rw [hw] at h1
    exact RS.needs_ok _ (RS.rune_ok h1)
  | some s1 =>
    rw [hw] at h1
    simp only at h1 ⊢
    rw [h1]
    have h2 := rune_run ⟨s1, true, x.c, x.t, x.f⟩ rfl
    have h2 : match runeO s1 with | none => (RS.rune ⟨s1, true, x.c, x.t, x.f⟩).ok = false | some (r, t) => RS.rune ⟨s1, true, x.c, x.t, x.f⟩ = ⟨t, true, x.c, x.t ++ [r], x.f⟩ := h2
    cases hr : runeO s1 with
    | none =>
      rw [hr] at h2
      exact RS.needs_ok _ h2
    | some y =>
      obtain ⟨r, s2⟩ := y
      rw [hr] at h2
      simp only at h2 ⊢
      rw [h2]
      have h3 := needs_run ⟨s2, true, x.c, x.t ++ [r], x.f⟩ [62] rfl
      have h3 : match wordO [62] s2 with | none => (RS.needs ⟨s2, true, x.c, x.t ++ [r], x.f⟩ [62]).ok = false | some t => RS.needs ⟨s2, true, x.c, x.t ++ [r], x.f⟩ [62] = ⟨t, true, x.c, x.t ++ [r], x.f⟩ := h3
      cases hv : wordO [62] s2 with
      | none => rw [hv] at h3; exact h3
      | some t => rw [hv] at h3; exact h3
theorem code_run (x : RS) (h : x.ok = true) : match codeO x.s with | none => (codeS x).ok = false | some (r, t) => codeS x = ⟨t, true, x.c ++ [r], x.t, x.f⟩ := by
  unfold codeO codeS
  have h1 := needs_run x [92, 120] h
  cases hw : wordO [92, 120] x.s with
  | none =>
    rw [hw] at h1
    exact RS.byte_ok h1
  | some s1 =>
    rw [hw] at h1
    simp only at h1 ⊢
    rw [h1]
    exact byte_run ⟨s1, true, x.c, x.t, x.f⟩ rfl
theorem charS_ok {x : RS} (h : x.ok = false) : (charS x).ok = false := RS.needs_ok _ (RS.rune_ok (RS.needs_ok _ h))
theorem codeS_ok {x : RS} (h : x.ok = false) : (codeS x).ok = false := RS.byte_ok (RS.needs_ok _ h)
theorem chars_run : ∀ (n m : Nat) (x : RS), x.ok = true → x.s.length < n → x.s.length < m → match charsP n x.s with | none => (charsS m (charS x)).ok = false | some (l, t) => charsS m (charS x) = ⟨t, true, x.c, x.t ++ l, x.f⟩ := by
  intro n
  induction n with
  | zero => intro m x _ h; omega
  | succ n ih =>
    intro m x hok hl hm
    have hr := char_run x hok
    rw [charsP_eq]
    cases hb : charO x.s with
    | none =>
      rw [hb] at hr
      simp only at hr ⊢
      rw [charsS_off _ hr]
      exact hr
    | some bt =>
      obtain ⟨r, t⟩ := bt
      have hlt := charO_le hb
      rw [hb] at hr
      simp only at hr ⊢
      rw [hr]
      obtain ⟨m, rfl⟩ : ∃ k, m = k + 1 := ⟨m - 1, by omega⟩
      by_cases hh : t.head? = some 60
      · rw [if_pos hh]
        have h1 : charsS (m + 1) ⟨t, true, x.c, x.t ++ [r], x.f⟩ = charsS m (charS ⟨t, true, x.c, x.t ++ [r], x.f⟩) := by
          show (if _ ∧ _ then _ else _) = _
          rw [if_pos ⟨rfl, (pre1 60 t).2 hh⟩]
        rw [h1]
        have h2 := ih m ⟨t, true, x.c, x.t ++ [r], x.f⟩ rfl (by show t.length < n; omega) (by show t.length < m; omega)
        have h2 : match charsP n t with | none => (charsS m (charS ⟨t, true, x.c, x.t ++ [r], x.f⟩)).ok = false | some (l, v) => charsS m (charS ⟨t, true, x.c, x.t ++ [r], x.f⟩) = ⟨v, true, x.c, x.t ++ [r] ++ l, x.f⟩ := h2
        cases hv : charsP n t with
        | none => rw [hv] at h2; exact h2
        | some y =>
          obtain ⟨l, v⟩ := y
          rw [hv] at h2
          simp only at h2 ⊢
          rw [h2, List.append_assoc]
          rfl
      · rw [if_neg hh]
        simp only
        unfold charsS
        rw [if_neg]
        rintro ⟨_, h2⟩
        exact hh ((pre1 60 t).1 h2)
theorem codes_run : ∀ (n m : Nat) (x : RS), x.ok = true → x.s.length < n → x.s.length < m → match codesP n x.s with | none => (codesS m (codeS x)).ok = false | some (l, t) => codesS m (codeS x) = ⟨t, true, x.c ++ l, x.t, x.f⟩ := by
  intro n
  induction n with
  | zero => intro m x _ h; omega
  | succ n ih =>
    intro m x hok hl hm
    have hr := code_run x hok
    rw [codesP_eq]
    cases hb : codeO x.s with
    | none =>
      rw [hb] at hr
      simp only at hr ⊢
      rw [codesS_off _ hr]
      exact hr
    | some bt =>
      obtain ⟨r, t⟩ := bt
      have hlt := codeO_le hb
      rw [hb] at hr
      simp only at hr ⊢
      rw [hr]
      obtain ⟨m, rfl⟩ : ∃ k, m = k + 1 := ⟨m - 1, by omega⟩
      by_cases hh : t.head? = some 92
      · rw [if_pos hh]
        have h1 : codesS (m + 1) ⟨t, true, x.c ++ [r], x.t, x.f⟩ = codesS m (codeS ⟨t, true, x.c ++ [r], x.t, x.f⟩) := by
          show (if _ ∧ _ then _ else _) = _
          rw [if_pos ⟨rfl, (pre1 92 t).2 hh⟩]
        rw [h1]
        have h2 := ih m ⟨t, true, x.c ++ [r], x.t, x.f⟩ rfl (by show t.length < n; omega) (by show t.length < m; omega)
        have h2 : match codesP n t with | none => (codesS m (codeS ⟨t, true, x.c ++ [r], x.t, x.f⟩)).ok = false | some (l, v) => codesS m (codeS ⟨t, true, x.c ++ [r], x.t, x.f⟩) = ⟨v, true, x.c ++ [r] ++ l, x.t, x.f⟩ := h2
        cases hv : codesP n t with
        | none => rw [hv] at h2; exact h2
        | some y =>
          obtain ⟨l, v⟩ := y
          rw [hv] at h2
          simp only at h2 ⊢
          rw [h2, List.append_assoc]
          rfl
      · rw [if_neg hh]
        simp only
        unfold codesS
        rw [if_neg]
        rintro ⟨_, h2⟩
        exact hh ((pre1 92 t).1 h2)
theorem charsP_le : ∀ (n : Nat) (s : List UInt8) {l : List Int} {t : List UInt8}, charsP n s = some (l, t) → t.length < s.length := by
  intro n
  induction n with
  | zero => intro s l t h; cases h
  | succ n ih =>
    intro s l t h
    rw [charsP_eq] at h
    cases hb : charO s with
    | none => rw [hb] at h; cases h
    | some x =>
      obtain ⟨b, u⟩ := x
      have hlt := charO_le hb
      rw [hb] at h
      simp only at h
      split at h
      · cases hu : charsP n u with
        | none => rw [hu] at h; cases h
        | some y =>
          obtain ⟨c2, u2⟩ := y
          rw [hu] at h
          simp only at h
          injection h with h; injection h with _ h
          have := ih u hu
          rw [← h]; omega
      · injection h with h; injection h with _ h; rw [← h]; exact hlt
theorem hex_of_digit (c : UInt8) (h : 48 ≤ c ∧ c ≤ 57) : isHex c = true := by
  unfold isHex hexV
  rw [if_pos h]
  rfl
theorem flag_run (v : List UInt8) (c : List UInt8) (l : List Int) : match flagO v with
    | none => (RS.flag ⟨v, true, c, l, 0⟩).ok = false ∨ (RS.flag ⟨v, true, c, l, 0⟩).s ≠ []
    | some f => RS.flag ⟨v, true, c, l, 0⟩ = ⟨[], true, c, l, f⟩ := by
  cases v with
  | nil => left; rfl
  | cons d u =>
    have h0 : digs 0 u = [] := by cases u <;> rfl
    have hd : digs 1 (d :: u) = if isHex d = true then [d] else [] := by
      unfold digs
      rw [h0]
    unfold RS.flag flagO
    simp only [hd]
    by_cases h48 : 48 ≤ d ∧ d ≤ 57
    · rw [if_pos (hex_of_digit d h48)]
      cases u with
      | nil => simp only [if_pos h48, flagN, flagK]; simp [h48]
      | cons e u => right; simp
    · have hk : flagK (if isHex d = true then [d] else []) = false := by
        by_cases hx : isHex d = true
        · rw [if_pos hx]; exact decide_eq_false h48
        · rw [if_neg hx]; rfl
      cases u with
      | nil => simp only [if_neg h48]; left; rw [hk]; rfl
      | cons e u => left; rw [hk]; rfl
theorem ucm_one (s : List UInt8) (hs : s ≠ []) : oneOf (ucmS ⟨s, true, [], [], 0⟩) true = oneC s := by
  unfold oneC
  rw [if_neg hs]
  unfold ucmO ucmS
  simp only
  have hc := chars_run (s.length + 1) (s.length + 1) ⟨s, true, [], [], 0⟩ rfl (by show s.length < _; omega) (by show s.length < _; omega)
  have hc : match charsP (s.length + 1) s with | none => (charsS (s.length + 1) (charS ⟨s, true, [], [], 0⟩)).ok = false | some (l, t) => charsS (s.length + 1) (charS ⟨s, true, [], [], 0⟩) = ⟨t, true, [], [] ++ l, 0⟩ := hc
  generalize charsS (s.length + 1) (charS ⟨s, true, [], [], 0⟩) = x1 at *
  cases hcp : charsP (s.length + 1) s with
  | none =>
    rw [hcp] at hc
    simp only at hc ⊢
    have h1 := codeS_ok (RS.gap_ok hc)
    rw [codesS_off _ h1]
    exact oneOf_bad _ (RS.flag_ok (RS.needs_ok _ (RS.gap_ok h1)))
  | some x =>
    obtain ⟨l, t⟩ := x
    have hl1 := charsP_le _ _ hcp
    rw [hcp] at hc
    simp only [List.nil_append] at hc ⊢
    subst hc
    have hg := gap_run ⟨t, true, [], l, 0⟩ rfl
    have hg : match gapO t with | none => (RS.gap ⟨t, true, [], l, 0⟩).ok = false | some u => RS.gap ⟨t, true, [], l, 0⟩ = ⟨u, true, [], l, 0⟩ := hg
    generalize RS.gap ⟨t, true, [], l, 0⟩ = x2 at *
    cases hgo : gapO t with
    | none =>
      rw [hgo] at hg
      simp only at hg ⊢
      have h1 := codeS_ok hg
      rw [codesS_off _ h1]
      exact oneOf_bad _ (RS.flag_ok (RS.needs_ok _ (RS.gap_ok h1)))
    | some u =>
      have hl2 : u.length < t.length := by
        unfold gapO at hgo
        split at hgo
        · injection hgo with hgo; rw [← hgo]; assumption
        · cases hgo
      rw [hgo] at hg
      simp only at hg ⊢
      subst hg
      have hd := codes_run (u.length + 1) (s.length + 1) ⟨u, true, [], l, 0⟩ rfl (by show u.length < _; omega) (by show u.length < _; omega)
      have hd : match codesP (u.length + 1) u with | none => (codesS (s.length + 1) (codeS ⟨u, true, [], l, 0⟩)).ok = false | some (c, v) => codesS (s.length + 1) (codeS ⟨u, true, [], l, 0⟩) = ⟨v, true, [] ++ c, l, 0⟩ := hd
      generalize codesS (s.length + 1) (codeS ⟨u, true, [], l, 0⟩) = x3 at *
      cases hcp2 : codesP (u.length + 1) u with
      | none =>
        rw [hcp2] at hd
        simp only at hd ⊢
        exact oneOf_bad _ (RS.flag_ok (RS.needs_ok _ (RS.gap_ok hd)))
      | some y =>
        obtain ⟨c, v⟩ := y
        rw [hcp2] at hd
        simp only [List.nil_append] at hd ⊢
        subst hd
        have hg := gap_run ⟨v, true, c, l, 0⟩ rfl
        have hg : match gapO v with | none => (RS.gap ⟨v, true, c, l, 0⟩).ok = false | some u => RS.gap ⟨v, true, c, l, 0⟩ = ⟨u, true, c, l, 0⟩ := hg
        generalize RS.gap ⟨v, true, c, l, 0⟩ = x4 at *
        cases hgo : gapO v with
        | none =>
          rw [hgo] at hg
          exact oneOf_bad _ (RS.flag_ok (RS.needs_ok _ hg))
        | some z =>
          rw [hgo] at hg
          simp only at hg ⊢
          subst hg
          have hn := needs_run ⟨z, true, c, l, 0⟩ [124] rfl
          have hn : match wordO [124] z with | none => (RS.needs ⟨z, true, c, l, 0⟩ [124]).ok = false | some u => RS.needs ⟨z, true, c, l, 0⟩ [124] = ⟨u, true, c, l, 0⟩ := hn
          generalize RS.needs ⟨z, true, c, l, 0⟩ [124] = x5 at *
          cases hw : wordO [124] z with
          | none =>
            rw [hw] at hn
            exact oneOf_bad _ (RS.flag_ok hn)
          | some y =>
            rw [hw] at hn
            simp only at hn ⊢
            subst hn
            have hf := flag_run y c l
            generalize RS.flag ⟨y, true, c, l, 0⟩ = x6 at *
            cases hfo : flagO y with
            | none =>
              rw [hfo] at hf
              simp only at hf ⊢
              unfold oneOf
              rw [if_neg (fun h => by cases h.1), if_pos hf]
            | some f =>
              rw [hfo] at hf
              simp only at hf ⊢
              subst hf
              unfold oneOf
              simp
end Go.Proofs.YtkfjmcidcnpijaaGreatDoor.Mf
/- Plain: the program's way to tell a hex digit; what lies in memory where a line is read. -/
namespace Go.Proofs.YtkfjmcidcnpijaaGreatDoor.Mf

def hexU : List UInt8 := [48, 49, 50, 51, 52, 53, 54, 55, 56, 57, 65, 66, 67, 68, 69, 70]
def hexL : List UInt8 := [48, 49, 50, 51, 52, 53, 54, 55, 56, 57, 97, 98, 99, 100, 101, 102]
theorem lower_hex : Lib.toLowerA hexU = hexL := by decide
theorem hex_ascii : ∀ (j : Nat) (b : UInt8), hexU[j]? = some b → b.toNat < 128 := fun _ b hb => of_decide_eq_true (List.all_eq_true.1 (by decide : hexU.all (fun b => decide (b.toNat < 128)) = true) b (List.mem_of_getElem? hb))
def idxU (c : UInt8) : Int := Lib.indexByte hexU c
def idxL (c : UInt8) : Int := Lib.indexByte hexL c
def idxOk (c : UInt8) : Bool := match hexV c with
  | some v => (idxU c == (v : Int)) || (idxU c == -1 && idxL c == (v : Int))
  | none => idxU c == -1 && idxL c == -1
set_option maxRecDepth 100000 in
theorem idx_fin : ∀ n : Fin 256, idxOk (UInt8.ofNat n.val) = true := by decide
theorem idx_some (c : UInt8) {v : Nat} (h : hexV c = some v) : (idxU c = (v : Int)) ∨ (idxU c = -1 ∧ idxL c = (v : Int)) := by
  have h1 := idx_fin ⟨c.toNat, c.toNat_lt⟩
  have e : UInt8.ofNat c.toNat = c := by simp
  simp only [e] at h1
  unfold idxOk at h1
  rw [h] at h1
  simpa using h1
theorem idx_none (c : UInt8) (h : hexV c = none) : idxU c = -1 ∧ idxL c = -1 := by
  have h1 := idx_fin ⟨c.toNat, c.toNat_lt⟩
  have e : UInt8.ofNat c.toNat = c := by simp
  simp only [e] at h1
  unfold idxOk at h1
  rw [h] at h1
  simpa using h1
/-- What hex answers. -/
def hexP (s : List UInt8) : Int × Bool := if s.all isHex = true then ((numOf s : Nat), !s.isEmpty) else (0, false)
end Go.Proofs.YtkfjmcidcnpijaaGreatDoor.Mf
/- Plain: a text of characters is whole, and its characters are these. -/
namespace Go.Proofs.YtkfjmcidcnpijaaGreatDoor.Mf
open Go.Lib Pl

def okI (r : Int) : Bool := decide (0 ≤ r ∧ (r < 55296 ∨ 57343 < r) ∧ r ≤ 1114111)
theorem u8n (n : Nat) (h : n < 256) : (n.toUInt8).toNat = n := by
  show (UInt8.ofNat n).toNat = n
  rw [UInt8.toNat_ofNat']; omega
theorem dec_enc (r : Nat) (h : okI (r : Int) = true) (t : List UInt8) : decodeL (encodeRune (r : Int) ++ t) = (r, (encodeRune (r : Int)).length) ∧ encodeRune (r : Int) ≠ [] := by
  unfold okI at h
  have h := of_decide_eq_true h
  have hv : ((r : Int) < 55296 ∨ 57343 < (r : Int)) ∧ r ≤ 1114111 := ⟨h.2.1, by omega⟩
  clear h
  rw [decodeL_N]
  unfold encodeRune
  by_cases h1 : r ≤ 127
  · rw [encodeRuneZ_one (by omega) (by omega)]
    refine ⟨?_, by simp⟩
    simp only [List.map_cons, List.map_nil, List.cons_append, List.nil_append, List.getD_cons_zero, Int.toNat_natCast, List.length_cons, List.length_nil]
    rw [u8n r (by omega)]
    unfold decodeN
    rw [if_pos (by omega)]
  by_cases h2 : r ≤ 2047
  · rw [encodeRuneZ_two (by omega) (by omega)]
    refine ⟨?_, by simp⟩
    have e1 : (192 + (r : Int) / 64).toNat = 192 + r / 64 := by omega
    have e2 : (128 + (r : Int) % 64).toNat = 128 + r % 64 := by omega
    simp only [List.map_cons, List.map_nil, List.cons_append, List.nil_append, List.getD_cons_zero, List.getD_cons_succ, List.length_cons, List.length_nil, e1, e2]
    rw [u8n _ (by omega), u8n _ (by omega)]
    unfold decodeN
    have hx : (192 + r / 64) % 32 * 64 + (128 + r % 64) % 64 = r := by omega
    rw [if_neg (by omega), if_pos (by omega), hx, if_pos (by omega)]
  by_cases h3 : r ≤ 65535
  · rw [encodeRuneZ_three (by omega)]
    refine ⟨?_, by simp⟩
    have e1 : (224 + (r : Int) / 4096).toNat = 224 + r / 4096 := by omega
    have e2 : (128 + (r : Int) / 64 % 64).toNat = 128 + r / 64 % 64 := by omega
    have e3 : (128 + (r : Int) % 64).toNat = 128 + r % 64 := by omega
    simp only [List.map_cons, List.map_nil, List.cons_append, List.nil_append, List.getD_cons_zero, List.getD_cons_succ, List.length_cons, List.length_nil, e1, e2, e3]
    rw [u8n _ (by omega), u8n _ (by omega), u8n _ (by omega)]
    unfold decodeN
    have hx : (224 + r / 4096) % 16 * 4096 + (128 + r / 64 % 64) % 64 * 64 + (128 + r % 64) % 64 = r := by omega
    rw [if_neg (by omega), if_neg (by omega), if_pos (by omega), hx, if_pos (by omega)]
  · rw [encodeRuneZ_four (by omega) (by omega)]
    refine ⟨?_, by simp⟩
    have e1 : (240 + (r : Int) / 262144).toNat = 240 + r / 262144 := by omega
    have e2 : (128 + (r : Int) / 4096 % 64).toNat = 128 + r / 4096 % 64 := by omega
    have e3 : (128 + (r : Int) / 64 % 64).toNat = 128 + r / 64 % 64 := by omega
    have e4 : (128 + (r : Int) % 64).toNat = 128 + r % 64 := by omega
    simp only [List.map_cons, List.map_nil, List.cons_append, List.nil_append, List.getD_cons_zero, List.getD_cons_succ, List.length_cons, List.length_nil, e1, e2, e3, e4]
    rw [u8n _ (by omega), u8n _ (by omega), u8n _ (by omega), u8n _ (by omega)]
    unfold decodeN
    have hx : (240 + r / 262144) % 8 * 262144 + (128 + r / 4096 % 64) % 64 * 4096 + (128 + r / 64 % 64) % 64 * 64 + (128 + r % 64) % 64 = r := by omega
    rw [if_neg (by omega), if_neg (by omega), if_neg (by omega), if_pos (by omega), hx, if_pos (by omega)]
theorem text_whole : ∀ (t : List Int), t.all okI = true → runesL (textB t) = t ∧ validD (textB t) = true := by
  intro t
  induction t with
  | nil => intro _; exact ⟨rfl, rfl⟩
  | cons r t ih =>
    intro h
    rw [List.all_cons, Bool.and_eq_true] at h
    obtain ⟨i1, i2⟩ := ih h.2
    obtain ⟨n, rfl⟩ : ∃ n : Nat, r = (n : Int) := ⟨r.toNat, by have h := h.1; unfold okI at h; have := of_decide_eq_true h; omega⟩
    obtain ⟨hd, hn⟩ := dec_enc n h.1 (textB t)
    have he : textB ((n : Int) :: t) = encodeRune (n : Int) ++ textB t := rfl
    have hne : textB ((n : Int) :: t) ≠ [] := by rw [he]; simp [hn]
    rw [runesL_cons _ hne, valid_cons _ hne, he, hd]
    have hdr : (encodeRune (n : Int) ++ textB t).drop (encodeRune (n : Int)).length = textB t := List.drop_left
    simp only [hdr, i1, i2]
    refine ⟨trivial, ?_⟩
    rw [if_neg]
    unfold badU
    rw [hd]
    rintro ⟨a, b⟩
    have a : n = 65533 := a
    subst a
    revert b
    decide
theorem okI_le (t : List Int) (h : t.all okI = true) : ∀ r ∈ t, 0 ≤ r ∧ r ≤ 1114111 := by
  intro r hr
  have h1 := List.all_eq_true.1 h r hr
  unfold okI at h1
  have := of_decide_eq_true h1
  omega
theorem textB_len : ∀ (t : List Int), (textB t).length ≤ 4 * t.length := by
  intro t
  induction t with
  | nil => exact Nat.le_refl _
  | cons r t ih =>
    have he : textB (r :: t) = encodeRune r ++ textB t := rfl
    rw [he, List.length_append, List.length_cons]
    have : (encodeRune r).length ≤ 4 := by
      unfold encodeRune encodeRuneZ
      rw [List.length_map]
      repeat' split
      all_goals simp
    omega
end Go.Proofs.YtkfjmcidcnpijaaGreatDoor.Mf
