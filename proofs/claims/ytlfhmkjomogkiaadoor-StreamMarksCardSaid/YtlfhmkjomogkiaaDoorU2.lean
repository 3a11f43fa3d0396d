/- Plain: UTF-8: the reference's way to the first character, and where bytes may be cut. -/
import Derived.Test.YtlfhmkjomogkiaaDoorU1
namespace Go.Proofs.YtlfhmkjomogkiaaDoor
namespace Pl

/-- The reference's loop over the bytes behind the first one. -/
def leastGo : List Nat → Nat → Int → Int → Option (Int × Int)
  | _, 0, n, h => some (n, h)
  | [], k + 1, n, h => leastGo [] k (n * 64) (h * 64 + 63)
  | c :: t, k + 1, n, h => if (c : Int) - 128 < 0 ∨ 63 < (c : Int) - 128 then none else leastGo t k (n * 64 + ((c : Int) - 128)) (h * 64 + ((c : Int) - 128))
def leastFirst (b many : Nat) : Int := if many = 2 then (b : Int) - 192 else if many = 3 then (b : Int) - 224 else (b : Int) - 240
def leastLo (many : Nat) : Int := if many = 4 then 65536 else if many = 3 then 2048 else 128
def leastHi (many : Nat) : Int := if many = 4 then 1114111 else if many = 3 then 65535 else 2047
/-- A character between two numbers. -/
def leastOf (n h : Int) : Int := if (if 55296 ≤ n ∧ n ≤ 57343 then 57344 else n) > h then -1 else (if 55296 ≤ n ∧ n ≤ 57343 then 57344 else n)
def leastV (b : Nat) (t : List Nat) (many : Nat) : Int := match leastGo t (many - 1) (leastFirst b many) (leastFirst b many) with
  | none => -1
  | some (n, h) => leastOf (max n (leastLo many)) (min h (leastHi many))
def starts : List Nat → Nat
  | [] => 0
  | b :: t => if uMany b = 0 ∨ uMany b < t.length + 1 ∨ (1 < uMany b ∧ leastV b t (uMany b) < 0) then 0 else uMany b
def nats (l : List UInt8) : List Nat := l.map UInt8.toNat
/-- How many bytes begin a character's: the reference's loop. -/
def preGo (l : List UInt8) : Nat → Nat → Nat → Nat
  | 0, _, n => n
  | f + 1, k, n => if k ≤ l.length ∧ k ≤ 4 ∧ 0 < starts (nats (l.take k)) then preGo l f (k + 1) k else n
def refOf (l : List UInt8) (n : Nat) : Int × Nat × Int :=
  if n = 0 then (0, 1, 17)
  else if n < starts (nats (l.take n)) then (if n = l.length then (0, n, 18) else (0, n, 17))
  else if starts (nats (l.take n)) = 1 then (((l.headD 0).toNat : Int), 1, 0)
  else (leastV (l.headD 0).toNat (nats ((l.take n).drop 1)) (starts (nats (l.take n))), n, 0)
def refNext (l : List UInt8) : Int × Nat × Int := if l.length = 0 then (0, 0, 18) else refOf l (preGo l 4 1 0)

theorem leastGo_bad {c : Nat} {t : List Nat} {k : Nat} {n h : Int} (hc : c < 128 ∨ 191 < c) : leastGo (c :: t) (k + 1) n h = none := by
  rw [leastGo, if_pos (by omega)]
theorem leastGo_ok {c : Nat} {t : List Nat} {k : Nat} {n h : Int} (h1 : 128 ≤ c) (h2 : c ≤ 191) : leastGo (c :: t) (k + 1) n h = leastGo t k (n * 64 + ((c : Int) - 128)) (h * 64 + ((c : Int) - 128)) := by
  rw [leastGo, if_neg (by omega)]
theorem leastOf_bad {n h : Int} (h1 : h < n ∨ (55296 ≤ n ∧ h < 57344 ∧ n ≤ 57343)) : leastOf n h = -1 := by
  unfold leastOf
  rw [if_pos (by split <;> omega)]
theorem leastOf_ok {n h : Int} (h0 : 0 ≤ n) (h1 : n ≤ h) (h2 : n < 55296 ∨ 57343 < n ∨ 57344 ≤ h) : ¬ leastOf n h < 0 := by
  unfold leastOf
  rw [if_neg (by split <;> omega)]
  split <;> omega
theorem leastOf_is {n h : Int} (h1 : n ≤ h) (h2 : n < 55296 ∨ 57343 < n) : leastOf n h = n := by
  unfold leastOf
  rw [if_neg (show ¬ (55296 ≤ n ∧ n ≤ 57343) by omega), if_neg (by omega)]
theorem starts_cons (b : Nat) (t : List Nat) : starts (b :: t) = if uMany b = 0 ∨ uMany b < t.length + 1 ∨ (1 < uMany b ∧ leastV b t (uMany b) < 0) then 0 else uMany b := rfl
theorem starts_none {b : Nat} {t : List Nat} (h : uMany b < t.length + 1) : starts (b :: t) = 0 := by rw [starts_cons, if_pos (.inr (.inl h))]
theorem starts_bad {b : Nat} {t : List Nat} (h1 : 1 < uMany b) (h : leastV b t (uMany b) < 0) : starts (b :: t) = 0 := by rw [starts_cons, if_pos (.inr (.inr ⟨h1, h⟩))]
theorem starts_ok {b : Nat} {t : List Nat} (h0 : 1 < uMany b) (h1 : t.length + 1 ≤ uMany b) (h : ¬ leastV b t (uMany b) < 0) : starts (b :: t) = uMany b := by
  rw [starts_cons, if_neg (by rintro (hx | hx | ⟨_, hx⟩) <;> first | omega | exact h hx)]
theorem leastV_none {b many : Nat} {t : List Nat} (h : leastGo t (many - 1) (leastFirst b many) (leastFirst b many) = none) : leastV b t many = -1 := by unfold leastV; rw [h]
theorem leastV_some {b many : Nat} {t : List Nat} {n h' : Int} (h : leastGo t (many - 1) (leastFirst b many) (leastFirst b many) = some (n, h')) : leastV b t many = leastOf (max n (leastLo many)) (min h' (leastHi many)) := by unfold leastV; rw [h]
theorem starts_1 (b : Nat) : starts [b] = if uBadB b = true then 0 else uMany b := by
  have hc := uMany_cases b
  rcases hc with ⟨h0, h⟩ | ⟨h0, h, hw⟩ | ⟨h0, h, h2, hw⟩ | ⟨h0, h, h2, hw⟩ | ⟨h0, h, h2, hw⟩
  · rw [if_pos (by simp [uBadB, h0])]; rw [starts_cons, if_pos (.inl h0)]
  · rw [if_neg (by simp [uBadB, h0]; omega)]; rw [starts_cons, if_neg (by simp [h0])]
  · have hl : leastV b [] 2 = leastOf (max (((b : Int) - 192) * 64) 128) (min (((b : Int) - 192) * 64 + 63) 2047) := rfl
    by_cases hb : b < 194
    · rw [starts_bad (by omega) (by rw [h0, hl, leastOf_bad (by omega)]; decide), if_pos (by simp [uBadB, h0, hb])]
    · rw [starts_ok (by omega) (by simp [h0]) (by rw [h0, hl]; exact leastOf_ok (by omega) (by omega) (by omega)), if_neg (by simp [uBadB, h0]; omega)]
  · have hl : leastV b [] 3 = leastOf (max (((b : Int) - 224) * 64 * 64) 2048) (min ((((b : Int) - 224) * 64 + 63) * 64 + 63) 65535) := rfl
    rw [starts_ok (by omega) (by simp [h0]) (by rw [h0, hl]; exact leastOf_ok (by omega) (by omega) (by omega)), if_neg (by simp [uBadB, h0]; omega)]
  · have hl : leastV b [] 4 = leastOf (max (((b : Int) - 240) * 64 * 64 * 64) 65536) (min (((((b : Int) - 240) * 64 + 63) * 64 + 63) * 64 + 63) 1114111) := rfl
    by_cases hb : 244 < b
    · rw [starts_bad (by omega) (by rw [h0, hl, leastOf_bad (by omega)]; decide), if_pos (by simp [uBadB, h0, hb])]
    · rw [starts_ok (by omega) (by simp [h0]) (by rw [h0, hl]; exact leastOf_ok (by omega) (by omega) (by omega)), if_neg (by simp [uBadB, h0]; omega)]
/-- Two bytes. -/
theorem starts_2 (b c : Nat) (hb : uBadB b = false) : starts [b, c] = if 2 ≤ uMany b ∧ uFrom b ≤ c ∧ c ≤ uTo b then uMany b else 0 := by
  have hm := uBad_many (b := b) (by rw [hb]; decide)
  have hf := uFrom_val b
  have ht := uTo_val b
  have hc := uMany_cases b
  rcases hc with ⟨h0, h⟩ | ⟨h0, h, hw⟩ | ⟨h0, h, h2, hw⟩ | ⟨h0, h, h2, hw⟩ | ⟨h0, h, h2, hw⟩
  · omega
  · rw [starts_none (by simp [h0]), if_neg (by omega)]
  · have f1 : uFrom b = 128 := by omega
    have f2 : uTo b = 191 := by omega
    have hlf : leastFirst b 2 = (b : Int) - 192 := rfl
    by_cases hx : c < 128 ∨ 191 < c
    · rw [starts_bad (by omega) (by rw [h0, leastV_none (leastGo_bad hx)]; decide), if_neg (by omega)]
    · rw [starts_ok (by omega) (by simp [h0]) ?_, if_pos (by omega)]
      rw [h0, leastV_some (by rw [hlf]; exact leastGo_ok (by omega) (by omega))]
      exact leastOf_ok (by simp only [leastLo]; omega) (by simp only [leastLo, leastHi]; omega) (by simp only [leastLo, leastHi]; omega)
  · have hlf : leastFirst b 3 = (b : Int) - 224 := rfl
    by_cases hx : c < 128 ∨ 191 < c
    · rw [starts_bad (by omega) (by rw [h0, leastV_none (leastGo_bad hx)]; decide), if_neg (by omega)]
    · have hl : leastV b [c] 3 = leastOf (max ((((b : Int) - 224) * 64 + ((c : Int) - 128)) * 64) 2048) (min ((((b : Int) - 224) * 64 + ((c : Int) - 128)) * 64 + 63) 65535) := by
        rw [leastV_some (by rw [hlf]; exact leastGo_ok (by omega) (by omega))]; rfl
      by_cases hy : uFrom b ≤ c ∧ c ≤ uTo b
      · rw [starts_ok (by omega) (by simp [h0]) ?_, if_pos (by omega)]
        rw [h0, hl]
        exact leastOf_ok (by omega) (by omega) (by omega)
      · rw [starts_bad (by omega) ?_, if_neg (by omega)]
        rw [h0, hl, leastOf_bad (by omega)]
        decide
  · have hlf : leastFirst b 4 = (b : Int) - 240 := rfl
    by_cases hx : c < 128 ∨ 191 < c
    · rw [starts_bad (by omega) (by rw [h0, leastV_none (leastGo_bad hx)]; decide), if_neg (by omega)]
    · have hl : leastV b [c] 4 = leastOf (max ((((b : Int) - 240) * 64 + ((c : Int) - 128)) * 64 * 64) 65536) (min (((((b : Int) - 240) * 64 + ((c : Int) - 128)) * 64 + 63) * 64 + 63) 1114111) := by
        rw [leastV_some (by rw [hlf]; exact leastGo_ok (by omega) (by omega))]; rfl
      by_cases hy : uFrom b ≤ c ∧ c ≤ uTo b
      · rw [starts_ok (by omega) (by simp [h0]) ?_, if_pos (by omega)]
        rw [h0, hl]
        exact leastOf_ok (by omega) (by omega) (by omega)
      · rw [starts_bad (by omega) ?_, if_neg (by omega)]
        rw [h0, hl, leastOf_bad (by omega)]
        decide
/-- Three bytes. -/
theorem starts_3 (b c d : Nat) (hb : uBadB b = false) (hc1 : uFrom b ≤ c) (hc2 : c ≤ uTo b) : starts [b, c, d] = if 3 ≤ uMany b ∧ 128 ≤ d ∧ d ≤ 191 then uMany b else 0 := by
  have hm := uBad_many (b := b) (by rw [hb]; decide)
  have hf := uFrom_val b
  have ht := uTo_val b
  have g1 := uFrom_le b
  have g2 := uTo_le b
  have hc := uMany_cases b
  rcases hc with ⟨h0, h⟩ | ⟨h0, h, hw⟩ | ⟨h0, h, h2, hw⟩ | ⟨h0, h, h2, hw⟩ | ⟨h0, h, h2, hw⟩
  · omega
  · rw [starts_none (by simp [h0]), if_neg (by omega)]
  · rw [starts_none (by simp [h0]), if_neg (by omega)]
  · have hlf : leastFirst b 3 = (b : Int) - 224 := rfl
    by_cases hx : d < 128 ∨ 191 < d
    · rw [starts_bad (by omega) (by rw [h0, leastV_none (by show leastGo [c, d] 2 _ _ = none; rw [leastGo_ok (by omega) (by omega), leastGo_bad hx])]; decide), if_neg (by omega)]
    · have hl : leastV b [c, d] 3 = leastOf (max ((((b : Int) - 224) * 64 + ((c : Int) - 128)) * 64 + ((d : Int) - 128)) 2048) (min ((((b : Int) - 224) * 64 + ((c : Int) - 128)) * 64 + ((d : Int) - 128)) 65535) := by
        rw [leastV_some (by rw [hlf]; show leastGo [c, d] 2 _ _ = _; rw [leastGo_ok (by omega) (by omega)]; exact leastGo_ok (by omega) (by omega))]; rfl
      rw [starts_ok (by omega) (by simp [h0]) ?_, if_pos (by omega)]
      rw [h0, hl]
      exact leastOf_ok (by omega) (by omega) (by omega)
  · have hlf : leastFirst b 4 = (b : Int) - 240 := rfl
    by_cases hx : d < 128 ∨ 191 < d
    · rw [starts_bad (by omega) (by rw [h0, leastV_none (by show leastGo [c, d] 3 _ _ = none; rw [leastGo_ok (by omega) (by omega), leastGo_bad hx])]; decide), if_neg (by omega)]
    · have hl : leastV b [c, d] 4 = leastOf (max (((((b : Int) - 240) * 64 + ((c : Int) - 128)) * 64 + ((d : Int) - 128)) * 64) 65536) (min (((((b : Int) - 240) * 64 + ((c : Int) - 128)) * 64 + ((d : Int) - 128)) * 64 + 63) 1114111) := by
        rw [leastV_some (by rw [hlf]; show leastGo [c, d] 3 _ _ = _; rw [leastGo_ok (by omega) (by omega)]; exact leastGo_ok (by omega) (by omega))]; rfl
      rw [starts_ok (by omega) (by simp [h0]) ?_, if_pos (by omega)]
      rw [h0, hl]
      exact leastOf_ok (by omega) (by omega) (by omega)
/-- Four bytes. -/
theorem starts_4 (b c d g : Nat) (hb : uBadB b = false) (hc1 : uFrom b ≤ c) (hc2 : c ≤ uTo b) (hd1 : 128 ≤ d) (hd2 : d ≤ 191) : starts [b, c, d, g] = if 4 ≤ uMany b ∧ 128 ≤ g ∧ g ≤ 191 then uMany b else 0 := by
  have hm := uBad_many (b := b) (by rw [hb]; decide)
  have hf := uFrom_val b
  have ht := uTo_val b
  have g1 := uFrom_le b
  have g2 := uTo_le b
  have hc := uMany_cases b
  rcases hc with ⟨h0, h⟩ | ⟨h0, h, hw⟩ | ⟨h0, h, h2, hw⟩ | ⟨h0, h, h2, hw⟩ | ⟨h0, h, h2, hw⟩
  · omega
  · rw [starts_none (by simp [h0]), if_neg (by omega)]
  · rw [starts_none (by simp [h0]), if_neg (by omega)]
  · rw [starts_none (by simp [h0]), if_neg (by omega)]
  · have hlf : leastFirst b 4 = (b : Int) - 240 := rfl
    by_cases hx : g < 128 ∨ 191 < g
    · rw [starts_bad (by omega) (by rw [h0, leastV_none (by show leastGo [c, d, g] 3 _ _ = none; rw [leastGo_ok (by omega) (by omega), leastGo_ok (by omega) (by omega), leastGo_bad hx])]; decide), if_neg (by omega)]
    · have hl : leastV b [c, d, g] 4 = leastOf (max (((((b : Int) - 240) * 64 + ((c : Int) - 128)) * 64 + ((d : Int) - 128)) * 64 + ((g : Int) - 128)) 65536) (min (((((b : Int) - 240) * 64 + ((c : Int) - 128)) * 64 + ((d : Int) - 128)) * 64 + ((g : Int) - 128)) 1114111) := by
        rw [leastV_some (by rw [hlf]; show leastGo [c, d, g] 3 _ _ = _; rw [leastGo_ok (by omega) (by omega), leastGo_ok (by omega) (by omega)]; exact leastGo_ok (by omega) (by omega))]; rfl
      rw [starts_ok (by omega) (by simp [h0]) ?_, if_pos (by omega)]
      rw [h0, hl]
      exact leastOf_ok (by omega) (by omega) (by omega)
theorem starts_many {l : List Nat} {b : Nat} {t : List Nat} (hl : l = b :: t) (h : 0 < starts l) : starts l = uMany b := by
  subst hl
  rw [starts_cons] at *
  split
  · rename_i hx; rw [if_pos hx] at h; omega
  · rfl
end Pl
end Go.Proofs.YtlfhmkjomogkiaaDoor
