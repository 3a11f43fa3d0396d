/- Plain: bytes decoded one unit behind the other, by a policy, whatever the units are. -/
import Derived.Test.YtlfhmkjomogkiaaDoorPlain2
namespace Go.Proofs.YtlfhmkjomogkiaaDoor
namespace Pl

/-- What has been decoded so far, the faults so far; then on: the characters, the faults and the error. -/
def decL (nx : List UInt8 → Int × Nat × Int) (pol : Int) : Nat → List UInt8 → Nat → List Int → List (Nat × Nat) → List Int × List (Nat × Nat) × Int
  | 0, _, _, o, b => (o, b, 0)
  | f + 1, t, a, o, b =>
    if t.length = 0 then (o, b, 0)
    else if (nx t).2.2 = 0 then decL nx pol f (t.drop (nx t).2.1) (a + (nx t).2.1) (o ++ [(nx t).1]) b
    else if pol = 1 then (o, b ++ [(a, (nx t).2.1)], 17)
    else decL nx pol f (t.drop (nx t).2.1) (a + (nx t).2.1) (if pol = 2 then o ++ [65533] else o) (b ++ [(a, (nx t).2.1)])
theorem decL_fuel (nx : List UInt8 → Int × Nat × Int) (pol : Int) (hp : ∀ t, 0 < t.length → 1 ≤ (nx t).2.1) : ∀ (f g : Nat) (t : List UInt8) (a : Nat) (o : List Int) (b : List (Nat × Nat)),
    t.length ≤ f → t.length ≤ g → decL nx pol f t a o b = decL nx pol g t a o b := by
  intro f
  induction f with
  | zero =>
    intro g t a o b h1 h2
    have : t.length = 0 := by omega
    cases g <;> simp [decL, this]
  | succ f ih =>
    intro g t a o b h1 h2
    by_cases h0 : t.length = 0
    · cases g <;> simp [decL, h0]
    · cases g with
      | zero => omega
      | succ g =>
        have := hp t (by omega)
        rw [decL, decL, if_neg h0, if_neg h0]
        split
        · exact ih _ _ _ _ _ (by rw [List.length_drop]; omega) (by rw [List.length_drop]; omega)
        · split
          · rfl
          · exact ih _ _ _ _ _ (by rw [List.length_drop]; omega) (by rw [List.length_drop]; omega)
theorem decL_end (nx : List UInt8 → Int × Nat × Int) (pol : Int) (F a : Nat) (o : List Int) (b : List (Nat × Nat)) : decL nx pol F [] a o b = (o, b, 0) := by cases F <;> simp [decL]
section
variable (nx : List UInt8 → Int × Nat × Int) (pol : Int) (hp : ∀ t, 0 < t.length → 1 ≤ (nx t).2.1) (F : Nat) (t : List UInt8) (a : Nat) (o : List Int) (b : List (Nat × Nat)) (h0 : 0 < t.length) (hF : t.length ≤ F)
include hp h0 hF
theorem decL_ok (he : (nx t).2.2 = 0) : decL nx pol F t a o b = decL nx pol F (t.drop (nx t).2.1) (a + (nx t).2.1) (o ++ [(nx t).1]) b := by
  have h1 := hp t h0
  cases F with
  | zero => omega
  | succ F =>
    rw [decL, if_neg (by omega), if_pos he]
    exact decL_fuel nx pol hp _ _ _ _ _ _ (by rw [List.length_drop]; omega) (by rw [List.length_drop]; omega)
theorem decL_more (he : (nx t).2.2 ≠ 0) (h1 : pol ≠ 1) : decL nx pol F t a o b = decL nx pol F (t.drop (nx t).2.1) (a + (nx t).2.1) (if pol = 2 then o ++ [65533] else o) (b ++ [(a, (nx t).2.1)]) := by
  have h2 := hp t h0
  cases F with
  | zero => omega
  | succ F =>
    rw [decL, if_neg (by omega), if_neg he, if_neg h1]
    exact decL_fuel nx pol hp _ _ _ _ _ _ (by rw [List.length_drop]; omega) (by rw [List.length_drop]; omega)
end
theorem decL_strict (nx : List UInt8 → Int × Nat × Int) (F : Nat) (t : List UInt8) (a : Nat) (o : List Int) (b : List (Nat × Nat)) (h0 : 0 < t.length) (hF : t.length ≤ F)
    (he : (nx t).2.2 ≠ 0) : decL nx 1 F t a o b = (o, b ++ [(a, (nx t).2.1)], 17) := by
  cases F with
  | zero => omega
  | succ F => rw [decL, if_neg (by omega), if_neg he, if_pos rfl]
/-- All of bytes decoded. -/
def dec (nx : List UInt8 → Int × Nat × Int) (pol : Int) (t : List UInt8) : List Int × List (Nat × Nat) × Int := decL nx pol t.length t 0 [] []
/-- What Decode of a kind answers. -/
def kdec (k pol : Int) (t : List UInt8) : List Int × List (Nat × Nat) × Int :=
  if (1 ≤ k ∧ k ≤ 4) ∧ 1 ≤ pol ∧ pol ≤ 3 then dec (wnext (wsize k) (bigOf k)) pol t else ([], [], 16)

theorem decL_len (nx : List UInt8 → Int × Nat × Int) (pol : Int) (hp : ∀ t, 0 < t.length → 1 ≤ (nx t).2.1) : ∀ (f : Nat) (t : List UInt8) (a : Nat) (o : List Int) (b : List (Nat × Nat)),
    (decL nx pol f t a o b).1.length ≤ o.length + t.length ∧ (decL nx pol f t a o b).2.1.length ≤ b.length + t.length := by
  intro f
  induction f with
  | zero => intro t a o b; simp [decL]
  | succ f ih =>
    intro t a o b
    rw [decL]
    split
    · simp
    · have h1 := hp t (by omega)
      split
      · have h := ih (t.drop (nx t).2.1) (a + (nx t).2.1) (o ++ [(nx t).1]) b
        simp only [List.length_append, List.length_cons, List.length_nil, List.length_drop] at h
        omega
      · split
        · simp; omega
        · have h := ih (t.drop (nx t).2.1) (a + (nx t).2.1) (if pol = 2 then o ++ [65533] else o) (b ++ [(a, (nx t).2.1)])
          simp only [List.length_append, List.length_cons, List.length_nil, List.length_drop] at h
          have h3 : (if pol = 2 then o ++ [65533] else o).length ≤ o.length + 1 := by split <;> simp
          omega
theorem dec_len (nx : List UInt8 → Int × Nat × Int) (pol : Int) (hp : ∀ t, 0 < t.length → 1 ≤ (nx t).2.1) (t : List UInt8) : (dec nx pol t).1.length ≤ t.length ∧ (dec nx pol t).2.1.length ≤ t.length := by
  have h := decL_len nx pol hp t.length t 0 [] []
  simpa [dec] using h
theorem kdec_len (k pol : Int) (t : List UInt8) : (kdec k pol t).1.length ≤ t.length ∧ (kdec k pol t).2.1.length ≤ t.length := by
  unfold kdec
  split
  · exact dec_len _ _ (fun t h => (wnext_pos _ _ t h (wsize_cases k)).1) t
  · simp

end Pl
end Go.Proofs.YtlfhmkjomogkiaaDoor
