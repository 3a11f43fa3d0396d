/- Plain: a text's lines, and the rows that are read of them. -/
import Derived.Test.YtopaoejapnakiaaGreatDoorM1
namespace Go.Proofs.YtopaoejapnakiaaGreatDoor
namespace Mf
/-- Lines: cut behind each line feed. -/
def split : Nat → List UInt8 → List (List UInt8)
  | 0, _ => []
  | n + 1, s => if s = [] then [] else s.takeWhile (· != 10) :: split n (s.drop ((s.takeWhile (· != 10)).length + 1))
def linesOf (s : List UInt8) : List (List UInt8) := split s.length s
theorem split_fuel : ∀ (n m : Nat) (s : List UInt8), s.length ≤ n → s.length ≤ m → split n s = split m s := by
  intro n
  induction n with
  | zero =>
    intro m s h _
    have h0 : s = [] := List.eq_nil_of_length_eq_zero (Nat.le_zero.1 h)
    subst h0
    cases m <;> simp [split]
  | succ n ih =>
    intro m s h1 h2
    cases m with
    | zero =>
      have h0 : s = [] := List.eq_nil_of_length_eq_zero (Nat.le_zero.1 h2)
      subst h0
      simp [split]
    | succ m =>
      unfold split
      by_cases hs : s = []
      · rw [if_pos hs, if_pos hs]
      · rw [if_neg hs, if_neg hs]
        congr 1
        exact ih m _ (by rw [List.length_drop]; omega) (by rw [List.length_drop]; omega)
theorem linesOf_nil : linesOf [] = [] := rfl
theorem linesOf_cons (s : List UInt8) (h : s ≠ []) : linesOf s = s.takeWhile (· != 10) :: linesOf (s.drop ((s.takeWhile (· != 10)).length + 1)) := by
  unfold linesOf
  cases s with
  | nil => exact absurd rfl h
  | cons c t =>
    rw [List.length_cons]
    show (if c :: t = [] then [] else _) = _
    rw [if_neg h]
    congr 1
    refine split_fuel _ _ _ ?_ (Nat.le_refl _)
    rw [List.length_drop, List.length_cons]
    omega
/-- What counts of a line. -/
def rtrim (l : List UInt8) : List UInt8 := (l.reverse.dropWhile sp).reverse
def clean (l : List UInt8) : List UInt8 := rtrim (l.takeWhile (· != 35))
def fits (s : List UInt8) : Bool := (linesOf s).all (fun l => decide (l.length ≤ 512)) && decide ((linesOf s).length ≤ 4096)
/-- A row, its code, its characters, its flag. -/
structure LRow where
  code : List UInt8
  text : List Int
  flag : Int
/-- What is wrong with a row. -/
def wrongL (x : LRow) : Int :=
  if 1 ≤ x.code.length ∧ x.code.length ≤ 4 ∧ 1 ≤ x.text.length ∧ x.text.length ≤ 18 ∧ x.text.all (fun r => decide (0 ≤ r ∧ (r < 55296 ∨ 57343 < r) ∧ r ≤ 1114111)) = true then (if x.flag = 0 ∨ x.flag = 1 ∨ x.flag = 3 then 0 else 16) else 11
/-- A line: none, or what is wrong (0: nothing), or a row. -/
inductive One where
  | none
  | err (e : Int)
  | row (x : LRow)
def oneU (s : List UInt8) : One := if s = [] then .none else match outU s with
  | .bad => .err 10
  | .bare c => if c.length ≤ 4 then .none else .err 11
  | .row c l => if wrongL ⟨c, l, 0⟩ = 0 then .row ⟨c, l, 0⟩ else .err (wrongL ⟨c, l, 0⟩)
def oneC (s : List UInt8) : One := if s = [] then .none else match ucmO s with
  | none => .err 10
  | some (c, l, f) => if wrongL ⟨c, l, f⟩ = 0 then .row ⟨c, l, f⟩ else .err (wrongL ⟨c, l, f⟩)
/-- The rows, the number of a line that is wrong, and how. -/
def readGo (F : List UInt8 → One) : Nat → List LRow → List (List UInt8) → List LRow × Int × Int
  | _, out, [] => (out, 0, 0)
  | i, out, s :: t => match F (clean s) with
    | .none => readGo F (i + 1) out t
    | .err e => ([], (i : Int) + 1, e)
    | .row x => readGo F (i + 1) (out ++ [x]) t
def readL (F : List UInt8 → One) (s : List UInt8) : List LRow × Int × Int := if fits s = true then readGo F 0 [] (linesOf s) else ([], 0, 11)
end Mf
end Go.Proofs.YtopaoejapnakiaaGreatDoor
