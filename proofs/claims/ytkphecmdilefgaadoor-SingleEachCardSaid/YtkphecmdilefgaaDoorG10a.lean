/- Words for memory: the reference's rows read; plain: which row may not be; walk: inkhornref17.Wrong. -/
import Derived.Test.YtkphecmdilefgaaDoorG9
import Derived.BigRegion
import Derived.Deep.RegionHeld3
namespace Go.Proofs.YtkphecmdilefgaaDoor.Sg
open Go.RowKit Pl Go.Lib

/-- A slice of rows of the reference, to be read. -/
def RefsAt (w : World) (A : Option Addr) (l : List RRow) : Prop :=
  ∃ ps : List (Value × RRow), ps.map (·.2) = l ∧ (∀ p ∈ ps, TextAt w p.1 p.2.text) ∧ (l ≠ [] → ∃ b o, A = some ⟨b, o, none⟩ ∧ b < w.heap.size ∧ ∀ i u, (refcells ps)[i]? = some u → w.cell? ⟨b, o + i, none⟩ = some u)
theorem RefsAt.keep {w w' : World} {A : Option Addr} {l : List RRow} (h : RefsAt w A l) (hb : Below w.heap.size w w') : RefsAt w' A l := by
  obtain ⟨ps, h1, h2, h3⟩ := h
  refine ⟨ps, h1, fun p hp => (h2 p hp).keep hb, fun hn => ?_⟩
  obtain ⟨b, o, e, hlt, hc⟩ := h3 hn
  exact ⟨b, o, e, Nat.lt_of_lt_of_le hlt hb.size, fun i u hu => (hb.cell (p := ⟨b, o + i, none⟩) hlt).trans (hc i u hu)⟩
theorem Refs.read {B : Nat} {w : World} {v : Value} {l : List RRow} (h : Refs B w v l) : ∃ A c, v = .slice A l.length c ∧ RefsAt w A l := by
  obtain ⟨ps, h1, h2, h3⟩ := h
  rcases h3.2 with ⟨e, h0⟩ | ⟨g, cap, cur, e, hg, hh, _⟩
  · have hl : l = [] := List.eq_nil_of_length_eq_zero h0
    subst hl
    exact ⟨none, 0, e, ps, h1, h2, fun hn => absurd rfl hn⟩
  · refine ⟨_, _, e, ps, h1, h2, fun _ => ⟨g, 0, rfl, (Array.getElem?_eq_some_iff.1 hh).1, fun i u hu => ?_⟩⟩
    have h4 := h3.cells (g := g) (by rw [e]; rfl) i u hu
    rw [Addr.add_lit] at h4
    exact h4
theorem refcells_at : ∀ (ps : List (Value × RRow)) (k : Nat) (hk : k < ps.length), (refcells ps)[k * 3]? = some (.string ps[k].2.code) ∧ (refcells ps)[k * 3 + 1]? = some ps[k].1 ∧ (refcells ps)[k * 3 + 2]? = some (.int .i64 ps[k].2.flag) := by
  intro ps
  induction ps with
  | nil => intro k hk; simp at hk
  | cons a ps ih =>
    intro k hk
    cases k with
    | zero => exact ⟨rfl, rfl, rfl⟩
    | succ k =>
      have h := ih k (by simpa using hk)
      have e : refcells (a :: ps) = .string a.2.code :: a.1 :: .int .i64 a.2.flag :: refcells ps := rfl
      rw [e, show (k + 1) * 3 = k * 3 + 3 from by omega]
      simpa using h
theorem RefsAt.at_ {w : World} {A : Option Addr} {l : List RRow} (h : RefsAt w A l) {i : Nat} (hi : i < l.length) :
    ∃ b o v, A = some ⟨b, o, none⟩ ∧ b < w.heap.size ∧ w.cell? ⟨b, o + i * 3, none⟩ = some (.string l[i].code) ∧ w.cell? ⟨b, o + i * 3 + 1, none⟩ = some v ∧ w.cell? ⟨b, o + i * 3 + 2, none⟩ = some (.int .i64 l[i].flag) ∧ TextAt w v l[i].text := by
  obtain ⟨ps, rfl, h2, h3⟩ := h
  have hi' : i < ps.length := by simpa using hi
  obtain ⟨b, o, e, hlt, hc⟩ := h3 (by intro he; rw [he] at hi; simp at hi)
  obtain ⟨c0, c1, c2⟩ := refcells_at ps i hi'
  refine ⟨b, o, ps[i].1, e, hlt, ?_, ?_, ?_, ?_⟩
  · have := hc _ _ c0; simpa using this
  · have := hc _ _ c1; rw [← Nat.add_assoc] at this; exact this
  · have := hc _ _ c2; rw [← Nat.add_assoc] at this; simpa using this
  · have := h2 ps[i] (List.getElem_mem hi'); simpa using this
/-- Two rows for decoding of one code; of codes that begin with one another. -/
def sameC (r q : RRow) : Bool := (q.flag != 1) && (q.code.toList == r.code.toList)
def preC (r q : RRow) : Bool := (q.flag != 1) && (preB q.code r.code || preB r.code q.code)
def rowErr1 (r : RRow) : Int := if wrong13 r = 0 ∧ 18 < (nfd r.text).length then 11 else wrong13 r
def rowErr (pre : List RRow) (r : RRow) : Int :=
  if rowErr1 r ≠ 0 then rowErr1 r else if r.flag = 1 then 0 else if pre.any (sameC r) = true then 12 else if pre.any (preC r) = true then 10 else 0
def wrongGo : List RRow → List RRow → Int × Int
  | _, [] => (0, 0)
  | pre, r :: t => if rowErr pre r ≠ 0 then ((pre.length : Int) + 1, rowErr pre r) else wrongGo (pre ++ [r]) t
def wrong17 (l : List RRow) : Int × Int := if 4096 < l.length then (0, 14) else wrongGo [] l
/-- Rows that are read at all. -/
def fitR (l : List RRow) : Prop := ∀ r ∈ l, r.code.size ≤ 1048576 ∧ r.text.length ≤ 1048576 ∧ scalR r.text
theorem text_of_own {w : World} {B : Nat} {v : Value} {t : List Int} (h : w.ownsRow B RuneT 1 v t.length (i32s t)) : TextAt w v t := by
  rcases h.2 with ⟨e, h0⟩ | ⟨g, cap, cur, e, _, hh, _, _, _, ht⟩
  · exact .inl ⟨e, List.eq_nil_of_length_eq_zero h0⟩
  · exact .inr ⟨g, cap, cur, e, hh, by rw [← ht, Nat.mul_one]⟩
theorem List.mem_take_of_lt {α : Type} (l : List α) (k i : Nat) (hk : k < l.length) (hi : k < i) : l[k] ∈ l.take i := by
  rw [List.mem_take_iff_getElem]
  exact ⟨k, by omega, rfl⟩
theorem any_snoc {α : Type} (p : α → Bool) (l : List α) (k : Nat) (hk : k < l.length) : (l.take (k + 1)).any p = ((l.take k).any p || p l[k]) := by
  rw [List.take_succ_eq_append_getElem hk, List.any_append]; simp
theorem go_at (l : List RRow) (i : Nat) (hi : i < l.length) : wrongGo (l.take i) (l.drop i) = if rowErr (l.take i) l[i] ≠ 0 then ((i : Int) + 1, rowErr (l.take i) l[i]) else wrongGo (l.take (i + 1)) (l.drop (i + 1)) := by
  rw [List.drop_eq_getElem_cons hi]
  show (if rowErr (l.take i) l[i] ≠ 0 then (((l.take i).length : Int) + 1, rowErr (l.take i) l[i]) else wrongGo (l.take i ++ [l[i]]) (l.drop (i + 1))) = _
  rw [List.take_succ_eq_append_getElem hi, List.length_take, Nat.min_eq_left (Nat.le_of_lt hi)]
end Go.Proofs.YtkphecmdilefgaaDoor.Sg
