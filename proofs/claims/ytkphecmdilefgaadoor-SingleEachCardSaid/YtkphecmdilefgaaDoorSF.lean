/- The condition of the tied rows (utf8's two tables read as the library's text lays them), opened; a world that meets it; a slice of rows, opened. -/
import Derived.Test.YtkphecmdilefgaaDoorRows
import Derived.Test.YtkphecmdilefgaaDoorG2
import Derived.Test.YtkphecmdilefgaaDoorSh
import Derived.ProofKit
import Derived.LaidMore
import Derived.OpenShut
import Derived.PinnedBridge
import Derived.Lib.LaidIn
import Derived.Lib.LaidU8T
import Derived.Deep.Slices
import Derived.Deep.Strs
import Derived.SizedLaws
namespace Go.Proofs.YtkphecmdilefgaaDoor.Sg
open Go.ChangeShapes Go.WideShapes Go.ChangeAt Go.RowKit Go.Shelf Go.Deep

theorem own : ownKnob Tryd.prog.godebug = none := by kernel_rfl
theorem laidOut : laidOutB Tryd.prog = true := by kernel_rfl
abbrev laidS : List (String × DataW Unit) := [("unicode/utf8.acceptRanges", Rows.laid_unicode_utf8_acceptRanges), ("unicode/utf8.first", Rows.laid_unicode_utf8_first)]
theorem accept_eq : (Rows.laid_unicode_utf8_acceptRanges : DataW Unit) = Lib.acceptData := by kernel_rfl
theorem first_eq : Rows.laid_unicode_utf8_first = Lib.firstData := Pinned.utf8First_eq
theorem laidS_eq : laidS = [("unicode/utf8.acceptRanges", Lib.acceptData), ("unicode/utf8.first", Lib.firstData)] := by
  unfold laidS
  rw [accept_eq, first_eq]
theorem tabs_of_laid {W : World} (h : laidMetH Tryd.prog laidS W) : Tabs W := by
  rw [laidS_eq, MakeChecks.laidMetH_plain _ _ _ (by kernel_rfl)] at h
  exact utf8Tabs_of_readsT (U8Types.of196 lays196) ⟨by kernel_rfl, by kernel_rfl, by kernel_rfl, by kernel_rfl, by kernel_rfl, by kernel_rfl, by kernel_rfl⟩ (Lib.laidMet.reads h (.tail _ (.head _))) (Lib.laidMet.reads h (.head _))
/-- A world for the witness: the settled one, the two tables holding what the library lays. -/
noncomputable def laidWorld (os : Os) : World :=
  let w0 := World.holding Tryd.prog os ⟨#[], #[], []⟩
  let put (h : Array Obj) (g : Nat) (cs : Array Value) : Array Obj := h.modify g fun
    | .cells _ t frozen => .cells cs t frozen
    | o => o
  let h1 := put w0.heap 0 (Lib.firstTab.map fun z => Value.int .u8 z).toArray
  let h2 := put h1 1 ((List.range 16).flatMap fun i => [Value.int .u8 (Lib.accLo i), Value.int .u8 (Lib.accHi i)]).toArray
  { w0 with heap := h2 }
theorem laid_met (os : Os) (args : Array Value) : laidMet Tryd.prog laidS ((laidWorld os).forCall (fun _ _ => 0) ⟨#[], args, []⟩).memory := by
  rw [laidS_eq]
  exact (LaidIn.of_run (l := [("unicode/utf8.acceptRanges", Lib.acceptData), ("unicode/utf8.first", Lib.firstData)]) [0, 1] 8 (by kernel_rfl) (by kernel_rfl) (by kernel_rfl) (by kernel_rfl)).met
/-- A row as read. -/
def rowD {H : Type} (r : RowV) : DataW H := .agg [.lit (.string r.code.data.toList), .lit (.string r.text.data.toList), .lit (.int .i64 r.flag)]
theorem cellsRow : Tryd.prog.cellsOf 60 = 3 := by kernel_rfl
theorem bytesRow : Tryd.prog.bytesOf 60 = 40 := by kernel_rfl
theorem cellsS : Tryd.prog.cellsOf 9 = 1 := by kernel_rfl
theorem cellsI : Tryd.prog.cellsOf 3 = 1 := by kernel_rfl
instance : Inhabited RowV := ⟨⟨⟨#[]⟩, ⟨#[]⟩, 0⟩⟩
set_option maxRecDepth 100000 in
theorem open_rows {H : Type} {enc : TypeId × Value → H} {W : World} {base : Nat} {sp : Nat → Bool} {held : Bool} {fuel : Nat} {cs : List Value} {x : DataW H × List MemPlace} (h : DataW.trod enc Tryd.prog W base sp held fuel 22 cs = some x) :
    (cs = [.slice none 0 0] ∧ x = (.nil, [])) ∨
    ∃ (a : Addr) (len cap m : Nat) (I : Nat → RowV), cs = [.slice (some a) len cap] ∧ len ≤ m ∧ x.1 = .slice ((List.range len).map fun i => rowD (I i)) ((List.range (m - len)).map fun j => rowD (I (len + j))) ∧
      ∀ i, i < m → (W.cell? (a.add (i * 3)) = some (.string (I i).code) ∧ W.cell? (a.add (i * 3 + 1)) = some (.string (I i).text) ∧ W.cell? (a.add (i * 3 + 2)) = some (.int .i64 (I i).flag)) ∧ (I i).code.size ≤ maxLen ∧ (I i).text.size ≤ maxLen := by
  rcases open_slice Tryd.underlying22 h with h0 | ⟨a, len, cap, m, n, D, Pl, rfl, hb, hl, hm, hmm, rfl, hx⟩
  · exact Or.inl h0
  right
  have hlm : len ≤ m := by rw [hmm]; split <;> omega
  have each : ∀ i, i < m → ∃ q : RowV, ((W.cell? (a.add (i * 3)) = some (.string q.code) ∧ W.cell? (a.add (i * 3 + 1)) = some (.string q.text) ∧ W.cell? (a.add (i * 3 + 2)) = some (.int .i64 q.flag)) ∧ q.code.size ≤ maxLen ∧ q.text.size ≤ maxLen) ∧ D i = rowD q := by
    intro i hi
    obtain ⟨cs', h1, h2⟩ := hx i hi
    rw [cellsRow] at h1
    obtain ⟨_, hlen, hcell⟩ := World.cells?_some h1
    obtain ⟨y0, y1, y2, k, hxy, _, u0, u1, u2⟩ := trod_struct3 Tryd.underlying60 h2
    match cs', hlen with
    | [v0, v1, v2], _ =>
      simp only [cellsS, cellsI, List.drop, List.take] at u0 u1 u2
      obtain ⟨s, e0, d0, z0⟩ := DataW.trod_string Tryd.underlying9 u0
      obtain ⟨q, e1, d1, z1⟩ := DataW.trod_string Tryd.underlying9 u1
      obtain ⟨p, e2, d2, _⟩ := DataW.trod_int Tryd.underlying3 u2
      simp only [List.cons.injEq, and_true] at e0 e1 e2
      subst e0; subst e1; subst e2
      have c0 := hcell 0 (by omega)
      have c1 := hcell 1 (by omega)
      have c2 := hcell 2 (by omega)
      rw [add_add] at c0 c1 c2
      simp only [Prod.mk.injEq] at hxy
      exact ⟨⟨s, q, p⟩, ⟨⟨by simpa using c0, by simpa using c1, by simpa using c2⟩, z0, z1⟩, by rw [hxy.1, d0, d1, d2]; rfl⟩
  obtain ⟨q, hq⟩ := choose_lt each
  refine ⟨a, len, cap, m, q, rfl, hlm, ?_, fun i hi => (hq i hi).1⟩
  show DataW.slice _ _ = _
  rw [List.map_congr_left (fun i hi => (hq i (by have := List.mem_range.1 hi; omega)).2), List.map_congr_left (fun j hj => (hq (len + j) (by have := List.mem_range.1 hj; omega)).2)]
theorem rows_at {w : World} {x : Addr} {len m : Nat} {I : Nat → RowV} (hl : len ≤ m)
    (hc : ∀ i, i < m → (w.cell? (x.add (i * 3)) = some (.string (I i).code) ∧ w.cell? (x.add (i * 3 + 1)) = some (.string (I i).text) ∧ w.cell? (x.add (i * 3 + 2)) = some (.int .i64 (I i).flag)) ∧ (I i).code.size ≤ maxLen ∧ (I i).text.size ≤ maxLen) :
    RowsAt w (some x) ((List.range len).map I) := by
  intro hne
  have h0 : 0 < len := by
    rcases Nat.eq_zero_or_pos len with h | h
    · subst h; exact absurd rfl hne
    · exact h
  obtain ⟨b, o, spot⟩ := x
  have h := (hc 0 (by omega)).1.1
  have hspot : spot = none := by simpa [Addr.add] using World.cell?_spot h
  subst hspot
  refine ⟨b, o, rfl, ?_, fun i hi => ?_⟩
  · rcases Nat.lt_or_ge b w.heap.size with hb | hb
    · exact hb
    · simp [Addr.add, World.cell?, Array.getElem?_eq_none hb] at h
  · have hi2 : i < len := by simpa using hi
    have h2 := (hc i (by omega)).1
    rw [Addr.add_lit, Addr.add_lit, Addr.add_lit] at h2
    simp only [List.getElem_map, List.getElem_range]
    exact h2
end Go.Proofs.YtkphecmdilefgaaDoor.Sg
