/- Frames with rows (Mapfile): a slice of rows, opened. -/
import Derived.Test.YtkfjmcidcnpijaaGreatDoorSNf
import Derived.Test.YtkfjmcidcnpijaaGreatDoorQ1
namespace Go.Proofs.YtkfjmcidcnpijaaGreatDoor.Mf
open Go.ChangeShapes Go.WideShapes Go.ChangeAt Go.RowKit Go.Shelf Go.Deep

/-- A row as read. -/
def rowD {H : Type} (r : RowV) : DataW H := .agg [.lit (.string r.code.data.toList), .lit (.string r.text.data.toList), .lit (.int .i64 r.flag)]
theorem cellsRow : Tryz.prog.cellsOf 50 = 3 := by kernel_rfl
theorem bytesRow : Tryz.prog.bytesOf 50 = 40 := by kernel_rfl
theorem cellsS : Tryz.prog.cellsOf 9 = 1 := by kernel_rfl
theorem cellsI : Tryz.prog.cellsOf 3 = 1 := by kernel_rfl
instance : Inhabited RowV := ⟨⟨⟨#[]⟩, ⟨#[]⟩, 0⟩⟩
set_option maxRecDepth 100000 in
theorem open_rows {H : Type} {enc : TypeId × Value → H} {W : World} {base : Nat} {sp : Nat → Bool} {held : Bool} {fuel : Nat} {cs : List Value} {x : DataW H × List MemPlace} (h : DataW.trod enc Tryz.prog W base sp held fuel 39 cs = some x) :
    (cs = [.slice none 0 0] ∧ x = (.nil, [])) ∨
    ∃ (a : Addr) (len cap m : Nat) (I : Nat → RowV), cs = [.slice (some a) len cap] ∧ len ≤ m ∧ x.1 = .slice ((List.range len).map fun i => rowD (I i)) ((List.range (m - len)).map fun j => rowD (I (len + j))) ∧
      ∀ i, i < m → (W.cell? (a.add (i * 3)) = some (.string (I i).code) ∧ W.cell? (a.add (i * 3 + 1)) = some (.string (I i).text) ∧ W.cell? (a.add (i * 3 + 2)) = some (.int .i64 (I i).flag)) ∧ (I i).code.size ≤ maxLen ∧ (I i).text.size ≤ maxLen := by
  rcases open_slice Tryz.underlying39 h with h0 | ⟨a, len, cap, m, n, D, Pl, rfl, hb, hl, hm, hmm, rfl, hx⟩
  · exact Or.inl h0
  right
  have hlm : len ≤ m := by rw [hmm]; split <;> omega
  have each : ∀ i, i < m → ∃ q : RowV, ((W.cell? (a.add (i * 3)) = some (.string q.code) ∧ W.cell? (a.add (i * 3 + 1)) = some (.string q.text) ∧ W.cell? (a.add (i * 3 + 2)) = some (.int .i64 q.flag)) ∧ q.code.size ≤ maxLen ∧ q.text.size ≤ maxLen) ∧ D i = rowD q := by
    intro i hi
    obtain ⟨cs', h1, h2⟩ := hx i hi
    rw [cellsRow] at h1
    obtain ⟨_, hlen, hcell⟩ := World.cells?_some h1
    obtain ⟨y0, y1, y2, k, hxy, _, u0, u1, u2⟩ := trod_struct3 Tryz.underlying50 h2
    match cs', hlen with
    | [v0, v1, v2], _ =>
      simp only [cellsS, cellsI, List.drop, List.take] at u0 u1 u2
      obtain ⟨s, e0, d0, z0⟩ := DataW.trod_string Tryz.underlying9 u0
      obtain ⟨q, e1, d1, z1⟩ := DataW.trod_string Tryz.underlying9 u1
      obtain ⟨p, e2, d2, _⟩ := DataW.trod_int Tryz.underlying3 u2
      simp only [List.cons.injEq, and_true] at e0 e1 e2
      subst e0; subst e1; subst e2
      have c0 := hcell 0 (by omega)
      have c1 := hcell 1 (by omega)
      have c2 := hcell 2 (by omega)
      rw [add_add] at c0 c1 c2
      simp only [Prod.mk.injEq] at hxy
      exact ⟨⟨s, q, p⟩, ⟨⟨by simpa using c0, by simpa using c1, by simpa using c2⟩, z0, z1⟩, by rw [hxy.1, d0, d1, d2]; rfl⟩
  obtain ⟨q, hq⟩ := choose_lt each
  refine ⟨a, len, cap, m, q, rfl, hlm, ?_, fun i hi => (hq i hi).1⟩
  show DataW.slice _ _ = _
  rw [List.map_congr_left (fun i hi => (hq i (by have := List.mem_range.1 hi; omega)).2), List.map_congr_left (fun j hj => (hq (len + j) (by have := List.mem_range.1 hj; omega)).2)]
theorem rows_at {w : World} {x : Addr} {len m : Nat} {I : Nat → RowV} (hl : len ≤ m)
    (hc : ∀ i, i < m → (w.cell? (x.add (i * 3)) = some (.string (I i).code) ∧ w.cell? (x.add (i * 3 + 1)) = some (.string (I i).text) ∧ w.cell? (x.add (i * 3 + 2)) = some (.int .i64 (I i).flag)) ∧ (I i).code.size ≤ maxLen ∧ (I i).text.size ≤ maxLen) :
    RowsAt w (some x) ((List.range len).map I) := by
  intro hne
  have h0 : 0 < len := by
    rcases Nat.eq_zero_or_pos len with h | h
    · subst h; exact absurd rfl hne
    · exact h
  obtain ⟨b, o, spot⟩ := x
  have h := (hc 0 (by omega)).1.1
  have hspot : spot = none := by simpa [Addr.add] using World.cell?_spot h
  subst hspot
  refine ⟨b, o, rfl, ?_, fun i hi => ?_⟩
  · rcases Nat.lt_or_ge b w.heap.size with hb | hb
    · exact hb
    · simp [Addr.add, World.cell?, Array.getElem?_eq_none hb] at h
  · have hi2 : i < len := by simpa using hi
    have h2 := (hc i (by omega)).1
    rw [Addr.add_lit, Addr.add_lit, Addr.add_lit] at h2
    simp only [List.getElem_map, List.getElem_range]
    exact h2
end Go.Proofs.YtkfjmcidcnpijaaGreatDoor.Mf
