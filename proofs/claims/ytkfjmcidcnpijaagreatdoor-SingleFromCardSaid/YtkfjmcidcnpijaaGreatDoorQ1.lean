/- Words for memory: rows of a file of mappings; walk: few (law 13). -/
import Derived.Test.YtkfjmcidcnpijaaGreatDoorRd
import Derived.Test.YtkfjmcidcnpijaaGreatDoorMB
import Derived.Test.YtkfjmcidcnpijaaGreatDoorG1
namespace Go.Proofs.YtkfjmcidcnpijaaGreatDoor.Mf
open Go.RowKit Pl

/-- A row: code, text, flag. -/
structure RowV where
  code : ByteArray
  text : ByteArray
  flag : Int
/-- A slice of rows. -/
def RowsAt (w : World) (A : Option Addr) (l : List RowV) : Prop :=
  l ≠ [] → ∃ b o, A = some ⟨b, o, none⟩ ∧ b < w.heap.size ∧ ∀ i (h : i < l.length), w.cell? ⟨b, o + i * 3, none⟩ = some (.string l[i].code) ∧ w.cell? ⟨b, o + i * 3 + 1, none⟩ = some (.string l[i].text) ∧ w.cell? ⟨b, o + i * 3 + 2, none⟩ = some (.int .i64 l[i].flag)
theorem RowsAt.keep {w w' : World} {A : Option Addr} {l : List RowV} (h : RowsAt w A l) (hb : Below w.heap.size w w') : RowsAt w' A l := fun hn => by
  obtain ⟨b, o, e, hlt, hc⟩ := h hn
  refine ⟨b, o, e, Nat.lt_of_lt_of_le hlt hb.size, fun i hi => ?_⟩
  obtain ⟨h0, h1, h2⟩ := hc i hi
  exact ⟨(hb.cell (p := ⟨b, o + i * 3, none⟩) hlt).trans h0, (hb.cell (p := ⟨b, o + i * 3 + 1, none⟩) hlt).trans h1, (hb.cell (p := ⟨b, o + i * 3 + 2, none⟩) hlt).trans h2⟩
theorem RowsAt.at_ {w : World} {A : Option Addr} {l : List RowV} (h : RowsAt w A l) {i : Nat} (hi : i < l.length) : ∃ b o, A = some ⟨b, o, none⟩ ∧ b < w.heap.size ∧ w.cell? ⟨b, o + i * 3, none⟩ = some (.string l[i].code) ∧ w.cell? ⟨b, o + i * 3 + 1, none⟩ = some (.string l[i].text) ∧ w.cell? ⟨b, o + i * 3 + 2, none⟩ = some (.int .i64 l[i].flag) := by
  obtain ⟨b, o, e, hlt, hc⟩ := h (by intro he; rw [he] at hi; exact absurd hi (by simp))
  exact ⟨b, o, e, hlt, hc i hi⟩
/-- Rows that are not too many, or too great. -/
def fewR (l : List RowV) : Bool := l.all (fun r => decide (r.code.size ≤ 200) && decide (r.text.size ≤ 200)) && decide (l.length ≤ 40)








































































end Go.Proofs.YtkfjmcidcnpijaaGreatDoor.Mf
