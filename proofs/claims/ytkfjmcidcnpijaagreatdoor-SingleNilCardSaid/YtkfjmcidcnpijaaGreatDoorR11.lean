/- Walks: mapfile.Unicode, Ucm; the law's examples. -/
import Derived.Test.YtkfjmcidcnpijaaGreatDoorR10
namespace Go.Proofs.YtkfjmcidcnpijaaGreatDoor.Mf
open Go.RowKit Pl

/-- What the laws need of memory. -/
structure Okw (w : World) : Prop where
  err : ErrV w
  tabs : TabsM w
theorem Okw.keep {w w' : World} (h : Okw w) (hb : Below w.heap.size w w') : Okw w' := ⟨h.err.keep hb h.err.lt, h.tabs.keep hb⟩
theorem mapU_any (s : ByteArray) (hs : s.size ≤ 1000000) (w : World) (hO : Okw w) : Calls Tryz.prog 22 #[.string s] w (ReadP oneU w s.data.toList) := by
  have HR := Lib.hid (read_any 39 oneU way_unicode s hs w hO.err hO.tabs)
  clear hO
  go_enter Tryz.func22, Tryz.ntmps22
  go_wp2_with fail
  refine HR.out.mono ?_
  rintro _ w1 ⟨v, rfl, h1, hb⟩
  have H1 := Lib.hid h1
  have HB := Lib.hid hb
  clear h1 hb
  go_wp2_with fail
  go_returns
  exact ⟨v, rfl, H1.out, HB.out⟩













abbrev exU : ByteArray := ⟨#[48, 120, 52, 49, 9, 48, 120, 48, 48, 52, 49, 32, 35, 32, 65, 10, 48, 120, 50, 52, 55, 55, 32, 48, 120, 51, 48, 52, 66, 43, 51, 48, 57, 65, 10]⟩
abbrev exC : ByteArray := ⟨#[60, 85, 48, 48, 67, 52, 62, 32, 92, 120, 56, 69, 32, 124, 48, 10]⟩
set_option maxRecDepth 1000000 in
theorem exU_eq : readL oneU exU.data.toList = ([⟨[65], [65], 0⟩, ⟨[36, 119], [12363, 12442], 0⟩], 0, 0) := by rfl
set_option maxRecDepth 1000000 in
theorem exC_eq : readL oneC exC.data.toList = ([⟨[142], [196], 0⟩], 0, 0) := by rfl
theorem text_A : textB [65] = [65] := by decide
theorem text_K : textB [12363, 12442] = [227, 129, 139, 227, 130, 154] := by decide
theorem text_E : textB [196] = [195, 132] := by decide
theorem Rows.cells {B : Nat} {w : World} {v : Value} {l : List LRow} (h : Rows B w v l) (hl : 0 < l.length) : ∃ g c, v = .slice (some ⟨g, 0, none⟩) l.length c ∧ g < w.heap.size ∧ ∀ j x, (rowcells l)[j]? = some x → w.cell? ⟨g, j, none⟩ = some x := by
  rcases (show World.ownsRow w B RowT 3 v l.length (rowcells l) from h).2 with ⟨_, h0⟩ | ⟨g, cap, cur, e, _, hh, _, _, _, h4⟩
  · omega
  · refine ⟨g, cap, e, (Array.getElem?_eq_some_iff.1 hh).1, fun j x hx => ?_⟩
    rw [cell_of_row w g j cur RowT (0, 0) hh]
    rw [← h4, List.getElem?_take] at hx
    split at hx
    · simpa using hx
    · cases hx
































end Go.Proofs.YtkfjmcidcnpijaaGreatDoor.Mf
