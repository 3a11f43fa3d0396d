/- Walks: mapfile.Unicode, Ucm; the law's examples. -/
import Derived.Test.YtopaoejapnakiaaGreatDoorR10
namespace Go.Proofs.YtopaoejapnakiaaGreatDoor.Mf
open Go.RowKit Pl

/-- What the laws need of memory. -/
structure Okw (w : World) : Prop where
  err : ErrV w
  tabs : TabsM w
theorem Okw.keep {w w' : World} (h : Okw w) (hb : Below w.heap.size w w') : Okw w' := by
  refine ⟨h.err.keep hb ?_, h.tabs.keep hb⟩
  obtain ⟨te, pe, hc⟩ := h.err
  unfold World.cell? at hc
  cases ho : w.heap[2]? with
  | none => simp [ho] at hc
  | some o => exact (Array.getElem?_eq_some_iff.1 ho).1
theorem mapU_any (s : ByteArray) (hs : s.size ≤ 1000000) (w : World) (hO : Okw w) : Calls Tryz.prog 11 #[.string s] w (ReadP oneU w s.data.toList) := by
  have HR := Lib.hid (read_any 29 oneU way_unicode s hs w hO.err hO.tabs)
  clear hO
  go_enter Tryz.func11, Tryz.ntmps11
  go_wp2_with fail
  refine HR.out.mono ?_
  rintro _ w1 ⟨v, rfl, h1, hb⟩
  have H1 := Lib.hid h1
  have HB := Lib.hid hb
  clear h1 hb
  go_wp2_with fail
  go_returns
  exact ⟨v, rfl, H1.out, HB.out⟩
theorem mapC_any (s : ByteArray) (hs : s.size ≤ 1000000) (w : World) (hO : Okw w) : Calls Tryz.prog 13 #[.string s] w (ReadP oneC w s.data.toList) := by
  have HR := Lib.hid (read_any 34 oneC way_ucm s hs w hO.err hO.tabs)
  clear hO
  go_enter Tryz.func13, Tryz.ntmps13
  go_wp2_with fail
  refine HR.out.mono ?_
  rintro _ w1 ⟨v, rfl, h1, hb⟩
  have H1 := Lib.hid h1
  have HB := Lib.hid hb
  clear h1 hb
  go_wp2_with fail
  go_returns
  exact ⟨v, rfl, H1.out, HB.out⟩
abbrev exU : ByteArray := ⟨#[48, 120, 52, 49, 9, 48, 120, 48, 48, 52, 49, 32, 35, 32, 65, 10, 48, 120, 50, 52, 55, 55, 32, 48, 120, 51, 48, 52, 66, 43, 51, 48, 57, 65, 10]⟩
abbrev exC : ByteArray := ⟨#[60, 85, 48, 48, 67, 52, 62, 32, 92, 120, 56, 69, 32, 124, 48, 10]⟩
set_option maxRecDepth 1000000 in
theorem exU_eq : readL oneU exU.data.toList = ([⟨[65], [65], 0⟩, ⟨[36, 119], [12363, 12442], 0⟩], 0, 0) := by rfl
set_option maxRecDepth 1000000 in
theorem exC_eq : readL oneC exC.data.toList = ([⟨[142], [196], 0⟩], 0, 0) := by rfl
theorem text_A : textB [65] = [65] := by decide
theorem text_K : textB [12363, 12442] = [227, 129, 139, 227, 130, 154] := by decide
theorem text_E : textB [196] = [195, 132] := by decide
theorem Rows.cells {B : Nat} {w : World} {v : Value} {l : List LRow} (h : Rows B w v l) (hl : 0 < l.length) : ∃ g c, v = .slice (some ⟨g, 0, none⟩) l.length c ∧ g < w.heap.size ∧ ∀ j x, (rowcells l)[j]? = some x → w.cell? ⟨g, j, none⟩ = some x := by
  rcases (show World.ownsRow w B RowT 3 v l.length (rowcells l) from h).2 with ⟨_, h0⟩ | ⟨g, cap, cur, e, _, hh, _, _, _, h4⟩
  · omega
  · refine ⟨g, cap, e, (Array.getElem?_eq_some_iff.1 hh).1, fun j x hx => ?_⟩
    rw [cell_of_row w g j cur RowT (0, 0) hh]
    rw [← h4, List.getElem?_take] at hx
    split at hx
    · simpa using hx
    · cases hx
set_option maxRecDepth 1000000 in
theorem awake_any (w : World) (hO : Okw w) : Calls Tryz.prog 10 #[] w fun e w' => e = .returned (.bool true) ∧ Below w.heap.size w w' := by
  have HU := Lib.hid (mapU_any exU (by decide) w hO)
  have HC := Lib.hid (fun (w1 : World) (hb : Below w.heap.size w w1) => mapC_any exC (by decide) w1 (hO.keep hb))
  clear hO
  go_enter Tryz.func10, Tryz.ntmps10
  go_wp2_with fail
  refine HU.out.mono ?_
  rintro _ w1 ⟨v, rfl, h1, hb⟩
  rw [exU_eq] at h1 ⊢
  obtain ⟨g, c, rfl, hg, hcl⟩ := Rows.cells h1 (by decide)
  have HB := Lib.hid hb
  have HCL := Lib.hid hcl
  clear h1 hcl hb
  go_wp2_with fail
  refine (HC.out w1 HB.out).mono ?_
  rintro _ w2 ⟨v2, rfl, h2, hb2⟩
  rw [exC_eq] at h2 ⊢
  obtain ⟨g2, c2, rfl, hg2, hcl2⟩ := Rows.cells h2 (by decide)
  have HB2 := Lib.hid (HB.out.trans (hb2.mono HB.out.size))
  have k0 : w2.cell? ⟨g, 0, none⟩ = some (.string ⟨#[65]⟩) := (hb2.cell (p := ⟨g, 0, none⟩) hg).trans (HCL.out 0 _ rfl)
  have k1 : w2.cell? ⟨g, 1, none⟩ = some (.string ⟨#[65]⟩) := (hb2.cell (p := ⟨g, 1, none⟩) hg).trans (HCL.out 1 _ (by rfl))
  have k2 : w2.cell? ⟨g, 2, none⟩ = some (.int .i64 0) := (hb2.cell (p := ⟨g, 2, none⟩) hg).trans (HCL.out 2 _ rfl)
  have k3 : w2.cell? ⟨g, 3, none⟩ = some (.string ⟨#[36, 119]⟩) := (hb2.cell (p := ⟨g, 3, none⟩) hg).trans (HCL.out 3 _ rfl)
  have k4 : w2.cell? ⟨g, 4, none⟩ = some (.string ⟨#[227, 129, 139, 227, 130, 154]⟩) := (hb2.cell (p := ⟨g, 4, none⟩) hg).trans (HCL.out 4 _ (by rfl))
  have m0 : w2.cell? ⟨g2, 0, none⟩ = some (.string ⟨#[142]⟩) := hcl2 0 _ rfl
  have m1 : w2.cell? ⟨g2, 1, none⟩ = some (.string ⟨#[195, 132]⟩) := hcl2 1 _ (by rfl)
  have m2 : w2.cell? ⟨g2, 2, none⟩ = some (.int .i64 0) := hcl2 2 _ rfl
  clear h2 hcl2 hb2 HCL
  go_wp2_with fail
  go_returns
  exact ⟨rfl, HB2.out⟩
end Go.Proofs.YtopaoejapnakiaaGreatDoor.Mf
