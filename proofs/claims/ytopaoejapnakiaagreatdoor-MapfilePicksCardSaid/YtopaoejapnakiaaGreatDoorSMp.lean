/- The condition of the tied rows, opened for printing: OkP. -/
import Derived.Test.YtopaoejapnakiaaGreatDoorSM
import Derived.Test.YtopaoejapnakiaaGreatDoorTA
namespace Go.Proofs.YtopaoejapnakiaaGreatDoor.Mf
open Go.ChangeShapes Go.WideShapes Go.ChangeAt Go.RowKit Go.Shelf Go.Deep Go.Lib
set_option maxRecDepth 100000 in
theorem tz_of_reads {W : World} (h : VarReads Tryz.prog W "math/bits.deBruijn64tab" Rows.laid_math_bits_deBruijn64tab) : TzV W := by
  obtain ⟨g, t, cs, fuel, p, hg, ht, hv, hr⟩ := h
  obtain rfl : g = 8 := Option.some.inj (hg.symm.trans (show Tryz.prog.globalNamed "math/bits.deBruijn64tab" = some 8 by kernel_rfl))
  obtain rfl : t = 182 := Option.some.inj (ht.symm.trans (show (Tryz.prog.globals[8]?).map (·.type) = some 182 by kernel_rfl))
  unfold Rows.laid_math_bits_deBruijn64tab at hr
  obtain ⟨f2, d, q, hd, hr2⟩ := array_elem Tryz.underlying182 hr 15 (by decide)
  have hc1 : Tryz.prog.cellsOf 5 = 1 := by kernel_rfl
  rw [hc1] at hr2
  obtain ⟨z, hcz, hdq, _⟩ := DataW.trod_int Tryz.underlying5 hr2
  obtain ⟨rfl, _⟩ := Prod.mk.inj hdq
  have hz : z = 4 := by
    have hd : some (DataW.lit (.int .u8 4) : DataW Unit) = some (.lit (.int .u8 z)) := hd
    injection hd with hd
    injection hd with hd
    injection hd with _ hd
    exact hd.symm
  subst hz
  have h2 : cs.toList[15]? = some (.int .u8 4) := by
    have := congrArg (·[0]?) hcz
    simpa [List.getElem?_take, List.getElem?_drop] using this
  have h3 := World.var?_cell (show Tryz.prog.globalNamed "math/bits.deBruijn64tab" = some 8 by kernel_rfl) hv 15
  unfold TzV
  rw [h3]
  simpa using h2
/-- What the laws of printing need of memory. -/
structure OkP (w : World) : Prop where
  ok : Okw w
  tz : TzV w
  lt : 8 < w.heap.size
theorem OkP.keep {w w' : World} (h : OkP w) (hb : Below w.heap.size w w') : OkP w' := ⟨h.ok.keep hb, h.tz.keep hb h.lt, Nat.lt_of_lt_of_le h.lt hb.size⟩
theorem OkP.of {w : World} (h : Okw w) (ht : TzV w) : OkP w := by
  refine ⟨h, ht, ?_⟩
  unfold TzV World.cell? at ht
  cases ho : w.heap[8]? with
  | none => simp [ho] at ht
  | some o => exact (Array.getElem?_eq_some_iff.1 ho).1
theorem okp_of_laid {W : World} (h : laidMetH Tryz.prog laidM W) : OkP W := by
  have hO := okw_of_laid h
  rw [MakeChecks.laidMetH_plain _ _ _ (by kernel_rfl)] at h
  exact .of hO (tz_of_reads (Lib.laidMet.reads h (.tail _ (.head _))))
end Go.Proofs.YtopaoejapnakiaaGreatDoor.Mf
