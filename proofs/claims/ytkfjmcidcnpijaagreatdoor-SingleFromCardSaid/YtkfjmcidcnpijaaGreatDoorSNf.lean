/- The condition of the tied rows of the Mapfile cards (eight variables laid), opened: Okw; and a world that meets it. -/
import Derived.Test.YtkfjmcidcnpijaaGreatDoorRows
import Derived.Test.YtkfjmcidcnpijaaGreatDoorRD
import Derived.Test.YtkfjmcidcnpijaaGreatDoorKM
import Derived.ProofKit
import Derived.LaidMore
import Derived.OpenShut
import Derived.PinnedBridge
import Derived.Lib.LaidIn
import Derived.Lib.LaidU8T
import Derived.Lib.LaidCaseMet
import Derived.Deep.Slices
import Derived.Deep.Strs
import Derived.SizedLaws
import Derived.Test.YtkfjmcidcnpijaaGreatDoorTA
namespace Go.Proofs.YtkfjmcidcnpijaaGreatDoor.Mf
open Go.ChangeShapes Go.WideShapes Go.ChangeAt Go.RowKit Go.Shelf Go.Deep

theorem own : ownKnob Tryz.prog.godebug = none := by kernel_rfl
theorem laidOut : laidOutB Tryz.prog = true := by kernel_rfl
abbrev laid6 : List (String × DataW Unit) := [("math/bits.deBruijn32tab", Rows.laid_math_bits_deBruijn32tab), ("math/bits.deBruijn64tab", Rows.laid_math_bits_deBruijn64tab), ("internal/strconv.uint64pow10", Rows.laid_internal_strconv_uint64pow10), ("unicode/utf8.acceptRanges", Rows.laid_unicode_utf8_acceptRanges)]
abbrev laidM : List (String × DataW Unit) := [("math/bits.deBruijn32tab", Rows.laid_math_bits_deBruijn32tab), ("math/bits.deBruijn64tab", Rows.laid_math_bits_deBruijn64tab), ("internal/strconv.uint64pow10", Rows.laid_internal_strconv_uint64pow10), ("unicode/utf8.acceptRanges", Rows.laid_unicode_utf8_acceptRanges), ("unicode.CaseRanges", Rows.laid_unicode_CaseRanges), ("unicode/utf8.first", Rows.laid_unicode_utf8_first)]
theorem accept_eq : (Rows.laid_unicode_utf8_acceptRanges : DataW Unit) = Lib.acceptData := by kernel_rfl
theorem first_eq : Rows.laid_unicode_utf8_first = Lib.firstData := Pinned.utf8First_eq
theorem case_eq : Rows.laid_unicode_CaseRanges = Lib.caseData := Pinned.caseRanges_eq
theorem okw_of_laid {W : World} (h : laidMetH Tryz.prog laidM W) : Okw W := by
  rw [show laidM = [("math/bits.deBruijn32tab", Rows.laid_math_bits_deBruijn32tab), ("math/bits.deBruijn64tab", Rows.laid_math_bits_deBruijn64tab), ("internal/strconv.uint64pow10", Rows.laid_internal_strconv_uint64pow10), ("unicode/utf8.acceptRanges", Lib.acceptData), ("unicode.CaseRanges", Lib.caseData), ("unicode/utf8.first", Lib.firstData)] by unfold laidM; rw [accept_eq, first_eq, case_eq]] at h
  rw [MakeChecks.laidMetH_plain _ _ _ (by kernel_rfl)] at h
  have hT : TabsM W := utf8Tabs_of_readsT (U8Types.of196 lays196) ⟨by kernel_rfl, by kernel_rfl, by kernel_rfl, by kernel_rfl, by kernel_rfl, by kernel_rfl, by kernel_rfl⟩
    (Lib.laidMet.reads h (.tail _ (.tail _ (.tail _ (.tail _ (.tail _ (.head _))))))) (Lib.laidMet.reads h (.tail _ (.tail _ (.tail _ (.head _)))))
  exact ⟨trivial, hT⟩

/-- The block of the table of cases, of the witness. -/
noncomputable def caseAt : Nat := (World.doorLaid Tryz.prog 72 default).heap.size
/-- A world for the witness: what the door's run leaves, and the two pinned tables. -/
noncomputable def laidWorld (os : Os) : World :=
  let w0 := World.doorLaid Tryz.prog 72 os
  let N := w0.heap.size
  let put (h : Array Obj) (g : Nat) (cs : Array Value) : Array Obj := h.modify g fun
    | .cells _ t frozen => .cells cs t frozen
    | o => o
  let h1 := put w0.heap 0 (Lib.firstTab.map fun z => Value.int .u8 z).toArray
  let h2 := put h1 3 #[.slice (some ⟨N, 0, none⟩) 336 336]
  { w0 with heap := h2.push (.cells Lib.caseCells5 221) }
theorem laid_in6 (os : Os) (args : Array Value) : LaidIn Tryz.prog ((laidWorld os).forCall (fun _ _ => 0) ⟨#[], args, []⟩).memory laid6 ((List.range (World.doorLaid Tryz.prog 72 default).heap.size).filter fun b => b != 0 && b != 3) :=
  LaidIn.of_run (l := laid6) _ 8 (by kernel_rfl) (by kernel_rfl) (by kernel_rfl) (by kernel_rfl)
theorem laid_inF (os : Os) (args : Array Value) : LaidIn Tryz.prog ((laidWorld os).forCall (fun _ _ => 0) ⟨#[], args, []⟩).memory [("unicode/utf8.first", Lib.firstData)] [0] :=
  LaidIn.of_run (l := [("unicode/utf8.first", Lib.firstData)]) _ 8 (by kernel_rfl) (by kernel_rfl) (by kernel_rfl) (by kernel_rfl)

theorem c21 : Tryz.prog.cellsOf 21 = 1 := by kernel_rfl
theorem c51 : Tryz.prog.cellsOf 117 = 1 := by kernel_rfl
theorem c206 : Tryz.prog.cellsOf 219 = 3 := by kernel_rfl
theorem c208 : Tryz.prog.cellsOf 221 = 5 := by kernel_rfl
set_option maxRecDepth 100000 in
open Go.Lib in
theorem caseRow_readsM {H : Type} {enc : TypeId × Value → H} {w : World} {base : Nat} {sp : Nat → Bool} {held : Bool} (x : CaseRow) (hw : rowWf x = true) (fuel : Nat) :
    DataW.trod enc Tryz.prog w base sp held (fuel + 3) 221 (cells5 x) = some (rowData x, []) := by
  simp only [rowWf, Bool.and_eq_true] at hw
  obtain ⟨⟨⟨⟨w0, w1⟩, w2⟩, w3⟩, w4⟩ := hw
  have r3 : List.range 3 = [0, 1, 2] := rfl
  simp [DataW.trod, Tryz.underlying221, Tryz.underlying117, Tryz.underlying21, Tryz.underlying219, c208, c51, c21, c206, cells5, rowData, w0, w1, w2, w3, w4, r3]
set_option maxRecDepth 100000 in
open Go.Lib in
theorem case_slice_readsM {w : World} {R oR : Nat} {T : Array CaseRow} (hT : CaseTab R oR T w)
    (hwf : ∀ i, i < T.size → rowWf (T.getD i (0, 0, 0, 0, 0)) = true) (hn : T.size ≤ maxLen) (fuel : Nat) :
    DataW.trod (fun _ => ()) Tryz.prog w 0 (fun _ => true) false (fuel + 4) 205 [.slice (some ⟨R, oR, none⟩) T.size T.size] =
      some (.slice ((List.range T.size).map fun i => rowData (T.getD i (0, 0, 0, 0, 0))) [], MemPlace.row ⟨R, oR, none⟩ (T.size * 5)) := by
  have helem : ∀ i ∈ List.range T.size, (w.cells? 0 ((⟨R, oR, none⟩ : Addr).add (i * 5)) 5).bind (DataW.trod (fun _ => ()) Tryz.prog w 0 (fun _ => true) false (fuel + 3) 221) = some ((fun i => ((rowData (T.getD i (0, 0, 0, 0, 0)) : DataW Unit), ([] : List MemPlace))) i) := by
    intro i hi
    have hi' := List.mem_range.1 hi
    rw [case_cells5 hT i hi']
    exact caseRow_readsM _ (hwf i hi') fuel
  show DataW.trod _ _ _ _ _ _ ((fuel + 3) + 1) _ _ = _
  unfold DataW.trod
  simp only [Tryz.underlying205, c208]
  rw [if_pos ⟨Nat.zero_le _, Nat.le_refl _, hn⟩, mapM_some _ _ _ helem]
  simp [Function.comp_def]
set_option maxRecDepth 100000 in
open Go.Lib in
theorem laid_case {w : World} (R : Nat) (t : TypeId) (hgR : 3 ≠ R)
    (hvar : w.heap[3]? = some (.cells #[.slice (some ⟨R, 0, none⟩) caseA.size caseA.size] 205 (0, 0)))
    (hblk : w.heap[R]? = some (.cells caseCells5 t (0, 0))) : LaidIn Tryz.prog w [("unicode.CaseRanges", caseData)] [3, R] := by
  have hT := caseTab_of_block hblk
  have hread := case_slice_readsM hT caseA_wf (by rw [caseA_size]; unfold maxLen; omega) 0
  rw [case_rows_data] at hread
  have n13 : Tryz.prog.globalNamed "unicode.CaseRanges" = some 3 := by kernel_rfl
  have hv : w.var? Tryz.prog "unicode.CaseRanges" = some #[.slice (some ⟨R, 0, none⟩) caseA.size caseA.size] := by simp [World.var?, n13, hvar]
  refine LaidIn.one [3, R] n13 (t := 205) (by kernel_rfl) hv hread ?_ ?_ ?_
  · refine List.nodup_append.2 ⟨row_nodup _ _, row_nodup _ _, ?_⟩
    intro a ha b hb e
    obtain ⟨i, _, rfl⟩ := MemPlace.mem_row.1 ha
    obtain ⟨j, _, rfl⟩ := MemPlace.mem_row.1 hb
    simp at e
    exact hgR e.1
  · intro b off hp
    rcases List.mem_append.1 hp with hp | hp
    · obtain ⟨i, hi, e⟩ := MemPlace.mem_row.1 hp
      cases e
      refine ⟨⟨_, _, hvar⟩, fun u v hc => ?_⟩
      obtain rfl : i = 0 := by simpa using hi
      rw [Lib.cell_of_heap hvar] at hc
      simp at hc
    · obtain ⟨i, hi, e⟩ := MemPlace.mem_row.1 hp
      cases e
      refine ⟨⟨_, _, hblk⟩, fun u v hc => ?_⟩
      obtain ⟨c0, c1, c2, c3, c4⟩ := hT (i / 5) (by omega)
      have hi5 : 0 + i = 0 + i / 5 * 5 + i % 5 := by omega
      simp only at hc
      rw [hi5] at hc
      have hm : i % 5 < 5 := Nat.mod_lt _ (by omega)
      match hk : i % 5, hm with
      | 0, _ => rw [hk, Nat.add_zero, c0] at hc; cases hc
      | 1, _ => rw [hk, c1] at hc; cases hc
      | 2, _ => rw [hk, c2] at hc; cases hc
      | 3, _ => rw [hk, c3] at hc; cases hc
      | 4, _ => rw [hk, c4] at hc; cases hc
  · intro x hx
    rcases List.mem_append.1 hx with hx | hx
    · obtain ⟨i, _, rfl⟩ := MemPlace.mem_row.1 hx
      exact List.mem_cons_self
    · obtain ⟨i, _, rfl⟩ := MemPlace.mem_row.1 hx
      exact List.mem_cons_of_mem _ List.mem_cons_self
theorem laid_inC (os : Os) (args : Array Value) : LaidIn Tryz.prog ((laidWorld os).forCall (fun _ _ => 0) ⟨#[], args, []⟩).memory [("unicode.CaseRanges", Lib.caseData)] [3, (World.doorLaid Tryz.prog 72 default).heap.size] :=
  laid_case _ 221 (of_decide_eq_true (by kernel_rfl)) (by kernel_rfl) (by kernel_rfl)
theorem laid_met (os : Os) (args : Array Value) : laidMet Tryz.prog laidM ((laidWorld os).forCall (fun _ _ => 0) ⟨#[], args, []⟩).memory := by
  have h := ((laid_in6 os args).append (laid_inC os args) (by kernel_rfl)).append (laid_inF os args) (by kernel_rfl)
  have h2 := h.met
  rw [show laidM = (laid6 ++ [("unicode.CaseRanges", Lib.caseData)]) ++ [("unicode/utf8.first", Lib.firstData)] by unfold laidM laid6; rw [first_eq, case_eq]; rfl]
  exact h2
end Go.Proofs.YtkfjmcidcnpijaaGreatDoor.Mf
namespace Go.Proofs.YtkfjmcidcnpijaaGreatDoor.Mf
open Go.ChangeShapes Go.WideShapes Go.ChangeAt Go.RowKit Go.Shelf Go.Deep Go.Lib
set_option maxRecDepth 100000 in
theorem tz_of_reads {W : World} (h : VarReads Tryz.prog W "math/bits.deBruijn64tab" Rows.laid_math_bits_deBruijn64tab) : TzV W := by
  obtain ⟨g, t, cs, fuel, p, hg, ht, hv, hr⟩ := h
  obtain rfl : g = 6 := Option.some.inj (hg.symm.trans (show Tryz.prog.globalNamed "math/bits.deBruijn64tab" = some 6 by kernel_rfl))
  obtain rfl : t = 223 := Option.some.inj (ht.symm.trans (show (Tryz.prog.globals[6]?).map (·.type) = some 223 by kernel_rfl))
  unfold Rows.laid_math_bits_deBruijn64tab at hr
  obtain ⟨f2, d, q, hd, hr2⟩ := array_elem Tryz.underlying223 hr 15 (by decide)
  have hc1 : Tryz.prog.cellsOf 5 = 1 := by kernel_rfl
  rw [hc1] at hr2
  obtain ⟨z, hcz, hdq, _⟩ := DataW.trod_int Tryz.underlying5 hr2
  obtain ⟨rfl, _⟩ := Prod.mk.inj hdq
  have hz : z = 4 := by
    have hd : some (DataW.lit (.int .u8 4) : DataW Unit) = some (.lit (.int .u8 z)) := hd
    injection hd with hd
    injection hd with hd
    injection hd with _ hd
    exact hd.symm
  subst hz
  have h2 : cs.toList[15]? = some (.int .u8 4) := by
    have := congrArg (·[0]?) hcz
    simpa [List.getElem?_take, List.getElem?_drop] using this
  have h3 := World.var?_cell (show Tryz.prog.globalNamed "math/bits.deBruijn64tab" = some 6 by kernel_rfl) hv 15
  unfold TzV
  rw [h3]
  simpa using h2
/-- What the laws of printing need of memory. -/
structure OkP (w : World) : Prop where
  ok : Okw w
  tz : TzV w
  lt : 6 < w.heap.size
theorem OkP.keep {w w' : World} (h : OkP w) (hb : Below w.heap.size w w') : OkP w' := ⟨h.ok.keep hb, h.tz.keep hb h.lt, Nat.lt_of_lt_of_le h.lt hb.size⟩
theorem OkP.of {w : World} (h : Okw w) (ht : TzV w) : OkP w := by
  refine ⟨h, ht, ?_⟩
  unfold TzV World.cell? at ht
  cases ho : w.heap[6]? with
  | none => simp [ho] at ht
  | some o => exact (Array.getElem?_eq_some_iff.1 ho).1
theorem okp_of_laid {W : World} (h : laidMetH Tryz.prog laidM W) : OkP W := by
  have hO := okw_of_laid h
  rw [MakeChecks.laidMetH_plain _ _ _ (by kernel_rfl)] at h
  exact .of hO (tz_of_reads (Lib.laidMet.reads h (.tail _ (.head _))))
end Go.Proofs.YtkfjmcidcnpijaaGreatDoor.Mf
