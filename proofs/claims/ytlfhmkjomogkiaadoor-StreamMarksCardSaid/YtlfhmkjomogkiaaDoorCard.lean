/- The condition of the tied rows (utf8.rows reads as the program's text lays it), opened; and a world that meets it. -/
import Derived.Test.YtlfhmkjomogkiaaDoorRows
import Derived.Test.YtlfhmkjomogkiaaDoorUa
import Derived.ProofKit
import Derived.LaidMore
import Derived.OpenShut
import Derived.Stop.Joined
namespace Go.Proofs.YtlfhmkjomogkiaaDoor.Utf
open Go.ChangeShapes Go.WideShapes Go.ChangeAt Go.RowKit

theorem own : ownKnob Tryd.prog.godebug = none := by kernel_rfl
theorem laidOut : laidOutB Tryd.prog = true := by kernel_rfl
abbrev laidR : List (String × DataW Unit) := [("inkhorn/utf8.rows", Rows.laid_inkhorn_utf8_rows)]
theorem gRows : Tryd.prog.globalNamed "inkhorn/utf8.rows" = some 0 := by kernel_rfl
theorem tRows : (Tryd.prog.globals[0]?).map (·.type) = some 84 := by kernel_rfl
theorem cells4 : Tryd.prog.cellsOf 84 = 12 := by kernel_rfl
theorem cells1 : Tryd.prog.cellsOf 83 = 3 := by kernel_rfl
theorem cellsI : Tryd.prog.cellsOf 3 = 1 := by kernel_rfl
theorem cellsR : Tryd.prog.cellsOf 21 = 1 := by kernel_rfl
theorem door_met (os : Os) (args : Array Value) : laidMetH Tryd.prog laidR ((World.doorLaid Tryd.prog 400 os).forCall (fun _ _ => 0) ⟨#[], args, []⟩).memory :=
  laidMetH_of_parts3 (fuel := 8) (laidMet_of_run' 8 (by kernel_rfl) (by kernel_rfl)) (by kernel_rfl) (by kernel_rfl)
set_option maxRecDepth 100000 in
theorem open_row {H : Type} {enc : TypeId × Value → H} {W : World} {base : Nat} {sp : Nat → Bool} {held : Bool} {f : Nat} {cs : List Value} {x : DataW H × List MemPlace} {a b c : Int}
    (h : DataW.trod enc Tryd.prog W base sp held f 83 cs = some x) (hx : x.1 = .agg [.lit (.int .i32 a), .lit (.int .i64 b), .lit (.int .i64 c)]) : cs = [.int .i32 a, .int .i64 b, .int .i64 c] := by
  obtain ⟨ys, n, rfl, rfl, hl, hyl, hf⟩ := DataW.trod_struct Tryd.underlying83 h
  rw [cells1] at hl
  match cs, hl with
  | [c0, c1, c2], _ =>
    match ys, hyl with
    | [y0, y1, y2], _ =>
      have f0 : DataW.trod enc Tryd.prog W base sp held n 21 (List.take (Tryd.prog.cellsOf 21) [c0, c1, c2]) = some y0 := hf 0 _ rfl
      have f1 : DataW.trod enc Tryd.prog W base sp held n 3 (List.take (Tryd.prog.cellsOf 3) [c1, c2]) = some y1 := hf 1 _ rfl
      have f2 : DataW.trod enc Tryd.prog W base sp held n 3 (List.take (Tryd.prog.cellsOf 3) [c2]) = some y2 := hf 2 _ rfl
      rw [cellsR] at f0
      rw [cellsI] at f1 f2
      obtain ⟨k0, e0, g0, _⟩ := DataW.trod_int (x := y0) Tryd.underlying21 f0
      obtain ⟨k1, e1, g1, _⟩ := DataW.trod_int (x := y1) Tryd.underlying3 f1
      obtain ⟨k2, e2, g2, _⟩ := DataW.trod_int (x := y2) Tryd.underlying3 f2
      simp only [List.map_cons, List.map_nil, g0, g1, g2, DataW.agg.injEq, List.cons.injEq, DataW.lit.injEq, Lit.int.injEq, true_and, and_true] at hx
      obtain ⟨rfl, rfl, rfl⟩ := hx
      simp at e0 e1 e2
      rw [e0, e1, e2]
set_option maxRecDepth 100000 in
theorem rl_of_laid {W : World} (h : laidMetH Tryd.prog laidR W) : RL W := by
  rw [MakeChecks.laidMetH_plain _ _ _ (by kernel_rfl)] at h
  obtain ⟨ps, ⟨g0, t0, cs0, f0, p0, q0, hg0, ht0, hv0, hd0, _⟩, _, _⟩ := h
  obtain rfl := Option.some.inj (gRows.symm.trans hg0)
  obtain rfl := Option.some.inj (tRows.symm.trans ht0)
  obtain ⟨xs, m, rfl, hx1, hlen, hn4, hel⟩ := DataW.trod_array Tryd.underlying84 hd0
  rw [cells4] at hlen
  rw [cells1] at hel
  have hcs : cs0.toList = rowsCells.toList := by
    have hlen12 : cs0.toList.length = 12 := hlen
    match xs, hn4 with
    | [x0, x1, x2, x3], _ =>
      simp only [Prod.mk.injEq, Rows.laid_inkhorn_utf8_rows, DataW.agg.injEq, List.map_cons, List.map_nil, List.cons.injEq, and_true] at hx1
      obtain ⟨⟨a0, a1, a2, a3⟩, _⟩ := hx1
      have r0 := open_row (x := x0) (hel 0 (by decide)) a0.symm
      have r1 := open_row (x := x1) (hel 1 (by decide)) a1.symm
      have r2 := open_row (x := x2) (hel 2 (by decide)) a2.symm
      have r3 := open_row (x := x3) (hel 3 (by decide)) a3.symm
      have hs : cs0.toList = (cs0.toList.drop 0).take 3 ++ ((cs0.toList.drop 3).take 3 ++ ((cs0.toList.drop 6).take 3 ++ (cs0.toList.drop 9).take 3)) := by
        generalize cs0.toList = l at *
        match l, hlen12 with
        | [_, _, _, _, _, _, _, _, _, _, _, _], _ => rfl
      refine hs.trans ?_
      rw [show 0 * 3 = 0 from rfl] at r0
      rw [show 1 * 3 = 3 from rfl] at r1
      rw [show 2 * 3 = 6 from rfl] at r2
      rw [show 3 * 3 = 9 from rfl] at r3
      rw [r0, r1, r2, r3]
      rfl
  have hcs' : cs0 = rowsCells := Array.toList_inj.1 hcs
  subst hcs'
  simp only [World.var?, hg0, Option.bind_some] at hv0
  split at hv0
  · rename_i cs t fr hh
    simp only [Option.some.injEq] at hv0
    subst hv0
    exact ⟨t, fr, hh⟩
  · cases hv0
end Go.Proofs.YtlfhmkjomogkiaaDoor.Utf
