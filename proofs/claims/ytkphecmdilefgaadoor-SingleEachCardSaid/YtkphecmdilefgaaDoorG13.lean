/- Walks: the closure of marks.Sort, slices.insertionSortCmpFunc, stableCmpFunc, SortStableFunc, on rows that are sorted already. -/
import Derived.Test.YtkphecmdilefgaaDoorG8
import Derived.BigRegion
import Derived.Deep.RegionHeld3
namespace Go.Proofs.YtkphecmdilefgaaDoor.Sg
open Go.RowKit Pl Go.Lib

/-- The classer of the small database, in an interface. -/
abbrev smallI : Value := .iface 72 (.agg #[])
theorem class17_any (r : Int) (w : World) :
    Calls Tryd.prog 94 #[.agg #[], .int .i32 r] w fun e w' => e = .returned (.int .i64 (cls r)) ∧ Below w.heap.size w w' := by
  have HC := Lib.hid (fun w => class_any (.agg #[]) rfl r w)
  have hb : Below w.heap.size w (w.alloc (.cells #[] 72)) := (Below.refl _ _).alloc (Nat.le_refl _) _
  go_enter Tryd.func94, Tryd.ntmps94
  go_wp2_with fail
  refine (HC.out _).mono ?_
  rintro _ w1 ⟨rfl, hb1⟩
  go_wp2_with fail
  go_returns
  exact ⟨rfl, hb.trans (hb1.mono hb.size)⟩
theorem cmp_any (k : Nat) (a b : Int) (w : World) (hk : w.cell? ⟨k, 0, none⟩ = some smallI) (hkl : k < w.heap.size) :
    Calls Tryd.prog 70 #[.int .i32 a, .int .i32 b, .pointer (some ⟨k, 0, none⟩)] w fun e w' => e = .returned (.int .i64 (cls a - cls b)) ∧ Below w.heap.size w w' := by
  have HC := Lib.hid (fun r w => class17_any r w)
  have hna := cls_nonneg a; have hnb := cls_nonneg b
  have hla := cls_le a; have hlb := cls_le b
  go_enter Tryd.func70, Tryd.ntmps70
  go_wp2_with fail
  go_region_held3 (fun w' => w'.cell? ⟨k, 0, none⟩ = some smallI) (first | exact hk | exact (hb2.cell (p := ⟨k, 0, none⟩) (Nat.lt_of_lt_of_le hkl hb1.size)).trans ((hb1.cell (p := ⟨k, 0, none⟩) hkl).trans hk) | exact (hb1.cell (p := ⟨k, 0, none⟩) hkl).trans hk) (first | (go_at_call 94; refine (HC.out a w.drew).mono ?_; rintro _ w1 ⟨rfl, hb1⟩) | (go_at_call 94; refine (HC.out b w1).mono ?_; rintro _ w2 ⟨rfl, hb2⟩))
  have hw : IntKind.i64.wrap (cls a - cls b) = cls a - cls b := IntWalk.i64_in _ (by omega)
  go_wp2_with fail
  go_returns
  exact ⟨congrArg (fun x => Ending.returned (.int .i64 x)) hw, ((Below.refl w.heap.size w).drew.trans hb1).trans (hb2.mono hb1.size)⟩
end Go.Proofs.YtkphecmdilefgaaDoor.Sg
