/- Walks: cmp.Compare, cmp.Or, strings.Compare, charset.better (which of two rows goes ahead: any answer will do here). -/
import Derived.Test.YtkfjmcidcnpijaaGreatDoorG24
import Derived.Lib.Bytealg
import Derived.Deep.RegionHeld3
namespace Go.Proofs.YtkfjmcidcnpijaaGreatDoor.Sg
open Go.RowKit Pl Go.Lib

set_option maxRecDepth 100000 in
theorem isNaN_any (a : Int) (w : World) : Calls Tryz.prog 88 #[.int .i64 a] w fun e w' => e = .returned (.bool false) ∧ w = w' := by
  have h : (a != a) = false := by simp
  go_enter Tryz.func88, Tryz.ntmps88
  go_wp2
  go_returns
  exact ⟨by simp, rfl⟩
set_option maxRecDepth 100000 in
theorem compareI_any (a b : Int) (w : World) : Calls Tryz.prog 65 #[.int .i64 a, .int .i64 b] w fun e w' => (∃ k : Int, e = .returned (.int .i64 k)) ∧ w = w' := by
  have HN := Lib.hid (fun a => isNaN_any a w)
  go_enter Tryz.func65, Tryz.ntmps65
  go_wp2_with fail
  refine (HN.out a).mono ?_
  rintro _ _ ⟨rfl, rfl⟩
  go_wp2_with fail
  refine (HN.out b).mono ?_
  rintro _ _ ⟨rfl, rfl⟩
  by_cases h1 : a < b
  · have h1 : decide (a < b) = true := decide_eq_true h1
    go_wp2_with fail
    go_returns
    exact ⟨⟨_, rfl⟩, rfl⟩
  have h1 : decide (a < b) = false := decide_eq_false h1
  by_cases h2 : b < a
  · have h2 : decide (b < a) = true := decide_eq_true h2
    go_wp2_with fail
    go_returns
    exact ⟨⟨_, rfl⟩, rfl⟩
  have h2 : decide (b < a) = false := decide_eq_false h2
  go_wp2_with fail
  go_returns
  exact ⟨⟨_, rfl⟩, rfl⟩
set_option maxRecDepth 100000 in
theorem compareStr_any (a b : ByteArray) (w : World) : Calls Tryz.prog 89 #[.string a, .string b] w fun e w' => e = .returned (.int .i64 (Lib.compareBytes a.data.toList b.data.toList)) ∧ w = w' := by
  go_enter Tryz.func89, Tryz.ntmps89
  go_wp2
  rw [run_callFunc_extern Tryz.func121 (by kernel_rfl) (by kernel_rfl) (by kernel_rfl) (e := Extern.BytealgCompare.compare) (by kernel_rfl), Lib.run_compareString]
  simp only [Result.andThen]
  rw [Oper.upon_value]
  go_wp2
  go_ret
  exact ⟨rfl, rfl⟩
set_option maxRecDepth 100000 in
theorem compareS_any (a b : ByteArray) (w : World) : Calls Tryz.prog 67 #[.string a, .string b] w fun e w' => (∃ k : Int, e = .returned (.int .i64 k)) ∧ w = w' := by
  have HC := Lib.hid (compareStr_any a b w)
  go_enter Tryz.func67, Tryz.ntmps67
  go_wp2_with fail
  refine HC.out.mono ?_
  rintro _ _ ⟨rfl, rfl⟩
  go_wp2_with fail
  go_returns
  exact ⟨⟨_, rfl⟩, rfl⟩
set_option maxRecDepth 100000 in
theorem or_any (b : Nat) (x y z : Int) (c : Nat) (w : World) (h0 : w.cell? ⟨b, 0, none⟩ = some (.int .i64 x)) (h1 : w.cell? ⟨b, 1, none⟩ = some (.int .i64 y)) (h2 : w.cell? ⟨b, 2, none⟩ = some (.int .i64 z)) :
    Calls Tryz.prog 66 #[.slice (some ⟨b, 0, none⟩) 3 c] w fun e w' => (∃ k : Int, e = .returned (.int .i64 k)) ∧ w = w' := by
  go_enter Tryz.func66, Tryz.ntmps66
  go_wp2
  go_loop [8] (fun i => ∃ j : Nat, j ≤ 3 ∧ i = .int .i64 j) (fun i => 3 - (intOf i).toNat)
  case atStart => exact ⟨0, by omega, rfl⟩
  case round =>
    obtain ⟨j, hj, rfl⟩ := hrel
    by_cases hlt : j < 3
    · obtain ⟨q, hq⟩ : ∃ q : Int, w.cell? ⟨b, j, none⟩ = some (.int .i64 q) := by
        rcases (by omega : j = 0 ∨ j = 1 ∨ j = 2) with rfl | rfl | rfl
        · exact ⟨_, h0⟩
        · exact ⟨_, h1⟩
        · exact ⟨_, h2⟩
      clear h0 h1 h2
      have j0 : (0 : Int) ≤ (j : Int) := by omega
      have j1 : (j : Int) < 3 := by omega
      by_cases hz : q = 0
      · subst hz
        go_wp2
        go_round
        case rel => exact ⟨j + 1, by omega, by go_num⟩
        case measure => simp [intOf]; omega
      · have hz : (q != 0) = true := by simp [hz]
        go_wp2
        go_returns
        exact ⟨⟨_, rfl⟩, rfl⟩
    · obtain rfl : j = 3 := by omega
      clear h0 h1 h2
      go_wp2
      go_returns
      exact ⟨⟨_, rfl⟩, rfl⟩
theorem or_new (x y z : Int) (c : Nat) (w : World) : Calls Tryz.prog 66 #[.slice (some ⟨w.heap.size, 0, none⟩) 3 c] (w.alloc (.cells #[.int .i64 x, .int .i64 y, .int .i64 z] IntE)) fun e w' => (∃ k : Int, e = .returned (.int .i64 k)) ∧ w.alloc (.cells #[.int .i64 x, .int .i64 y, .int .i64 z] IntE) = w' :=
  or_any _ x y z c _ (by rw [(Blk.new w IntE _).cell]; rfl) (by rw [(Blk.new w IntE _).cell]; rfl) (by rw [(Blk.new w IntE _).cell]; rfl)
set_option maxRecDepth 100000 in
set_option maxHeartbeats 1600000 in
theorem better_any (r q : RowV) (hr : r.code.size ≤ maxLen) (hq : q.code.size ≤ maxLen) (w : World) :
    Calls Tryz.prog 46 #[rowV r, rowV q] w fun e w' => (∃ k : Bool, e = .returned (.bool k)) ∧ Below w.heap.size w w' := by
  obtain ⟨ca, ta, fa⟩ := r
  obtain ⟨cb, tb, fb⟩ := q
  have HI := Lib.hid (fun w => compareI_any fa fb w)
  have HS := Lib.hid (fun w => compareS_any ca cb w)
  have HO := Lib.hid (fun x y z c w => or_new x y z c w)
  unfold maxLen at hr hq
  obtain ⟨W, hW⟩ : ∃ W, w.alloc (.cells #[.string ca, .string ta, .int .i64 fa] 50) = W := ⟨_, rfl⟩
  have hb : Below w.heap.size w W := hW ▸ (Below.refl _ _).alloc (Nat.le_refl _) _
  have hk : Blk W w.heap.size 50 #[.string ca, .string ta, .int .i64 fa] := hW ▸ Blk.new _ _ _
  obtain ⟨V, hV⟩ : ∃ V, W.alloc (.cells #[.string cb, .string tb, .int .i64 fb] 50) = V := ⟨_, rfl⟩
  have hb2 : Below W.heap.size W V := hV ▸ (Below.refl _ _).alloc (Nat.le_refl _) _
  have hk2 : Blk V W.heap.size 50 #[.string cb, .string tb, .int .i64 fb] := hV ▸ Blk.new _ _ _
  have hk := hk.below hb2 hk.lt
  have HB := Lib.hid (hb.trans (hb2.mono hb.size))
  have a0 : V.cell? ⟨w.heap.size, 0, none⟩ = some (.string ca) := by rw [hk.cell]; rfl
  have a2 : V.cell? ⟨w.heap.size, 2, none⟩ = some (.int .i64 fa) := by rw [hk.cell]; rfl
  have b0 : V.cell? ⟨W.heap.size, 0, none⟩ = some (.string cb) := by rw [hk2.cell]; rfl
  have b2 : V.cell? ⟨W.heap.size, 2, none⟩ = some (.int .i64 fb) := by rw [hk2.cell]; rfl
  have HK := Lib.hid hk
  have HK2 := Lib.hid hk2
  have hr : ca.size ≤ 2 ^ 63 - 1 := hr
  have hq : cb.size ≤ 2 ^ 63 - 1 := hq
  clear hb hk hb2 hk2
  go_enter Tryz.func46, Tryz.ntmps46
  go_wp2_with fail
  refine (HI.out V).mono ?_
  rintro _ _ ⟨⟨k1, rfl⟩, rfl⟩
  go_wp2_with fail
  have hal : ∀ o, (V.drew.alloc o).cell? ⟨w.heap.size, 0, none⟩ = some (.string ca) ∧ (V.drew.alloc o).cell? ⟨W.heap.size, 0, none⟩ = some (.string cb) := fun o =>
    have h : Below V.heap.size V (V.drew.alloc o) := (Below.refl _ _).drew.alloc (Nat.le_refl _) _
    ⟨(h.cell (p := ⟨w.heap.size, 0, none⟩) HK.out.lt).trans a0, (h.cell (p := ⟨W.heap.size, 0, none⟩) HK2.out.lt).trans b0⟩
  have HAL := Lib.hid hal
  clear hal
  go_region_held3 (fun w' => w'.cell? ⟨w.heap.size, 0, none⟩ = some (.string ca) ∧ w'.cell? ⟨W.heap.size, 0, none⟩ = some (.string cb)) (first | exact ⟨a0, b0⟩ | exact HAL.out _) (first | (go_at_call 67; refine (HS.out _).mono ?_; rintro _ _ ⟨⟨k2, rfl⟩, rfl⟩) | (go_at_call 66; refine (HO.out k1 (IntKind.i64.wrap ((ca.size : Int) - cb.size)) k2 3 V.drew).mono ?_; rintro _ _ ⟨⟨k3, rfl⟩, rfl⟩))
  go_wp2_with fail
  go_returns
  exact ⟨⟨_, rfl⟩, HB.out.drew.alloc HB.out.size _⟩
end Go.Proofs.YtkfjmcidcnpijaaGreatDoor.Sg
