/- Walks: api.Scalar, utf8.Len, lead, second: over the table utf8.rows as the program's text lays it. -/
import Derived.Test.YtlfhmkjomogkiaaDoorRows
import Derived.Test.YtlfhmkjomogkiaaDoorU1
import Derived.Test.YtlfhmkjomogkiaaDoorRd
import Derived.LoopN
namespace Go.Proofs.YtlfhmkjomogkiaaDoor.Utf
open Go.RowKit Pl

theorem scalar_any (r : Int) (w : World) :
    Calls Tryd.prog 20 #[.int .i32 r] w fun e w' => e = .returned (.bool (scal r)) ∧ w = w' := by
  unfold scal
  by_cases h0 : 0 ≤ r
  · by_cases h1 : r < 55296
    · go_enter Tryd.func20, Tryd.ntmps20
      go_wp2
      go_ret
      exact ⟨by simp [h0, h1], rfl⟩
    · by_cases h2 : 57343 < r
      · by_cases h3 : r ≤ 1114111
        · go_enter Tryd.func20, Tryd.ntmps20
          go_wp2
          go_ret
          exact ⟨by simp [*], rfl⟩
        · go_enter Tryd.func20, Tryd.ntmps20
          go_wp2
          go_ret
          exact ⟨by simp [*], rfl⟩
      · go_enter Tryd.func20, Tryd.ntmps20
        go_wp2
        go_ret
        exact ⟨by simp [*]; omega, rfl⟩
  · go_enter Tryd.func20, Tryd.ntmps20
    have h2 : ¬ 57343 < r := by omega
    go_wp2
    go_ret
    exact ⟨by simp [*]; omega, rfl⟩

/-- The cells of utf8.rows. -/
def rowsCells : Array Value := #[.int .i32 127, .int .i64 0, .int .i64 7, .int .i32 2047, .int .i64 192, .int .i64 5, .int .i32 65535, .int .i64 224, .int .i64 4, .int .i32 1114111, .int .i64 240, .int .i64 3]
/-- The table is as the program's text lays it. -/
def RL (w : World) : Prop := ∃ t fr, w.heap[0]? = some (.cells rowsCells t fr)
theorem RL.pos {w : World} (h : RL w) : 0 < w.heap.size := by
  obtain ⟨t, fr, h⟩ := h
  exact (Array.getElem?_eq_some_iff.1 h).1
theorem RL.below {w w' : World} {B : Nat} (h : RL w) (hb : Below B w w') (hB : 0 < B) : RL w' := by
  obtain ⟨t, fr, h⟩ := h
  exact ⟨t, fr, (hb.block 0 hB).trans h⟩
theorem RL.since {w w' : World} (h : RL w) (hb : Below w.heap.size w w') : RL w' := h.below hb h.pos
theorem row0 (w : World) : (Instr.index 84 (.agg rowsCells) (.int .i64 0)).run Tryd.prog w = .ok (.agg #[.int .i32 127, .int .i64 0, .int .i64 7]) w := by kernel_rfl
theorem row1 (w : World) : (Instr.index 84 (.agg rowsCells) (.int .i64 1)).run Tryd.prog w = .ok (.agg #[.int .i32 2047, .int .i64 192, .int .i64 5]) w := by kernel_rfl
theorem row2 (w : World) : (Instr.index 84 (.agg rowsCells) (.int .i64 2)).run Tryd.prog w = .ok (.agg #[.int .i32 65535, .int .i64 224, .int .i64 4]) w := by kernel_rfl
theorem row3 (w : World) : (Instr.index 84 (.agg rowsCells) (.int .i64 3)).run Tryd.prog w = .ok (.agg #[.int .i32 1114111, .int .i64 240, .int .i64 3]) w := by kernel_rfl
theorem rowsSize : (Tryd.prog.info? 84).map (·.size) = some rowsCells.size := by kernel_rfl

theorem ulen_1 {r : Int} (h0 : 0 ≤ r) (h : r ≤ 127) : ulen r = 1 := by
  unfold ulen uch
  rw [if_pos (by simp [scal]; omega), uchN_1 (by omega)]; rfl
theorem ulen_2 {r : Int} (h0 : 127 < r) (h : r ≤ 2047) : ulen r = 2 := by
  unfold ulen uch
  rw [if_pos (by simp [scal]; omega), uchN_2 (by omega) (by omega)]; rfl
theorem ulen_3 {r : Int} (hs : scal r = true) (h0 : 2047 < r) (h : r ≤ 65535) : ulen r = 3 := by
  unfold ulen uch
  rw [if_pos hs, uchN_3 (by omega) (by omega)]; rfl
theorem ulen_4 {r : Int} (hs : scal r = true) (h : 65535 < r) : ulen r = 4 := by
  unfold ulen uch
  rw [if_pos hs, uchN_4 (by omega)]; rfl

set_option maxHeartbeats 800000 in
theorem len_any (r : Int) (w : World) (hRL : RL w) :
    Calls Tryd.prog 22 #[.int .i32 r] w fun e w' => e = .returned (.int .i64 (ulen r)) ∧ Below w.heap.size w w' := by
  have HS := Lib.hid (scalar_any r)
  obtain ⟨t, fr, hR⟩ := hRL
  have HR := Lib.hid hR
  clear hR
  cases hs : scal r
  · have HU : Hid (ulen r = 0) := by show ulen r = 0; simp [ulen, hs]
    rw [hs] at HS
    clear hs
    go_enter Tryd.func22, Tryd.ntmps22
    go_wp2_with (go_at_call 20; refine (HS.out _).mono ?_; rintro e w' ⟨rfl, rfl⟩)
    go_returns
    exact ⟨by rw [HU.out]; rfl, Below.refl _ _⟩
  · have hr : 0 ≤ r ∧ r ≤ 1114111 := by simp [scal] at hs; omega
    obtain ⟨hr0, hr1⟩ := hr
    have i0 := row0
    have i1 := row1
    have i2 := row2
    have i3 := row3
    by_cases h1 : r ≤ 127
    · have HU : Hid (ulen r = 1) := ulen_1 hr0 h1
      rw [hs] at HS
      clear hs
      go_enter Tryd.func22, Tryd.ntmps22
      go_wp2_with (first | (go_at_call 20; refine (HS.out _).mono ?_; rintro e w' ⟨rfl, rfl⟩) | (with_reducible refine wpList_load_row rfl _ _ rfl 0 rfl t rowsCells fr _ HR.out Tryd.underlying84 rfl rowsSize ?_))
      refine wp_loop_rounds 5 ?_
      rw [rounds_succ]
      go_wp2
      go_returns
      exact ⟨by rw [HU.out]; rfl, by go_grown⟩
    by_cases h2 : r ≤ 2047
    · have HU : Hid (ulen r = 2) := ulen_2 (by omega) h2
      have d1 : decide (r ≤ 127) = false := by simp; omega
      rw [hs] at HS
      clear hs h1
      go_enter Tryd.func22, Tryd.ntmps22
      go_wp2_with (first | (go_at_call 20; refine (HS.out _).mono ?_; rintro e w' ⟨rfl, rfl⟩) | (with_reducible refine wpList_load_row rfl _ _ rfl 0 rfl t rowsCells fr _ HR.out Tryd.underlying84 rfl rowsSize ?_))
      refine wp_loop_rounds 5 ?_
      rw [rounds_succ]
      go_wp2
      rw [rounds_succ]
      go_wp2
      go_returns
      exact ⟨by rw [HU.out]; rfl, by go_grown⟩
    by_cases h3 : r ≤ 65535
    · have HU : Hid (ulen r = 3) := ulen_3 hs (by omega) h3
      have d1 : decide (r ≤ 127) = false := by simp; omega
      have d2 : decide (r ≤ 2047) = false := by simp; omega
      rw [hs] at HS
      clear hs h1 h2
      go_enter Tryd.func22, Tryd.ntmps22
      go_wp2_with (first | (go_at_call 20; refine (HS.out _).mono ?_; rintro e w' ⟨rfl, rfl⟩) | (with_reducible refine wpList_load_row rfl _ _ rfl 0 rfl t rowsCells fr _ HR.out Tryd.underlying84 rfl rowsSize ?_))
      refine wp_loop_rounds 5 ?_
      rw [rounds_succ]
      go_wp2
      rw [rounds_succ]
      go_wp2
      rw [rounds_succ]
      go_wp2
      go_returns
      exact ⟨by rw [HU.out]; rfl, by go_grown⟩
    · have HU : Hid (ulen r = 4) := ulen_4 hs (by omega)
      have d1 : decide (r ≤ 127) = false := by simp; omega
      have d2 : decide (r ≤ 2047) = false := by simp; omega
      have d3 : decide (r ≤ 65535) = false := by simp; omega
      rw [hs] at HS
      clear hs h1 h2 h3
      go_enter Tryd.func22, Tryd.ntmps22
      go_wp2_with (first | (go_at_call 20; refine (HS.out _).mono ?_; rintro e w' ⟨rfl, rfl⟩) | (with_reducible refine wpList_load_row rfl _ _ rfl 0 rfl t rowsCells fr _ HR.out Tryd.underlying84 rfl rowsSize ?_))
      refine wp_loop_rounds 5 ?_
      rw [rounds_succ]
      go_wp2
      rw [rounds_succ]
      go_wp2
      rw [rounds_succ]
      go_wp2
      rw [rounds_succ]
      go_wp2
      go_returns
      exact ⟨by rw [HU.out]; rfl, by go_grown⟩
end Go.Proofs.YtlfhmkjomogkiaaDoor.Utf
