/- Walks: utf8.lead, second. Written by mkUb.py. -/
import Derived.Test.YtlfhmkjomogkiaaDoorUa
namespace Go.Proofs.YtlfhmkjomogkiaaDoor.Utf
open Go.RowKit Pl

theorem uLow_0 {b : Nat} (h : (128 ≤ b ∧ b < 192) ∨ 248 ≤ b) : uLow b = 0 := by
  unfold uLow
  rw [if_neg (by omega)]
  by_cases h1 : b < 192
  · rw [if_pos h1]
  · rw [if_neg h1, if_neg (by omega), if_neg (by omega), if_neg (by omega)]
/-- What lead answers. -/
def leadEnd (b : Nat) (e : Ending) : Prop := e = .returned (.tuple #[.int .i64 (uMany b), .int .i64 (uLow b)])
theorem lead_mk {b : Nat} {m l : Int} (h1 : (uMany b : Int) = m) (h2 : (uLow b : Int) = l) : leadEnd b (.returned (.tuple #[.int .i64 m, .int .i64 l])) := by subst h1; subst h2; rfl
set_option maxRecDepth 100000 in
set_option maxHeartbeats 1600000 in
theorem lead_any (b : Nat) (hb : b < 256) (w : World) (hRL : RL w) :
    Calls Tryd.prog 41 #[.int .u8 b] w fun e w' => leadEnd b e ∧ Below w.heap.size w w' := by
  obtain ⟨t, fr, hR⟩ := hRL
  have HR := Lib.hid hR
  clear hR
  have i0 := row0
  have i1 := row1
  have i2 := row2
  have i3 := row3
  have hb' : (b : Int) ≤ 255 := by omega
  clear hb
  rcases uMany_cases b with ⟨h0, h⟩ | ⟨h0, h, hw⟩ | ⟨h0, h, h2, hw⟩ | ⟨h0, h, h2, hw⟩ | ⟨h0, h, h2, hw⟩
  · have hw : uLow b = 0 := uLow_0 h
    have HE : Hid (leadEnd b (.returned (.tuple #[.int .i64 (0 : Int), .int .i64 (0 : Int)]))) := lead_mk (by rw [h0]; rfl) (by rw [hw]; rfl)
    rcases h with ⟨g1, g2⟩ | g1
    · have d1 : (128 : Int) ≤ b := by omega
      have d2 : (b : Int) ≤ 191 := by omega
      clear h0 hw g1 g2
      go_enter Tryd.func41, Tryd.ntmps41
      go_wp2_with (with_reducible refine wpList_load_row rfl _ _ rfl 0 rfl t rowsCells fr _ HR.out Tryd.underlying84 rfl rowsSize ?_)
      refine wp_loop_rounds 6 ?_
      rw [rounds_succ]
      go_wp2
      rw [rounds_succ]
      go_wp2
      rw [rounds_succ]
      go_wp2
      rw [rounds_succ]
      go_wp2
      rw [rounds_succ]
      go_wp2
      go_returns
      exact ⟨HE.out, by go_grown⟩
    · have d1 : (248 : Int) ≤ b := by omega
      clear h0 hw g1
      go_enter Tryd.func41, Tryd.ntmps41
      go_wp2_with (with_reducible refine wpList_load_row rfl _ _ rfl 0 rfl t rowsCells fr _ HR.out Tryd.underlying84 rfl rowsSize ?_)
      refine wp_loop_rounds 6 ?_
      rw [rounds_succ]
      go_wp2
      rw [rounds_succ]
      go_wp2
      rw [rounds_succ]
      go_wp2
      rw [rounds_succ]
      go_wp2
      rw [rounds_succ]
      go_wp2
      go_returns
      exact ⟨HE.out, by go_grown⟩
  · have HE : Hid (leadEnd b (.returned (.tuple #[.int .i64 (1 : Int), .int .i64 ((b : Int))]))) := lead_mk (by rw [h0]; rfl) (by rw [hw])
    have d2 : (b : Int) ≤ 127 := by omega
    clear h0 hw h
    go_enter Tryd.func41, Tryd.ntmps41
    go_wp2_with (with_reducible refine wpList_load_row rfl _ _ rfl 0 rfl t rowsCells fr _ HR.out Tryd.underlying84 rfl rowsSize ?_)
    refine wp_loop_rounds 6 ?_
    rw [rounds_succ]
    go_wp2
    go_returns
    exact ⟨HE.out, by go_grown⟩
  · have HE : Hid (leadEnd b (.returned (.tuple #[.int .i64 (2 : Int), .int .i64 ((b : Int) - 192)]))) := lead_mk (by rw [h0]; rfl) (by rw [hw]; omega)
    have d1 : (192 : Int) ≤ b := by omega
    have d2 : (b : Int) ≤ 223 := by omega
    clear h0 hw h h2
    go_enter Tryd.func41, Tryd.ntmps41
    go_wp2_with (with_reducible refine wpList_load_row rfl _ _ rfl 0 rfl t rowsCells fr _ HR.out Tryd.underlying84 rfl rowsSize ?_)
    refine wp_loop_rounds 6 ?_
    rw [rounds_succ]
    go_wp2
    rw [rounds_succ]
    go_wp2
    go_returns
    exact ⟨HE.out, by go_grown⟩
  · have HE : Hid (leadEnd b (.returned (.tuple #[.int .i64 (3 : Int), .int .i64 ((b : Int) - 224)]))) := lead_mk (by rw [h0]; rfl) (by rw [hw]; omega)
    have d1 : (224 : Int) ≤ b := by omega
    have d2 : (b : Int) ≤ 239 := by omega
    clear h0 hw h h2
    go_enter Tryd.func41, Tryd.ntmps41
    go_wp2_with (with_reducible refine wpList_load_row rfl _ _ rfl 0 rfl t rowsCells fr _ HR.out Tryd.underlying84 rfl rowsSize ?_)
    refine wp_loop_rounds 6 ?_
    rw [rounds_succ]
    go_wp2
    rw [rounds_succ]
    go_wp2
    rw [rounds_succ]
    go_wp2
    go_returns
    exact ⟨HE.out, by go_grown⟩
  · have HE : Hid (leadEnd b (.returned (.tuple #[.int .i64 (4 : Int), .int .i64 ((b : Int) - 240)]))) := lead_mk (by rw [h0]; rfl) (by rw [hw]; omega)
    have d1 : (240 : Int) ≤ b := by omega
    have d2 : (b : Int) ≤ 247 := by omega
    clear h0 hw h h2
    go_enter Tryd.func41, Tryd.ntmps41
    go_wp2_with (with_reducible refine wpList_load_row rfl _ _ rfl 0 rfl t rowsCells fr _ HR.out Tryd.underlying84 rfl rowsSize ?_)
    refine wp_loop_rounds 6 ?_
    rw [rounds_succ]
    go_wp2
    rw [rounds_succ]
    go_wp2
    rw [rounds_succ]
    go_wp2
    rw [rounds_succ]
    go_wp2
    go_returns
    exact ⟨HE.out, by go_grown⟩
/-- What second answers. -/
def secondEnd (b : Nat) (e : Ending) : Prop := e = .returned (.tuple #[.int .u8 (uFrom b), .int .u8 (uTo b)])
theorem second_mk {b : Nat} {m l : Int} (h1 : (uFrom b : Int) = m) (h2 : (uTo b : Int) = l) : secondEnd b (.returned (.tuple #[.int .u8 m, .int .u8 l])) := by subst h1; subst h2; rfl
theorem second_any (b : Nat) (w : World) :
    Calls Tryd.prog 42 #[.int .u8 b] w fun e w' => secondEnd b e ∧ w = w' := by
  have hf := uFrom_val b
  have ht := uTo_val b
  by_cases h224 : b = 224
  · have HE : Hid (secondEnd b (.returned (.tuple #[.int .u8 (160 : Int), .int .u8 (191 : Int)]))) := second_mk (by omega) (by omega)
    subst h224
    clear hf ht
    go_enter Tryd.func42, Tryd.ntmps42
    go_wp2
    go_returns
    exact ⟨HE.out, rfl⟩
  by_cases h237 : b = 237
  · have HE : Hid (secondEnd b (.returned (.tuple #[.int .u8 (128 : Int), .int .u8 (159 : Int)]))) := second_mk (by omega) (by omega)
    subst h237
    clear hf ht h224
    go_enter Tryd.func42, Tryd.ntmps42
    go_wp2
    go_returns
    exact ⟨HE.out, rfl⟩
  by_cases h240 : b = 240
  · have HE : Hid (secondEnd b (.returned (.tuple #[.int .u8 (144 : Int), .int .u8 (191 : Int)]))) := second_mk (by omega) (by omega)
    subst h240
    clear hf ht h224 h237
    go_enter Tryd.func42, Tryd.ntmps42
    go_wp2
    go_returns
    exact ⟨HE.out, rfl⟩
  by_cases h244 : b = 244
  · have HE : Hid (secondEnd b (.returned (.tuple #[.int .u8 (128 : Int), .int .u8 (143 : Int)]))) := second_mk (by omega) (by omega)
    subst h244
    clear hf ht h224 h237 h240
    go_enter Tryd.func42, Tryd.ntmps42
    go_wp2
    go_returns
    exact ⟨HE.out, rfl⟩
  have HE : Hid (secondEnd b (.returned (.tuple #[.int .u8 (128 : Int), .int .u8 (191 : Int)]))) := second_mk (by omega) (by omega)
  have e224 : ((b : Int) == 224) = false := by simp; omega
  have e237 : ((b : Int) == 237) = false := by simp; omega
  have e240 : ((b : Int) == 240) = false := by simp; omega
  have e244 : ((b : Int) == 244) = false := by simp; omega
  clear hf ht h224 h237 h240 h244
  go_enter Tryd.func42, Tryd.ntmps42
  go_wp2
  go_returns
  exact ⟨HE.out, rfl⟩
end Go.Proofs.YtlfhmkjomogkiaaDoor.Utf
