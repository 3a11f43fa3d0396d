/- Walks: api.Scalar, wide.of, wide.unit.get. -/
import Derived.Test.YtlfhmkjomogkiaaDoorRows
import Derived.Test.YtlfhmkjomogkiaaDoorPlain
import Derived.WalkKit
import Derived.WalkSpells
import Derived.WalkLawsBesides
import Derived.Lib.Hide
import Derived.Handy
import Derived.Test.YtlfhmkjomogkiaaDoorWbits
import Derived.BigQuiet
import Derived.Deep.QuietTactic
namespace Go.Proofs.YtlfhmkjomogkiaaDoor
open Go.RowKit Pl

theorem scalar_any (r : Int) (w : World) :
    Calls Tryd.prog 20 #[.int .i32 r] w fun e w' => e = .returned (.bool (scal r)) ∧ w = w' := by
  unfold scal
  by_cases h0 : 0 ≤ r
  · by_cases h1 : r < 55296
    · go_enter Tryd.func20, Tryd.ntmps20
      go_wp2
      go_ret
      exact ⟨by simp [h0, h1], rfl⟩
    · by_cases h2 : 57343 < r
      · by_cases h3 : r ≤ 1114111
        · go_enter Tryd.func20, Tryd.ntmps20
          go_wp2
          go_ret
          exact ⟨by simp [*], rfl⟩
        · go_enter Tryd.func20, Tryd.ntmps20
          go_wp2
          go_ret
          exact ⟨by simp [*], rfl⟩
      · go_enter Tryd.func20, Tryd.ntmps20
        go_wp2
        go_ret
        exact ⟨by simp [*]; omega, rfl⟩
  · go_enter Tryd.func20, Tryd.ntmps20
    have h2 : ¬ 57343 < r := by omega
    go_wp2
    go_ret
    exact ⟨by simp [*]; omega, rfl⟩

theorem of_yes (k : Int) (h1 : 1 ≤ k) (h4 : k ≤ 4) (w : World) :
    Calls Tryd.prog 84 #[.int .i64 k] w fun e w' =>
      e = .returned (.tuple #[.agg #[.int .i64 (wsize k), .bool (k % 2 == 0), .bool (decide (k ≤ 2))], .bool true]) ∧ Below w.heap.size w w' := by
  unfold wsize
  by_cases h2 : k ≤ 2
  all_goals
    rw [show decide (k ≤ 2) = _ from by first | exact decide_eq_true h2 | exact decide_eq_false h2]
    go_enter Tryd.func84, Tryd.ntmps84
    go_wp2
    go_returns
    refine ⟨by simp [*], ?_⟩
    go_grown

def ofNone (_k : Int) (e : Ending) : Prop := ∃ a b c, e = .returned (.tuple #[.agg #[.int .i64 a, .bool b, .bool c], .bool false])
theorem of_no (k : Int) (h : k < 1 ∨ 4 < k) (w : World) :
    Calls Tryd.prog 84 #[.int .i64 k] w fun e w' => ofNone k e ∧ Below w.heap.size w w' := by
  rcases h with h | h
  · go_enter Tryd.func84, Tryd.ntmps84
    have h2 : k ≤ 2 := by omega
    go_wp2
    go_returns
    refine ⟨⟨_, _, _, rfl⟩, ?_⟩
    go_grown
  · go_enter Tryd.func84, Tryd.ntmps84
    have h2 : 2 < k := by omega
    have h3 : decide (k ≤ 4) = false := by simp; omega
    go_wp2
    go_returns
    refine ⟨⟨_, _, _, by rw [← h3]⟩, ?_⟩
    go_grown

theorem get_any (size : Nat) (big : Bool) (s : ByteArray) (hz : 2 ≤ size) (hz4 : size ≤ 4) (hs : size ≤ s.size) (hm : s.size ≤ maxLen) (w : World) :
    Calls Tryd.prog 85 #[.agg #[.int .i64 size, .bool big], .string s] w fun e w' =>
      e = .returned (.int .i64 (unitN size big s.data.toList)) ∧ Below w.heap.size w w' := by
  unfold maxLen at hm
  cases big
  · go_enter Tryd.func85, Tryd.ntmps85
    go_wp2
    go_loop [5, 10] (fun n i => ∃ k : Nat, k ≤ size ∧ i = .int .i64 k ∧ n = .int .i64 (num ((ordB false (s.data.toList.take size)).take k))) (fun _ i => size - (intOf i).toNat)
    case atStart => exact ⟨0, Nat.zero_le _, rfl, rfl⟩
    case round =>
      obtain ⟨k, hk, rfl, rfl⟩ := hrel
      by_cases hlt : k < size
      · have hp := unit_part_le s false size k (by omega)
        have hst := unit_step_little s size k hlt hs (by omega)
        have hb := (s[size - 1 - k]'(by omega)).toNat_lt
        have HS := Lib.hid hst; clear hst
        go_wp2
        go_round
        case rel => exact ⟨k + 1, by omega, by go_num, by rw [HS.out, or_byte _ _ hp hb]⟩
        case measure => simp [intOf]; omega
      · go_wp2
        go_returns
        exact ⟨by simp only [show k = size from by omega, unit_whole]; rfl, by go_grown⟩
  · go_enter Tryd.func85, Tryd.ntmps85
    go_wp2
    go_loop [5, 10] (fun n i => ∃ k : Nat, k ≤ size ∧ i = .int .i64 k ∧ n = .int .i64 (num ((ordB true (s.data.toList.take size)).take k))) (fun _ i => size - (intOf i).toNat)
    case atStart => exact ⟨0, Nat.zero_le _, rfl, rfl⟩
    case round =>
      obtain ⟨k, hk, rfl, rfl⟩ := hrel
      by_cases hlt : k < size
      · have hp := unit_part_le s true size k (by omega)
        have hst := unit_step_big s size k hlt hs (by omega)
        have hb := (s[k]'(by omega)).toNat_lt
        have HS := Lib.hid hst; clear hst
        go_wp2
        go_round
        case rel => exact ⟨k + 1, by omega, by go_num, by rw [HS.out, or_byte _ _ hp hb]⟩
        case measure => simp [intOf]; omega
      · go_wp2
        go_returns
        exact ⟨by simp only [show k = size from by omega, unit_whole]; rfl, by go_grown⟩

theorem size_any (k : Int) (w : World) :
    Calls Tryd.prog 77 #[.int .i64 k] w fun e w' => e = .returned (.int .i64 (wsize k)) ∧ w = w' := by
  unfold wsize
  by_cases h1 : k ≤ 2
  all_goals
    go_enter Tryd.func77, Tryd.ntmps77
    go_wp2
    go_ret
    exact ⟨by simp [*], rfl⟩

theorem number_any (k : Int) (s : ByteArray) (h1 : 1 ≤ k) (h4 : k ≤ 4) (hs : wsize k ≤ s.size) (hm : s.size ≤ maxLen) (w : World) :
    Calls Tryd.prog 78 #[.int .i64 k, .string s] w fun e w' =>
      e = .returned (.int .i64 (unitN (wsize k) (k % 2 == 0) s.data.toList)) ∧ w = w' := by
  unfold maxLen at hm
  have hz2 : 2 ≤ wsize k := by unfold wsize; split <;> omega
  have hz4 : wsize k ≤ 4 := by unfold wsize; split <;> omega
  generalize hsz : wsize k = size at *
  have HZ := Lib.hid hsz; clear hsz
  have HC : ∀ W, Calls Tryd.prog 77 #[.int .i64 k] W fun e w' => e = .returned (.int .i64 size) ∧ W = w' := by
    intro W; rw [← HZ.out]; exact size_any k W
  have HC' := Lib.hid HC; clear HC
  by_cases hb : k % 2 = 0
  · have hbt : (k % 2 == 0) = true := by simp [hb]
    have hbt1 : (k % 2 == 1) = false := by simp [hb]
    rw [hbt]
    go_enter Tryd.func78, Tryd.ntmps78
    go_wp2
    go_loop [5, 6] (fun n i => ∃ k : Nat, k ≤ size ∧ i = .int .i64 k ∧ n = .int .i64 (num ((ordB true (s.data.toList.take size)).take k))) (fun _ i => size - (intOf i).toNat)
    case atStart => exact ⟨0, Nat.zero_le _, rfl, rfl⟩
    case round =>
      obtain ⟨j, hk, rfl, rfl⟩ := hrel
      by_cases hlt : j < size
      · have hp := unit_part_le s true size j (by omega)
        have hst := unit_step_big s size j hlt hs (by omega)
        have hb := (s[j]'(by omega)).toNat_lt
        have HS := Lib.hid hst; clear hst
        go_wp2_with (go_at_call 77; refine (HC'.out _).mono ?_; rintro e w' ⟨rfl, rfl⟩)
        go_round
        case rel => exact ⟨j + 1, by omega, by go_num, by rw [HS.out]; go_num⟩
        case measure => simp [intOf]; omega
      · go_wp2_with (go_at_call 77; refine (HC'.out _).mono ?_; rintro e w' ⟨rfl, rfl⟩)
        go_returns
        exact ⟨by simp only [show j = size from by omega, unit_whole]; rfl, rfl⟩
  · have hbt : (k % 2 == 0) = false := by simp [hb]
    have hbt1 : (k % 2 == 1) = true := by simp; omega
    rw [hbt]
    go_enter Tryd.func78, Tryd.ntmps78
    go_wp2
    go_loop [5, 6] (fun n i => ∃ k : Nat, k ≤ size ∧ i = .int .i64 k ∧ n = .int .i64 (num ((ordB false (s.data.toList.take size)).take k))) (fun _ i => size - (intOf i).toNat)
    case atStart => exact ⟨0, Nat.zero_le _, rfl, rfl⟩
    case round =>
      obtain ⟨j, hk, rfl, rfl⟩ := hrel
      by_cases hlt : j < size
      · have hp := unit_part_le s false size j (by omega)
        have hst := unit_step_little s size j hlt hs (by omega)
        have hb := (s[size - 1 - j]'(by omega)).toNat_lt
        have HS := Lib.hid hst; clear hst
        go_wp2_with (go_at_call 77; refine (HC'.out _).mono ?_; rintro e w' ⟨rfl, rfl⟩)
        go_round
        case rel => exact ⟨j + 1, by omega, by go_num, by rw [HS.out]; go_num⟩
        case measure => simp [intOf]; omega
      · go_wp2_with (go_at_call 77; refine (HC'.out _).mono ?_; rintro e w' ⟨rfl, rfl⟩)
        go_returns
        exact ⟨by simp only [show j = size from by omega, unit_whole]; rfl, rfl⟩
end Go.Proofs.YtlfhmkjomogkiaaDoor
