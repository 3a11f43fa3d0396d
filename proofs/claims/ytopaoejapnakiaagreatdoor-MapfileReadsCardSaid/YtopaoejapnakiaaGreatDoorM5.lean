/- Walks: inkhornref13.gap, Line. -/
import Derived.Test.YtopaoejapnakiaaGreatDoorM4
namespace Go.Proofs.YtopaoejapnakiaaGreatDoor.Mf
open Go.RowKit

/-- How many blanks and tabs a text begins with. -/
def nsp (s : List UInt8) : Nat := (s.takeWhile sp).length
theorem nsp_at (s : List UInt8) : nsp s = match s with | [] => 0 | c :: t => if sp c = true then nsp t + 1 else 0 := by
  unfold nsp
  cases s with
  | nil => rfl
  | cons c t =>
    rw [List.takeWhile_cons]
    by_cases h : sp c = true
    · simp [h]
    · simp [h]
theorem nsp_drop (s : List UInt8) (k : Nat) (hk : k < s.length) : nsp (s.drop k) = if sp s[k] = true then nsp (s.drop (k + 1)) + 1 else 0 := by
  rw [List.drop_eq_getElem_cons hk, nsp_at]
set_option maxRecDepth 100000 in
set_option maxHeartbeats 1600000 in
theorem gap13_any (s : ByteArray) (hs : s.size ≤ 1000000) (i : Nat) (hi : i ≤ s.size) (w : World) :
    Calls Tryz.prog 53 #[.string s, .int .i64 i] w fun e w' => e = .returned (.int .i64 ((i + nsp (s.data.toList.drop i) : Nat) : Int)) ∧ w = w' := by
  obtain ⟨Z, hZ⟩ : ∃ Z : Nat, i + nsp (s.data.toList.drop i) = Z := ⟨_, rfl⟩
  rw [hZ]
  have HZ := Lib.hid hZ
  clear hZ
  go_enter Tryz.func53, Tryz.ntmps53
  go_wp2_with fail
  go_loop [1] (fun vi => ∃ k : Nat, k ≤ s.size ∧ vi = .int .i64 k ∧ k + nsp (s.data.toList.drop k) = Z) (fun vi => s.size - (RowKit.intOf vi).toNat)
  case atStart => exact ⟨i, hi, rfl, HZ.out⟩
  case round =>
    obtain ⟨k, hk, rfl, hz⟩ := hrel
    by_cases hlt : k < s.size
    · have a1 : decide ((k : Int) < (s.size : Int)) = true := decide_eq_true (by omega)
      have j0 : (0 : Int) ≤ (k : Int) := by omega
      have j1 : (k : Int) < (s.size : Int) := by omega
      have hkw : IntKind.i64.wrap ((k : Int) + 1) = (k : Int) + 1 := IntWalk.i64_in _ (by omega)
      rw [nsp_drop _ k (by rw [bl]; exact hlt), b_at s k hlt] at hz
      obtain ⟨n, hn⟩ : ∃ n, s[k].toNat = n := ⟨_, rfl⟩
      have hsp : sp s[k] = (n == 32 || n == 9) := by
        unfold sp
        rw [← hn]
        congr 1
        · rw [Bool.eq_iff_iff, beq_iff_eq, beq_iff_eq]; exact ⟨fun h => by rw [h]; rfl, fun h => UInt8.toNat_inj.1 h⟩
        · rw [Bool.eq_iff_iff, beq_iff_eq, beq_iff_eq]; exact ⟨fun h => by rw [h]; rfl, fun h => UInt8.toNat_inj.1 h⟩
      rw [hsp] at hz
      have HZ2 := Lib.hid hz
      have hnn : (s[k].toNat : Int) = (n : Int) := by rw [hn]
      clear hz hsp
      by_cases h32 : n = 32
      · have b1 : ((s[k].toNat : Int) == 32) = true := by rw [hnn, beq_iff_eq]; omega
        have hz := HZ2.out
        rw [h32] at hz
        have HZ3 : Hid (k + 1 + nsp (s.data.toList.drop (k + 1)) = Z) := Lib.hid (by simp at hz; omega)
        clear hz hnn hn h32
        go_wp2_with fail
        go_round
        case rel => exact ⟨k + 1, by omega, by go_num, HZ3.out⟩
        case measure => simp [RowKit.intOf]; omega
      · have b1 : ((s[k].toNat : Int) == 32) = false := by rw [hnn, beq_eq_false_iff_ne]; omega
        by_cases h9 : n = 9
        · have b2 : ((s[k].toNat : Int) == 9) = true := by rw [hnn, beq_iff_eq]; omega
          have hz := HZ2.out
          rw [h9] at hz
          have HZ3 : Hid (k + 1 + nsp (s.data.toList.drop (k + 1)) = Z) := Lib.hid (by simp at hz; omega)
          clear hz hnn hn h32 h9
          go_wp2_with fail
          go_round
          case rel => exact ⟨k + 1, by omega, by go_num, HZ3.out⟩
          case measure => simp [RowKit.intOf]; omega
        · have b2 : ((s[k].toNat : Int) == 9) = false := by rw [hnn, beq_eq_false_iff_ne]; omega
          have hz := HZ2.out
          have hz : k = Z := by simpa [h32, h9] using hz
          subst hz
          clear hnn hn h32 h9
          go_wp2_with fail
          go_returns
          exact ⟨rfl, rfl⟩
    · obtain rfl : k = s.size := by omega
      have a1 : decide ((s.size : Int) < (s.size : Int)) = false := decide_eq_false (by omega)
      rw [List.drop_eq_nil_of_le (by rw [bl]; exact Nat.le_refl _)] at hz
      have hz : s.size = Z := hz
      subst hz
      go_wp2_with fail
      go_returns
      exact ⟨rfl, rfl⟩
end Go.Proofs.YtopaoejapnakiaaGreatDoor.Mf
