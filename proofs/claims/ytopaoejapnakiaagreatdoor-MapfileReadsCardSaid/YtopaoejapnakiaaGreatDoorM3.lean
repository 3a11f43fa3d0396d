/- Walk: inkhornref13.digit. -/
import Derived.Test.YtopaoejapnakiaaGreatDoorM1
import Derived.Test.YtopaoejapnakiaaGreatDoorRd
import Derived.Test.YtopaoejapnakiaaGreatDoorRows
namespace Go.Proofs.YtopaoejapnakiaaGreatDoor.Mf
open Go.RowKit

/-- A hex digit's number; -1: it is none. -/
def dig (c : UInt8) : Int := match hexV c with | some n => (n : Int) | none => -1
theorem hexV_nat (c : UInt8) : hexV c = if 48 ≤ c.toNat ∧ c.toNat ≤ 57 then some (c.toNat - 48) else if 65 ≤ c.toNat ∧ c.toNat ≤ 70 then some (c.toNat - 55) else if 97 ≤ c.toNat ∧ c.toNat ≤ 102 then some (c.toNat - 87) else none := by
  unfold hexV
  simp only [UInt8.le_iff_toNat_le]
  rfl
set_option maxRecDepth 100000 in
set_option maxHeartbeats 1600000 in
theorem digit_any (c : UInt8) (w : World) :
    Calls Tryz.prog 54 #[.int .u8 (c.toNat : Int)] w fun e w' => e = .returned (.int .i64 (dig c)) ∧ w = w' := by
  unfold dig
  rw [hexV_nat]
  generalize c.toNat = n
  by_cases h0 : n ≤ 47
  · rw [if_neg (by omega), if_neg (by omega), if_neg (by omega)]
    have t0 : decide ((48 : Int) ≤ (n : Int)) = false := decide_eq_false (by omega)
    have t1 : decide ((n : Int) ≤ 57) = true := decide_eq_true (by omega)
    have t2 : decide ((97 : Int) ≤ (n : Int)) = false := decide_eq_false (by omega)
    have t3 : decide ((n : Int) ≤ 102) = true := decide_eq_true (by omega)
    have t4 : decide ((65 : Int) ≤ (n : Int)) = false := decide_eq_false (by omega)
    have t5 : decide ((n : Int) ≤ 70) = true := decide_eq_true (by omega)
    clear h0
    go_enter Tryz.func54, Tryz.ntmps54
    go_wp2_with fail
    go_returns
    exact ⟨rfl, rfl⟩
  by_cases h1 : n ≤ 57
  · rw [if_pos ⟨by omega, by omega⟩]
    have t0 : decide ((48 : Int) ≤ (n : Int)) = true := decide_eq_true (by omega)
    have t1 : decide ((n : Int) ≤ 57) = true := decide_eq_true (by omega)
    have t2 : decide ((97 : Int) ≤ (n : Int)) = false := decide_eq_false (by omega)
    have t3 : decide ((n : Int) ≤ 102) = true := decide_eq_true (by omega)
    have t4 : decide ((65 : Int) ≤ (n : Int)) = false := decide_eq_false (by omega)
    have t5 : decide ((n : Int) ≤ 70) = true := decide_eq_true (by omega)
    have e : (((n - 48 : Nat)) : Int) = (n : Int) - 48 := by omega
    show Calls _ _ _ _ fun e w' => e = .returned (.int .i64 (((n - 48 : Nat)) : Int)) ∧ _
    rw [e]
    clear e
    have hw0 : IntKind.u8.wrap ((n : Int) - 48) = (n : Int) - 48 := IntWalk.u8_in _ (by omega)
    have hz0 : wrap64 ((n : Int) - 48) = (n : Int) - 48 := IntWalk.wrap64_in _ (by omega)
    clear h0 h1
    go_enter Tryz.func54, Tryz.ntmps54
    go_wp2_with fail
    go_returns
    exact ⟨congrArg (fun x => Ending.returned (.int .i64 x)) hz0, rfl⟩
  by_cases h2 : n ≤ 64
  · rw [if_neg (by omega), if_neg (by omega), if_neg (by omega)]
    have t0 : decide ((48 : Int) ≤ (n : Int)) = true := decide_eq_true (by omega)
    have t1 : decide ((n : Int) ≤ 57) = false := decide_eq_false (by omega)
    have t2 : decide ((97 : Int) ≤ (n : Int)) = false := decide_eq_false (by omega)
    have t3 : decide ((n : Int) ≤ 102) = true := decide_eq_true (by omega)
    have t4 : decide ((65 : Int) ≤ (n : Int)) = false := decide_eq_false (by omega)
    have t5 : decide ((n : Int) ≤ 70) = true := decide_eq_true (by omega)
    clear h0 h1 h2
    go_enter Tryz.func54, Tryz.ntmps54
    go_wp2_with fail
    go_returns
    exact ⟨rfl, rfl⟩
  by_cases h3 : n ≤ 70
  · rw [if_neg (by omega), if_pos ⟨by omega, by omega⟩]
    have t0 : decide ((48 : Int) ≤ (n : Int)) = true := decide_eq_true (by omega)
    have t1 : decide ((n : Int) ≤ 57) = false := decide_eq_false (by omega)
    have t2 : decide ((97 : Int) ≤ (n : Int)) = false := decide_eq_false (by omega)
    have t3 : decide ((n : Int) ≤ 102) = true := decide_eq_true (by omega)
    have t4 : decide ((65 : Int) ≤ (n : Int)) = true := decide_eq_true (by omega)
    have t5 : decide ((n : Int) ≤ 70) = true := decide_eq_true (by omega)
    have e : (((n - 55 : Nat)) : Int) = (n : Int) - 65 + 10 := by omega
    show Calls _ _ _ _ fun e w' => e = .returned (.int .i64 (((n - 55 : Nat)) : Int)) ∧ _
    rw [e]
    clear e
    have hw0 : IntKind.u8.wrap ((n : Int) - 65) = (n : Int) - 65 := IntWalk.u8_in _ (by omega)
    have hz0 : wrap64 ((n : Int) - 65) = (n : Int) - 65 := IntWalk.wrap64_in _ (by omega)
    have hz1 : wrap64 ((n : Int) - 65 + 10) = (n : Int) - 65 + 10 := IntWalk.wrap64_in _ (by omega)
    have hw1 : IntKind.i64.wrap ((n : Int) - 65 + 10) = (n : Int) - 65 + 10 := IntWalk.i64_in _ (by omega)
    clear h0 h1 h2 h3
    go_enter Tryz.func54, Tryz.ntmps54
    go_wp2_with fail
    go_returns
    exact ⟨rfl, rfl⟩
  by_cases h4 : n ≤ 96
  · rw [if_neg (by omega), if_neg (by omega), if_neg (by omega)]
    have t0 : decide ((48 : Int) ≤ (n : Int)) = true := decide_eq_true (by omega)
    have t1 : decide ((n : Int) ≤ 57) = false := decide_eq_false (by omega)
    have t2 : decide ((97 : Int) ≤ (n : Int)) = false := decide_eq_false (by omega)
    have t3 : decide ((n : Int) ≤ 102) = true := decide_eq_true (by omega)
    have t4 : decide ((65 : Int) ≤ (n : Int)) = true := decide_eq_true (by omega)
    have t5 : decide ((n : Int) ≤ 70) = false := decide_eq_false (by omega)
    clear h0 h1 h2 h3 h4
    go_enter Tryz.func54, Tryz.ntmps54
    go_wp2_with fail
    go_returns
    exact ⟨rfl, rfl⟩
  by_cases h5 : n ≤ 102
  · rw [if_neg (by omega), if_neg (by omega), if_pos ⟨by omega, by omega⟩]
    have t0 : decide ((48 : Int) ≤ (n : Int)) = true := decide_eq_true (by omega)
    have t1 : decide ((n : Int) ≤ 57) = false := decide_eq_false (by omega)
    have t2 : decide ((97 : Int) ≤ (n : Int)) = true := decide_eq_true (by omega)
    have t3 : decide ((n : Int) ≤ 102) = true := decide_eq_true (by omega)
    have t4 : decide ((65 : Int) ≤ (n : Int)) = true := decide_eq_true (by omega)
    have t5 : decide ((n : Int) ≤ 70) = false := decide_eq_false (by omega)
    have e : (((n - 87 : Nat)) : Int) = (n : Int) - 97 + 10 := by omega
    show Calls _ _ _ _ fun e w' => e = .returned (.int .i64 (((n - 87 : Nat)) : Int)) ∧ _
    rw [e]
    clear e
    have hw0 : IntKind.u8.wrap ((n : Int) - 97) = (n : Int) - 97 := IntWalk.u8_in _ (by omega)
    have hz0 : wrap64 ((n : Int) - 97) = (n : Int) - 97 := IntWalk.wrap64_in _ (by omega)
    have hz1 : wrap64 ((n : Int) - 97 + 10) = (n : Int) - 97 + 10 := IntWalk.wrap64_in _ (by omega)
    have hw1 : IntKind.i64.wrap ((n : Int) - 97 + 10) = (n : Int) - 97 + 10 := IntWalk.i64_in _ (by omega)
    clear h0 h1 h2 h3 h4 h5
    go_enter Tryz.func54, Tryz.ntmps54
    go_wp2_with fail
    go_returns
    exact ⟨rfl, rfl⟩
  rw [if_neg (by omega), if_neg (by omega), if_neg (by omega)]
  have t0 : decide ((48 : Int) ≤ (n : Int)) = true := decide_eq_true (by omega)
  have t1 : decide ((n : Int) ≤ 57) = false := decide_eq_false (by omega)
  have t2 : decide ((97 : Int) ≤ (n : Int)) = true := decide_eq_true (by omega)
  have t3 : decide ((n : Int) ≤ 102) = false := decide_eq_false (by omega)
  have t4 : decide ((65 : Int) ≤ (n : Int)) = true := decide_eq_true (by omega)
  have t5 : decide ((n : Int) ≤ 70) = false := decide_eq_false (by omega)
  clear h0 h1 h2 h3 h4 h5
  go_enter Tryz.func54, Tryz.ntmps54
  go_wp2_with fail
  go_returns
  exact ⟨rfl, rfl⟩
end Go.Proofs.YtopaoejapnakiaaGreatDoor.Mf
