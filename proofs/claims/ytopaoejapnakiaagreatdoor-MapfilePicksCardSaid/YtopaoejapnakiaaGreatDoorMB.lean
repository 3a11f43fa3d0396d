/- Joined of: M3, M4, M5, M6. -/
import Derived.Test.YtopaoejapnakiaaGreatDoorPA
import Derived.Test.YtopaoejapnakiaaGreatDoorRd
import Derived.Test.YtopaoejapnakiaaGreatDoorRows
import Derived.Deep.CutRange
import Derived.Deep.DeepCutAuto
import Derived.Deep.CutBlock
/- Walk: inkhornref13.digit. -/
namespace Go.Proofs.YtopaoejapnakiaaGreatDoor.Mf
open Go.RowKit

/-- A hex digit's number; -1: it is none. -/
def dig (c : UInt8) : Int := match hexV c with | some n => (n : Int) | none => -1
theorem hexV_nat (c : UInt8) : hexV c = if 48 ≤ c.toNat ∧ c.toNat ≤ 57 then some (c.toNat - 48) else if 65 ≤ c.toNat ∧ c.toNat ≤ 70 then some (c.toNat - 55) else if 97 ≤ c.toNat ∧ c.toNat ≤ 102 then some (c.toNat - 87) else none := by
  unfold hexV
  simp only [UInt8.le_iff_toNat_le]
  rfl
set_option maxRecDepth 100000 in
set_option maxHeartbeats 1600000 in
theorem digit_any (c : UInt8) (w : World) :
    Calls Tryz.prog 54 #[.int .u8 (c.toNat : Int)] w fun e w' => e = .returned (.int .i64 (dig c)) ∧ w = w' := by
  unfold dig
  rw [hexV_nat]
  generalize c.toNat = n
  by_cases h0 : n ≤ 47
  · rw [if_neg (by omega), if_neg (by omega), if_neg (by omega)]
    have t0 : decide ((48 : Int) ≤ (n : Int)) = false := decide_eq_false (by omega)
    have t1 : decide ((n : Int) ≤ 57) = true := decide_eq_true (by omega)
    have t2 : decide ((97 : Int) ≤ (n : Int)) = false := decide_eq_false (by omega)
    have t3 : decide ((n : Int) ≤ 102) = true := decide_eq_true (by omega)
    have t4 : decide ((65 : Int) ≤ (n : Int)) = false := decide_eq_false (by omega)
    have t5 : decide ((n : Int) ≤ 70) = true := decide_eq_true (by omega)
    clear h0
    go_enter Tryz.func54, Tryz.ntmps54
    go_wp2_with fail
    go_returns
    exact ⟨rfl, rfl⟩
  by_cases h1 : n ≤ 57
  · rw [if_pos ⟨by omega, by omega⟩]
    have t0 : decide ((48 : Int) ≤ (n : Int)) = true := decide_eq_true (by omega)
    have t1 : decide ((n : Int) ≤ 57) = true := decide_eq_true (by omega)
    have t2 : decide ((97 : Int) ≤ (n : Int)) = false := decide_eq_false (by omega)
    have t3 : decide ((n : Int) ≤ 102) = true := decide_eq_true (by omega)
    have t4 : decide ((65 : Int) ≤ (n : Int)) = false := decide_eq_false (by omega)
    have t5 : decide ((n : Int) ≤ 70) = true := decide_eq_true (by omega)
    have e : (((n - 48 : Nat)) : Int) = (n : Int) - 48 := by omega
    show Calls _ _ _ _ fun e w' => e = .returned (.int .i64 (((n - 48 : Nat)) : Int)) ∧ _
    rw [e]
    clear e
    have hw0 : IntKind.u8.wrap ((n : Int) - 48) = (n : Int) - 48 := IntWalk.u8_in _ (by omega)
    have hz0 : wrap64 ((n : Int) - 48) = (n : Int) - 48 := IntWalk.wrap64_in _ (by omega)
    clear h0 h1
    go_enter Tryz.func54, Tryz.ntmps54
    go_wp2_with fail
    go_returns
    exact ⟨congrArg (fun x => Ending.returned (.int .i64 x)) hz0, rfl⟩
  by_cases h2 : n ≤ 64
  · rw [if_neg (by omega), if_neg (by omega), if_neg (by omega)]
    have t0 : decide ((48 : Int) ≤ (n : Int)) = true := decide_eq_true (by omega)
    have t1 : decide ((n : Int) ≤ 57) = false := decide_eq_false (by omega)
    have t2 : decide ((97 : Int) ≤ (n : Int)) = false := decide_eq_false (by omega)
    have t3 : decide ((n : Int) ≤ 102) = true := decide_eq_true (by omega)
    have t4 : decide ((65 : Int) ≤ (n : Int)) = false := decide_eq_false (by omega)
    have t5 : decide ((n : Int) ≤ 70) = true := decide_eq_true (by omega)
    clear h0 h1 h2
    go_enter Tryz.func54, Tryz.ntmps54
    go_wp2_with fail
    go_returns
    exact ⟨rfl, rfl⟩
  by_cases h3 : n ≤ 70
  · rw [if_neg (by omega), if_pos ⟨by omega, by omega⟩]
    have t0 : decide ((48 : Int) ≤ (n : Int)) = true := decide_eq_true (by omega)
    have t1 : decide ((n : Int) ≤ 57) = false := decide_eq_false (by omega)
    have t2 : decide ((97 : Int) ≤ (n : Int)) = false := decide_eq_false (by omega)
    have t3 : decide ((n : Int) ≤ 102) = true := decide_eq_true (by omega)
    have t4 : decide ((65 : Int) ≤ (n : Int)) = true := decide_eq_true (by omega)
    have t5 : decide ((n : Int) ≤ 70) = true := decide_eq_true (by omega)
    have e : (((n - 55 : Nat)) : Int) = (n : Int) - 65 + 10 := by omega
    show Calls _ _ _ _ fun e w' => e = .returned (.int .i64 (((n - 55 : Nat)) : Int)) ∧ _
    rw [e]
    clear e
    have hw0 : IntKind.u8.wrap ((n : Int) - 65) = (n : Int) - 65 := IntWalk.u8_in _ (by omega)
    have hz0 : wrap64 ((n : Int) - 65) = (n : Int) - 65 := IntWalk.wrap64_in _ (by omega)
    have hz1 : wrap64 ((n : Int) - 65 + 10) = (n : Int) - 65 + 10 := IntWalk.wrap64_in _ (by omega)
    have hw1 : IntKind.i64.wrap ((n : Int) - 65 + 10) = (n : Int) - 65 + 10 := IntWalk.i64_in _ (by omega)
    clear h0 h1 h2 h3
    go_enter Tryz.func54, Tryz.ntmps54
    go_wp2_with fail
    go_returns
    exact ⟨rfl, rfl⟩
  by_cases h4 : n ≤ 96
  · rw [if_neg (by omega), if_neg (by omega), if_neg (by omega)]
    have t0 : decide ((48 : Int) ≤ (n : Int)) = true := decide_eq_true (by omega)
    have t1 : decide ((n : Int) ≤ 57) = false := decide_eq_false (by omega)
    have t2 : decide ((97 : Int) ≤ (n : Int)) = false := decide_eq_false (by omega)
    have t3 : decide ((n : Int) ≤ 102) = true := decide_eq_true (by omega)
    have t4 : decide ((65 : Int) ≤ (n : Int)) = true := decide_eq_true (by omega)
    have t5 : decide ((n : Int) ≤ 70) = false := decide_eq_false (by omega)
    clear h0 h1 h2 h3 h4
    go_enter Tryz.func54, Tryz.ntmps54
    go_wp2_with fail
    go_returns
    exact ⟨rfl, rfl⟩
  by_cases h5 : n ≤ 102
  · rw [if_neg (by omega), if_neg (by omega), if_pos ⟨by omega, by omega⟩]
    have t0 : decide ((48 : Int) ≤ (n : Int)) = true := decide_eq_true (by omega)
    have t1 : decide ((n : Int) ≤ 57) = false := decide_eq_false (by omega)
    have t2 : decide ((97 : Int) ≤ (n : Int)) = true := decide_eq_true (by omega)
    have t3 : decide ((n : Int) ≤ 102) = true := decide_eq_true (by omega)
    have t4 : decide ((65 : Int) ≤ (n : Int)) = true := decide_eq_true (by omega)
    have t5 : decide ((n : Int) ≤ 70) = false := decide_eq_false (by omega)
    have e : (((n - 87 : Nat)) : Int) = (n : Int) - 97 + 10 := by omega
    show Calls _ _ _ _ fun e w' => e = .returned (.int .i64 (((n - 87 : Nat)) : Int)) ∧ _
    rw [e]
    clear e
    have hw0 : IntKind.u8.wrap ((n : Int) - 97) = (n : Int) - 97 := IntWalk.u8_in _ (by omega)
    have hz0 : wrap64 ((n : Int) - 97) = (n : Int) - 97 := IntWalk.wrap64_in _ (by omega)
    have hz1 : wrap64 ((n : Int) - 97 + 10) = (n : Int) - 97 + 10 := IntWalk.wrap64_in _ (by omega)
    have hw1 : IntKind.i64.wrap ((n : Int) - 97 + 10) = (n : Int) - 97 + 10 := IntWalk.i64_in _ (by omega)
    clear h0 h1 h2 h3 h4 h5
    go_enter Tryz.func54, Tryz.ntmps54
    go_wp2_with fail
    go_returns
    exact ⟨rfl, rfl⟩
  rw [if_neg (by omega), if_neg (by omega), if_neg (by omega)]
  have t0 : decide ((48 : Int) ≤ (n : Int)) = true := decide_eq_true (by omega)
  have t1 : decide ((n : Int) ≤ 57) = false := decide_eq_false (by omega)
  have t2 : decide ((97 : Int) ≤ (n : Int)) = true := decide_eq_true (by omega)
  have t3 : decide ((n : Int) ≤ 102) = false := decide_eq_false (by omega)
  have t4 : decide ((65 : Int) ≤ (n : Int)) = true := decide_eq_true (by omega)
  have t5 : decide ((n : Int) ≤ 70) = false := decide_eq_false (by omega)
  clear h0 h1 h2 h3 h4 h5
  go_enter Tryz.func54, Tryz.ntmps54
  go_wp2_with fail
  go_returns
  exact ⟨rfl, rfl⟩
end Go.Proofs.YtopaoejapnakiaaGreatDoor.Mf
/- Walks: inkhornref13.hexes, gap, Line. -/
namespace Go.Proofs.YtopaoejapnakiaaGreatDoor.Mf
open Go.RowKit

theorem bl (s : ByteArray) : s.data.toList.length = s.size := Array.length_toList
theorem b_at (s : ByteArray) (i : Nat) (h : i < s.size) : s.data.toList[i]'(by rw [bl]; exact h) = s[i] := by simp; rfl
theorem dig_hex (c : UInt8) : (0 ≤ dig c ↔ isHex c = true) ∧ dig c ≤ 15 ∧ (isHex c = true → dig c = ((hexV c).getD 0 : Nat)) ∧ (isHex c = false → dig c = -1) := by
  unfold dig isHex
  have h15 : ∀ n, hexV c = some n → n ≤ 15 := by
    intro n h
    rw [hexV_nat] at h
    split at h
    · injection h with h; omega
    split at h
    · injection h with h; omega
    split at h
    · injection h with h; omega
    · cases h
  cases hv : hexV c with
  | none => simp
  | some n =>
    have := h15 n hv
    refine ⟨by simp, ?_, by simp, by simp⟩
    show (n : Int) ≤ 15
    omega
/-- The first k digits' number. -/
theorem numOf_snoc (d : List UInt8) (c : UInt8) : numOf (d ++ [c]) = numOf d * 16 + (hexV c).getD 0 := by
  unfold numOf
  rw [List.foldl_append]
  rfl
theorem hexV_le (c : UInt8) : (hexV c).getD 0 ≤ 15 := by
  obtain ⟨_, h2, h3, _⟩ := dig_hex c
  by_cases h : isHex c = true
  · have := h3 h; omega
  · unfold isHex at h
    cases hv : hexV c with
    | none => simp
    | some n => rw [hv] at h; simp at h
theorem fold_lt : ∀ (d : List UInt8) (a : Nat), d.foldl (fun n c => n * 16 + (hexV c).getD 0) a + 1 ≤ (a + 1) * 16 ^ d.length := by
  intro d
  induction d with
  | nil => intro a; simp
  | cons c t ih =>
    intro a
    rw [List.foldl_cons, List.length_cons, Nat.pow_succ]
    have h1 := ih (a * 16 + (hexV c).getD 0)
    have h2 := hexV_le c
    have h3 : (a * 16 + (hexV c).getD 0 + 1) * 16 ^ t.length ≤ ((a + 1) * 16) * 16 ^ t.length := Nat.mul_le_mul_right _ (by omega)
    calc _ ≤ _ := h1
      _ ≤ _ := h3
      _ = (a + 1) * (16 ^ t.length * 16) := by rw [Nat.mul_assoc, Nat.mul_comm 16]
theorem numOf_lt (d : List UInt8) : numOf d < 16 ^ d.length := by
  have := fold_lt d 0
  unfold numOf
  omega
theorem numOf_7 (d : List UInt8) (h : d.length ≤ 7) : numOf d ≤ 268435455 := by
  have h1 := numOf_lt d
  have h2 : 16 ^ d.length ≤ 16 ^ 7 := Nat.pow_le_pow_right (by decide) h
  have h3 : (16 : Nat) ^ 7 = 268435456 := by decide
  omega
theorem digs_at : ∀ (n k : Nat) (s : List UInt8) (hk : k < s.length), k ≤ (digs n s).length → ((k < (digs n s).length ↔ k < n ∧ isHex s[k] = true)) := by
  intro n
  induction n with
  | zero => intro k s hk h; simp [digs] at h ⊢
  | succ n ih =>
    intro k s hk h
    cases s with
    | nil => simp at hk
    | cons c t =>
      unfold digs at h ⊢
      by_cases hc : isHex c = true
      · rw [if_pos hc] at h ⊢
        cases k with
        | zero => simp [hc]
        | succ k =>
          have := ih k t (by simpa using hk) (by simpa using h)
          simpa using this
      · rw [if_neg hc] at h ⊢
        have : k = 0 := by simpa using h
        subst this
        simp [hc]
set_option maxRecDepth 100000 in
set_option maxHeartbeats 3200000 in
theorem hexes_any (s : ByteArray) (hs : s.size ≤ 1000000) (i : Nat) (hi : i ≤ s.size) (w : World) :
    Calls Tryz.prog 52 #[.string s, .int .i64 i] w fun e w' => e = .returned (.tuple #[.int .i64 (digs 7 (s.data.toList.drop i)).length, .int .i64 (numOf (digs 7 (s.data.toList.drop i)))]) ∧ w = w' := by
  have HD := Lib.hid (fun c w => digit_any c w)
  have hdl := digs_le 7 (s.data.toList.drop i)
  have hd7 := digs_len 7 (s.data.toList.drop i)
  have hdt := digs_take 7 (s.data.toList.drop i)
  rw [List.length_drop, bl] at hdl
  obtain ⟨D, hD⟩ : ∃ D, digs 7 (s.data.toList.drop i) = D := ⟨_, rfl⟩
  rw [hD] at hdl hd7 hdt
  rw [hD]
  have HDD := Lib.hid hD
  have HDT := Lib.hid hdt
  clear hD hdt
  go_enter Tryz.func52, Tryz.ntmps52
  go_wp2_with fail
  go_loop [6, 7] (fun vn vx => ∃ k : Nat, k ≤ D.length ∧ vn = .int .i64 k ∧ vx = .int .i64 (numOf (D.take k))) (fun vn _ => D.length - (RowKit.intOf vn).toNat)
  case atStart => exact ⟨0, Nat.zero_le _, rfl, rfl⟩
  case round =>
    obtain ⟨k, hk, rfl, rfl⟩ := hrel
    have hw1 : IntKind.i64.wrap ((i : Int) + (k : Int)) = (i : Int) + (k : Int) := IntWalk.i64_in _ (by omega)
    by_cases hsz : i + k < s.size
    · have a1 : decide ((i : Int) + (k : Int) < (s.size : Int)) = true := decide_eq_true (by omega)
      have hat := digs_at 7 k (s.data.toList.drop i) (by rw [List.length_drop, bl]; omega) (by rw [HDD.out]; exact hk)
      rw [HDD.out, List.getElem_drop, b_at s (i + k) hsz] at hat
      obtain ⟨g1, g2, g3, g4⟩ := dig_hex s[i + k]
      have HC := Lib.hid (fun w => HD.out s[i + k] w)
      by_cases h7 : k < 7
      · have a2 : decide ((k : Int) < 7) = true := decide_eq_true (by omega)
        by_cases hx : isHex s[i + k] = true
        · have hkl : k < D.length := hat.2 ⟨h7, hx⟩
          have a3 : decide (0 ≤ dig s[i + k]) = true := decide_eq_true (g1.2 hx)
          have i0 : (0 : Int) ≤ (i : Int) + (k : Int) := by omega
          have i1 : (i : Int) + (k : Int) < (s.size : Int) := by omega
          have hnb := numOf_7 (D.take k) (by rw [List.length_take]; omega)
          have hdk : D.take (k + 1) = D.take k ++ [s[i + k]] := by
            rw [List.take_succ_eq_append_getElem hkl]
            congr 2
            have h1 : D[k]? = some s[i + k] := by
              rw [HDT.out, List.getElem?_take, if_pos hkl, List.getElem?_drop, List.getElem?_eq_getElem (by rw [bl]; exact hsz), b_at]
            rw [List.getElem?_eq_getElem hkl] at h1
            injection h1
          have hnx : (numOf (D.take (k + 1)) : Int) = 16 * (numOf (D.take k) : Int) + dig s[i + k] := by
            rw [hdk, numOf_snoc, g3 hx]
            omega
          have HNX := Lib.hid hnx
          have hm1 : IntKind.i64.wrap (16 * (numOf (D.take k) : Int)) = 16 * (numOf (D.take k) : Int) := IntWalk.i64_in _ (by omega)
          have hd0 := g1.2 hx
          have hm2 : IntKind.i64.wrap (16 * (numOf (D.take k) : Int) + dig s[i + k]) = 16 * (numOf (D.take k) : Int) + dig s[i + k] := IntWalk.i64_in _ (by omega)
          have hkw : IntKind.i64.wrap ((k : Int) + 1) = (k : Int) + 1 := IntWalk.i64_in _ (by omega)
          clear hat g1 g2 g3 g4 hdk hnx hd0
          generalize dig s[i + k] = dv at *
          go_wp2_with fail
          refine (HC.out w).mono ?_
          rintro _ _ ⟨rfl, rfl⟩
          go_wp2_with fail
          refine (HC.out w).mono ?_
          rintro _ _ ⟨rfl, rfl⟩
          go_wp2_with fail
          go_round
          case rel => exact ⟨k + 1, by omega, by go_num, by rw [HNX.out]⟩
          case measure => simp [RowKit.intOf]; omega
        · have hx' : isHex s[i + k] = false := by simpa using hx
          have hkl : k = D.length := by
            rcases Nat.lt_or_eq_of_le hk with h | h
            · exact absurd (hat.1 h).2 hx
            · exact h
          have a3 : decide (0 ≤ dig s[i + k]) = false := decide_eq_false (by rw [g4 hx']; decide)
          have i0 : (0 : Int) ≤ (i : Int) + (k : Int) := by omega
          have i1 : (i : Int) + (k : Int) < (s.size : Int) := by omega
          have HKL := Lib.hid hkl
          clear hat g1 g2 g3 g4 hx hx' hkl
          generalize dig s[i + k] = dv at *
          go_wp2_with fail
          refine (HC.out w).mono ?_
          rintro _ _ ⟨rfl, rfl⟩
          go_wp2_with fail
          go_returns
          obtain rfl := HKL.out
          exact ⟨by rw [List.take_of_length_le (Nat.le_refl _)]; rfl, rfl⟩
      · have hkl : k = D.length := by omega
        have a2 : decide ((k : Int) < 7) = false := decide_eq_false (by omega)
        have HKL := Lib.hid hkl
        clear hat g1 g2 g3 g4 HC h7 hkl
        go_wp2_with fail
        go_returns
        obtain rfl := HKL.out
        exact ⟨by rw [List.take_of_length_le (Nat.le_refl _)]; rfl, rfl⟩
    · have hkl : k = D.length := by omega
      have a1 : decide ((i : Int) + (k : Int) < (s.size : Int)) = false := decide_eq_false (by omega)
      have HKL := Lib.hid hkl
      clear hsz hkl
      go_wp2_with fail
      go_returns
      obtain rfl := HKL.out
      exact ⟨by rw [List.take_of_length_le (Nat.le_refl _)]; rfl, rfl⟩
end Go.Proofs.YtopaoejapnakiaaGreatDoor.Mf
/- Walks: inkhornref13.gap, Line. -/
namespace Go.Proofs.YtopaoejapnakiaaGreatDoor.Mf
open Go.RowKit

/-- How many blanks and tabs a text begins with. -/
def nsp (s : List UInt8) : Nat := (s.takeWhile sp).length
theorem nsp_at (s : List UInt8) : nsp s = match s with | [] => 0 | c :: t => if sp c = true then nsp t + 1 else 0 := by
  unfold nsp
  cases s with
  | nil => rfl
  | cons c t =>
    rw [List.takeWhile_cons]
    by_cases h : sp c = true
    · simp [h]
    · simp [h]
theorem nsp_drop (s : List UInt8) (k : Nat) (hk : k < s.length) : nsp (s.drop k) = if sp s[k] = true then nsp (s.drop (k + 1)) + 1 else 0 := by
  rw [List.drop_eq_getElem_cons hk, nsp_at]
set_option maxRecDepth 100000 in
set_option maxHeartbeats 1600000 in
theorem gap13_any (s : ByteArray) (hs : s.size ≤ 1000000) (i : Nat) (hi : i ≤ s.size) (w : World) :
    Calls Tryz.prog 53 #[.string s, .int .i64 i] w fun e w' => e = .returned (.int .i64 ((i + nsp (s.data.toList.drop i) : Nat) : Int)) ∧ w = w' := by
  obtain ⟨Z, hZ⟩ : ∃ Z : Nat, i + nsp (s.data.toList.drop i) = Z := ⟨_, rfl⟩
  rw [hZ]
  have HZ := Lib.hid hZ
  clear hZ
  go_enter Tryz.func53, Tryz.ntmps53
  go_wp2_with fail
  go_loop [1] (fun vi => ∃ k : Nat, k ≤ s.size ∧ vi = .int .i64 k ∧ k + nsp (s.data.toList.drop k) = Z) (fun vi => s.size - (RowKit.intOf vi).toNat)
  case atStart => exact ⟨i, hi, rfl, HZ.out⟩
  case round =>
    obtain ⟨k, hk, rfl, hz⟩ := hrel
    by_cases hlt : k < s.size
    · have a1 : decide ((k : Int) < (s.size : Int)) = true := decide_eq_true (by omega)
      have j0 : (0 : Int) ≤ (k : Int) := by omega
      have j1 : (k : Int) < (s.size : Int) := by omega
      have hkw : IntKind.i64.wrap ((k : Int) + 1) = (k : Int) + 1 := IntWalk.i64_in _ (by omega)
      rw [nsp_drop _ k (by rw [bl]; exact hlt), b_at s k hlt] at hz
      obtain ⟨n, hn⟩ : ∃ n, s[k].toNat = n := ⟨_, rfl⟩
      have hsp : sp s[k] = (n == 32 || n == 9) := by
        unfold sp
        rw [← hn]
        congr 1
        · rw [Bool.eq_iff_iff, beq_iff_eq, beq_iff_eq]; exact ⟨fun h => by rw [h]; rfl, fun h => UInt8.toNat_inj.1 h⟩
        · rw [Bool.eq_iff_iff, beq_iff_eq, beq_iff_eq]; exact ⟨fun h => by rw [h]; rfl, fun h => UInt8.toNat_inj.1 h⟩
      rw [hsp] at hz
      have HZ2 := Lib.hid hz
      have hnn : (s[k].toNat : Int) = (n : Int) := by rw [hn]
      clear hz hsp
      by_cases h32 : n = 32
      · have b1 : ((s[k].toNat : Int) == 32) = true := by rw [hnn, beq_iff_eq]; omega
        have hz := HZ2.out
        rw [h32] at hz
        have HZ3 : Hid (k + 1 + nsp (s.data.toList.drop (k + 1)) = Z) := Lib.hid (by simp at hz; omega)
        clear hz hnn hn h32
        go_wp2_with fail
        go_round
        case rel => exact ⟨k + 1, by omega, by go_num, HZ3.out⟩
        case measure => simp [RowKit.intOf]; omega
      · have b1 : ((s[k].toNat : Int) == 32) = false := by rw [hnn, beq_eq_false_iff_ne]; omega
        by_cases h9 : n = 9
        · have b2 : ((s[k].toNat : Int) == 9) = true := by rw [hnn, beq_iff_eq]; omega
          have hz := HZ2.out
          rw [h9] at hz
          have HZ3 : Hid (k + 1 + nsp (s.data.toList.drop (k + 1)) = Z) := Lib.hid (by simp at hz; omega)
          clear hz hnn hn h32 h9
          go_wp2_with fail
          go_round
          case rel => exact ⟨k + 1, by omega, by go_num, HZ3.out⟩
          case measure => simp [RowKit.intOf]; omega
        · have b2 : ((s[k].toNat : Int) == 9) = false := by rw [hnn, beq_eq_false_iff_ne]; omega
          have hz := HZ2.out
          have hz : k = Z := by simpa [h32, h9] using hz
          subst hz
          clear hnn hn h32 h9
          go_wp2_with fail
          go_returns
          exact ⟨rfl, rfl⟩
    · obtain rfl : k = s.size := by omega
      have a1 : decide ((s.size : Int) < (s.size : Int)) = false := decide_eq_false (by omega)
      rw [List.drop_eq_nil_of_le (by rw [bl]; exact Nat.le_refl _)] at hz
      have hz : s.size = Z := hz
      subst hz
      go_wp2_with fail
      go_returns
      exact ⟨rfl, rfl⟩
end Go.Proofs.YtopaoejapnakiaaGreatDoor.Mf
/- Walk: inkhornref13.Line. -/
namespace Go.Proofs.YtopaoejapnakiaaGreatDoor.Mf
open Go.RowKit

theorem rtrim_nil : rtrim [] = [] := rfl
theorem rtrim_snoc (l : List UInt8) (c : UInt8) : rtrim (l ++ [c]) = if sp c = true then rtrim l else l ++ [c] := by
  unfold rtrim
  rw [List.reverse_append, List.reverse_cons, List.reverse_nil, List.nil_append, List.cons_append, List.nil_append, List.dropWhile_cons]
  by_cases h : sp c = true
  · rw [if_pos h, if_pos h]
  · rw [if_neg h, if_neg h]
    simp
theorem ext_take (s : ByteArray) (i : Nat) : (s.extract 0 i).data.toList = s.data.toList.take i := by simp [ByteArray.data_extract]
theorem ba_ext {s t : ByteArray} (h : s.data.toList = t.data.toList) : s = t := ByteArray.ext (Array.toList_inj.1 h)
theorem while_at (s : List UInt8) (P : UInt8 → Bool) (i : Nat) (hi : i < s.length) (h : (s.take i).all P = true) (hp : P s[i] = false) : s.takeWhile P = s.take i := by
  have h1 : s = s.take i ++ s.drop i := (List.take_append_drop i s).symm
  have h2 : s.takeWhile P = (s.take i ++ s.drop i).takeWhile P := by rw [← h1]
  rw [h2, List.takeWhile_append_of_pos (fun a ha => List.all_eq_true.1 h a ha), List.drop_eq_getElem_cons hi, List.takeWhile_cons, hp]
  simp
theorem while_all : ∀ (s : List UInt8) (P : UInt8 → Bool), s.all P = true → s.takeWhile P = s := by
  intro s P
  induction s with
  | nil => intro _; rfl
  | cons c t ih =>
    intro h
    rw [List.all_cons, Bool.and_eq_true] at h
    rw [List.takeWhile_cons, if_pos h.1, ih h.2]
theorem sp_nat (c : UInt8) : sp c = (c.toNat == 32 || c.toNat == 9) := by
  unfold sp
  congr 1
  · rw [Bool.eq_iff_iff, beq_iff_eq, beq_iff_eq]; exact ⟨fun h => by rw [h]; rfl, fun h => UInt8.toNat_inj.1 h⟩
  · rw [Bool.eq_iff_iff, beq_iff_eq, beq_iff_eq]; exact ⟨fun h => by rw [h]; rfl, fun h => UInt8.toNat_inj.1 h⟩
theorem last_snoc (B : ByteArray) (m : Nat) (h : B.size = m + 1) (hl : m < B.size) : B.data.toList = B.data.toList.take m ++ [B[m]'hl] := by
  have h1 : B.data.toList.take (m + 1) = B.data.toList := List.take_of_length_le (by rw [bl]; omega)
  rw [← b_at B m (by omega), ← List.take_succ_eq_append_getElem (by rw [bl]; omega), h1]
set_option maxRecDepth 100000 in
set_option maxHeartbeats 3200000 in
theorem line_any (s : ByteArray) (hs : s.size ≤ 1000000) (w : World) :
    Calls Tryz.prog 31 #[.string s] w fun e w' => e = .returned (.string ⟨(clean s.data.toList).toArray⟩) ∧ w = w' := by
  unfold clean
  obtain ⟨T, hT⟩ : ∃ T, s.data.toList.takeWhile (· != 35) = T := ⟨_, rfl⟩
  rw [hT]
  have hTl : T.length ≤ s.size := by rw [← hT, ← bl s]; exact (List.takeWhile_prefix _).length_le
  have HT := Lib.hid hT
  obtain ⟨C, hC⟩ : ∃ C, rtrim T = C := ⟨_, rfl⟩
  rw [hC]
  have HC := Lib.hid hC
  clear hT hC
  go_enter Tryz.func31, Tryz.ntmps31
  go_upto_block 0 with fail
  go_cut [0] (fun v wx => v = .string ⟨T.toArray⟩ ∧ w = wx)
  case first =>
    go_wp2_with fail
    go_loop [0, 3] (fun v0 vi => ∃ i : Nat, i ≤ s.size ∧ v0 = .string s ∧ vi = .int .i64 i ∧ (s.data.toList.take i).all (· != 35) = true) (fun _ vi => s.size - (RowKit.intOf vi).toNat)
    case atStart => exact ⟨0, Nat.zero_le _, rfl, rfl, rfl⟩
    case round =>
      obtain ⟨i, hi, rfl, rfl, hall⟩ := hrel
      have HALL := Lib.hid hall
      clear hall
      by_cases hlt : i < s.size
      · have j0 : (0 : Int) ≤ (i : Int) := by omega
        have j1 : (i : Int) < (s.size : Int) := by omega
        have j2 : (i : Int) ≤ (s.size : Int) := by omega
        have hkw : IntKind.i64.wrap ((i : Int) + 1) = (i : Int) + 1 := IntWalk.i64_in _ (by omega)
        have hli : i < s.data.toList.length := by rw [bl]; exact hlt
        have hel := b_at s i hlt
        by_cases h35 : s[i] = 35
        · have b1 : ((s[i].toNat : Int) == 35) = true := by rw [h35]; rfl
          have ht : T = s.data.toList.take i := by rw [← HT.out]; exact while_at _ _ i hli HALL.out (by rw [hel, h35]; rfl)
          have HTT := Lib.hid ht
          clear h35 hel ht
          go_wp2_with fail
          go_meet
          exact ⟨by rw [HTT.out, ← ext_take], rfl⟩
        · have b1 : ((s[i].toNat : Int) == 35) = false := by
            rw [beq_eq_false_iff_ne]
            intro h
            have h2 : s[i].toNat = 35 := by omega
            exact h35 (UInt8.toNat_inj.1 h2)
          have ha : (s.data.toList.take (i + 1)).all (· != 35) = true := by
            rw [List.take_succ_eq_append_getElem hli, List.all_append, HALL.out, hel]
            simp [h35]
          have HA := Lib.hid ha
          clear h35 hel ha
          go_wp2_with fail
          go_round
          case rel => exact ⟨i + 1, by omega, rfl, by go_num, HA.out⟩
          case measure => simp [RowKit.intOf]; omega
      · obtain rfl : i = s.size := by omega
        have a1 : decide ((s.size : Int) < (s.size : Int)) = false := decide_eq_false (by omega)
        have ht : T = s.data.toList := by
          rw [← HT.out]
          refine while_all _ _ ?_
          have h := HALL.out
          rw [← bl s, List.take_length] at h
          exact h
        have HTT := Lib.hid ht
        clear ht
        go_wp2_with fail
        go_meet
        exact ⟨congrArg Value.string (ba_ext (by rw [HTT.out])), rfl⟩
  case rest =>
    obtain ⟨rfl, rfl⟩ := hcut
    clear HT
    go_wp2_with fail
    go_loop [0] (fun v => ∃ B : ByteArray, v = .string B ∧ B.size ≤ 1000000 ∧ rtrim B.data.toList = C) (fun v => match v with | .string b => b.size | _ => 0)
    case atStart => exact ⟨⟨T.toArray⟩, rfl, by show T.toArray.size ≤ _; simp; omega, HC.out⟩
    case round =>
      obtain ⟨B, rfl, hul, hu⟩ := hrel
      by_cases h0 : B.size = 0
      · have hn : B.data.toList = [] := List.eq_nil_of_length_eq_zero (by rw [bl]; exact h0)
        have hte : B.toList.isEmpty = true := by rw [ByteArray.toList_eq, hn]; rfl
        rw [hn, rtrim_nil] at hu
        subst hu
        have hB : B = ⟨(#[] : Array UInt8)⟩ := ba_ext (by rw [hn])
        have HB := Lib.hid hB
        clear h0 hn hB
        go_wp2_with fail
        go_returns
        exact ⟨congrArg (fun x => Ending.returned (.string x)) HB.out, rfl⟩
      · obtain ⟨m, hm⟩ : ∃ m, B.size = m + 1 := ⟨B.size - 1, by omega⟩
        have hml : m < B.size := by omega
        have hls := last_snoc B m hm hml
        have hte : B.toList.isEmpty = false := by rw [ByteArray.toList_eq, hls]; simp
        have hw1 : IntKind.i64.wrap ((B.size : Int) - 1) = (m : Int) := by rw [IntWalk.i64_in _ (by omega)]; omega
        have j0 : (0 : Int) ≤ (m : Int) := by omega
        have j1 : (m : Int) < (B.size : Int) := by omega
        have j2 : (m : Int) ≤ (B.size : Int) := by omega
        rw [hls, rtrim_snoc, sp_nat, ← ext_take] at hu
        have HU := Lib.hid hu
        have HSZ : Hid ((B.extract 0 m).size = m) := Lib.hid (by rw [ByteArray.size_extract]; omega)
        have HM := Lib.hid hm
        have HLS := Lib.hid hls
        clear hu hls h0 hm
        by_cases h32 : (B[m]'hml).toNat = 32
        · have b1 : (((B[m]'hml).toNat : Int) == 32) = true := by rw [beq_iff_eq]; omega
          have hu := HU.out
          rw [h32] at hu
          have HU2 : Hid (rtrim (B.extract 0 m).data.toList = C) := Lib.hid (by simpa using hu)
          clear h32 hu
          go_wp2_with fail
          go_round
          case rel => exact ⟨B.extract 0 m, rfl, by rw [HSZ.out]; omega, HU2.out⟩
          case measure => show (B.extract 0 m).size < B.size; rw [HSZ.out, HM.out]; omega
        · have b1 : (((B[m]'hml).toNat : Int) == 32) = false := by rw [beq_eq_false_iff_ne]; omega
          by_cases h9 : (B[m]'hml).toNat = 9
          · have b2 : (((B[m]'hml).toNat : Int) == 9) = true := by rw [beq_iff_eq]; omega
            have hu := HU.out
            rw [h9] at hu
            have HU2 : Hid (rtrim (B.extract 0 m).data.toList = C) := Lib.hid (by simpa using hu)
            clear h32 h9 hu
            go_wp2_with fail
            go_round
            case rel => exact ⟨B.extract 0 m, rfl, by rw [HSZ.out]; omega, HU2.out⟩
            case measure => show (B.extract 0 m).size < B.size; rw [HSZ.out, HM.out]; omega
          · have b2 : (((B[m]'hml).toNat : Int) == 9) = false := by rw [beq_eq_false_iff_ne]; omega
            have hu := HU.out
            have hu : B.data.toList = C := by
              rw [if_neg (by simp [h32, h9])] at hu
              rw [← hu, ext_take]
              exact HLS.out
            have HU2 := Lib.hid hu
            clear h32 h9 hu
            go_wp2_with fail
            go_returns
            exact ⟨congrArg (fun x => Ending.returned (.string x)) (ba_ext (by rw [HU2.out])), rfl⟩
end Go.Proofs.YtopaoejapnakiaaGreatDoor.Mf
