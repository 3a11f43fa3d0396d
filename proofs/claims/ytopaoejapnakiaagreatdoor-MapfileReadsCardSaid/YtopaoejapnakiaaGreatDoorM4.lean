/- Walks: inkhornref13.hexes, gap, Line. -/
import Derived.Test.YtopaoejapnakiaaGreatDoorM2
import Derived.Test.YtopaoejapnakiaaGreatDoorM3
namespace Go.Proofs.YtopaoejapnakiaaGreatDoor.Mf
open Go.RowKit

theorem bl (s : ByteArray) : s.data.toList.length = s.size := Array.length_toList
theorem b_at (s : ByteArray) (i : Nat) (h : i < s.size) : s.data.toList[i]'(by rw [bl]; exact h) = s[i] := by simp; rfl
theorem dig_hex (c : UInt8) : (0 ≤ dig c ↔ isHex c = true) ∧ dig c ≤ 15 ∧ (isHex c = true → dig c = ((hexV c).getD 0 : Nat)) ∧ (isHex c = false → dig c = -1) := by
  unfold dig isHex
  have h15 : ∀ n, hexV c = some n → n ≤ 15 := by
    intro n h
    rw [hexV_nat] at h
    split at h
    · injection h with h; omega
    split at h
    · injection h with h; omega
    split at h
    · injection h with h; omega
    · cases h
  cases hv : hexV c with
  | none => simp
  | some n =>
    have := h15 n hv
    refine ⟨by simp, ?_, by simp, by simp⟩
    show (n : Int) ≤ 15
    omega
/-- The first k digits' number. -/
theorem numOf_snoc (d : List UInt8) (c : UInt8) : numOf (d ++ [c]) = numOf d * 16 + (hexV c).getD 0 := by
  unfold numOf
  rw [List.foldl_append]
  rfl
theorem hexV_le (c : UInt8) : (hexV c).getD 0 ≤ 15 := by
  obtain ⟨_, h2, h3, _⟩ := dig_hex c
  by_cases h : isHex c = true
  · have := h3 h; omega
  · unfold isHex at h
    cases hv : hexV c with
    | none => simp
    | some n => rw [hv] at h; simp at h
theorem fold_lt : ∀ (d : List UInt8) (a : Nat), d.foldl (fun n c => n * 16 + (hexV c).getD 0) a + 1 ≤ (a + 1) * 16 ^ d.length := by
  intro d
  induction d with
  | nil => intro a; simp
  | cons c t ih =>
    intro a
    rw [List.foldl_cons, List.length_cons, Nat.pow_succ]
    have h1 := ih (a * 16 + (hexV c).getD 0)
    have h2 := hexV_le c
    have h3 : (a * 16 + (hexV c).getD 0 + 1) * 16 ^ t.length ≤ ((a + 1) * 16) * 16 ^ t.length := Nat.mul_le_mul_right _ (by omega)
    calc _ ≤ _ := h1
      _ ≤ _ := h3
      _ = (a + 1) * (16 ^ t.length * 16) := by rw [Nat.mul_assoc, Nat.mul_comm 16]
theorem numOf_lt (d : List UInt8) : numOf d < 16 ^ d.length := by
  have := fold_lt d 0
  unfold numOf
  omega
theorem numOf_7 (d : List UInt8) (h : d.length ≤ 7) : numOf d ≤ 268435455 := by
  have h1 := numOf_lt d
  have h2 : 16 ^ d.length ≤ 16 ^ 7 := Nat.pow_le_pow_right (by decide) h
  have h3 : (16 : Nat) ^ 7 = 268435456 := by decide
  omega
theorem digs_at : ∀ (n k : Nat) (s : List UInt8) (hk : k < s.length), k ≤ (digs n s).length → ((k < (digs n s).length ↔ k < n ∧ isHex s[k] = true)) := by
  intro n
  induction n with
  | zero => intro k s hk h; simp [digs] at h ⊢
  | succ n ih =>
    intro k s hk h
    cases s with
    | nil => simp at hk
    | cons c t =>
      unfold digs at h ⊢
      by_cases hc : isHex c = true
      · rw [if_pos hc] at h ⊢
        cases k with
        | zero => simp [hc]
        | succ k =>
          have := ih k t (by simpa using hk) (by simpa using h)
          simpa using this
      · rw [if_neg hc] at h ⊢
        have : k = 0 := by simpa using h
        subst this
        simp [hc]
set_option maxRecDepth 100000 in
set_option maxHeartbeats 3200000 in
theorem hexes_any (s : ByteArray) (hs : s.size ≤ 1000000) (i : Nat) (hi : i ≤ s.size) (w : World) :
    Calls Tryz.prog 52 #[.string s, .int .i64 i] w fun e w' => e = .returned (.tuple #[.int .i64 (digs 7 (s.data.toList.drop i)).length, .int .i64 (numOf (digs 7 (s.data.toList.drop i)))]) ∧ w = w' := by
  have HD := Lib.hid (fun c w => digit_any c w)
  have hdl := digs_le 7 (s.data.toList.drop i)
  have hd7 := digs_len 7 (s.data.toList.drop i)
  have hdt := digs_take 7 (s.data.toList.drop i)
  rw [List.length_drop, bl] at hdl
  obtain ⟨D, hD⟩ : ∃ D, digs 7 (s.data.toList.drop i) = D := ⟨_, rfl⟩
  rw [hD] at hdl hd7 hdt
  rw [hD]
  have HDD := Lib.hid hD
  have HDT := Lib.hid hdt
  clear hD hdt
  go_enter Tryz.func52, Tryz.ntmps52
  go_wp2_with fail
  go_loop [6, 7] (fun vn vx => ∃ k : Nat, k ≤ D.length ∧ vn = .int .i64 k ∧ vx = .int .i64 (numOf (D.take k))) (fun vn _ => D.length - (RowKit.intOf vn).toNat)
  case atStart => exact ⟨0, Nat.zero_le _, rfl, rfl⟩
  case round =>
    obtain ⟨k, hk, rfl, rfl⟩ := hrel
    have hw1 : IntKind.i64.wrap ((i : Int) + (k : Int)) = (i : Int) + (k : Int) := IntWalk.i64_in _ (by omega)
    by_cases hsz : i + k < s.size
    · have a1 : decide ((i : Int) + (k : Int) < (s.size : Int)) = true := decide_eq_true (by omega)
      have hat := digs_at 7 k (s.data.toList.drop i) (by rw [List.length_drop, bl]; omega) (by rw [HDD.out]; exact hk)
      rw [HDD.out, List.getElem_drop, b_at s (i + k) hsz] at hat
      obtain ⟨g1, g2, g3, g4⟩ := dig_hex s[i + k]
      have HC := Lib.hid (fun w => HD.out s[i + k] w)
      by_cases h7 : k < 7
      · have a2 : decide ((k : Int) < 7) = true := decide_eq_true (by omega)
        by_cases hx : isHex s[i + k] = true
        · have hkl : k < D.length := hat.2 ⟨h7, hx⟩
          have a3 : decide (0 ≤ dig s[i + k]) = true := decide_eq_true (g1.2 hx)
          have i0 : (0 : Int) ≤ (i : Int) + (k : Int) := by omega
          have i1 : (i : Int) + (k : Int) < (s.size : Int) := by omega
          have hnb := numOf_7 (D.take k) (by rw [List.length_take]; omega)
          have hdk : D.take (k + 1) = D.take k ++ [s[i + k]] := by
            rw [List.take_succ_eq_append_getElem hkl]
            congr 2
            have h1 : D[k]? = some s[i + k] := by
              rw [HDT.out, List.getElem?_take, if_pos hkl, List.getElem?_drop, List.getElem?_eq_getElem (by rw [bl]; exact hsz), b_at]
            rw [List.getElem?_eq_getElem hkl] at h1
            injection h1
          have hnx : (numOf (D.take (k + 1)) : Int) = 16 * (numOf (D.take k) : Int) + dig s[i + k] := by
            rw [hdk, numOf_snoc, g3 hx]
            omega
          have HNX := Lib.hid hnx
          have hm1 : IntKind.i64.wrap (16 * (numOf (D.take k) : Int)) = 16 * (numOf (D.take k) : Int) := IntWalk.i64_in _ (by omega)
          have hd0 := g1.2 hx
          have hm2 : IntKind.i64.wrap (16 * (numOf (D.take k) : Int) + dig s[i + k]) = 16 * (numOf (D.take k) : Int) + dig s[i + k] := IntWalk.i64_in _ (by omega)
          have hkw : IntKind.i64.wrap ((k : Int) + 1) = (k : Int) + 1 := IntWalk.i64_in _ (by omega)
          clear hat g1 g2 g3 g4 hdk hnx hd0
          generalize dig s[i + k] = dv at *
          go_wp2_with fail
          refine (HC.out w).mono ?_
          rintro _ _ ⟨rfl, rfl⟩
          go_wp2_with fail
          refine (HC.out w).mono ?_
          rintro _ _ ⟨rfl, rfl⟩
          go_wp2_with fail
          go_round
          case rel => exact ⟨k + 1, by omega, by go_num, by rw [HNX.out]⟩
          case measure => simp [RowKit.intOf]; omega
        · have hx' : isHex s[i + k] = false := by simpa using hx
          have hkl : k = D.length := by
            rcases Nat.lt_or_eq_of_le hk with h | h
            · exact absurd (hat.1 h).2 hx
            · exact h
          have a3 : decide (0 ≤ dig s[i + k]) = false := decide_eq_false (by rw [g4 hx']; decide)
          have i0 : (0 : Int) ≤ (i : Int) + (k : Int) := by omega
          have i1 : (i : Int) + (k : Int) < (s.size : Int) := by omega
          have HKL := Lib.hid hkl
          clear hat g1 g2 g3 g4 hx hx' hkl
          generalize dig s[i + k] = dv at *
          go_wp2_with fail
          refine (HC.out w).mono ?_
          rintro _ _ ⟨rfl, rfl⟩
          go_wp2_with fail
          go_returns
          obtain rfl := HKL.out
          exact ⟨by rw [List.take_of_length_le (Nat.le_refl _)]; rfl, rfl⟩
      · have hkl : k = D.length := by omega
        have a2 : decide ((k : Int) < 7) = false := decide_eq_false (by omega)
        have HKL := Lib.hid hkl
        clear hat g1 g2 g3 g4 HC h7 hkl
        go_wp2_with fail
        go_returns
        obtain rfl := HKL.out
        exact ⟨by rw [List.take_of_length_le (Nat.le_refl _)]; rfl, rfl⟩
    · have hkl : k = D.length := by omega
      have a1 : decide ((i : Int) + (k : Int) < (s.size : Int)) = false := decide_eq_false (by omega)
      have HKL := Lib.hid hkl
      clear hsz hkl
      go_wp2_with fail
      go_returns
      obtain rfl := HKL.out
      exact ⟨by rw [List.take_of_length_le (Nat.le_refl _)]; rfl, rfl⟩
end Go.Proofs.YtopaoejapnakiaaGreatDoor.Mf
