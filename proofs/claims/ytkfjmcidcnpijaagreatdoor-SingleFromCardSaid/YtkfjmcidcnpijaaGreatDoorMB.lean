/- Joined of: M3, M4, M5, M6. -/
import Derived.Test.YtkfjmcidcnpijaaGreatDoorPA
import Derived.Test.YtkfjmcidcnpijaaGreatDoorRd
import Derived.Test.YtkfjmcidcnpijaaGreatDoorRows
import Derived.Deep.CutRange
import Derived.Deep.DeepCutAuto
import Derived.Deep.CutBlock
/- Walk: inkhornref13.digit. -/
namespace Go.Proofs.YtkfjmcidcnpijaaGreatDoor.Mf
open Go.RowKit

/-- A hex digit's number; -1: it is none. -/
def dig (c : UInt8) : Int := match hexV c with | some n => (n : Int) | none => -1
theorem hexV_nat (c : UInt8) : hexV c = if 48 ≤ c.toNat ∧ c.toNat ≤ 57 then some (c.toNat - 48) else if 65 ≤ c.toNat ∧ c.toNat ≤ 70 then some (c.toNat - 55) else if 97 ≤ c.toNat ∧ c.toNat ≤ 102 then some (c.toNat - 87) else none := by
  unfold hexV
  simp only [UInt8.le_iff_toNat_le]
  rfl























































































































end Go.Proofs.YtkfjmcidcnpijaaGreatDoor.Mf
/- Walks: inkhornref13.hexes, gap, Line. -/
namespace Go.Proofs.YtkfjmcidcnpijaaGreatDoor.Mf
open Go.RowKit

theorem bl (s : ByteArray) : s.data.toList.length = s.size := Array.length_toList
theorem b_at (s : ByteArray) (i : Nat) (h : i < s.size) : s.data.toList[i]'(by rw [bl]; exact h) = s[i] := by simp; rfl
theorem dig_hex (c : UInt8) : (0 ≤ dig c ↔ isHex c = true) ∧ dig c ≤ 15 ∧ (isHex c = true → dig c = ((hexV c).getD 0 : Nat)) ∧ (isHex c = false → dig c = -1) := by
  unfold dig isHex
  have h15 : ∀ n, hexV c = some n → n ≤ 15 := by
    intro n h
    rw [hexV_nat] at h
    split at h
    · injection h with h; omega
    split at h
    · injection h with h; omega
    split at h
    · injection h with h; omega
    · cases h
  cases hv : hexV c with
  | none => simp
  | some n =>
    have := h15 n hv
    refine ⟨by simp, ?_, by simp, by simp⟩
    show (n : Int) ≤ 15
    omega
/-- The first k digits' number. -/
theorem numOf_snoc (d : List UInt8) (c : UInt8) : numOf (d ++ [c]) = numOf d * 16 + (hexV c).getD 0 := by
  unfold numOf
  rw [List.foldl_append]
  rfl
theorem hexV_le (c : UInt8) : (hexV c).getD 0 ≤ 15 := by
  obtain ⟨_, h2, h3, _⟩ := dig_hex c
  by_cases h : isHex c = true
  · have := h3 h; omega
  · unfold isHex at h
    cases hv : hexV c with
    | none => simp
    | some n => rw [hv] at h; simp at h
theorem fold_lt : ∀ (d : List UInt8) (a : Nat), d.foldl (fun n c => n * 16 + (hexV c).getD 0) a + 1 ≤ (a + 1) * 16 ^ d.length := by
  intro d
  induction d with
  | nil => intro a; simp
  | cons c t ih =>
    intro a
    rw [List.foldl_cons, List.length_cons, Nat.pow_succ]
    have h1 := ih (a * 16 + (hexV c).getD 0)
    have h2 := hexV_le c
    have h3 : (a * 16 + (hexV c).getD 0 + 1) * 16 ^ t.length ≤ ((a + 1) * 16) * 16 ^ t.length := Nat.mul_le_mul_right _ (by omega)
    calc _ ≤ _ := h1
      _ ≤ _ := h3
      _ = (a + 1) * (16 ^ t.length * 16) := by rw [Nat.mul_assoc, Nat.mul_comm 16]
theorem numOf_lt (d : List UInt8) : numOf d < 16 ^ d.length := by
  have := fold_lt d 0
  unfold numOf
  omega
theorem numOf_7 (d : List UInt8) (h : d.length ≤ 7) : numOf d ≤ 268435455 := by
  have h1 := numOf_lt d
  have h2 : 16 ^ d.length ≤ 16 ^ 7 := Nat.pow_le_pow_right (by decide) h
  have h3 : (16 : Nat) ^ 7 = 268435456 := by decide
  omega
theorem digs_at : ∀ (n k : Nat) (s : List UInt8) (hk : k < s.length), k ≤ (digs n s).length → ((k < (digs n s).length ↔ k < n ∧ isHex s[k] = true)) := by
  intro n
  induction n with
  | zero => intro k s hk h; simp [digs] at h ⊢
  | succ n ih =>
    intro k s hk h
    cases s with
    | nil => simp at hk
    | cons c t =>
      unfold digs at h ⊢
      by_cases hc : isHex c = true
      · rw [if_pos hc] at h ⊢
        cases k with
        | zero => simp [hc]
        | succ k =>
          have := ih k t (by simpa using hk) (by simpa using h)
          simpa using this
      · rw [if_neg hc] at h ⊢
        have : k = 0 := by simpa using h
        subst this
        simp [hc]

































































































end Go.Proofs.YtkfjmcidcnpijaaGreatDoor.Mf
/- Walks: inkhornref13.gap, Line. -/
namespace Go.Proofs.YtkfjmcidcnpijaaGreatDoor.Mf
open Go.RowKit

/-- How many blanks and tabs a text begins with. -/
def nsp (s : List UInt8) : Nat := (s.takeWhile sp).length
theorem nsp_at (s : List UInt8) : nsp s = match s with | [] => 0 | c :: t => if sp c = true then nsp t + 1 else 0 := by
  unfold nsp
  cases s with
  | nil => rfl
  | cons c t =>
    rw [List.takeWhile_cons]
    by_cases h : sp c = true
    · simp [h]
    · simp [h]
theorem nsp_drop (s : List UInt8) (k : Nat) (hk : k < s.length) : nsp (s.drop k) = if sp s[k] = true then nsp (s.drop (k + 1)) + 1 else 0 := by
  rw [List.drop_eq_getElem_cons hk, nsp_at]




































































end Go.Proofs.YtkfjmcidcnpijaaGreatDoor.Mf
/- Walk: inkhornref13.Line. -/
namespace Go.Proofs.YtkfjmcidcnpijaaGreatDoor.Mf
open Go.RowKit

theorem rtrim_nil : rtrim [] = [] := rfl
theorem rtrim_snoc (l : List UInt8) (c : UInt8) : rtrim (l ++ [c]) = if sp c = true then rtrim l else l ++ [c] := by
  unfold rtrim
  rw [List.reverse_append, List.reverse_cons, List.reverse_nil, List.nil_append, List.cons_append, List.nil_append, List.dropWhile_cons]
  by_cases h : sp c = true
  · rw [if_pos h, if_pos h]
  · rw [if_neg h, if_neg h]
    simp
theorem ext_take (s : ByteArray) (i : Nat) : (s.extract 0 i).data.toList = s.data.toList.take i := by simp [ByteArray.data_extract]
theorem ba_ext {s t : ByteArray} (h : s.data.toList = t.data.toList) : s = t := ByteArray.ext (Array.toList_inj.1 h)
theorem while_at (s : List UInt8) (P : UInt8 → Bool) (i : Nat) (hi : i < s.length) (h : (s.take i).all P = true) (hp : P s[i] = false) : s.takeWhile P = s.take i := by
  have h1 : s = s.take i ++ s.drop i := (List.take_append_drop i s).symm
  have h2 : s.takeWhile P = (s.take i ++ s.drop i).takeWhile P := by rw [← h1]
  rw [h2, List.takeWhile_append_of_pos (fun a ha => List.all_eq_true.1 h a ha), List.drop_eq_getElem_cons hi, List.takeWhile_cons, hp]
  simp
theorem while_all : ∀ (s : List UInt8) (P : UInt8 → Bool), s.all P = true → s.takeWhile P = s := by
  intro s P
  induction s with
  | nil => intro _; rfl
  | cons c t ih =>
    intro h
    rw [List.all_cons, Bool.and_eq_true] at h
    rw [List.takeWhile_cons, if_pos h.1, ih h.2]
theorem sp_nat (c : UInt8) : sp c = (c.toNat == 32 || c.toNat == 9) := by
  unfold sp
  congr 1
  · rw [Bool.eq_iff_iff, beq_iff_eq, beq_iff_eq]; exact ⟨fun h => by rw [h]; rfl, fun h => UInt8.toNat_inj.1 h⟩
  · rw [Bool.eq_iff_iff, beq_iff_eq, beq_iff_eq]; exact ⟨fun h => by rw [h]; rfl, fun h => UInt8.toNat_inj.1 h⟩
theorem last_snoc (B : ByteArray) (m : Nat) (h : B.size = m + 1) (hl : m < B.size) : B.data.toList = B.data.toList.take m ++ [B[m]'hl] := by
  have h1 : B.data.toList.take (m + 1) = B.data.toList := List.take_of_length_le (by rw [bl]; omega)
  rw [← b_at B m (by omega), ← List.take_succ_eq_append_getElem (by rw [bl]; omega), h1]



































































































































end Go.Proofs.YtkfjmcidcnpijaaGreatDoor.Mf
