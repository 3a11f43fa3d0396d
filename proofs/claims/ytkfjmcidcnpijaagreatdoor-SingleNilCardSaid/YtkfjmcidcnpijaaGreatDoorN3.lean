/- Plain: a text of characters is whole, and its characters are these. -/
import Derived.Test.YtkfjmcidcnpijaaGreatDoorN2
namespace Go.Proofs.YtkfjmcidcnpijaaGreatDoor.Mf
open Go.Lib Pl

def okI (r : Int) : Bool := decide (0 ≤ r ∧ (r < 55296 ∨ 57343 < r) ∧ r ≤ 1114111)
theorem u8n (n : Nat) (h : n < 256) : (n.toUInt8).toNat = n := by
  show (UInt8.ofNat n).toNat = n
  rw [UInt8.toNat_ofNat']; omega
theorem dec_enc (r : Nat) (h : okI (r : Int) = true) (t : List UInt8) : decodeL (encodeRune (r : Int) ++ t) = (r, (encodeRune (r : Int)).length) ∧ encodeRune (r : Int) ≠ [] := by
  unfold okI at h
  have h := of_decide_eq_true h
  have hv : ((r : Int) < 55296 ∨ 57343 < (r : Int)) ∧ r ≤ 1114111 := ⟨h.2.1, by omega⟩
  clear h
  rw [decodeL_N]
  unfold encodeRune
  by_cases h1 : r ≤ 127
  · rw [encodeRuneZ_one (by omega) (by omega)]
    refine ⟨?_, by simp⟩
    simp only [List.map_cons, List.map_nil, List.cons_append, List.nil_append, List.getD_cons_zero, Int.toNat_natCast, List.length_cons, List.length_nil]
    rw [u8n r (by omega)]
    unfold decodeN
    rw [if_pos (by omega)]
  by_cases h2 : r ≤ 2047
  · rw [encodeRuneZ_two (by omega) (by omega)]
    refine ⟨?_, by simp⟩
    have e1 : (192 + (r : Int) / 64).toNat = 192 + r / 64 := by omega
    have e2 : (128 + (r : Int) % 64).toNat = 128 + r % 64 := by omega
    simp only [List.map_cons, List.map_nil, List.cons_append, List.nil_append, List.getD_cons_zero, List.getD_cons_succ, List.length_cons, List.length_nil, e1, e2]
    rw [u8n _ (by omega), u8n _ (by omega)]
    unfold decodeN
    have hx : (192 + r / 64) % 32 * 64 + (128 + r % 64) % 64 = r := by omega
    rw [if_neg (by omega), if_pos (by omega), hx, if_pos (by omega)]
  by_cases h3 : r ≤ 65535
  · rw [encodeRuneZ_three (by omega)]
    refine ⟨?_, by simp⟩
    have e1 : (224 + (r : Int) / 4096).toNat = 224 + r / 4096 := by omega
    have e2 : (128 + (r : Int) / 64 % 64).toNat = 128 + r / 64 % 64 := by omega
    have e3 : (128 + (r : Int) % 64).toNat = 128 + r % 64 := by omega
    simp only [List.map_cons, List.map_nil, List.cons_append, List.nil_append, List.getD_cons_zero, List.getD_cons_succ, List.length_cons, List.length_nil, e1, e2, e3]
    rw [u8n _ (by omega), u8n _ (by omega), u8n _ (by omega)]
    unfold decodeN
    have hx : (224 + r / 4096) % 16 * 4096 + (128 + r / 64 % 64) % 64 * 64 + (128 + r % 64) % 64 = r := by omega
    rw [if_neg (by omega), if_neg (by omega), if_pos (by omega), hx, if_pos (by omega)]
  · rw [encodeRuneZ_four (by omega) (by omega)]
    refine ⟨?_, by simp⟩
    have e1 : (240 + (r : Int) / 262144).toNat = 240 + r / 262144 := by omega
    have e2 : (128 + (r : Int) / 4096 % 64).toNat = 128 + r / 4096 % 64 := by omega
    have e3 : (128 + (r : Int) / 64 % 64).toNat = 128 + r / 64 % 64 := by omega
    have e4 : (128 + (r : Int) % 64).toNat = 128 + r % 64 := by omega
    simp only [List.map_cons, List.map_nil, List.cons_append, List.nil_append, List.getD_cons_zero, List.getD_cons_succ, List.length_cons, List.length_nil, e1, e2, e3, e4]
    rw [u8n _ (by omega), u8n _ (by omega), u8n _ (by omega), u8n _ (by omega)]
    unfold decodeN
    have hx : (240 + r / 262144) % 8 * 262144 + (128 + r / 4096 % 64) % 64 * 4096 + (128 + r / 64 % 64) % 64 * 64 + (128 + r % 64) % 64 = r := by omega
    rw [if_neg (by omega), if_neg (by omega), if_neg (by omega), if_pos (by omega), hx, if_pos (by omega)]
theorem text_whole : ∀ (t : List Int), t.all okI = true → runesL (textB t) = t ∧ validD (textB t) = true := by
  intro t
  induction t with
  | nil => intro _; exact ⟨rfl, rfl⟩
  | cons r t ih =>
    intro h
    rw [List.all_cons, Bool.and_eq_true] at h
    obtain ⟨i1, i2⟩ := ih h.2
    obtain ⟨n, rfl⟩ : ∃ n : Nat, r = (n : Int) := ⟨r.toNat, by have h := h.1; unfold okI at h; have := of_decide_eq_true h; omega⟩
    obtain ⟨hd, hn⟩ := dec_enc n h.1 (textB t)
    have he : textB ((n : Int) :: t) = encodeRune (n : Int) ++ textB t := rfl
    have hne : textB ((n : Int) :: t) ≠ [] := by rw [he]; simp [hn]
    rw [runesL_cons _ hne, valid_cons _ hne, he, hd]
    have hdr : (encodeRune (n : Int) ++ textB t).drop (encodeRune (n : Int)).length = textB t := List.drop_left
    simp only [hdr, i1, i2]
    refine ⟨trivial, ?_⟩
    rw [if_neg]
    unfold badU
    rw [hd]
    rintro ⟨a, b⟩
    have a : n = 65533 := a
    subst a
    revert b
    decide
theorem okI_le (t : List Int) (h : t.all okI = true) : ∀ r ∈ t, 0 ≤ r ∧ r ≤ 1114111 := by
  intro r hr
  have h1 := List.all_eq_true.1 h r hr
  unfold okI at h1
  have := of_decide_eq_true h1
  omega
theorem textB_len : ∀ (t : List Int), (textB t).length ≤ 4 * t.length := by
  intro t
  induction t with
  | nil => exact Nat.le_refl _
  | cons r t ih =>
    have he : textB (r :: t) = encodeRune r ++ textB t := rfl
    rw [he, List.length_append, List.length_cons]
    have : (encodeRune r).length ≤ 4 := by
      unfold encodeRune encodeRuneZ
      rw [List.length_map]
      repeat' split
      all_goals simp
    omega
end Go.Proofs.YtkfjmcidcnpijaaGreatDoor.Mf
