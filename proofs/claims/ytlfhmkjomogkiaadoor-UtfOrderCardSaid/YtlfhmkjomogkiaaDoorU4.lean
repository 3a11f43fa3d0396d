/- Plain: UTF-8: bytes are in the order of the characters, and no character's bytes begin with another one's. -/
import Derived.Test.YtlfhmkjomogkiaaDoorU1
import GoSem.Op.String
namespace Go.Proofs.YtlfhmkjomogkiaaDoor
namespace Pl

/-- The order of lists of numbers. -/
def natsLess : List Nat → List Nat → Bool
  | _, [] => false
  | [], _ :: _ => true
  | a :: x, b :: y => decide (a < b) || (a == b && natsLess x y)
theorem bytesLess_nats : ∀ (x y : List Nat), (∀ n ∈ x, n < 256) → (∀ n ∈ y, n < 256) → Go.Op.bytesLess (x.map UInt8.ofNat) (y.map UInt8.ofNat) = natsLess x y := by
  intro x
  induction x with
  | nil =>
    intro y _ _
    cases y <;> rfl
  | cons a x ih =>
    intro y hx hy
    cases y with
    | nil => rfl
    | cons b y =>
      have ha := of_u8 a (hx a (List.mem_cons_self ..))
      have hb := of_u8 b (hy b (List.mem_cons_self ..))
      have h := ih y (fun n hn => hx n (List.mem_cons_of_mem _ hn)) (fun n hn => hy n (List.mem_cons_of_mem _ hn))
      show (decide (UInt8.ofNat a < UInt8.ofNat b) || (UInt8.ofNat a == UInt8.ofNat b && Go.Op.bytesLess (x.map UInt8.ofNat) (y.map UInt8.ofNat))) = (decide (a < b) || (a == b && natsLess x y))
      rw [h]
      have e1 : decide (UInt8.ofNat a < UInt8.ofNat b) = decide (a < b) := by
        rw [Bool.eq_iff_iff]; simp only [decide_eq_true_eq, UInt8.lt_iff_toNat_lt, ha, hb]
      have e2 : (UInt8.ofNat a == UInt8.ofNat b) = (a == b) := by
        rw [Bool.eq_iff_iff]; simp only [beq_iff_eq]; rw [← UInt8.toNat_inj, ha, hb]
      rw [e1, e2]
theorem uchN_lt {n : Nat} (h : n ≤ 1114111) : ∀ k ∈ uchN n, k < 256 := by
  intro k hk
  unfold uchN at hk
  split at hk
  · simp at hk; omega
  · split at hk
    · simp at hk; omega
    · split at hk
      · simp at hk; omega
      · simp at hk; omega
theorem less_uchN {n m : Nat} (hn : n ≤ 1114111) (hm : m ≤ 1114111) : natsLess (uchN n) (uchN m) = decide (n < m) := by
  rw [Bool.eq_iff_iff]
  by_cases a1 : n < 128
  · rw [uchN_1 a1]
    by_cases b1 : m < 128
    · rw [uchN_1 b1]; simp [natsLess]
    by_cases b2 : m < 2048
    · rw [uchN_2 b1 b2]; simp [natsLess]; omega
    by_cases b3 : m < 65536
    · rw [uchN_3 b2 b3]; simp [natsLess]; omega
    · rw [uchN_4 b3]; simp [natsLess]; omega
  by_cases a2 : n < 2048
  · rw [uchN_2 a1 a2]
    by_cases b1 : m < 128
    · rw [uchN_1 b1]; simp [natsLess]; omega
    by_cases b2 : m < 2048
    · rw [uchN_2 b1 b2]; simp [natsLess]; omega
    by_cases b3 : m < 65536
    · rw [uchN_3 b2 b3]; simp [natsLess]; omega
    · rw [uchN_4 b3]; simp [natsLess]; omega
  by_cases a3 : n < 65536
  · rw [uchN_3 a2 a3]
    by_cases b1 : m < 128
    · rw [uchN_1 b1]; simp [natsLess]; omega
    by_cases b2 : m < 2048
    · rw [uchN_2 b1 b2]; simp [natsLess]; omega
    by_cases b3 : m < 65536
    · rw [uchN_3 b2 b3]; simp [natsLess]; omega
    · rw [uchN_4 b3]; simp [natsLess]; omega
  · rw [uchN_4 a3]
    by_cases b1 : m < 128
    · rw [uchN_1 b1]; simp [natsLess]; omega
    by_cases b2 : m < 2048
    · rw [uchN_2 b1 b2]; simp [natsLess]; omega
    by_cases b3 : m < 65536
    · rw [uchN_3 b2 b3]; simp [natsLess]; omega
    · rw [uchN_4 b3]; simp [natsLess]; omega
theorem less_uch {a b : Int} (ha : scal a = true) (hb : scal b = true) : Go.Op.bytesLess (uch a) (uch b) = decide (a < b) := by
  have h1 : 0 ≤ a ∧ a ≤ 1114111 := by simp [scal] at ha; omega
  have h2 : 0 ≤ b ∧ b ≤ 1114111 := by simp [scal] at hb; omega
  unfold uch
  rw [bytesLess_nats _ _ (uchN_lt (by omega)) (uchN_lt (by omega)), less_uchN (by omega) (by omega)]
  rw [Bool.eq_iff_iff]; simp only [decide_eq_true_eq]; omega
theorem uch_prefix {a b : Int} (ha : scal a = true) (hb : scal b = true) (h : (uch b).take (uch a).length = uch a) : a = b := by
  have h1 := uch_find b [] hb
  have h2 := uch_find a ((uch b).drop (uch a).length) ha
  have h3 := List.take_append_drop (uch a).length (uch b)
  rw [h] at h3
  rw [h3] at h2
  rw [List.append_nil] at h1
  rw [h1] at h2
  exact (congrArg Prod.fst h2).symm

end Pl
end Go.Proofs.YtlfhmkjomogkiaaDoor
