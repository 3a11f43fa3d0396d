/- Plain: the wide kinds are such codings. -/
import Derived.Test.YtlfhmkjomogkiaaPlain4
namespace Go.Proofs.Ytlfhmkjomogkiaa
namespace Pl

theorem leB_num : ∀ m : List UInt8, leB m.length (num m.reverse) = m := by
  intro m
  induction m with
  | nil => rfl
  | cons b m ih =>
    rw [List.reverse_cons, num_snoc]
    show UInt8.ofNat (num m.reverse * 256 + b.toNat) :: leB m.length ((num m.reverse * 256 + b.toNat) / 256) = b :: m
    have hb := b.toNat_lt
    have h1 : (num m.reverse * 256 + b.toNat) / 256 = num m.reverse := by omega
    have h2 : UInt8.ofNat (num m.reverse * 256 + b.toNat) = b := by
      apply UInt8.toNat_inj.1
      rw [UInt8.toNat_ofNat']
      omega
    rw [h1, h2, ih]
theorem num_leB : ∀ (k n : Nat), n < 256 ^ k → num (leB k n).reverse = n := by
  intro k
  induction k with
  | zero => intro n h; simp at h; subst h; rfl
  | succ k ih =>
    intro n h
    show num (UInt8.ofNat n :: leB k (n / 256)).reverse = n
    rw [List.reverse_cons, num_snoc, ih (n / 256) (by rw [Nat.pow_succ] at h; omega), UInt8.toNat_ofNat']
    omega
theorem unitB_unitN (size : Nat) (big : Bool) (l : List UInt8) (h : size ≤ l.length) : unitB size big (unitN size big l) = l.take size := by
  have hl : (l.take size).length = size := by rw [List.length_take]; omega
  unfold unitB unitN ordB
  cases big
  · have h2 := leB_num (l.take size)
    rw [hl] at h2
    simpa using h2
  · have h2 := leB_num (l.take size).reverse
    rw [List.length_reverse, hl, List.reverse_reverse] at h2
    simp [h2]
theorem unitN_unitB (size : Nat) (big : Bool) (n : Nat) (rest : List UInt8) (h : n < 256 ^ size) : unitN size big (unitB size big n ++ rest) = n := by
  unfold unitN
  rw [List.take_append_of_le_length (by rw [unitB_length]; exact Nat.le_refl _), List.take_of_length_le (by rw [unitB_length]; exact Nat.le_refl _)]
  unfold unitB ordB
  cases big
  · simpa using num_leB size n h
  · simpa using num_leB size n h
theorem unitN_app (size : Nat) (big : Bool) (u t : List UInt8) (h : size ≤ u.length) : unitN size big (u ++ t) = unitN size big u := by
  unfold unitN; rw [List.take_append_of_le_length h]
theorem wn_other {size len n m m' : Nat} (h : ¬ (size = 2 ∧ 55296 ≤ n ∧ n < 56320)) : wnextN size len n m = wnextN size len n m' := by
  unfold wnextN
  split
  · rfl
  · rfl
theorem wnext_app (size : Nat) (big : Bool) (u t : List UInt8) (hm : (wnext size big u).2.2 ≠ 18) : wnext size big (u ++ t) = wnext size big u := by
  unfold wnext at *
  have hs : ¬ u.length < size := by
    intro h; rw [wn_short h] at hm; exact hm rfl
  rw [unitN_app size big u t (by omega)]
  by_cases hh : size = 2 ∧ 55296 ≤ unitN size big u ∧ unitN size big u < 56320
  · obtain ⟨rfl, h1, h2⟩ := hh
    have h4 : ¬ u.length < 4 := by
      intro h; rw [wn_high_short hs h1 h2 h] at hm; exact hm rfl
    have e : (u ++ t).drop 2 = u.drop 2 ++ t := List.drop_append_of_le_length (by omega)
    rw [e, unitN_app 2 big (u.drop 2) t (by rw [List.length_drop]; omega)]
    unfold wnextN
    have a1 : ¬ u.length + t.length < 2 := by omega
    have a2 : ¬ u.length + t.length < 4 := by omega
    simp only [List.length_append, if_neg hs, if_neg h4, if_neg a1, if_neg a2]
  · rw [wn_other hh (m' := unitN 2 big (u.drop 2))]
    unfold wnextN
    have a1 : ¬ u.length + t.length < size := by omega
    simp only [List.length_append, if_neg hs, if_neg a1, if_neg hh]
theorem scal_cast (n : Nat) : scal n = true ↔ n < 55296 ∨ (57343 < n ∧ n ≤ 1114111) := by simp [scal]; omega
theorem wnext_ok (size : Nat) (big : Bool) (t : List UInt8) (h2 : size = 2 ∨ size = 4) (he : (wnext size big t).2.2 = 0) :
    scal (wnext size big t).1 = true ∧ t.take (wnext size big t).2.1 = wchar size big (wnext size big t).1 := by
  have hlt := unitN_lt size big t
  unfold wnext at *
  by_cases hs : t.length < size
  · rw [wn_short hs] at he; simp at he
  · have hu := unitB_unitN size big t (by omega)
    generalize hn : unitN size big t = n at *
    by_cases hh : size = 2 ∧ 55296 ≤ n ∧ n < 56320
    · obtain ⟨rfl, ha, hb⟩ := hh
      by_cases h4 : t.length < 4
      · rw [wn_high_short hs ha hb h4] at he; simp at he
      · have hu2 := unitB_unitN 2 big (t.drop 2) (by rw [List.length_drop]; omega)
        generalize unitN 2 big (t.drop 2) = m at *
        by_cases hp : 56320 ≤ m ∧ m < 57344
        · rw [wn_pair ha hb h4 hp.1 hp.2] at he ⊢
          refine ⟨(scal_cast _).2 (by omega), ?_⟩
          have hw := wchar_two big ((n - 55296) * 1024 + (m - 56320))
          rw [show (65536 : Int) + (((n - 55296) * 1024 + (m - 56320) : Nat) : Int) = ((65536 + (n - 55296) * 1024 + (m - 56320) : Nat) : Int) from by omega] at hw
          rw [hw, show 55296 + ((n - 55296) * 1024 + (m - 56320)) / 1024 = n from by omega, show 56320 + ((n - 55296) * 1024 + (m - 56320)) % 1024 = m from by omega, hu, hu2]
          exact (List.take_add (l := t) (i := 2) (j := 2)).symm ▸ rfl
        · rw [wn_high_bad ha hb h4 (by omega)] at he; simp at he
    · have hq : size = 2 → n < 55296 ∨ 56320 ≤ n := by omega
      cases hsc : scal (n : Int)
      · rw [wn_bad hs hq hsc] at he; simp at he
      · rw [wn_ok hs hq hsc]
        refine ⟨hsc, ?_⟩
        have hcond : size ≠ 2 ∨ n < 65536 := by
          rcases h2 with rfl | rfl
          · exact .inr (by omega)
          · exact .inl (by decide)
        rw [wchar_one size big n hcond, hu]
theorem wchar_find (size : Nat) (big : Bool) (r : Int) (rest : List UInt8) (h2 : size = 2 ∨ size = 4) (hs : scal r = true) : wnext size big (wchar size big r ++ rest) = (r, (wchar size big r).length, 0) := by
  have hr : 0 ≤ r ∧ r ≤ 1114111 := by simp [scal] at hs; omega
  obtain ⟨n, rfl⟩ := Int.eq_ofNat_of_zero_le hr.1
  have hn := (scal_cast n).1 hs
  by_cases hc : size ≠ 2 ∨ n < 65536
  · have hlt : n < 256 ^ size := by
      rcases h2 with rfl | rfl
      · rcases hc with h | h
        · exact absurd rfl h
        · exact h
      · omega
    rw [wchar_one size big n hc, unitB_length]
    unfold wnext
    rw [unitN_unitB size big n rest hlt]
    exact wn_ok (by rw [List.length_append, unitB_length]; omega) (by omega) hs
  · have hsz : size = 2 := by omega
    subst hsz
    obtain ⟨m, rfl⟩ : ∃ m, n = 65536 + m := ⟨n - 65536, by omega⟩
    rw [show (((65536 + m : Nat)) : Int) = 65536 + (m : Int) from by omega, wchar_two big m]
    unfold wnext
    rw [List.append_assoc, unitN_unitB 2 big _ _ (by omega), List.drop_left' (unitB_length 2 big _), unitN_unitB 2 big _ _ (by omega)]
    rw [wn_pair (by omega) (by omega) (by simp only [List.length_append, unitB_length]; omega) (by omega) (by omega)]
    simp only [List.length_append, unitB_length]
    refine Prod.ext ?_ rfl
    show ((65536 + (55296 + m / 1024 - 55296) * 1024 + (56320 + m % 1024 - 56320) : Nat) : Int) = 65536 + (m : Int)
    omega
/-- Every wide kind is such a coding. -/
theorem wide_codec (size : Nat) (big : Bool) (h2 : size = 2 ∨ size = 4) : Codec (wnext size big) (wchar size big) where
  pos t h := wnext_pos size big t h h2
  ok t h := wnext_ok size big t h2 h
  find r rest h := wchar_find size big r rest h2 h
  app u t h := wnext_app size big u t h
  more t h := (wcut_more size big t h2 h).2

end Pl
end Go.Proofs.Ytlfhmkjomogkiaa
