/- Joined of: Plain5, S3, S4, S5, S6, S7, S8, Sn, SLs, SMa, SMb, SMc. -/
import Derived.Test.YtlfhmkjomogkiaaDoorPlain4
import Derived.Test.YtlfhmkjomogkiaaDoorU3
import Derived.Test.YtlfhmkjomogkiaaDoorS1
import Derived.Test.YtlfhmkjomogkiaaDoorU1
import Derived.Test.YtlfhmkjomogkiaaDoorSX
import Derived.Test.YtlfhmkjomogkiaaDoorWn
/- Plain: the wide kinds are such codings. -/
namespace Go.Proofs.YtlfhmkjomogkiaaDoor
namespace Pl

theorem leB_num : ∀ m : List UInt8, leB m.length (num m.reverse) = m := by
  intro m
  induction m with
  | nil => rfl
  | cons b m ih =>
    rw [List.reverse_cons, num_snoc]
    show UInt8.ofNat (num m.reverse * 256 + b.toNat) :: leB m.length ((num m.reverse * 256 + b.toNat) / 256) = b :: m
    have hb := b.toNat_lt
    have h1 : (num m.reverse * 256 + b.toNat) / 256 = num m.reverse := by omega
    have h2 : UInt8.ofNat (num m.reverse * 256 + b.toNat) = b := by
      apply UInt8.toNat_inj.1
      rw [UInt8.toNat_ofNat']
      omega
    rw [h1, h2, ih]
theorem num_leB : ∀ (k n : Nat), n < 256 ^ k → num (leB k n).reverse = n := by
  intro k
  induction k with
  | zero => intro n h; simp at h; subst h; rfl
  | succ k ih =>
    intro n h
    show num (UInt8.ofNat n :: leB k (n / 256)).reverse = n
    rw [List.reverse_cons, num_snoc, ih (n / 256) (by rw [Nat.pow_succ] at h; omega), UInt8.toNat_ofNat']
    omega
theorem unitB_unitN (size : Nat) (big : Bool) (l : List UInt8) (h : size ≤ l.length) : unitB size big (unitN size big l) = l.take size := by
  have hl : (l.take size).length = size := by rw [List.length_take]; omega
  unfold unitB unitN ordB
  cases big
  · have h2 := leB_num (l.take size)
    rw [hl] at h2
    simpa using h2
  · have h2 := leB_num (l.take size).reverse
    rw [List.length_reverse, hl, List.reverse_reverse] at h2
    simp [h2]
theorem unitN_unitB (size : Nat) (big : Bool) (n : Nat) (rest : List UInt8) (h : n < 256 ^ size) : unitN size big (unitB size big n ++ rest) = n := by
  unfold unitN
  rw [List.take_append_of_le_length (by rw [unitB_length]; exact Nat.le_refl _), List.take_of_length_le (by rw [unitB_length]; exact Nat.le_refl _)]
  unfold unitB ordB
  cases big
  · simpa using num_leB size n h
  · simpa using num_leB size n h
theorem unitN_app (size : Nat) (big : Bool) (u t : List UInt8) (h : size ≤ u.length) : unitN size big (u ++ t) = unitN size big u := by
  unfold unitN; rw [List.take_append_of_le_length h]
theorem wn_other {size len n m m' : Nat} (h : ¬ (size = 2 ∧ 55296 ≤ n ∧ n < 56320)) : wnextN size len n m = wnextN size len n m' := by
  unfold wnextN
  split
  · rfl
  · rfl
theorem wnext_app (size : Nat) (big : Bool) (u t : List UInt8) (hm : (wnext size big u).2.2 ≠ 18) : wnext size big (u ++ t) = wnext size big u := by
  unfold wnext at *
  have hs : ¬ u.length < size := by
    intro h; rw [wn_short h] at hm; exact hm rfl
  rw [unitN_app size big u t (by omega)]
  by_cases hh : size = 2 ∧ 55296 ≤ unitN size big u ∧ unitN size big u < 56320
  · obtain ⟨rfl, h1, h2⟩ := hh
    have h4 : ¬ u.length < 4 := by
      intro h; rw [wn_high_short hs h1 h2 h] at hm; exact hm rfl
    have e : (u ++ t).drop 2 = u.drop 2 ++ t := List.drop_append_of_le_length (by omega)
    rw [e, unitN_app 2 big (u.drop 2) t (by rw [List.length_drop]; omega)]
    unfold wnextN
    have a1 : ¬ u.length + t.length < 2 := by omega
    have a2 : ¬ u.length + t.length < 4 := by omega
    simp only [List.length_append, if_neg hs, if_neg h4, if_neg a1, if_neg a2]
  · rw [wn_other hh (m' := unitN 2 big (u.drop 2))]
    unfold wnextN
    have a1 : ¬ u.length + t.length < size := by omega
    simp only [List.length_append, if_neg hs, if_neg a1, if_neg hh]
theorem scal_cast (n : Nat) : scal n = true ↔ n < 55296 ∨ (57343 < n ∧ n ≤ 1114111) := by simp [scal]; omega
theorem wnext_ok (size : Nat) (big : Bool) (t : List UInt8) (h2 : size = 2 ∨ size = 4) (he : (wnext size big t).2.2 = 0) :
    scal (wnext size big t).1 = true ∧ t.take (wnext size big t).2.1 = wchar size big (wnext size big t).1 := by
  have hlt := unitN_lt size big t
  unfold wnext at *
  by_cases hs : t.length < size
  · rw [wn_short hs] at he; simp at he
  · have hu := unitB_unitN size big t (by omega)
    generalize hn : unitN size big t = n at *
    by_cases hh : size = 2 ∧ 55296 ≤ n ∧ n < 56320
    · obtain ⟨rfl, ha, hb⟩ := hh
      by_cases h4 : t.length < 4
      · rw [wn_high_short hs ha hb h4] at he; simp at he
      · have hu2 := unitB_unitN 2 big (t.drop 2) (by rw [List.length_drop]; omega)
        generalize unitN 2 big (t.drop 2) = m at *
        by_cases hp : 56320 ≤ m ∧ m < 57344
        · rw [wn_pair ha hb h4 hp.1 hp.2] at he ⊢
          refine ⟨(scal_cast _).2 (by omega), ?_⟩
          have hw := wchar_two big ((n - 55296) * 1024 + (m - 56320))
          rw [show (65536 : Int) + (((n - 55296) * 1024 + (m - 56320) : Nat) : Int) = ((65536 + (n - 55296) * 1024 + (m - 56320) : Nat) : Int) from by omega] at hw
          rw [hw, show 55296 + ((n - 55296) * 1024 + (m - 56320)) / 1024 = n from by omega, show 56320 + ((n - 55296) * 1024 + (m - 56320)) % 1024 = m from by omega, hu, hu2]
          exact (List.take_add (l := t) (i := 2) (j := 2)).symm ▸ rfl
        · rw [wn_high_bad ha hb h4 (by omega)] at he; simp at he
    · have hq : size = 2 → n < 55296 ∨ 56320 ≤ n := by omega
      cases hsc : scal (n : Int)
      · rw [wn_bad hs hq hsc] at he; simp at he
      · rw [wn_ok hs hq hsc]
        refine ⟨hsc, ?_⟩
        have hcond : size ≠ 2 ∨ n < 65536 := by
          rcases h2 with rfl | rfl
          · exact .inr (by omega)
          · exact .inl (by decide)
        rw [wchar_one size big n hcond, hu]
theorem wchar_find (size : Nat) (big : Bool) (r : Int) (rest : List UInt8) (h2 : size = 2 ∨ size = 4) (hs : scal r = true) : wnext size big (wchar size big r ++ rest) = (r, (wchar size big r).length, 0) := by
  have hr : 0 ≤ r ∧ r ≤ 1114111 := by simp [scal] at hs; omega
  obtain ⟨n, rfl⟩ := Int.eq_ofNat_of_zero_le hr.1
  have hn := (scal_cast n).1 hs
  by_cases hc : size ≠ 2 ∨ n < 65536
  · have hlt : n < 256 ^ size := by
      rcases h2 with rfl | rfl
      · rcases hc with h | h
        · exact absurd rfl h
        · exact h
      · omega
    rw [wchar_one size big n hc, unitB_length]
    unfold wnext
    rw [unitN_unitB size big n rest hlt]
    exact wn_ok (by rw [List.length_append, unitB_length]; omega) (by omega) hs
  · have hsz : size = 2 := by omega
    subst hsz
    obtain ⟨m, rfl⟩ : ∃ m, n = 65536 + m := ⟨n - 65536, by omega⟩
    rw [show (((65536 + m : Nat)) : Int) = 65536 + (m : Int) from by omega, wchar_two big m]
    unfold wnext
    rw [List.append_assoc, unitN_unitB 2 big _ _ (by omega), List.drop_left' (unitB_length 2 big _), unitN_unitB 2 big _ _ (by omega)]
    rw [wn_pair (by omega) (by omega) (by simp only [List.length_append, unitB_length]; omega) (by omega) (by omega)]
    simp only [List.length_append, unitB_length]
    refine Prod.ext ?_ rfl
    show ((65536 + (55296 + m / 1024 - 55296) * 1024 + (56320 + m % 1024 - 56320) : Nat) : Int) = 65536 + (m : Int)
    omega
/-- Every wide kind is such a coding. -/
theorem wide_codec (size : Nat) (big : Bool) (h2 : size = 2 ∨ size = 4) : Codec (wnext size big) (wchar size big) where
  pos t h := wnext_pos size big t h h2
  ok t h := wnext_ok size big t h2 h
  find r rest h := wchar_find size big r rest h2 h
  app u t h := wnext_app size big u t h
  more t h := (wcut_more size big t h2 h).2

end Pl
end Go.Proofs.YtlfhmkjomogkiaaDoor

/- Plain: bytes up to a cut, and what is behind it with others behind that, by any policy. -/
namespace Go.Proofs.YtlfhmkjomogkiaaDoor
namespace Pl
/-- A cut: how many bytes are ahead of a beginning at the end that is not whole. -/
structure Cutter (nx : List UInt8 → Int × Nat × Int) (cut : List UInt8 → Nat) : Prop where
  le : ∀ l, cut l ≤ l.length
  more : ∀ l, 0 < l.length → (nx l).2.2 = 18 → cut l = 0
  step : ∀ l, 0 < l.length → (nx l).2.2 ≠ 18 → cut l = (nx l).2.1 + cut (l.drop (nx l).2.1)
  trim : ∀ l, 0 < l.length → (nx l).2.2 ≠ 18 → (nx l).2.2 ≠ 0 → (nx (l.take (cut l))).2.1 = (nx l).2.1 ∧ (nx (l.take (cut l))).2.2 ≠ 0
section
variable {nx : List UInt8 → Int × Nat × Int} {ch : Int → List UInt8} {cut : List UInt8 → Nat} (C : Codec nx ch) (D : Cutter nx cut)
include C D
/-- What bytes begin with is found again up to their cut. -/
theorem Cutter.first (l : List UInt8) (h0 : 0 < l.length) (h : (nx l).2.2 = 0) : nx (l.take (cut l)) = nx l := by
  have hs := D.step l h0 (by rw [h]; decide)
  have hp := C.pos l h0
  obtain ⟨h1, h2⟩ := C.ok l h
  have hl : (ch (nx l).1).length = (nx l).2.1 := by rw [← h2, List.length_take]; omega
  have e : l.take (cut l) = ch (nx l).1 ++ (l.drop (nx l).2.1).take (cut (l.drop (nx l).2.1)) := by
    rw [hs, List.take_add, h2]
  rw [e, C.find _ _ h1, hl]
  rw [← h]
theorem Cutter.parts (pol : Int) (F g : Nat) (t : List UInt8) : ∀ (k : Nat) (l : List UInt8) (a : Nat) (o : List Int) (b : List (Nat × Nat)), l.length ≤ k → l.length ≤ F → (l ++ t).length ≤ g →
    decL nx pol g (l ++ t) a o b = if (decL nx pol F (l.take (cut l)) a o b).2.2 = 0 then decL nx pol g (l.drop (cut l) ++ t) (a + cut l) (decL nx pol F (l.take (cut l)) a o b).1 (decL nx pol F (l.take (cut l)) a o b).2.1
      else decL nx pol F (l.take (cut l)) a o b := by
  intro k
  induction k with
  | zero =>
    intro l a o b h hF hg
    have : l = [] := List.eq_nil_of_length_eq_zero (by omega)
    subst this
    have hc : cut [] = 0 := by have := D.le []; simpa using this
    rw [hc]
    simp [decL_end]
  | succ k ih =>
    intro l a o b h hF hg
    by_cases h0 : l.length = 0
    · have : l = [] := List.eq_nil_of_length_eq_zero h0
      subst this
      have hc : cut [] = 0 := by have := D.le []; simpa using this
      rw [hc]
      simp [decL_end]
    · have h0' : 0 < l.length := by omega
      by_cases hm : (nx l).2.2 = 18
      · rw [D.more l h0' hm]
        simp [decL_end]
      · have hs := D.step l h0' hm
        have hp := C.pos l h0'
        have happ := C.app l t hm
        have hcl := D.le l
        have hu : (l.take (cut l)).length = cut l := by rw [List.length_take]; omega
        have hd : (l.take (cut l)).drop (nx l).2.1 = (l.drop (nx l).2.1).take (cut (l.drop (nx l).2.1)) := by
          rw [List.drop_take, hs, Nat.add_sub_cancel_left]
        have hdr : (l ++ t).drop (nx l).2.1 = l.drop (nx l).2.1 ++ t := by rw [List.drop_append_of_le_length hp.2]
        have hdd : l.drop (cut l) = (l.drop (nx l).2.1).drop (cut (l.drop (nx l).2.1)) := by rw [List.drop_drop, ← hs]
        have hlen : (l.drop (nx l).2.1 ++ t).length ≤ g := by rw [← hdr, List.length_drop]; omega
        have hac : ∀ a, a + cut l = a + (nx l).2.1 + cut (l.drop (nx l).2.1) := fun a => by omega
        have hC := fun t h => (C.pos t h).1
        by_cases he : (nx l).2.2 = 0
        · have hn := Cutter.first C D l h0' he
          rw [decL_ok nx pol hC g (l ++ t) a o b (by rw [List.length_append]; omega) hg (by rw [happ]; exact he), happ, hdr,
            decL_ok nx pol hC F (l.take (cut l)) a o b (by rw [hu]; omega) (by rw [hu]; omega) (by rw [hn]; exact he), hn, hd, hdd, hac]
          exact ih (l.drop (nx l).2.1) (a + (nx l).2.1) (o ++ [(nx l).1]) b (by rw [List.length_drop]; omega) (by rw [List.length_drop]; omega) hlen
        · obtain ⟨hn, hne⟩ := D.trim l h0' hm he
          by_cases hpol : pol = 1
          · subst hpol
            rw [decL_strict nx g (l ++ t) a o b (by rw [List.length_append]; omega) hg (by rw [happ]; exact he), happ,
              decL_strict nx F (l.take (cut l)) a o b (by rw [hu]; omega) (by rw [hu]; omega) hne, hn]
            rfl
          · rw [decL_more nx pol hC g (l ++ t) a o b (by rw [List.length_append]; omega) hg (by rw [happ]; exact he) hpol, happ, hdr,
              decL_more nx pol hC F (l.take (cut l)) a o b (by rw [hu]; omega) (by rw [hu]; omega) hne hpol, hn, hd, hdd, hac]
            exact ih (l.drop (nx l).2.1) (a + (nx l).2.1) (if pol = 2 then o ++ [65533] else o) (b ++ [(a, (nx l).2.1)]) (by rw [List.length_drop]; omega) (by rw [List.length_drop]; omega) hlen
theorem Cutter.dec_parts (pol : Int) (l t : List UInt8) :
    dec nx pol (l ++ t) = if (dec nx pol (l.take (cut l))).2.2 = 0 then
      ((dec nx pol (l.take (cut l))).1 ++ (dec nx pol (l.drop (cut l) ++ t)).1, (dec nx pol (l.take (cut l))).2.1 ++ shiftF (cut l) (dec nx pol (l.drop (cut l) ++ t)).2.1, (dec nx pol (l.drop (cut l) ++ t)).2.2)
      else dec nx pol (l.take (cut l)) := by
  have hC := fun t h => (C.pos t h).1
  have hcl := D.le l
  have h1 := Cutter.parts C D pol l.length (l ++ t).length t l.length l 0 [] [] (Nat.le_refl _) (Nat.le_refl _) (Nat.le_refl _)
  have hF : decL nx pol l.length (l.take (cut l)) 0 [] [] = dec nx pol (l.take (cut l)) := by
    unfold dec
    exact decL_fuel nx pol hC _ _ _ _ _ _ (by rw [List.length_take]; omega) (Nat.le_refl _)
  rw [hF] at h1
  show decL nx pol _ (l ++ t) 0 [] [] = _
  rw [h1]
  split
  · rw [Nat.zero_add, decL_acc, decL_fuel nx pol hC (l ++ t).length (l.drop (cut l) ++ t).length (l.drop (cut l) ++ t) (cut l) [] [] (by rw [List.length_append, List.length_append, List.length_drop]; omega) (Nat.le_refl _)]
    have h4 := decL_shift (nx := nx) pol (cut l) (l.drop (cut l) ++ t).length (l.drop (cut l) ++ t) 0 [] []
    rw [show shiftF (cut l) [] = [] from rfl, Nat.add_zero] at h4
    rw [h4]
    rfl
  · rfl
end
end Pl
end Go.Proofs.YtlfhmkjomogkiaaDoor

/- Plain: the cuts of both codings. -/
namespace Go.Proofs.YtlfhmkjomogkiaaDoor
namespace Pl
theorem ugo_ge (m : Nat) : ∀ (t : List UInt8) (x lo hi n : Nat), (ugo m t x lo hi n).2.2 ≠ 0 → n ≤ (ugo m t x lo hi n).2.1 := by
  intro t
  induction t with
  | nil =>
    intro x lo hi n h
    rw [ugo_nil] at *
    split at h
    · exact absurd rfl h
    · rename_i h1; rw [if_neg h1]; exact Nat.le_refl _
  | cons c t ih =>
    intro x lo hi n h
    rw [ugo_cons] at *
    split at h
    · exact absurd rfl h
    · rename_i h1
      rw [if_neg h1]
      split at h
      · rename_i h2; rw [if_pos h2]; exact Nat.le_refl _
      · rename_i h2; rw [if_neg h2]; have := ih _ _ _ _ h; omega
theorem ugo_trim (m : Nat) : ∀ (t : List UInt8) (x lo hi n j : Nat), (ugo m t x lo hi n).2.2 ≠ 18 → (ugo m t x lo hi n).2.2 ≠ 0 → (ugo m t x lo hi n).2.1 ≤ n + j →
    (ugo m (t.take j) x lo hi n).2.1 = (ugo m t x lo hi n).2.1 ∧ (ugo m (t.take j) x lo hi n).2.2 ≠ 0 := by
  intro t
  induction t with
  | nil => intro x lo hi n j _ h2 _; rw [List.take_nil]; exact ⟨rfl, h2⟩
  | cons c t ih =>
    intro x lo hi n j h1 h2 h3
    have hge := ugo_ge m (c :: t) x lo hi n h2
    rw [ugo_cons] at h1 h2 h3 hge ⊢
    by_cases hm : m ≤ n
    · rw [if_pos hm] at h2; exact absurd rfl h2
    · rw [if_neg hm] at h1 h2 h3 hge ⊢
      by_cases hc : c.toNat < lo ∨ hi < c.toNat
      · rw [if_pos hc] at h1 h2 h3 hge ⊢
        cases j with
        | zero => rw [List.take_zero, ugo_nil, if_neg hm]; exact ⟨rfl, (by decide : (18 : Int) ≠ 0)⟩
        | succ j => rw [List.take_succ_cons, ugo_cons, if_neg hm, if_pos hc]; exact ⟨rfl, (by decide : (17 : Int) ≠ 0)⟩
      · rw [if_neg hc] at h1 h2 h3 hge ⊢
        have hg1 := ugo_ge m t _ _ _ _ h2
        cases j with
        | zero => omega
        | succ j =>
          rw [List.take_succ_cons, ugo_cons, if_neg hm, if_neg hc]
          exact ih _ _ _ _ j h1 h2 (by omega)
theorem unext_trim (l : List UInt8) (k : Nat) (h1 : (unext l).2.2 ≠ 18) (h2 : (unext l).2.2 ≠ 0) (h3 : (unext l).2.1 ≤ k) : (unext (l.take k)).2.1 = (unext l).2.1 ∧ (unext (l.take k)).2.2 ≠ 0 := by
  cases l with
  | nil => exact absurd rfl h1
  | cons b t =>
    have hp := (unext_pos (b :: t) (by simp)).1
    cases k with
    | zero => omega
    | succ k =>
      rw [List.take_succ_cons]
      unfold unext at *
      by_cases hb : uBadB b.toNat = true
      · simp only [hb, if_true] at *; exact ⟨trivial, by decide⟩
      · simp only [hb] at *
        exact ugo_trim _ t _ _ _ 1 k h1 h2 (by simp at h3 ⊢; omega)
theorem utf_cutter : Cutter unext ucut where
  le := ucut_le
  more := ucut_more
  step := ucut_step
  trim := fun l h0 h1 h2 => unext_trim l _ h1 h2 (by rw [ucut_step l h0 h1]; omega)
theorem wcut_some (size : Nat) (big : Bool) (l : List UInt8) (h2 : size = 2 ∨ size = 4) : wcut size big l = 0 ∨ size ≤ wcut size big l := by
  have h : l.length / size * size = 0 ∨ size ≤ l.length / size * size := by
    by_cases h0 : l.length / size = 0
    · left; rw [h0, Nat.zero_mul]
    · right
      have : 1 * size ≤ l.length / size * size := Nat.mul_le_mul_right _ (Nat.pos_of_ne_zero h0)
      omega
  unfold wcut
  split
  · rename_i hc
    obtain ⟨rfl, hc2, _⟩ := hc
    have : l.length / 2 * 2 = 2 * (l.length / 2) := Nat.mul_comm _ _
    omega
  · exact h
theorem unitN_take (size : Nat) (big : Bool) (l : List UInt8) (k : Nat) (h : size ≤ k) : unitN size big (l.take k) = unitN size big l := by
  unfold unitN
  rw [List.take_take, Nat.min_eq_left h]
theorem wide_cutter (size : Nat) (big : Bool) (h2 : size = 2 ∨ size = 4) : Cutter (wnext size big) (wcut size big) where
  le := wcut_le size big
  more := fun l _ h => (wcut_more size big l h2 h).1
  step := fun l _ h => wcut_step size big l h2 h
  trim := fun l h0 h1 he => by
    have hp := wnext_pos size big l h0 h2
    have hs := wcut_step size big l h2 h1
    have hc := wcut_some size big (l.drop (wnext size big l).2.1) h2
    have hle := wcut_le size big l
    have hn : (wnext size big l).2.1 = size ∧ size ≤ l.length := by
      unfold wnext wnextN at h1 he ⊢
      split at h1
      · exact absurd rfl h1
      · rename_i hl
        rw [if_neg hl] at he ⊢
        split at h1
        · rename_i hh
          rw [if_pos hh] at he ⊢
          split at h1
          · exact absurd rfl h1
          · rename_i hl4
            rw [if_neg hl4] at he ⊢
            split at he
            · exact absurd rfl he
            · rename_i hb; rw [if_neg hb]; exact ⟨hh.1.symm, by omega⟩
        · rename_i hh
          rw [if_neg hh] at he ⊢
          split at he
          · exact absurd rfl he
          · rename_i hb; rw [if_neg hb]; exact ⟨rfl, by omega⟩
    rw [hn.1] at hs hc ⊢
    have hk : (l.take (wcut size big l)).length = wcut size big l := by rw [List.length_take]; omega
    have hu := unitN_take size big l (wcut size big l) (by omega)
    unfold wnext
    rw [hk, hu]
    unfold wnext wnextN at h1 he
    unfold wnextN
    rw [if_neg (by omega)] at h1 he ⊢
    by_cases hh : size = 2 ∧ 55296 ≤ unitN size big l ∧ unitN size big l < 56320
    · rw [if_pos hh] at h1 he ⊢
      obtain ⟨rfl, _⟩ := hh
      by_cases h4 : wcut 2 big l < 4
      · rw [if_pos h4]
        exact ⟨by show wcut 2 big l = 2; omega, (by decide : (18 : Int) ≠ 0)⟩
      · rw [if_neg h4]
        have hu2 : unitN 2 big ((l.take (wcut 2 big l)).drop 2) = unitN 2 big (l.drop 2) := by
          rw [List.drop_take]; exact unitN_take 2 big (l.drop 2) _ (by omega)
        rw [hu2]
        rw [if_neg (by omega)] at he
        split at he
        · exact absurd rfl he
        · rename_i hb; rw [if_neg hb]; exact ⟨rfl, (by decide : (17 : Int) ≠ 0)⟩
    · rw [if_neg hh] at h1 he ⊢
      split at he
      · exact absurd rfl he
      · rename_i hb; rw [if_neg hb]; exact ⟨rfl, (by decide : (17 : Int) ≠ 0)⟩
end Pl
end Go.Proofs.YtlfhmkjomogkiaaDoor

/- Plain: a kind's coding and its cut; marks and what is behind them. -/
namespace Go.Proofs.YtlfhmkjomogkiaaDoor
namespace Pl
/-- A kind's characters as bytes. -/
def schar (k : Int) : Int → List UInt8 := if k = 5 then uch else wchar (wsize k) (bigOf k)
theorem kind_codec (k : Int) : Codec (snx k) (schar k) := by
  unfold snx schar
  split
  · exact utf_codec
  · exact wide_codec _ _ (wsize_cases k)
theorem kind_cutter (k : Int) : Cutter (snx k) (scut k) := by
  by_cases h : k = 5
  · rw [show snx k = unext from if_pos h, show scut k = ucut from by funext l; exact if_pos h]; exact utf_cutter
  · rw [show snx k = wnext (wsize k) (bigOf k) from if_neg h, show scut k = wcut (wsize k) (bigOf k) from by funext l; exact if_neg h]; exact wide_cutter _ _ (wsize_cases k)
theorem wcut_ge (size : Nat) (big : Bool) (l : List UInt8) (h2 : size = 2 ∨ size = 4) : l.length ≤ wcut size big l + 3 := by
  have h : l.length < l.length / size * size + size := by
    have := Nat.div_add_mod l.length size
    have h3 := Nat.mod_lt l.length (show 0 < size by omega)
    rw [Nat.mul_comm] at this
    omega
  unfold wcut
  split
  · rename_i hc
    obtain ⟨rfl, hc2, _⟩ := hc
    have : l.length / 2 * 2 = 2 * (l.length / 2) := Nat.mul_comm _ _
    omega
  · omega
theorem scut_ge (k : Int) (l : List UInt8) : l.length ≤ scut k l + 3 := by
  unfold scut
  split
  · exact ucut_ge l
  · exact wcut_ge _ _ l (wsize_cases k)
theorem kind_parts (k pol : Int) (l t : List UInt8) :
    dec (snx k) pol (l ++ t) = if (dec (snx k) pol (l.take (scut k l))).2.2 = 0 then
      ((dec (snx k) pol (l.take (scut k l))).1 ++ (dec (snx k) pol (l.drop (scut k l) ++ t)).1, (dec (snx k) pol (l.take (scut k l))).2.1 ++ shiftF (scut k l) (dec (snx k) pol (l.drop (scut k l) ++ t)).2.1, (dec (snx k) pol (l.drop (scut k l) ++ t)).2.2)
      else dec (snx k) pol (l.take (scut k l)) := Cutter.dec_parts (kind_codec k) (kind_cutter k) pol l t
end Pl
end Go.Proofs.YtlfhmkjomogkiaaDoor

/- Plain: bytes behind a mark. -/
namespace Go.Proofs.YtlfhmkjomogkiaaDoor
namespace Pl
def kmark (k : Int) : List UInt8 := if k = 5 then utfMark else wmark k
theorem kmark_char (k : Int) (h : 1 ≤ k ∧ k ≤ 5) : kmark k = schar k 65279 := by
  rcases (show k = 1 ∨ k = 2 ∨ k = 3 ∨ k = 4 ∨ k = 5 from by omega) with rfl | rfl | rfl | rfl | rfl <;> decide +kernel
theorem dec_mark (k pol : Int) (h : 1 ≤ k ∧ k ≤ 5) (s : List UInt8) :
    dec (snx k) pol (kmark k ++ s) = (65279 :: (dec (snx k) pol s).1, shiftF (kmark k).length (dec (snx k) pol s).2.1, (dec (snx k) pol s).2.2) := by
  have C := kind_codec k
  have hC := fun t h => (C.pos t h).1
  have hf := C.find 65279 s (by decide)
  rw [← kmark_char k h] at hf
  have hl : 0 < (kmark k).length := by
    rcases (show k = 1 ∨ k = 2 ∨ k = 3 ∨ k = 4 ∨ k = 5 from by omega) with rfl | rfl | rfl | rfl | rfl <;> decide
  have h1 := decL_ok (snx k) pol hC (kmark k ++ s).length (kmark k ++ s) 0 [] [] (by rw [List.length_append]; omega) (Nat.le_refl _) (by rw [hf])
  rw [hf] at h1
  show decL (snx k) pol _ (kmark k ++ s) 0 [] [] = _
  rw [h1]
  show decL (snx k) pol _ ((kmark k ++ s).drop (kmark k).length) (0 + (kmark k).length) ([] ++ [65279]) [] = _
  rw [List.drop_left, Nat.zero_add, decL_acc, decL_fuel (snx k) pol hC _ s.length s _ [] [] (by rw [List.length_append]; omega) (Nat.le_refl _)]
  have h4 := decL_shift (nx := snx k) pol (kmark k).length s.length s 0 [] []
  rw [show shiftF (kmark k).length [] = [] from rfl, Nat.add_zero] at h4
  rw [h4]
  rfl
theorem smarked_mark (k : Int) (h : 1 ≤ k ∧ k ≤ 5) (s : List UInt8) (hs : s.head? ≠ some 0) : smarked (kmark k ++ s) = (k, ((kmark k).length : Int)) := by
  cases s with
  | nil => rcases (show k = 1 ∨ k = 2 ∨ k = 3 ∨ k = 4 ∨ k = 5 from by omega) with rfl | rfl | rfl | rfl | rfl <;> decide +kernel
  | cons b t =>
    have hb : b ≠ 0 := by intro e; subst e; exact hs rfl
    have hb' : ((0 : UInt8) == b) = false := by rw [beq_eq_false_iff_ne]; exact fun e => hb e.symm
    rcases (show k = 1 ∨ k = 2 ∨ k = 3 ∨ k = 4 ∨ k = 5 from by omega) with rfl | rfl | rfl | rfl | rfl
    · show smarked (255 :: 254 :: b :: t) = _
      unfold smarked wguess
      rw [show utfMark.isPrefixOf (255 :: 254 :: b :: t) = false from rfl]
      rw [show (wmark 3).isPrefixOf (255 :: 254 :: b :: t) = ((0 == b) && [(0 : UInt8)].isPrefixOf t) from rfl, hb']
      rfl
    · rfl
    · rfl
    · rfl
    · rfl
end Pl
end Go.Proofs.YtlfhmkjomogkiaaDoor

/- Plain: what Whole answers of bytes behind a mark. -/
namespace Go.Proofs.YtlfhmkjomogkiaaDoor.Str
open Pl
theorem srefd_dec (k p : Int) (g : Bool) (t : List UInt8) :
    srefd k p g t = ((dec (snx (skind k g t)) p (t.drop (sat g t))).1, shiftF (sat g t) (dec (snx (skind k g t)) p (t.drop (sat g t))).2.1, (dec (snx (skind k g t)) p (t.drop (sat g t))).2.2) := by
  have h := decL_shift (nx := snx (skind k g t)) p (sat g t) (t.length - sat g t) (t.drop (sat g t)) 0 [] []
  rw [show shiftF (sat g t) [] = [] from rfl, Nat.add_zero] at h
  unfold srefd dec
  rw [List.length_drop]
  exact h
theorem shiftF_zero (y : List (Nat × Nat)) : shiftF 0 y = y := by simp [shiftF]
theorem swhole_off (k p : Int) (t : List UInt8) : swhole k p false t = ((dec (snx k) p t).1, (dec (snx k) p t).2.1, k, (dec (snx k) p t).2.2) := by
  rw [swhole_ref, srefd_dec]
  have h1 : skind k false t = k := by simp [skind]
  have h2 : sat false t = 0 := by simp [sat]
  rw [h1, h2, List.drop_zero, shiftF_zero]
theorem swhole_mark (k1 k p : Int) (hk : 1 ≤ k ∧ k ≤ 5) (s : List UInt8) (hs : s.head? ≠ some 0) :
    swhole k1 p true (kmark k ++ s) = ((dec (snx k) p s).1, shiftF (kmark k).length (dec (snx k) p s).2.1, k, (dec (snx k) p s).2.2) := by
  rw [swhole_ref, srefd_dec]
  have hm := smarked_mark k hk s hs
  have h1 : skind k1 true (kmark k ++ s) = k := by unfold skind; rw [hm, if_pos ⟨rfl, by show 0 < k; omega⟩]
  have h2 : sat true (kmark k ++ s) = (kmark k).length := by unfold sat; rw [hm, if_pos ⟨rfl, by show 0 < k; omega⟩]; simp
  rw [h1, h2, List.drop_left]
theorem swhole_char (k p : Int) (hk : 1 ≤ k ∧ k ≤ 5) (s : List UInt8) :
    swhole k p false (kmark k ++ s) = (65279 :: (dec (snx k) p s).1, shiftF (kmark k).length (dec (snx k) p s).2.1, k, (dec (snx k) p s).2.2) := by
  rw [swhole_off, dec_mark k p hk s]
end Go.Proofs.YtlfhmkjomogkiaaDoor.Str

/- Plain: what a decoder of parts has told, and what Whole tells of all bytes. -/
namespace Go.Proofs.YtlfhmkjomogkiaaDoor.Str
open Pl
theorem pre_app (m l t : List UInt8) (h : l.isPrefixOf m = false ∨ m.length ≤ l.length) : m.isPrefixOf (l ++ t) = m.isPrefixOf l := by
  rw [Bool.eq_iff_iff, List.isPrefixOf_iff_prefix, List.isPrefixOf_iff_prefix]
  constructor
  · intro hp
    have hl : m.length ≤ l.length := by
      rcases h with h | h
      · by_cases hc : m.length ≤ l.length
        · exact hc
        · exfalso
          have h2 : l <+: m := List.prefix_of_prefix_length_le (List.prefix_append l t) hp (by omega)
          rw [← List.isPrefixOf_iff_prefix] at h2
          rw [h2] at h
          cases h
      · exact h
    exact List.prefix_of_prefix_length_le hp (List.prefix_append l t) hl
  · intro hp
    exact hp.trans (List.prefix_append l t)
/-- Bytes that are no beginning of a mark tell the same mark, whatever stands behind. -/
theorem smarked_more (l t : List UInt8) (h : sopen l = false) : smarked (l ++ t) = smarked l := by
  have hall : ∀ m ∈ [utfMark, wmark 1, wmark 2, wmark 3, wmark 4], m.isPrefixOf (l ++ t) = m.isPrefixOf l := by
    intro m hm
    apply pre_app
    by_cases h4 : 4 ≤ l.length
    · have h5 : ∀ m ∈ [utfMark, wmark 1, wmark 2, wmark 3, wmark 4], m.length ≤ 4 := by decide
      exact .inr (Nat.le_trans (h5 m hm) h4)
    · by_cases hu : l = utfMark
      · subst hu
        have h5 : ∀ m ∈ [utfMark, wmark 1, wmark 2, wmark 3, wmark 4], (utfMark.isPrefixOf m = false ∨ m.length ≤ utfMark.length) := by decide
        exact h5 m hm
      · left
        unfold sopen at h
        rw [if_neg (by intro hc; rcases hc with hc | hc; exact h4 hc; exact hu hc)] at h
        rw [Bool.or_eq_false_iff, Bool.or_eq_false_iff, Bool.or_eq_false_iff, Bool.or_eq_false_iff] at h
        obtain ⟨h0, h1, h2, h3, h5⟩ := h
        simp only [List.mem_cons, List.not_mem_nil, or_false] at hm
        rcases hm with rfl | rfl | rfl | rfl | rfl
        · exact h0
        · exact h1
        · exact h2
        · exact h3
        · exact h5
  unfold smarked wguess
  rw [hall utfMark (by simp), hall (wmark 1) (by simp), hall (wmark 2) (by simp), hall (wmark 3) (by simp), hall (wmark 4) (by simp)]
theorem sopen_short (l : List UInt8) (h : sopen l = true) : l.length ≤ 3 := by
  unfold sopen at h
  split at h
  · cases h
  · omega
theorem shiftF_app (k : Nat) (x y : List (Nat × Nat)) : shiftF k (x ++ y) = shiftF k x ++ shiftF k y := by simp [shiftF]
theorem shiftF_two (j k : Nat) (x : List (Nat × Nat)) : shiftF j (shiftF k x) = shiftF (j + k) x := by simp [shiftF, Nat.add_assoc]
/-- A decoder that has told the characters o of the bytes l, and holds what is not sure. -/
structure SRdy (k p : Int) (g : Bool) (l : List UInt8) (s : SSt) (o : List Int) : Prop where
  guess : s.guess = false
  over : s.over = false
  pol : s.pol = p
  all : s.all = l.length
  tail : ∃ a, l = a ++ s.rest
  told : ∀ t, skind k g (l ++ t) = s.kind ∧ srefd k p g (l ++ t) = (o ++ (dec (snx s.kind) p (s.rest ++ t)).1, s.bad ++ shiftF (l.length - s.rest.length) (dec (snx s.kind) p (s.rest ++ t)).2.1, (dec (snx s.kind) p (s.rest ++ t)).2.2)
/-- One that is over. -/
structure SDone (k p : Int) (g : Bool) (l : List UInt8) (s : SSt) (o : List Int) (e : Int) : Prop where
  over : s.over = true
  pol : s.pol = p
  all : s.all ≤ l.length
  rest : s.rest = []
  err : e ≠ 0
  told : ∀ t, skind k g (l ++ t) = s.kind ∧ srefd k p g (l ++ t) = (o, s.bad, e)
/-- One that waits for a mark. -/
structure SWait (k p : Int) (g : Bool) (l : List UInt8) (s : SSt) (o : List Int) (e : Int) : Prop where
  guess : g = true
  state : s = sadd l (snew k p g)
  out : o = []
  err : e = 0
  may : sopen l = true
/-- Where a decoder of kind k and policy p stands that has been fed l, has told o, and the error e. -/
def SInv (k p : Int) (g : Bool) (l : List UInt8) (s : SSt) (o : List Int) (e : Int) : Prop :=
  SWait k p g l s o e ∨ (SRdy k p g l s o ∧ s.rest.length ≤ 3 ∧ e = 0) ∨ SDone k p g l s o e
theorem SInv.new (k p : Int) (g : Bool) : SInv k p g [] (snew k p g) [] 0 := by
  cases g
  · refine .inr (.inl ⟨⟨rfl, rfl, rfl, rfl, ⟨[], rfl⟩, fun t => ?_⟩, Nat.zero_le _, rfl⟩)
    have h1 : skind k false t = k := by simp [skind]
    have h2 : sat false t = 0 := by simp [sat]
    refine ⟨h1, ?_⟩
    rw [List.nil_append, srefd_dec, h1, h2, List.drop_zero, shiftF_zero]
    show _ = ([] ++ _, [] ++ shiftF 0 _, _)
    rw [shiftF_zero]
    rfl
  · exact .inl ⟨rfl, rfl, rfl, rfl, by decide⟩
theorem SRdy.add {k p : Int} {g : Bool} {l : List UInt8} {s : SSt} {o : List Int} (h : SRdy k p g l s o) (t : List UInt8) : SRdy k p g (l ++ t) (sadd t s) o := by
  obtain ⟨a, ha⟩ := h.tail
  refine ⟨h.guess, h.over, h.pol, ?_, ⟨a, ?_⟩, fun u => ?_⟩
  · show s.all + t.length = _
    rw [h.all, List.length_append]
  · show l ++ t = a ++ (s.rest ++ t)
    rw [← List.append_assoc, ← ha]
  · have h1 := h.told (t ++ u)
    rw [← List.append_assoc, ← List.append_assoc] at h1
    have hz : (l ++ t).length - (s.rest ++ t).length = l.length - s.rest.length := by
      rw [List.length_append, List.length_append]; omega
    show skind k g (l ++ t ++ u) = s.kind ∧ srefd k p g (l ++ t ++ u) = (o ++ (dec (snx s.kind) p (s.rest ++ t ++ u)).1, s.bad ++ shiftF ((l ++ t).length - (s.rest ++ t).length) (dec (snx s.kind) p (s.rest ++ t ++ u)).2.1, (dec (snx s.kind) p (s.rest ++ t ++ u)).2.2)
    rw [hz]
    exact h1
theorem SRdy.len {k p : Int} {g : Bool} {l : List UInt8} {s : SSt} {o : List Int} (h : SRdy k p g l s o) : s.rest.length ≤ l.length := by
  obtain ⟨a, ha⟩ := h.tail
  rw [ha, List.length_append]; omega
theorem SRdy.read {k p : Int} {g : Bool} {l : List UInt8} {s : SSt} {o : List Int} (h : SRdy k p g l s o) :
    SInv k p g l (sread false s) (o ++ (sdec false s).1) (sdec false s).2.2 := by
  have hlen := h.len
  have hpol := h.pol
  have hd : sdec false s = dec (snx s.kind) p (s.rest.take (scut s.kind s.rest)) := by
    unfold sdec slen
    rw [hpol]
    rfl
  have hle : scut s.kind s.rest ≤ s.rest.length := slen_le false s
  have hge := scut_ge s.kind s.rest
  have hsl : slen false s = scut s.kind s.rest := rfl
  have hp := fun t => kind_parts s.kind p s.rest t
  unfold sread
  rw [hd, hsl]
  generalize hx : dec (snx s.kind) p (s.rest.take (scut s.kind s.rest)) = x at *
  generalize scut s.kind s.rest = c at *
  by_cases he : x.2.2 = 0
  · rw [if_pos he]
    refine .inr (.inl ⟨⟨h.guess, h.over, h.pol, h.all, ?_, fun t => ?_⟩, ?_, he⟩)
    · obtain ⟨a, ha⟩ := h.tail
      refine ⟨a ++ s.rest.take c, ?_⟩
      show l = a ++ s.rest.take c ++ s.rest.drop c
      rw [List.append_assoc, List.take_append_drop]
      exact ha
    · have h1 := h.told t
      rw [hp t, if_pos he] at h1
      refine ⟨h1.1, h1.2.trans ?_⟩
      have hz : l.length - (s.rest.drop c).length = l.length - s.rest.length + c := by rw [List.length_drop]; omega
      show (o ++ (x.1 ++ (dec (snx s.kind) p (s.rest.drop c ++ t)).1), s.bad ++ shiftF (l.length - s.rest.length) (x.2.1 ++ shiftF c (dec (snx s.kind) p (s.rest.drop c ++ t)).2.1), (dec (snx s.kind) p (s.rest.drop c ++ t)).2.2)
        = (o ++ x.1 ++ (dec (snx s.kind) p (s.rest.drop c ++ t)).1, s.bad ++ shiftF (s.all - s.rest.length) x.2.1 ++ shiftF (l.length - (s.rest.drop c).length) (dec (snx s.kind) p (s.rest.drop c ++ t)).2.1, (dec (snx s.kind) p (s.rest.drop c ++ t)).2.2)
      rw [hz, h.all, shiftF_app, shiftF_two, List.append_assoc, List.append_assoc]
    · show (s.rest.drop c).length ≤ 3
      rw [List.length_drop]; omega
  · rw [if_neg he]
    refine .inr (.inr ⟨rfl, h.pol, Nat.le_of_eq h.all, rfl, he, fun t => ?_⟩)
    have h1 := h.told t
    rw [hp t, if_neg he] at h1
    refine ⟨h1.1, h1.2.trans ?_⟩
    show (o ++ x.1, s.bad ++ shiftF (l.length - s.rest.length) x.2.1, x.2.2) = (o ++ x.1, s.bad ++ shiftF (s.all - s.rest.length) x.2.1, x.2.2)
    rw [h.all]
/-- A decoder that looked for a mark. -/
theorem rdy_mark (k p : Int) (g : Bool) (l : List UInt8) (h : g = true → sopen l = false) : SRdy k p g l ⟨l.drop (sat g l), l.length, skind k g l, p, false, false, []⟩ [] := by
  have hm : ∀ t, g = true → smarked (l ++ t) = smarked l := fun t hg => smarked_more l t (h hg)
  have h1 : ∀ t, skind k g (l ++ t) = skind k g l := by
    intro t
    unfold skind
    cases g
    · simp
    · rw [hm t rfl]
  have h2 : ∀ t, sat g (l ++ t) = sat g l := by
    intro t
    unfold sat
    cases g
    · simp
    · rw [hm t rfl]
  have hle := sat_le g l
  refine ⟨rfl, rfl, rfl, rfl, ⟨l.take (sat g l), (List.take_append_drop _ _).symm⟩, fun t => ⟨h1 t, ?_⟩⟩
  rw [srefd_dec, h1 t, h2 t, List.drop_append_of_le_length hle]
  have hz : l.length - (l.drop (sat g l)).length = sat g l := by rw [List.length_drop]; omega
  show _ = ([] ++ _, [] ++ shiftF (l.length - (l.drop (sat g l)).length) _, _)
  rw [hz]
  rfl
theorem SInv.feed {k p : Int} {g : Bool} {l : List UInt8} {s : SSt} {o : List Int} {e : Int} (h : SInv k p g l s o e) (t : List UInt8) :
    SInv k p g (l ++ t) (sfeed t s).1 (o ++ (sfeed t s).2.1) (if e = 0 then (sfeed t s).2.2 else e) := by
  rcases h with h | ⟨h, h3, he⟩ | h
  · obtain ⟨hg, rfl, rfl, rfl, hm⟩ := h
    subst hg
    rw [if_pos rfl]
    have hs : sadd t (sadd l (snew k p true)) = sadd (l ++ t) (snew k p true) := by simp [sadd, snew]
    unfold sfeed
    rw [if_neg (by simp [sadd, snew]), hs]
    unfold stake
    by_cases ho : sopen (l ++ t) = true
    · have hw : swait false (sadd (l ++ t) (snew k p true)) = true := by simp [swait, sadd, snew, ho]
      rw [if_pos hw]
      exact .inl ⟨rfl, rfl, rfl, rfl, ho⟩
    · have ho' : sopen (l ++ t) = false := by simpa using ho
      have hw : swait false (sadd (l ++ t) (snew k p true)) = false := by simp [swait, sadd, snew, ho']
      rw [if_neg (by rw [hw]; decide), swhole_state]
      exact (rdy_mark k p true (l ++ t) (fun _ => ho')).read
  · subst he
    rw [if_pos rfl]
    have h1 := h.add t
    unfold sfeed
    rw [if_neg (by rw [h.over]; decide)]
    unfold stake
    have hw : swait false (sadd t s) = false := by unfold swait; rw [h1.guess]; rfl
    rw [if_neg (by rw [hw]; decide), if_neg (by rw [h1.guess]; decide)]
    exact h1.read
  · rw [if_neg h.err]
    unfold sfeed
    rw [if_pos h.over]
    refine .inr (.inr ⟨h.over, h.pol, ?_, h.rest, h.err, fun u => ?_⟩)
    · show s.all ≤ (l ++ t).length
      rw [List.length_append]; have := h.all; omega
    · rw [List.append_assoc, List.append_nil]; exact h.told (t ++ u)
theorem SRdy.close {k p : Int} {g : Bool} {l : List UInt8} {s : SSt} {o : List Int} (h : SRdy k p g l s o) :
    swhole k p g l = (o ++ (sdec true s).1, (sread true s).bad, (sread true s).kind, (sdec true s).2.2) := by
  have h1 := h.told []
  rw [List.append_nil, List.append_nil] at h1
  have hd : sdec true s = dec (snx s.kind) p s.rest := by
    unfold sdec slen
    rw [if_pos rfl, List.take_length, h.pol]
  have hk : (sread true s).kind = s.kind := by unfold sread; split <;> rfl
  have hb : (sread true s).bad = s.bad ++ shiftF (s.all - s.rest.length) (sdec true s).2.1 := by unfold sread; split <;> rfl
  rw [swhole_ref, h1.1, h1.2, hk, hb, hd, h.all]
theorem SInv.close {k p : Int} {g : Bool} {l : List UInt8} {s : SSt} {o : List Int} {e : Int} (h : SInv k p g l s o e) :
    swhole k p g l = (o ++ (sclose s).2.1, (sclose s).1.bad, (sclose s).1.kind, if e = 0 then (sclose s).2.2 else e) := by
  rcases h with h | ⟨h, h3, he⟩ | h
  · obtain ⟨hg, rfl, rfl, rfl, hm⟩ := h
    subst hg
    rw [if_pos rfl]
    unfold sclose
    rw [if_neg (by simp [sadd, snew])]
    rfl
  · subst he
    rw [if_pos rfl, h.close]
    unfold sclose
    rw [if_neg (by rw [h.over]; decide)]
    have hw : swait true s = false := by unfold swait; rw [h.guess]; rfl
    unfold stake
    rw [if_neg (by rw [hw]; decide), if_neg (by rw [h.guess]; decide)]
    rfl
  · rw [if_neg h.err]
    unfold sclose
    rw [if_pos h.over, swhole_ref]
    have h1 := h.told []
    rw [List.append_nil] at h1
    rw [h1.1, h1.2]
    show _ = (o ++ [], s.bad, s.kind, e)
    rw [List.append_nil]
theorem SInv.rest {k p : Int} {g : Bool} {l : List UInt8} {s : SSt} {o : List Int} {e : Int} (h : SInv k p g l s o e) : s.rest.length ≤ 3 ∧ ∃ a, l = a ++ s.rest := by
  rcases h with h | ⟨h, h3, he⟩ | h
  · obtain ⟨hg, rfl, rfl, rfl, hm⟩ := h
    exact ⟨sopen_short l hm, [], rfl⟩
  · exact ⟨h3, h.tail⟩
  · rw [h.rest]
    exact ⟨Nat.zero_le _, l, (List.append_nil l).symm⟩
theorem srefd_bad_len (k p : Int) (g : Bool) (t : List UInt8) : (srefd k p g t).1.length ≤ t.length ∧ (srefd k p g t).2.1.length ≤ t.length := by
  rw [srefd_dec]
  have h := dec_len (snx (skind k g t)) p (fun t h => (snx_pos _ t h).1) (t.drop (sat g t))
  rw [List.length_drop] at h
  refine ⟨?_, ?_⟩
  · show (dec _ _ _).1.length ≤ _; omega
  · show (shiftF _ _).length ≤ _; rw [shiftF_length]; omega
/-- What is told, and what is bad, is no more than the bytes. -/
theorem SInv.fit {k p : Int} {g : Bool} {l : List UInt8} {s : SSt} {o : List Int} {e : Int} (h : SInv k p g l s o e) (hk : 1 ≤ k ∧ k ≤ 5 ∧ 1 ≤ p ∧ p ≤ 3) :
    sfit s ∧ s.all ≤ l.length ∧ s.bad.length ≤ l.length ∧ o.length ≤ l.length := by
  obtain ⟨k1, k5, p1, p3⟩ := hk
  rcases h with h | ⟨h, h3, he⟩ | h
  · obtain ⟨hg, rfl, rfl, rfl, hm⟩ := h
    exact ⟨sadd_fit _ _ ⟨k1, k5, p1, p3, Nat.le_refl _⟩, by show 0 + l.length ≤ _; omega, Nat.zero_le _, Nat.zero_le _⟩
  · have h1 := h.told []
    rw [List.append_nil, List.append_nil] at h1
    have h2 := srefd_bad_len k p g l
    rw [h1.2] at h2
    have h4 := skind_fit k g l ⟨k1, k5⟩
    rw [h1.1] at h4
    have h5 := h.len
    have h6 : (s.bad ++ shiftF (l.length - s.rest.length) (dec (snx s.kind) p s.rest).2.1).length ≤ l.length := h2.2
    have h7 : (o ++ (dec (snx s.kind) p s.rest).1).length ≤ l.length := h2.1
    rw [List.length_append] at h6 h7
    refine ⟨⟨h4.1, h4.2, by rw [h.pol]; exact p1, by rw [h.pol]; exact p3, by rw [h.all]; exact h5⟩, Nat.le_of_eq h.all, by omega, by omega⟩
  · have h1 := h.told []
    rw [List.append_nil] at h1
    have h2 := srefd_bad_len k p g l
    rw [h1.2] at h2
    have h4 := skind_fit k g l ⟨k1, k5⟩
    rw [h1.1] at h4
    exact ⟨⟨h4.1, h4.2, by rw [h.pol]; exact p1, by rw [h.pol]; exact p3, by rw [h.rest]; exact Nat.zero_le _⟩, h.all, h2.2, h2.1⟩
theorem dec_no_err (nx : List UInt8 → Int × Nat × Int) (p : Int) (hp : p ≠ 1) : ∀ (f : Nat) (t : List UInt8) (a : Nat) (o : List Int) (b : List (Nat × Nat)), (decL nx p f t a o b).2.2 = 0 := by
  intro f
  induction f with
  | zero => intro t a o b; rfl
  | succ f ih =>
    intro t a o b
    rw [decL_succ]
    split
    · rfl
    · split
      · exact ih _ _ _ _
      · exact ih _ _ _ _
/-- What has been told is a beginning of what Whole tells of these bytes, and others behind. -/
theorem SInv.sure {k p : Int} {g : Bool} {l : List UInt8} {s : SSt} {o : List Int} {e : Int} (h : SInv k p g l s o e) (hp : p ≠ 1) (t : List UInt8) : e = 0 ∧ (∃ x, (swhole k p g (l ++ t)).1 = o ++ x) ∧ (swhole k p g (l ++ t)).2.2.2 = 0 := by
  have h0 : (swhole k p g (l ++ t)).2.2.2 = 0 := by
    rw [swhole_ref, srefd_dec]
    exact dec_no_err _ p hp _ _ _ _ _
  rcases h with h | ⟨h, h3, he⟩ | h
  · obtain ⟨hg, rfl, rfl, rfl, hm⟩ := h
    exact ⟨rfl, ⟨_, rfl⟩, h0⟩
  · refine ⟨he, ⟨(dec (snx s.kind) p (s.rest ++ t)).1, ?_⟩, h0⟩
    rw [swhole_ref, (h.told t).2]
  · exfalso
    have h1 := (h.told t).2
    have h2 := h.err
    rw [swhole_ref, h1] at h0
    exact h2 h0
end Go.Proofs.YtlfhmkjomogkiaaDoor.Str

/- Words for memory: decoders, and a row of what one told; walk: few. -/
namespace Go.Proofs.YtlfhmkjomogkiaaDoor.Str
open Go.RowKit Pl

theorem row_kept {w w' : World} {B e e2 sz sz2 n m b : Nat} {t : TypeId} {cs : Array Value} {v vx : Value} {xs ys : List Value} (h : w.ownsRow B e sz vx n xs) (hb : Blk w b t cs) (hv : w.ownsRow B e2 sz2 v m ys) (hk : Kept b v w w') (h1 : t ≠ e) (h2 : e ≠ e2) : w'.ownsRow B e sz vx n xs :=
  own_kept h (fun g hg => hk.block g (h.lt g hg).2 (fun he => own_blk_ne h hb h1 (by rw [hg, he])) (fun he => by
    rcases own_own_ne h hv h2 with h3 | h3
    · rw [hg] at h3; cases h3
    · rw [hg, he] at h3; exact h3 rfl))
theorem Blk.grown {w w' : World} {b : Nat} {t : TypeId} {cs : Array Value} {B e sz n : Nat} {v : Value} {xs : List Value} (h : Blk w b t cs) (ho : w.ownsRow B e sz v n xs) (hg : w.grownBy w' v.ownBlock) (hne : t ≠ e) : Blk w' b t cs :=
  (hg.block b h.lt (fun he => own_blk_ne ho h hne he.symm)).trans h
/-- A decoder and a row of characters; what is older than both is as it was. -/
def PSt (a : Nat) (w0 w : World) (s : SSt) (v vx : Value) (o : List Int) : Prop :=
  DecAt w0.heap.size a w s v ∧ w.ownsRow w0.heap.size RuneT 1 vx o.length (i32s o) ∧ Below w0.heap.size w0 w
section
variable {a : Nat} {w0 w w' : World} {s s' : SSt} {v v' vx vx' : Value} {o o' : List Int}
theorem PSt.below (h : PSt a w0 w s v vx o) (hb : Below w.heap.size w w') : PSt a w0 w' s v vx o := ⟨h.1.below hb, own_below h.2.1 hb, h.2.2.trans (hb.mono h.2.2.size)⟩
theorem PSt.alloc (h : PSt a w0 w s v vx o) (x : Obj) : PSt a w0 (w.alloc x) s v vx o := h.below ((Below.refl _ _).alloc (Nat.le_refl _) _)
theorem PSt.drew (h : PSt a w0 w s v vx o) : PSt a w0 w.drew s v vx o := h.below (Below.refl _ _).drew
theorem PSt.kept (h : PSt a w0 w s v vx o) (hk : Kept a v w w') (hd : DecAt w0.heap.size a w' s' v') : PSt a w0 w' s' v' vx o :=
  ⟨hd, row_kept h.2.1 h.1.1 h.1.2.2 hk (by decide) (by decide), h.2.2.trans (hk.below h.1.2.1 (fun g hg => (h.1.2.2.lt g hg).1) h.2.2.size)⟩
theorem PSt.outs (h : PSt a w0 w s v vx o) (ho : w'.ownsRow w0.heap.size RuneT 1 vx' o'.length (i32s o')) (hg : w.grownBy w' vx.ownBlock) : PSt a w0 w' s v vx' o' :=
  ⟨⟨Blk.grown h.1.1 h.2.1 hg (by decide), h.1.2.1, h.1.2.2.kept hg (own_own_ne h.1.2.2 h.2.1 (by decide))⟩, ho, h.2.2.grown hg h.2.2.size (fun k hk => (h.2.1.lt k hk).1)⟩
/-- Another decoder that waits besides. -/
theorem other_kept {b : Nat} {s2 : SSt} (h : PSt a w0 w s v vx o) (hd : DecAt w0.heap.size b w s2 nilV) (hne : b ≠ a) (hk : Kept a v w w') : DecAt w0.heap.size b w' s2 nilV := by
  obtain ⟨h1, h2, h3⟩ := hd
  refine ⟨hk.blk h1 hne (own_blk_ne h.1.2.2 h1 (by decide)), h2, ?_⟩
  have h4 := h3.1
  refine ⟨h4, ?_⟩
  rcases h3.2 with ⟨e, h5⟩ | ⟨g, cap, cur, e, _⟩
  · exact .inl ⟨e, h5⟩
  · cases e
theorem other_outs {b : Nat} {s2 : SSt} (h : PSt a w0 w s v vx o) (hd : DecAt w0.heap.size b w s2 nilV) (hg : w.grownBy w' vx.ownBlock) : DecAt w0.heap.size b w' s2 nilV := by
  obtain ⟨h1, h2, h3⟩ := hd
  refine ⟨Blk.grown h1 h.2.1 hg (by decide), h2, h3.1, ?_⟩
  rcases h3.2 with ⟨e, h5⟩ | ⟨g, cap, cur, e, _⟩
  · exact .inl ⟨e, h5⟩
  · cases e
end
/-- Parts that are not too many, or too long. -/
def fewB (ls : List ByteArray) : Bool := ls.all (fun s => decide (s.size ≤ 60)) && decide (ls.length ≤ 20)
theorem few_any (A : Option Addr) (c : Nat) (ls : List ByteArray) (w : World) (hR : Rd w A ls.length (strv ls)) (hn : ls.length ≤ 1000000000000000) (hS : ∀ r ∈ ls, r.size ≤ maxLen) :
    Calls Tryd.prog 34 #[.slice A ls.length c] w fun e w' => e = .returned (.bool (fewB ls)) ∧ w = w' := by
  have HR := Lib.hid hR
  have HS := Lib.hid hS
  obtain ⟨F, hF⟩ : ∃ F, fewB ls = F := ⟨_, rfl⟩
  rw [hF]
  have HFB := Lib.hid hF
  clear hR hS hF
  go_enter Tryd.func34, Tryd.ntmps34
  go_wp2
  go_loop [3] (fun i => ∃ j : Nat, j ≤ ls.length ∧ i = .int .i64 j ∧ (ls.take j).all (fun s => decide (s.size ≤ 60)) = true) (fun i => ls.length - (intOf i).toNat)
  case atStart => exact ⟨0, Nat.zero_le _, rfl, rfl⟩
  case round =>
    obtain ⟨j, hj, rfl, hall⟩ := hrel
    by_cases hlt : j < ls.length
    · obtain ⟨b, o, rfl, hb, hc⟩ := HR.out.str_at hlt
      have hsz := HS.out ls[j] (List.getElem_mem hlt)
      have hin : ls[j] ∈ ls := List.getElem_mem hlt
      have htk : ls.take (j + 1) = ls.take j ++ [ls[j]] := List.take_succ_eq_append_getElem hlt
      generalize ls[j] = s at *
      have HTK := Lib.hid htk; have HALL := Lib.hid hall; have HIN := Lib.hid hin
      clear htk hall hb hin
      unfold maxLen at hsz
      by_cases h1 : 60 < s.size
      · have i1 : (60 : Int) < s.size := by omega
        go_wp2
        go_returns
        have hF : F = false := by
          rw [← HFB.out]
          unfold fewB
          rw [Bool.and_eq_false_iff]
          left
          rw [List.all_eq_false]
          exact ⟨s, HIN.out, by simp; omega⟩
        exact ⟨by rw [hF]; rfl, rfl⟩
      · have i1 : decide ((60 : Int) < s.size) = false := by simp; omega
        go_wp2
        go_round
        case rel => exact ⟨j + 1, by omega, by go_num, by rw [HTK.out, List.all_append, HALL.out]; simp; omega⟩
        case measure => simp [intOf]; omega
    · obtain rfl : j = ls.length := by omega
      rw [List.take_of_length_le (Nat.le_refl _)] at hall
      have he : F = decide (ls.length ≤ 20) := by rw [← HFB.out]; unfold fewB; rw [hall]; rfl
      clear hall HFB
      by_cases h20 : ls.length ≤ 20
      · rw [decide_eq_true h20] at he
        subst he
        have i1 : (ls.length : Int) ≤ 20 := by omega
        go_wp2
        go_returns
        exact ⟨rfl, rfl⟩
      · rw [decide_eq_false h20] at he
        subst he
        have i1 : decide ((ls.length : Int) ≤ 20) = false := by simp; omega
        go_wp2
        go_returns
        exact ⟨rfl, rfl⟩
end Go.Proofs.YtlfhmkjomogkiaaDoor.Str

/- The statement StreamSure: its walk. -/
namespace Go.Proofs.YtlfhmkjomogkiaaDoor.Str
open Go.RowKit Pl

/-- New's answer at a kind and policy that may not be. -/
theorem new_no (k p : Int) (g : Bool) (hf : ¬ (1 ≤ k ∧ k ≤ 5 ∧ 1 ≤ p ∧ p ≤ 3)) (w : World) :
    Calls Tryd.prog 33 #[.int .i64 k, .int .i64 p, .bool g] w fun e w' => e = .returned (.tuple #[.pointer none, .int .i64 16]) ∧ Below w.heap.size w w' :=
  (new_any k p g w).mono fun e w' ⟨hb, hp⟩ => by
    rcases hp with ⟨_, he⟩ | ⟨hy, _⟩
    · exact ⟨he, hb⟩
    · exact absurd hy hf
/-- Is the law's question put at all? -/
def askSure (p : Int) (ls : List ByteArray) (m : ByteArray) : Prop := fewB ls = true ∧ m.size ≤ 60 ∧ p ≠ 1
theorem fewB_le {ls : List ByteArray} (h : fewB ls = true) : ls.length ≤ 20 ∧ (∀ s ∈ ls, s.size ≤ 60) ∧ (allB ls).length ≤ 1200 := by
  unfold fewB at h
  rw [Bool.and_eq_true] at h
  obtain ⟨h1, h2⟩ := h
  have h2 := of_decide_eq_true h2
  rw [List.all_eq_true] at h1
  have h3 : ∀ s ∈ ls, s.size ≤ 60 := fun s hs => of_decide_eq_true (h1 s hs)
  have h4 := allB_le ls 60 h3
  exact ⟨h2, h3, by omega⟩
theorem allB_take_le (ls : List ByteArray) (j : Nat) : (allB (ls.take j)).length ≤ (allB ls).length := by
  have h : allB ls = allB (ls.take j) ++ allB (ls.drop j) := by
    unfold allB
    rw [← List.flatMap_append, List.take_append_drop]
  rw [h, List.length_append]
  omega
set_option maxRecDepth 100000 in
set_option maxHeartbeats 3200000 in
theorem sure_no (k p : Int) (g : Bool) (A : Option Addr) (c : Nat) (ls : List ByteArray) (m : ByteArray) (w : World) (hRL : Utf.RL w) (hR : Rd w A ls.length (strv ls)) (hn : ls.length ≤ 1000000000000000) (hS : ∀ r ∈ ls, r.size ≤ maxLen) (hm : m.size ≤ maxLen)
    (hno : ¬ (1 ≤ k ∧ k ≤ 5 ∧ 1 ≤ p ∧ p ≤ 3) ∨ ((1 ≤ k ∧ k ≤ 5 ∧ 1 ≤ p ∧ p ≤ 3) ∧ ¬ askSure p ls m)) :
    Calls Tryd.prog 13 #[.agg #[.int .i64 k, .int .i64 p, .bool g], .slice A ls.length c, .string m] w fun e w' => e = .returned (.bool true) ∧ Below w.heap.size w w' := by
  have HA := Lib.hid awake_any
  have HRL := Lib.hid hRL
  have hbx : Below w.heap.size w (w.alloc (.cells #[.int .i64 k, .int .i64 p, .bool g] HowT)) := (Below.refl _ _).alloc (Nat.le_refl _) _
  have HX := Lib.hid hbx
  have HRx := Lib.hid (hR.keep hbx)
  have HBk := Lib.hid (Blk.new w HowT #[.int .i64 k, .int .i64 p, .bool g])
  unfold maxLen at hm
  clear hRL hbx hR
  rcases hno with hf | ⟨hf, hq⟩
  · have HN := Lib.hid (new_no k p g hf (w.alloc (.cells #[.int .i64 k, .int .i64 p, .bool g] HowT)))
    clear hf
    go_enter Tryd.func13, Tryd.ntmps13
    go_wp2_with fail
    refine HN.out.mono ?_
    rintro e w1 ⟨rfl, hb1⟩
    have HB1 := Lib.hid (HX.out.trans (hb1.mono HX.out.size))
    clear hb1 HN
    go_wp2_with (go_at_call 29; refine (HA.out _ (HRL.out.since HB1.out)).mono ?_; rintro e w2 ⟨rfl, hb2⟩)
    go_returns
    exact ⟨rfl, HB1.out.trans (hb2.mono HB1.out.size)⟩
  · have HN := Lib.hid (new_ok k p g hf (w.alloc (.cells #[.int .i64 k, .int .i64 p, .bool g] HowT)))
    have HF := Lib.hid (fun w' h => few_any A c ls w' h hn hS)
    unfold askSure at hq
    have hc : fewB ls = false ∨ (fewB ls = true ∧ 60 < m.size) ∨ (fewB ls = true ∧ m.size ≤ 60 ∧ p = 1) := by
      cases hB : fewB ls
      · exact .inl rfl
      · by_cases h1 : 60 < m.size
        · exact .inr (.inl ⟨rfl, h1⟩)
        · by_cases h2 : p = 1
          · exact .inr (.inr ⟨rfl, by omega, h2⟩)
          · exact absurd ⟨hB, by omega, h2⟩ hq
    clear hq hf hn hS
    rcases hc with h | ⟨h, h1⟩ | ⟨h, h1, rfl⟩
    all_goals
      rw [h] at HF
      clear h
    · go_enter Tryd.func13, Tryd.ntmps13
      go_wp2_with fail
      refine HN.out.mono ?_
      rintro e w1 ⟨b, rfl, hd1, hb1⟩
      have HB1 := Lib.hid (HX.out.trans (hb1.mono HX.out.size))
      have HR1 := Lib.hid (HRx.out.keep hb1)
      clear hb1 HN hd1
      go_wp2_with (first | (go_at_call 34; refine (HF.out _ HR1.out).mono ?_; rintro e w' ⟨rfl, rfl⟩) | (go_at_call 29; refine (HA.out _ (HRL.out.since HB1.out)).mono ?_; rintro e w2 ⟨rfl, hb2⟩))
      go_returns
      exact ⟨rfl, HB1.out.trans (hb2.mono HB1.out.size)⟩
    · have i1 : (60 : Int) < m.size := by omega
      clear h1
      go_enter Tryd.func13, Tryd.ntmps13
      go_wp2_with fail
      refine HN.out.mono ?_
      rintro e w1 ⟨b, rfl, hd1, hb1⟩
      have HB1 := Lib.hid (HX.out.trans (hb1.mono HX.out.size))
      have HR1 := Lib.hid (HRx.out.keep hb1)
      clear hb1 HN hd1
      go_wp2_with (first | (go_at_call 34; refine (HF.out _ HR1.out).mono ?_; rintro e w' ⟨rfl, rfl⟩) | (go_at_call 29; refine (HA.out _ (HRL.out.since HB1.out)).mono ?_; rintro e w2 ⟨rfl, hb2⟩))
      go_returns
      exact ⟨rfl, HB1.out.trans (hb2.mono HB1.out.size)⟩
    · have i1 : decide ((60 : Int) < m.size) = false := by simp; omega
      clear h1
      go_enter Tryd.func13, Tryd.ntmps13
      go_wp2_with fail
      refine HN.out.mono ?_
      rintro e w1 ⟨b, rfl, hd1, hb1⟩
      have HB1 := Lib.hid (HX.out.trans (hb1.mono HX.out.size))
      have HR1 := Lib.hid (HRx.out.keep hb1)
      obtain ⟨k0, k1, k2⟩ := how_cells (HBk.out.below hb1 HBk.out.lt)
      clear hb1 HN hd1
      go_wp2_with (first | (go_at_call 34; refine (HF.out _ HR1.out).mono ?_; rintro e w' ⟨rfl, rfl⟩) | (go_at_call 29; refine (HA.out _ (HRL.out.since HB1.out)).mono ?_; rintro e w2 ⟨rfl, hb2⟩))
      go_returns
      exact ⟨rfl, HB1.out.trans (hb2.mono HB1.out.size)⟩
theorem own_rd {w : World} {B : Nat} {e : TypeId} {v : Value} {n : Nat} {xs : List Value} (h : w.ownsRow B e 1 v n xs) : ∃ A c, v = .slice A n c ∧ Rd w A n xs ∧ n ≤ c ∧ c ≤ maxLen := by
  obtain ⟨A, c, rfl, hr⟩ := rd_of_own h
  refine ⟨A, c, rfl, hr, ?_⟩
  rcases h.2 with ⟨e, h0⟩ | ⟨g, cap, cur, e, _, _, h1, h2, _⟩
  · injection e with _ _ e3
    subst e3
    exact ⟨by omega, by decide⟩
  · injection e with _ _ e3
    subst e3
    exact ⟨h1, h2⟩
theorem rd_take {w : World} {A : Option Addr} {n m : Nat} {xs : List Value} (h : Rd w A n xs) (hm : m ≤ n) : Rd w A m (xs.take m) := by
  refine ⟨by rw [List.length_take, h.1]; omega, fun h0 => ?_⟩
  obtain ⟨b, o, e, hlt, hc⟩ := h.2 (by omega)
  refine ⟨b, o, e, hlt, fun i x hx => hc i x ?_⟩
  rw [List.getElem?_take] at hx
  split at hx
  · exact hx
  · cases hx
theorem ext_tail (s : ByteArray) (r a : List UInt8) (n : Nat) (h : s.data.toList = a ++ r) (hn : n = s.size) : ((s.extract (n - r.length) n).toList == r) = true := by
  have hl : s.data.toList.length = a.length + r.length := by rw [h, List.length_append]
  have hl2 : s.data.toList.length = s.size := by simp
  have h1 : n - r.length = a.length := by omega
  have h2 : n - a.length = r.length := by omega
  rw [ByteArray.toList_eq, Lib.extract_data, h1, h2, h, List.drop_left, List.take_length]
  simp
set_option maxRecDepth 100000 in
set_option maxHeartbeats 6400000 in
theorem sure_yes (k p : Int) (g : Bool) (A : Option Addr) (c : Nat) (ls : List ByteArray) (m : ByteArray) (w : World) (hRL : Utf.RL w) (hR : Rd w A ls.length (strv ls)) (hn : ls.length ≤ 1000000000000000) (hS : ∀ r ∈ ls, r.size ≤ maxLen) (hf : 1 ≤ k ∧ k ≤ 5 ∧ 1 ≤ p ∧ p ≤ 3) (hq : askSure p ls m) :
    Calls Tryd.prog 13 #[.agg #[.int .i64 k, .int .i64 p, .bool g], .slice A ls.length c, .string m] w fun e w' => e = .returned (.bool true) ∧ Below w.heap.size w w' := by
  have HA := Lib.hid awake_any
  have HRL := Lib.hid hRL
  obtain ⟨W, hW⟩ : ∃ W, w.alloc (.cells #[.int .i64 k, .int .i64 p, .bool g] HowT) = W := ⟨_, rfl⟩
  have hbx : Below w.heap.size w W := hW ▸ (Below.refl _ _).alloc (Nat.le_refl _) _
  have HX := Lib.hid hbx
  have HRx := Lib.hid (hR.keep hbx)
  have HBk : Hid (Blk W w.heap.size HowT #[.int .i64 k, .int .i64 p, .bool g]) := Lib.hid (hW ▸ Blk.new w HowT #[.int .i64 k, .int .i64 p, .bool g])
  have HN := Lib.hid (new_ok k p g hf W)
  have HF := Lib.hid (fun w' h => few_any A c ls w' h hn hS)
  have hRW := hRL.since hbx
  have hpos := hRW.pos
  have HRW := Lib.hid hRW
  obtain ⟨hfew, hm60, hp1⟩ := hq
  rw [hfew] at HF
  obtain ⟨h20, h60, h1200⟩ := fewB_le hfew
  have i1 : decide ((60 : Int) < m.size) = false := by simp; omega
  have i2 : (p == 1) = false := by simp [hp1]
  have HFit := Lib.hid hf
  have HP1 := Lib.hid hp1
  have H60 := Lib.hid h60
  have H12 := Lib.hid h1200
  have HW := Lib.hid hW
  clear hf hbx hR hRL hRW hfew hp1 h60 h1200 hn hS
  go_enter Tryd.func13, Tryd.ntmps13
  obtain ⟨k0, k1, k2⟩ := how_cells HBk.out
  go_wp2_with fail
  refine HN.out.mono ?_
  rintro e w1 ⟨b, rfl, hd1, hb1⟩
  clear k0 k1 k2
  have HR1 := Lib.hid (HRx.out.keep hb1)
  obtain ⟨k0, k1, k2⟩ := how_cells (HBk.out.below hb1 HBk.out.lt)
  have HP := Lib.hid (show PSt b W w1 (snew k p g) nilV nilV [] from ⟨hd1, World.ownsRow_nil _ _ _ _, hb1⟩)
  clear hb1 HN hd1
  go_wp2_with (go_at_call 34; refine (HF.out _ HR1.out).mono ?_; rintro e w' ⟨rfl, rfl⟩)
  clear k0 k1 k2
  go_loopw [9, 10, 11] (fun va vx vi wr => ∃ (j : Nat) (s : SSt) (v : Value) (o : List Int), j ≤ ls.length ∧ vi = .int .i64 j ∧ va = .string ⟨(allB (ls.take j)).toArray⟩ ∧ PSt b W wr s v vx o ∧ SInv k p g (allB (ls.take j)) s o 0) (fun _ _ i _ => ls.length - (intOf i).toNat)
  case atStart => exact ⟨0, _, _, [], Nat.zero_le _, rfl, rfl, HP.out, SInv.new k p g⟩
  case round =>
    obtain ⟨j, s, v, o, hj, rfl, rfl, hst, hinv⟩ := hrel
    have hsz := allB_take_le ls j
    obtain ⟨hfit, hall, hbad, hol⟩ := hinv.fit HFit.out
    have h12 := H12.out
    by_cases hlt : j < ls.length
    · obtain ⟨bk, o', rfl, hbk, hcW⟩ := HRx.out.str_at hlt
      have hc := (hst.2.2.cell (p := ⟨bk, o' + j, none⟩) hbk).trans hcW
      have HC := Lib.hid (fun (w' : World) (h : Below W.heap.size W w') => (h.cell (p := ⟨bk, o' + j, none⟩) hbk).trans hcW)
      have hsn := allB_snoc ls j hlt
      have ht60 := H60.out ls[j] (List.getElem_mem hlt)
      generalize ls[j] = t at *
      have HSN := Lib.hid hsn
      have hall1 : allB [t] = t.data.toList := by simp [allB]
      have hrl := HRW.out.since (hst.alloc (.cells #[.string t] 9)).2.2
      have hT := feed_any W.heap.size b s v (some ⟨wr.heap.size, 0, none⟩) 1 1 [t] (wr.alloc (.cells #[.string t] 9)) (hst.alloc _).1 (Rd.of_new wr _ [.string t] 1 rfl) (Nat.le_refl _) (by decide) hfit (by rw [hall1]; simp; omega) (by omega) hrl hpos
      have hnx := hinv.feed t.data.toList
      rw [if_pos rfl] at hnx
      rw [hall1] at hT
      have h0 := (hnx.sure HP1.out []).1
      have hol2 := (hnx.fit HFit.out).2.2.2
      generalize sfeed t.data.toList s = x at *
      obtain ⟨s2, o2, e2⟩ := x
      have h0 : e2 = 0 := h0
      subst h0
      obtain ⟨S, hS⟩ : ∃ S : ByteArray, ⟨(allB (ls.take j)).toArray⟩ = S := ⟨_, rfl⟩
      have hSl : allB (ls.take j) = S.data.toList := by rw [← hS]
      rw [hS]
      rw [hSl] at hnx hol2
      have hol3 : o.length + o2.length ≤ S.data.toList.length + t.data.toList.length := by
        have : (o ++ o2).length ≤ _ := hol2
        rw [List.length_append, List.length_append] at this
        exact this
      have hS12 : S.size ≤ 1200 := by rw [← ByteArray.size_data, ← Array.length_toList, ← hSl]; omega
      have HNX := Lib.hid hnx
      have HT := Lib.hid hT
      have HST := Lib.hid hst
      have hx0 : o.length + o2.length ≤ 2000 := by simp at hol3; omega
      clear hT hnx hol2 hol3 hst hinv hsn hcW hrl hall hbad hfit hol hall1 hsz hbk
      go_wp2_with fail
      refine HT.out.mono ?_
      rintro e w2 ⟨vo, v', rfl, ho, hd, hk, _⟩
      have hst2 := (HST.out.alloc (.cells #[.string t] 9)).kept hk hd
      have HST2 := Lib.hid hst2
      have HO := Lib.hid ho
      clear ho hd hk hst2 HST HT
      go_wp2_with (at_builtin; refine wpList_outs w2 rfl _ _ rfl W.heap.size u10 o rfl HST2.out.2.1 HST2.out.2.2.size _ vo o2 rfl HO.out (by omega) ?_; intro vx w3 ho3 hgr hat; have HST3 := Lib.hid (HST2.out.outs ho3 hgr); have hc3 := HC.out w3 HST3.out.2.2; clear ho3 hgr hat)
      go_at_call 36
      refine (waits_any _ _ _ _ _ HST3.out.1).mono ?_
      rintro e w4 ⟨rfl, rfl⟩
      obtain ⟨hr3, ra, hra⟩ := HNX.out.rest
      have hrl : S.size + t.size = ra.length + s2.rest.length := by
        have := congrArg List.length hra
        rw [List.length_append, List.length_append] at this
        simpa using this
      have g1 : decide ((S.size : Int) + (t.size : Int) < (s2.rest.length : Int)) = false := by simp; omega
      have g2 := ext_tail (S ++ t) s2.rest ra (S.size + t.size) (by rw [← hra]; simp [ByteArray.data_append]) (by simp)
      have g3 : s2.rest.length ≤ S.size + t.size := by omega
      clear hrl hra
      go_wp2_with fail
      go_roundw
      case rel =>
        refine ⟨j + 1, s2, v', o ++ o2, by omega, by go_num, ?_, HST3.out, ?_⟩
        · rw [HSN.out, hSl, ba_append_s]
        · rw [HSN.out, hSl]; exact HNX.out
      case measure => simp [intOf]; omega
    · obtain rfl : j = ls.length := by omega
      rw [List.take_of_length_le (Nat.le_refl _)] at hinv ⊢
      have hsure := fun t => hinv.sure HP1.out t
      obtain ⟨S, hS⟩ : ∃ S : ByteArray, ⟨(allB ls).toArray⟩ = S := ⟨_, rfl⟩
      have hSl : allB ls = S.data.toList := by rw [← hS]
      rw [hS]
      have hS12 : S.size ≤ 1200 := by rw [← ByteArray.size_data, ← Array.length_toList, ← hSl]; omega
      have hSm : (S ++ m).data.toList = allB ls ++ m.data.toList := by rw [hSl]; simp [ByteArray.data_append]
      have hW1 := whole_yes k p g HFit.out (S ++ m) (by simp; omega) wr (HRW.out.since hst.2.2)
      obtain ⟨_, ⟨x, hx⟩, he⟩ := hsure m.data.toList
      rw [← hSm] at hx he
      generalize swhole k p g (S ++ m).data.toList = y at *
      obtain ⟨yo, yb, yk, ye⟩ := y
      have hx : yo = o ++ x := hx
      have he : ye = 0 := he
      subst hx he
      have HW1 := Lib.hid hW1
      have HST := Lib.hid hst
      obtain ⟨k0, k1, k2⟩ := how_cells (HBk.out.below hst.2.2 HBk.out.lt)
      have hol4 : o.length ≤ 1200 := by rw [List.take_of_length_le (Nat.le_refl _)] at hol; omega
      clear hW1 hst hsure hSm hSl hS hinv hsz hfit hall hbad h12 HR1 HP
      obtain ⟨A1, c1, rfl, r1, hc1, _⟩ := own_rd HST.out.2.1
      have HR1 := Lib.hid r1
      clear r1
      go_wp2_with fail
      refine HW1.out.mono ?_
      rintro e w2 ⟨vo, vb, rfl, h1, _, hb2, _⟩
      obtain ⟨A2, c2, rfl, r2, hc2, hc3⟩ := own_rd h1
      have HB2 := Lib.hid ((HX.out.trans (HST.out.2.2.mono HX.out.size)).trans (hb2.mono (HX.out.trans (HST.out.2.2.mono HX.out.size)).size))
      have hlx : (o ++ x).length = o.length + x.length := by simp
      have hc2 : o.length + x.length ≤ c2 := hlx ▸ hc2
      have hQ := runes_any A1 o.length c1 o A2 o.length c2 o w2 (HR1.out.keep hb2) (by have := rd_take r2 (show o.length ≤ (o ++ x).length by omega); rwa [show ((i32s (o ++ x)).take o.length) = i32s o from by rw [i32s_append, ← i32s_length o, List.take_left]] at this) (by omega)
      rw [decide_eq_true rfl] at hQ
      have HQ := Lib.hid hQ
      clear h1 hb2 r2 hQ HW1 k0 k1 k2 HR1
      unfold maxLen at hc3
      go_wp2_with fail
      refine HQ.out.mono ?_
      rintro e w3 ⟨rfl, hd3⟩
      have HB3 := Lib.hid (HB2.out.trans ((hd3.below w2.heap.size).mono HB2.out.size))
      clear hd3 HQ
      go_wp2_with (go_at_call 29; refine (HA.out _ (HRL.out.since HB3.out)).mono ?_; rintro e w4 ⟨rfl, hb4⟩)
      go_returns
      exact ⟨rfl, HB3.out.trans (hb4.mono HB3.out.size)⟩
theorem streamSure_law (k p : Int) (g : Bool) (A : Option Addr) (len c : Nat) (ls : List ByteArray) (m : ByteArray) (w : World) (hR : Rd w A len (strv ls)) (hS : ∀ r ∈ ls, r.size ≤ maxLen) (_hcap : len ≤ c) (hrch : len * 16 ≤ 140737488351232) (hm : m.size ≤ maxLen) (hRL : Utf.RL w) :
    Calls Tryd.prog 13 #[.agg #[.int .i64 k, .int .i64 p, .bool g], .slice A len c, .string m] w fun e w' => e = .returned (.bool true) ∧ Below w.heap.size w w' := by
  obtain rfl := hR.str_len
  have hn : ls.length ≤ 1000000000000000 := by omega
  by_cases hf : 1 ≤ k ∧ k ≤ 5 ∧ 1 ≤ p ∧ p ≤ 3
  · by_cases hq : askSure p ls m
    · exact sure_yes k p g A c ls m w hRL hR hn hS hf hq
    · exact sure_no k p g A c ls m w hRL hR hn hS hm (.inr ⟨hf, hq⟩)
  · exact sure_no k p g A c ls m w hRL hR hn hS hm (.inl hf)
end Go.Proofs.YtlfhmkjomogkiaaDoor.Str

/- The statement StreamMarks: its walk. -/
namespace Go.Proofs.YtlfhmkjomogkiaaDoor.Str
open Go.RowKit Pl

abbrev TwoT : TypeId := 57
theorem two_cells {w : World} {g : Nat} {k p : Int} (h : Blk w g TwoT #[.int .i64 k, .int .i64 p]) : w.cell? ⟨g, 0, none⟩ = some (.int .i64 k) ∧ w.cell? ⟨g, 1, none⟩ = some (.int .i64 p) :=
  ⟨by rw [h.cell]; rfl, by rw [h.cell]; rfl⟩
/-- Is the law's question put at all? -/
def askMarks (k1 k2 p : Int) (s : ByteArray) : Prop := 1 ≤ k1 ∧ k1 ≤ 5 ∧ 1 ≤ k2 ∧ k2 ≤ 5 ∧ 1 ≤ p ∧ p ≤ 3 ∧ s.size ≤ 300 ∧ s.data.toList.head? ≠ some 0
set_option maxRecDepth 100000 in
set_option maxHeartbeats 1600000 in
theorem marks_no (k1 k2 p : Int) (s : ByteArray) (hm : s.size ≤ maxLen) (w : World) (hRL : Utf.RL w) (hn : ¬ (1 ≤ k1 ∧ k1 ≤ 5 ∧ 1 ≤ k2 ∧ k2 ≤ 5 ∧ 1 ≤ p ∧ p ≤ 3 ∧ s.size ≤ 300)) :
    Calls Tryd.prog 12 #[.agg #[.int .i64 k1, .int .i64 k2], .int .i64 p, .string s] w fun e w' => e = .returned (.bool true) ∧ Below w.heap.size w w' := by
  have hbx : Below w.heap.size w (w.alloc (.cells #[.int .i64 k1, .int .i64 k2] TwoT)) := (Below.refl _ _).alloc (Nat.le_refl _) _
  have HX := Lib.hid hbx
  have HA := Lib.hid (awake_any _ (hRL.since hbx))
  unfold maxLen at hm
  clear hRL hbx
  have hc : k1 < 1 ∨ (1 ≤ k1 ∧ 5 < k1) ∨ (1 ≤ k1 ∧ k1 ≤ 5 ∧ k2 < 1) ∨ (1 ≤ k1 ∧ k1 ≤ 5 ∧ 1 ≤ k2 ∧ 5 < k2) ∨ (1 ≤ k1 ∧ k1 ≤ 5 ∧ 1 ≤ k2 ∧ k2 ≤ 5 ∧ p < 1) ∨ (1 ≤ k1 ∧ k1 ≤ 5 ∧ 1 ≤ k2 ∧ k2 ≤ 5 ∧ 1 ≤ p ∧ 3 < p) ∨ (1 ≤ k1 ∧ k1 ≤ 5 ∧ 1 ≤ k2 ∧ k2 ≤ 5 ∧ 1 ≤ p ∧ p ≤ 3 ∧ 300 < (s.size : Int)) := by omega
  clear hn
  rcases hc with h | ⟨h, h1⟩ | ⟨h, h1, h2⟩ | ⟨h, h1, h2, h3⟩ | ⟨h, h1, h2, h3, h4⟩ | ⟨h, h1, h2, h3, h4, h5⟩ | ⟨h, h1, h2, h3, h4, h5, h6⟩
  all_goals
    go_enter Tryd.func12, Tryd.ntmps12
    go_wp2_with (go_at_call 29; refine HA.out.mono ?_; rintro e w1 ⟨rfl, hb1⟩)
    go_returns
    exact ⟨rfl, HX.out.trans (hb1.mono HX.out.size)⟩
end Go.Proofs.YtlfhmkjomogkiaaDoor.Str

/- The statement StreamMarks: its walk where the bytes begin with 0. -/
namespace Go.Proofs.YtlfhmkjomogkiaaDoor.Str
open Go.RowKit Pl
set_option maxRecDepth 100000 in
set_option maxHeartbeats 1600000 in
theorem marks_zero (k1 k2 p : Int) (s : ByteArray) (w : World) (hRL : Utf.RL w) (h : 1 ≤ k1) (h1 : k1 ≤ 5) (h2 : 1 ≤ k2) (h3 : k2 ≤ 5) (h4 : 1 ≤ p) (h5 : p ≤ 3) (h6 : (s.size : Int) ≤ 300) (h7 : 0 < s.size) (h8 : s[0].toNat = 0) :
    Calls Tryd.prog 12 #[.agg #[.int .i64 k1, .int .i64 k2], .int .i64 p, .string s] w fun e w' => e = .returned (.bool true) ∧ Below w.heap.size w w' := by
  have hbx : Below w.heap.size w (w.alloc (.cells #[.int .i64 k1, .int .i64 k2] TwoT)) := (Below.refl _ _).alloc (Nat.le_refl _) _
  have HX := Lib.hid hbx
  have HA := Lib.hid (awake_any _ (hRL.since hbx))
  have i7 : (0 : Int) < (s.size : Int) := by omega
  clear hRL hbx
  go_enter Tryd.func12, Tryd.ntmps12
  go_wp2_with (go_at_call 29; refine HA.out.mono ?_; rintro e w1 ⟨rfl, hb1⟩)
  go_returns
  exact ⟨rfl, HX.out.trans (hb1.mono HX.out.size)⟩
end Go.Proofs.YtlfhmkjomogkiaaDoor.Str

/- The statement StreamMarks: its walk where it is asked. -/
namespace Go.Proofs.YtlfhmkjomogkiaaDoor.Str
open Go.RowKit Pl
/-- A mark as a string, out of the law's row of marks. -/
def markS (n : Nat) : ByteArray := ⟨(kmark n).toArray⟩
theorem markS_sel (n : Nat) (h1 : 1 ≤ n) (h5 : n ≤ 5) : (#[.string ⟨#[]⟩, .string ⟨#[255, 254]⟩, .string ⟨#[254, 255]⟩, .string ⟨#[255, 254, 0, 0]⟩, .string ⟨#[0, 0, 254, 255]⟩, .string ⟨#[239, 187, 191]⟩] : Array Value)[n]? = some (.string (markS n)) := by
  rcases (show n = 1 ∨ n = 2 ∨ n = 3 ∨ n = 4 ∨ n = 5 from by omega) with rfl | rfl | rfl | rfl | rfl <;> rfl
theorem markS_size (n : Nat) (h1 : 1 ≤ n) (h5 : n ≤ 5) : (markS n).size ≤ 4 := by
  rcases (show n = 1 ∨ n = 2 ∨ n = 3 ∨ n = 4 ∨ n = 5 from by omega) with rfl | rfl | rfl | rfl | rfl <;> decide
/-- Bytes that do not begin with 0. -/
theorem head_ne (s : ByteArray) (h : s.size = 0 ∨ ∃ h : 0 < s.size, s[0].toNat ≠ 0) : s.data.toList.head? ≠ some 0 := by
  rcases h with h | ⟨h0, h⟩
  · have : s.data.toList = [] := List.eq_nil_of_length_eq_zero (by simpa using h)
    rw [this]; simp
  · have hl : 0 < s.data.toList.length := by simpa using h0
    rw [List.head?_eq_getElem?, List.getElem?_eq_getElem hl, byte_at s 0 h0]
    intro e
    injection e with e
    rw [e] at h
    exact h rfl
theorem whole_of (k p : Int) (g : Bool) (hf : 1 ≤ k ∧ k ≤ 5 ∧ 1 ≤ p ∧ p ≤ 3) (t : ByteArray) (ht : t.size ≤ 1000000) (x : List Int × List (Nat × Nat) × Int × Int) (hx : swhole k p g t.data.toList = x) (w : World) (hRL : Utf.RL w) :
    Calls Tryd.prog 30 #[.int .i64 k, .int .i64 p, .bool g, .string t] w (WholePost w x) := by
  rw [← hx]; exact whole_yes k p g hf t ht w hRL
set_option maxRecDepth 100000 in
set_option maxHeartbeats 1600000 in
theorem marks_yes (k1 p : Int) (n : Nat) (s : ByteArray) (w : World) (hRL : Utf.RL w) (h : 1 ≤ k1) (h1 : k1 ≤ 5) (h2 : 1 ≤ n) (h3 : n ≤ 5) (h4 : 1 ≤ p) (h5 : p ≤ 3) (h6 : (s.size : Int) ≤ 300) (hz : s.size = 0 ∨ ∃ h : 0 < s.size, s[0].toNat ≠ 0) :
    Calls Tryd.prog 12 #[.agg #[.int .i64 k1, .int .i64 n], .int .i64 p, .string s] w fun e w' => e = .returned (.bool true) ∧ Below w.heap.size w w' := by
  have hbx : Below w.heap.size w (w.alloc (.cells #[.int .i64 k1, .int .i64 n] TwoT)) := (Below.refl _ _).alloc (Nat.le_refl _) _
  have hbm : Below w.heap.size w ((w.alloc (.cells #[.int .i64 k1, .int .i64 n] TwoT)).alloc (.cells #[.string ⟨#[]⟩, .string ⟨#[255, 254]⟩, .string ⟨#[254, 255]⟩, .string ⟨#[255, 254, 0, 0]⟩, .string ⟨#[0, 0, 254, 255]⟩, .string ⟨#[239, 187, 191]⟩] 9)) := hbx.alloc hbx.size _
  have HBk : Hid (Blk ((w.alloc (.cells #[.int .i64 k1, .int .i64 n] TwoT)).alloc (.cells #[.string ⟨#[]⟩, .string ⟨#[255, 254]⟩, .string ⟨#[254, 255]⟩, .string ⟨#[255, 254, 0, 0]⟩, .string ⟨#[0, 0, 254, 255]⟩, .string ⟨#[239, 187, 191]⟩] 9)) w.heap.size TwoT #[.int .i64 k1, .int .i64 n]) :=
    Lib.hid ((Blk.new w TwoT #[.int .i64 k1, .int .i64 n]).below ((Below.refl _ _).alloc (Nat.le_refl _) _) (by simp))
  have HX := Lib.hid hbm
  have hsel := markS_sel n h2 h3
  have hM := markS_size n h2 h3
  have hd := head_ne s hz
  have hk : 1 ≤ (n : Int) ∧ (n : Int) ≤ 5 := by omega
  have hms : (markS n ++ s).data.toList = kmark n ++ s.data.toList := by simp [markS]
  have hmz : (markS n).size = (kmark n).length := ba_size _
  have hsz : (markS n ++ s).size ≤ 304 := by simp; omega
  have e1 := swhole_mark k1 n p hk s.data.toList hd
  have e2 := swhole_off n p s.data.toList
  have e3 := swhole_char n p hk s.data.toList
  rw [← hms] at e1 e3
  have hln := dec_len (snx n) p (fun t h => (snx_pos _ t h).1) s.data.toList
  have hat := dec_at (snx n) p (fun t h => (snx_pos _ t h).2) s.data.toList
  rw [show s.data.toList.length = s.size from by simp] at hln hat
  rw [← hmz] at e1 e3
  have W1 := Lib.hid (whole_of k1 p true ⟨h, h1, h4, h5⟩ (markS n ++ s) (by omega) _ e1)
  have W2 := Lib.hid (whole_of n p false ⟨hk.1, hk.2, h4, h5⟩ s (by omega) _ e2)
  have W3 := Lib.hid (whole_of n p false ⟨hk.1, hk.2, h4, h5⟩ (markS n ++ s) (by omega) _ e3)
  have HRL := Lib.hid hRL
  have HA := Lib.hid awake_any
  generalize dec (snx n) p s.data.toList = x at *
  obtain ⟨o, y, er⟩ := x
  have hol : o.length ≤ 300 := by have := hln.1; show o.length ≤ _; simp at this; omega
  have hyl : y.length ≤ 300 := by have := hln.2; simp at this; omega
  have HAT : Hid (∀ x ∈ y, x.1 ≤ 300) := Lib.hid fun x hx => Nat.le_trans (hat x hx) (by omega)
  have j0 : (1 : Int) ≤ (n : Int) := by omega
  have j1 : (n : Int) ≤ 5 := by omega
  generalize markS n = M at *
  have i3 : (M.size : Int) + (s.size : Int) ≤ 304 := by omega
  have a1 : decide (k1 < 1) = false := by simp; omega
  have a2 : decide (5 < k1) = false := by simp; omega
  have a3 : decide ((n : Int) < 1) = false := by simp; omega
  have a4 : decide (5 < (n : Int)) = false := by simp; omega
  have a5 : decide (p < 1) = false := by simp; omega
  have a6 : decide (3 < p) = false := by simp; omega
  have a7 : decide (300 < (s.size : Int)) = false := by simp; omega
  have HFit := Lib.hid h
  have hz' : (decide (0 < s.size) = false ∧ decide ((0 : Int) < (s.size : Int)) = false) ∨ (∃ h : 0 < s.size, ((s[0].toNat : Int) == 0) = false ∧ decide (0 < s.size) = true ∧ decide ((0 : Int) < (s.size : Int)) = true) := by
    rcases hz with h | ⟨h, h0⟩
    · exact .inl ⟨decide_eq_false (by omega), decide_eq_false (by omega)⟩
    · exact .inr ⟨h, by rw [beq_eq_false_iff_ne]; omega, decide_eq_true h, decide_eq_true (by omega)⟩
  clear hRL hbx hbm e1 e2 e3 hln hat hd hk hms hmz hsz hz h h1 h2 h3 h4 h5
  rcases hz' with ⟨i7, i8⟩ | ⟨i6, i7, i8, i9⟩
  all_goals
    go_enter Tryd.func12, Tryd.ntmps12
    go_wp2_with fail
    refine (W1.out _ (HRL.out.since HX.out)).mono ?_
    rintro _ w1 ⟨va, vx, rfl, ho1, hx1, hb1, _⟩
    have HB1 := Lib.hid (HX.out.trans (hb1.mono HX.out.size))
    have HK1 := Lib.hid (HBk.out.below hb1 HBk.out.lt)
    replace ho1 : w1.ownsRow _ RuneT 1 va o.length (i32s o) := ho1
    replace hx1 : w1.ownsRow _ FaultT 2 vx (shiftF M.size y).length (fcells (shiftF M.size y)) := hx1
    rw [shiftF_length] at hx1
    obtain ⟨A1, c1, rfl, r1, _, _⟩ := own_rd ho1
    obtain ⟨X1, d1, rfl, s1⟩ := rd2_of_own hx1
    have HR1 := Lib.hid r1; have HS1 := Lib.hid s1
    obtain ⟨q0, q1⟩ := two_cells HK1.out
    clear ho1 hx1 r1 s1 hb1 W1 HBk
    go_wp2_with fail
    refine (W2.out _ (HRL.out.since HB1.out)).mono ?_
    rintro _ w2 ⟨vb, vy, rfl, ho2, hx2, hb2, _⟩
    have HB2 := Lib.hid (HB1.out.trans (hb2.mono HB1.out.size))
    have HK2 := Lib.hid (HK1.out.below hb2 HK1.out.lt)
    replace ho2 : w2.ownsRow _ RuneT 1 vb o.length (i32s o) := ho2
    replace hx2 : w2.ownsRow _ FaultT 2 vy y.length (fcells y) := hx2
    obtain ⟨A2, c2, rfl, r2, _, _⟩ := own_rd ho2
    obtain ⟨X2, d2, rfl, s2⟩ := rd2_of_own hx2
    have HR12 := Lib.hid (HR1.out.keep hb2); have HS12 := Lib.hid (HS1.out.keep hb2)
    have HR2 := Lib.hid r2; have HS2 := Lib.hid s2
    clear ho2 hx2 r2 s2 hb2 W2 HK1 q0 q1 HR1 HS1
    obtain ⟨q2, q3⟩ := two_cells HK2.out
    go_wp2_with fail
    refine (W3.out _ (HRL.out.since HB2.out)).mono ?_
    rintro _ w3 ⟨vc, vz, rfl, ho3, hx3, hb3, _⟩
    have HB3 := Lib.hid (HB2.out.trans (hb3.mono HB2.out.size))
    have HK3 := Lib.hid (HK2.out.below hb3 HK2.out.lt)
    replace ho3 : w3.ownsRow _ RuneT 1 vc (o.length + 1) (i32s (65279 :: o)) := ho3
    replace hx3 : w3.ownsRow _ FaultT 2 vz (shiftF M.size y).length (fcells (shiftF M.size y)) := hx3
    rw [shiftF_length] at hx3
    obtain ⟨A3, c3, rfl, r3, hc3, _⟩ := own_rd ho3
    obtain ⟨X3, d3, rfl, s3⟩ := rd2_of_own hx3
    obtain ⟨b3, o3, rfl, hb3', hcell⟩ := r3.2 (by omega)
    have hb3k := hb3'
    have hc0 : w3.cell? ⟨b3, o3, none⟩ = some (.int .i32 65279) := hcell 0 _ rfl
    have r3' : Rd w3 (some ⟨b3, o3 + 1, none⟩) o.length (i32s o) := ⟨by simp [i32s], fun _ => ⟨b3, o3 + 1, rfl, hb3', fun i x hx => by have h := hcell (i + 1) x (by simpa [i32s] using hx); rw [show o3 + 1 + i = o3 + (i + 1) from by omega]; exact h⟩⟩
    have HR13 := Lib.hid (HR12.out.keep hb3); have HS13 := Lib.hid (HS12.out.keep hb3)
    have HR23 := Lib.hid (HR2.out.keep hb3); have HS23 := Lib.hid (HS2.out.keep hb3)
    have HR3 := Lib.hid r3'; have HS3 := Lib.hid s3
    clear ho3 hx3 r3 s3 hb3 W3 HK2 q2 q3 HR12 HS12 HR2 HS2 hb3' hcell r3'
    obtain ⟨q4, q5⟩ := two_cells HK3.out
    have hq1 := runes_any A1 _ c1 o A2 _ c2 o w3 HR13.out HR23.out (by omega)
    rw [decide_eq_true rfl] at hq1
    have HQ1 := Lib.hid hq1
    clear hq1
    go_wp2_with fail
    refine HQ1.out.mono ?_
    rintro _ w4 ⟨rfl, hd4⟩
    have b4 := hd4.below w3.heap.size
    have HB4 := Lib.hid (HB3.out.trans (b4.mono HB3.out.size))
    obtain ⟨q6, q7⟩ := two_cells (HK3.out.below b4 HK3.out.lt)
    have hc04 : w4.cell? ⟨b3, o3, none⟩ = some (.int .i32 65279) := (b4.cell (p := ⟨b3, o3, none⟩) (by omega)).trans hc0
    have HR23' := Lib.hid (HR23.out.keep b4); have HR3' := Lib.hid (HR3.out.keep b4)
    have HS13' := Lib.hid (HS13.out.keep b4); have HS23' := Lib.hid (HS23.out.keep b4); have HS3' := Lib.hid (HS3.out.keep b4)
    clear hd4 b4 HQ1 q4 q5 hc0 HR13 HR23 HS13 HS23 HR3 HS3 HK3 HB3
    have HQ2 : Hid (∀ A c, Rd w4 A o.length (i32s o) → Calls Tryd.prog 24 #[.slice A o.length c, .slice A2 o.length c2] w4 fun e w' => e = .returned (.bool true) ∧ Drew w4 w') := Lib.hid fun A c h => by
      have hq2 := runes_any A o.length c o A2 o.length c2 o w4 h HR23'.out (by omega)
      rw [decide_eq_true rfl] at hq2
      exact hq2
    go_wp2_with fail
    all_goals
      refine (HQ2.out _ _ (by first | exact HR3'.out | exact ⟨by simp [i32s], fun h => by omega⟩)).mono ?_
      rintro _ w5 ⟨rfl, hd5⟩
      have b5 := hd5.below w4.heap.size
      have HB5 := Lib.hid (HB4.out.trans (b5.mono HB4.out.size))
      have hq3 := faults_any X1 y.length d1 (shiftF M.size y) X3 y.length d3 (shiftF M.size y) w5 (HS13'.out.keep b5) (HS3'.out.keep b5) (by omega)
      rw [decide_eq_true rfl] at hq3
      have HQ3 := Lib.hid hq3
      have HS15 := Lib.hid (HS13'.out.keep b5); have HS25 := Lib.hid (HS23'.out.keep b5)
      clear hd5 b5 hq3 q6 q7 hc04
      go_wp2_with fail
      refine HQ3.out.mono ?_
      rintro _ w6 ⟨rfl, hd6⟩
      have b6 := hd6.below w5.heap.size
      have HB6 := Lib.hid (HB5.out.trans (b6.mono HB5.out.size))
      have HS16 := Lib.hid (HS15.out.keep b6); have HS26 := Lib.hid (HS25.out.keep b6)
      clear hd6 b6 HQ3 HQ2 HS15 HS25 HB4 HB5 HS13' HS23' HS3' HR3' HR23'
      go_wp2_with fail
      go_loopw [21] (fun i wr => ∃ j : Nat, j ≤ y.length ∧ i = .int .i64 j ∧ Below w6.heap.size w6 wr) (fun i _ => y.length - (intOf i).toNat)
      case atStart => exact ⟨0, Nat.zero_le _, rfl, Below.refl _ _⟩
      case round =>
        obtain ⟨j, hj, rfl, hbr⟩ := hrel
        have HBR := Lib.hid hbr
        clear hbr
        by_cases hlt : j < y.length
        · have hlt1 : j < (shiftF M.size y).length := by rw [shiftF_length]; exact hlt
          obtain ⟨e1, r1, rfl, _, f1, g1⟩ := (HS16.out.keep HBR.out).at_ hlt1
          obtain ⟨e2, r2, rfl, _, f2, g2⟩ := (HS26.out.keep HBR.out).at_ hlt
          have hs1 : (shiftF M.size y)[j] = (M.size + y[j].1, y[j].2) := by simp [shiftF]
          rw [hs1] at f1 g1
          have hle := HAT.out y[j] (List.getElem_mem hlt)
          generalize y[j] = z at *
          obtain ⟨z1, z2⟩ := z
          have j0' : (0 : Int) ≤ (j : Int) := by omega
          have j1' : (j : Int) < (y.length : Int) := by omega
          obtain ⟨r, hr⟩ : ∃ r, M.size + z1 = r := ⟨_, rfl⟩
          rw [hr] at f1
          have hw1 : IntKind.i64.wrap ((z1 : Int) + (M.size : Int)) = (r : Int) := by subst hr; exact (IntWalk.i64_in _ (by omega)).trans (by simp; omega)
          clear hr hle hs1 hlt1
          go_wp2
          go_quiet (fail)
          go_wp2
          go_roundw
          case rel => exact ⟨j + 1, by omega, by go_num, by first | exact HBR.out.drewN _ | (obtain ⟨m, hm⟩ : Drew wr _ := ⟨_, rfl⟩; exact HBR.out.trans (Drew.below (hm ▸ ⟨m, rfl⟩) _))⟩
          case measure => simp [intOf]; omega
        · obtain rfl : j = y.length := by omega
          go_wp2_with (go_at_call 29; refine (HA.out _ (HRL.out.since (HB6.out.trans (HBR.out.mono HB6.out.size)))).mono ?_; rintro _ w9 ⟨rfl, hb9⟩)
          go_returns
          exact ⟨rfl, (HB6.out.trans (HBR.out.mono HB6.out.size)).trans (hb9.mono (HB6.out.trans (HBR.out.mono HB6.out.size)).size)⟩
theorem streamMarks_law (k1 k2 p : Int) (s : ByteArray) (w : World) (hm : s.size ≤ maxLen) (hRL : Utf.RL w) :
    Calls Tryd.prog 12 #[.agg #[.int .i64 k1, .int .i64 k2], .int .i64 p, .string s] w fun e w' => e = .returned (.bool true) ∧ Below w.heap.size w w' := by
  by_cases hq : 1 ≤ k1 ∧ k1 ≤ 5 ∧ 1 ≤ k2 ∧ k2 ≤ 5 ∧ 1 ≤ p ∧ p ≤ 3 ∧ s.size ≤ 300
  · obtain ⟨h1, h2, h3, h4, h5, h6, h7⟩ := hq
    obtain ⟨n, rfl⟩ : ∃ n : Nat, k2 = n := ⟨k2.toNat, by omega⟩
    by_cases h0 : 0 < s.size
    · by_cases h8 : s[0].toNat = 0
      · exact marks_zero k1 n p s w hRL h1 h2 h3 h4 h5 h6 (by omega) h0 h8
      · exact marks_yes k1 p n s w hRL h1 h2 (by omega) (by omega) h5 h6 (by omega) (.inr ⟨h0, h8⟩)
    · exact marks_yes k1 p n s w hRL h1 h2 (by omega) (by omega) h5 h6 (by omega) (.inl (by omega))
  · exact marks_no k1 k2 p s hm w hRL hq
end Go.Proofs.YtlfhmkjomogkiaaDoor.Str
