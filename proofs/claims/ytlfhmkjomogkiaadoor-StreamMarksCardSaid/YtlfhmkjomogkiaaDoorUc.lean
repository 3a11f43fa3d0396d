/- Walks: utf8.Next. -/
import Derived.Test.YtlfhmkjomogkiaaDoorUb
import Derived.Test.YtlfhmkjomogkiaaDoorWbits
namespace Go.Proofs.YtlfhmkjomogkiaaDoor.Utf
open Go.RowKit Pl

/-- What next answers. -/
def nextEnd (x : Int × Nat × Int) (e : Ending) : Prop := e = .returned (.tuple #[.int .i32 x.1, .int .i64 x.2.1, .int .i64 x.2.2])
theorem or_six (x c : Nat) (hx : x ≤ 33554432) : bits .or .i64 ((x : Int) * 64) ((c : Int) % 64) = ((x * 64 + c % 64 : Nat) : Int) := by
  have h := i64_or_nat (x * 64) (c % 64) (by omega) (by omega)
  rw [show (64 : Nat) = 2 ^ 6 from rfl, or_low x (c % 2 ^ 6) 6 (by omega)] at h
  rw [← show ((x * 2 ^ 6 : Nat) : Int) = (x : Int) * 64 from by omega]
  rw [show (64 : Nat) = 2 ^ 6 from rfl]
  rw [← h]
  rfl
theorem ba_zero {s : ByteArray} (h : s.size = 0) : s = ⟨#[]⟩ := by
  apply ByteArray.ext
  exact Array.eq_empty_of_size_eq_zero h
/-- The state of the loop over the bytes behind the first one. -/
def NextSt (R : Int × Nat × Int) (l : List UInt8) (m : Nat) (n x f t : Value) : Prop :=
  ∃ k X lo hi : Nat, 1 ≤ k ∧ k ≤ m ∧ k ≤ l.length ∧ lo ≤ 255 ∧ hi ≤ 255 ∧ ((k = 1 ∧ X ≤ 127) ∨ (k = 2 ∧ X ≤ 8191) ∨ (k = 3 ∧ X ≤ 524287) ∨ (k = 4 ∧ X ≤ 33554431)) ∧
    n = .int .i64 k ∧ x = .int .i64 X ∧ f = .int .u8 lo ∧ t = .int .u8 hi ∧ ugo m (l.drop k) X lo hi k = R
theorem not_empty {s : ByteArray} (h : s.size ≠ 0) : s.toList.isEmpty = false := by
  rw [Lib.toList_data]
  cases hl : s.data.toList with
  | nil => exact absurd (by rw [← show s.data.toList.length = s.size from by simp, hl]; rfl) h
  | cons a l => rfl
theorem is_cons {s : ByteArray} (h : 0 < s.size) : s.data.toList = s[0] :: s.data.toList.drop 1 := by
  cases hl : s.data.toList with
  | nil => exact absurd (show s.size = 0 by rw [← show s.data.toList.length = s.size from by simp, hl]; rfl) (by omega)
  | cons a l =>
    have := byte_at s 0 h
    rw [← this]; simp [hl]

def badB (m b : Nat) : Bool := m == 0 || (m == 2 && decide (b < 194)) || decide (244 < b)
set_option maxRecDepth 100000 in
set_option maxHeartbeats 1600000 in
theorem next_bad (s : ByteArray) (h0 : 0 < s.size) (hbad : uBadB s[0].toNat = true) (w : World) (hRL : RL w) :
    Calls Tryd.prog 17 #[.string s] w fun e w' => nextEnd (0, 1, 17) e ∧ Below w.heap.size w w' := by
  have HL := Lib.hid (lead_any s[0].toNat s[0].toNat_lt w hRL)
  unfold leadEnd at HL
  have he := not_empty (s := s) (by omega)
  have h255 : (s[0].toNat : Int) ≤ 255 := by have := s[0].toNat_lt; omega
  have hc := uMany_cases s[0].toNat
  by_cases hm0 : uMany s[0].toNat = 0
  · rw [hm0] at HL
    clear hbad hc hm0 hRL
    go_enter Tryd.func17, Tryd.ntmps17
    go_wp2_with fail
    refine HL.out.mono ?_
    rintro e w1 ⟨rfl, hb1⟩
    go_wp2
    go_returns
    exact ⟨rfl, hb1⟩
  · by_cases hm2 : uMany s[0].toNat = 2 ∧ s[0].toNat < 194
    · rw [hm2.1] at HL
      have d1 : (s[0].toNat : Int) ≤ 193 := by omega
      clear hbad hc hm0 hRL hm2
      go_enter Tryd.func17, Tryd.ntmps17
      go_wp2_with fail
      refine HL.out.mono ?_
      rintro e w1 ⟨rfl, hb1⟩
      go_wp2
      go_returns
      exact ⟨rfl, hb1⟩
    · have d2 : (245 : Int) ≤ s[0].toNat := by simp [uBadB] at hbad; omega
      have hm4 : (uMany s[0].toNat : Int) = 0 ∨ (uMany s[0].toNat : Int) = 4 := by omega
      rcases hm4 with hm4 | hm4
      · omega
      · rw [hm4] at HL
        clear hbad hc hm0 hRL hm2 hm4
        go_enter Tryd.func17, Tryd.ntmps17
        go_wp2_with fail
        refine HL.out.mono ?_
        rintro e w1 ⟨rfl, hb1⟩
        go_wp2
        go_returns
        exact ⟨rfl, hb1⟩

/-- The bytes behind a first one that begins a character. -/
theorem next_good (s : ByteArray) (hm : s.size ≤ maxLen) (h0 : 0 < s.size) (m X0 lo0 hi0 : Nat) (R : Int × Nat × Int) (m1 : 1 ≤ m) (m4 : m ≤ 4) (hX : X0 ≤ 127) (hlo : lo0 ≤ 255) (hhi : hi0 ≤ 255)
    (h2 : m = 2 → 194 ≤ s[0].toNat) (h244 : s[0].toNat ≤ 244) (hR : ugo m (s.data.toList.drop 1) X0 lo0 hi0 1 = R)
    (HL : ∀ w, RL w → Calls Tryd.prog 41 #[.int .u8 s[0].toNat] w fun e w' => e = .returned (.tuple #[.int .i64 m, .int .i64 X0]) ∧ Below w.heap.size w w')
    (HS : ∀ w, Calls Tryd.prog 42 #[.int .u8 s[0].toNat] w fun e w' => e = .returned (.tuple #[.int .u8 lo0, .int .u8 hi0]) ∧ w = w')
    (w : World) (hRL : RL w) :
    Calls Tryd.prog 17 #[.string s] w fun e w' => nextEnd R e ∧ Below w.heap.size w w' := by
  have hl : s.data.toList.length = s.size := by simp
  have he := not_empty (s := s) (by omega)
  have hHL := Lib.hid (HL w hRL)
  have hHS := Lib.hid HS
  have hHR := Lib.hid hR
  unfold maxLen at hm
  have e0 : ((m : Int) == 0) = false := by simp; omega
  have e244 : (s[0].toNat : Int) ≤ 244 := by omega
  have em : (m : Int) ≤ 4 := by omega
  have em1 : (1 : Int) ≤ m := by omega
  clear HL HS hR hRL
  have hcase : (((m : Int) == 2) = true ∧ 194 ≤ (s[0].toNat : Int)) ∨ ((m : Int) == 2) = false := by
    by_cases hm2 : m = 2
    · exact .inl ⟨by simp [hm2], by have := h2 hm2; omega⟩
    · exact .inr (by simp; omega)
  clear h2 h244
  rcases hcase with ⟨e2, e194⟩ | e2
  all_goals
    go_enter Tryd.func17, Tryd.ntmps17
    go_wp2_with fail
    refine hHL.out.mono ?_
    rintro e w1 ⟨rfl, hb1⟩
    go_wp2_with fail
    go_at_call 42
    refine (hHS.out _).mono ?_
    rintro e w2 ⟨rfl, rfl⟩
    go_wp2_with fail
    clear e0 e2
    try clear e194
    go_loop [3, 6, 7, 8] (NextSt R s.data.toList m) (fun n _ _ _ => m - (intOf n).toNat)
    case atStart => exact ⟨1, X0, lo0, hi0, Nat.le_refl _, m1, by omega, hlo, hhi, .inl ⟨rfl, hX⟩, rfl, rfl, rfl, rfl, hHR.out⟩
    case round =>
      obtain ⟨k, X, lo, hi, hk1, hkm, hkl, hlo', hhi', hbd, rfl, rfl, rfl, rfl, hgo⟩ := hrel
      rw [hl] at hkl
      have HG := Lib.hid hgo
      clear hgo
      by_cases hlt : k < m
      · by_cases hend : k = s.size
        · have HR : Hid (R = (0, k, 18)) := by
            have h := HG.out
            rw [List.drop_of_length_le (by omega), ugo_nil, if_neg (by omega)] at h
            exact h.symm
          have hkk : ((k : Int) == (s.size : Int)) = true := by simp [hend]
          clear hend
          go_wp2
          go_returns
          exact ⟨by rw [HR.out]; rfl, hb1⟩
        · have hkk : ((k : Int) == (s.size : Int)) = false := by simp; omega
          have hks : k < s.size := by omega
          have hdrop : s.data.toList.drop k = s[k] :: s.data.toList.drop (k + 1) := by
            rw [List.drop_eq_getElem_cons (by omega), byte_at s k hks]
          have h := HG.out
          rw [hdrop, ugo_cons, if_neg (by omega)] at h
          have hc255 := s[k].toNat_lt
          have HH := Lib.hid h
          clear h hdrop hend
          by_cases hc1 : s[k].toNat < lo
          · have HR : Hid (R = (0, k, 17)) := by
              have h := HH.out
              rw [if_pos (.inl hc1)] at h
              exact h.symm
            go_wp2
            go_returns
            exact ⟨by rw [HR.out]; rfl, hb1⟩
          by_cases hc2 : hi < s[k].toNat
          · have HR : Hid (R = (0, k, 17)) := by
              have h := HH.out
              rw [if_pos (.inr hc2)] at h
              exact h.symm
            go_wp2
            go_returns
            exact ⟨by rw [HR.out]; rfl, hb1⟩
          · have HT : Hid (ugo m (s.data.toList.drop (k + 1)) (X * 64 + s[k].toNat % 64) 128 191 (k + 1) = R) := by
              have h := HH.out
              rw [if_neg (by omega)] at h
              exact h
            go_wp2
            go_round
            case rel => exact ⟨k + 1, X * 64 + s[k].toNat % 64, 128, 191, by omega, by omega, by omega, by omega, by omega, by omega, by go_num, by rw [or_six X s[k].toNat (by omega)], rfl, rfl, HT.out⟩
            case measure => simp [intOf]; omega
      · obtain rfl : k = m := by omega
        have HR : Hid (R = ((X : Int), k, 0)) := by
          have h := HG.out
          rw [ugo_end] at h
          exact h.symm
        go_wp2
        go_returns
        exact ⟨by rw [HR.out]; rfl, hb1⟩

theorem utfNext_any (s : ByteArray) (hm : s.size ≤ maxLen) (w : World) (hRL : RL w) :
    Calls Tryd.prog 17 #[.string s] w fun e w' => nextEnd (unext s.data.toList) e ∧ Below w.heap.size w w' := by
  by_cases h0 : s.size = 0
  · have hs : s = ⟨#[]⟩ := ba_zero h0
    subst hs
    clear h0 hm
    go_enter Tryd.func17, Tryd.ntmps17
    go_wp2
    go_returns
    exact ⟨rfl, Below.refl _ _⟩
  · have h1 : 0 < s.size := by omega
    have hb := s[0].toNat_lt
    cases hbad : uBadB s[0].toNat
    · have hm' := uBad_many (b := s[0].toNat) (by rw [hbad]; decide)
      have hc := uMany_cases s[0].toNat
      have hf : uFrom s[0].toNat ≤ 255 := by unfold uFrom; split <;> (try split) <;> omega
      have ht := uTo_le s[0].toNat
      refine next_good s hm h1 (uMany s[0].toNat) (uLow s[0].toNat) (uFrom s[0].toNat) (uTo s[0].toNat) (unext s.data.toList) hm'.1 hm'.2.1 (by omega) hf (by omega) hm'.2.2.2 hm'.2.2.1 ?_ (fun w h => lead_any _ hb w h) (fun w => second_any _ w) w hRL
      conv => rhs; rw [is_cons h1]
      exact (unext_cons rfl hbad).symm
    · have he : unext s.data.toList = (0, 1, 17) := by rw [is_cons h1, unext, if_pos hbad]
      rw [he]
      exact next_bad s h1 hbad w hRL
end Go.Proofs.YtlfhmkjomogkiaaDoor.Utf
