/- The statement WideKinds: its walk. -/
import Derived.Test.YtlfhmkjomogkiaaWm
import Derived.Test.YtlfhmkjomogkiaaWo
import Derived.Test.YtlfhmkjomogkiaaLe
namespace Go.Proofs.Ytlfhmkjomogkiaa
open Go.RowKit Pl

theorem kinds_dec (z : Nat) (h2 : z = 2 ∨ z = 4) (t : List UInt8) (hz : t.length % z = 0) : dec (wnext z true) 2 (turnJ z t (t.length / z)) = dec (wnext z false) 2 t := by
  obtain ⟨us, h1, hu, h3⟩ := units_of z (t.length / z) t (by have := Nat.div_add_mod t.length z; rw [hz, Nat.mul_comm] at this; omega)
  have h4 : turnJ z t (t.length / z) = us.flatMap (unitB z true) := by
    rw [← h1]
    conv => lhs; rw [h3]
    exact turnJ_all z us
  rw [h4, dec_units z 2 h2 us hu, ← h3]
theorem turn_flat (z : Nat) (h0 : 0 < z) (us : List Nat) : turnJ z (us.flatMap (unitB z false)) ((us.flatMap (unitB z false)).length / z) = us.flatMap (unitB z true) := by
  rw [units_length, Nat.mul_div_cancel _ h0, turnJ_all]
theorem kinds_enc (z : Nat) (h2 : z = 2 ∨ z = 4) (l : List Int) (hl : l.length ≤ 200) : ∃ t u e, wenc z false l = (t, e) ∧ wenc z true l = (u, e) ∧ turnJ z t (t.length / z) = u ∧ t.length ≤ 1600 := by
  unfold wenc
  by_cases h : l.all scal = true
  · rw [if_pos h, if_pos h]
    refine ⟨_, _, 0, rfl, rfl, ?_, ?_⟩
    · rw [flat_wchar, flat_wchar]; exact turn_flat z (by omega) _
    · have := flat_wchar_length_le z false l (by omega); omega
  · rw [if_neg h, if_neg h]
    exact ⟨_, _, 11, rfl, rfl, by simp [turnJ], by simp⟩

set_option maxRecDepth 100000 in
set_option maxHeartbeats 6400000 in
theorem wideKinds_law (s : ByteArray) (A : Option Addr) (len cap : Nat) (l : List Int) (w : World) (hs : s.size ≤ maxLen) (hR : Rd w A len (i32s l)) (_hl : ∀ r ∈ l, -2147483648 ≤ r ∧ r ≤ 2147483647) :
    Calls Try.prog 7 #[.string s, .slice A len cap] w fun e w' => e = .returned (.bool true) ∧ Below w.heap.size w w' := by
  have HA := Lib.hid awake_any
  unfold maxLen at hs
  obtain rfl := hR.i32_len
  by_cases hpre : s.size ≤ 400 ∧ s.size % 4 = 0 ∧ l.length ≤ 200
  · obtain ⟨h400, hm4, h200⟩ := hpre
    have g1 : decide ((400 : Int) < s.size) = false := by simp; omega
    have g2 : ((s.size : Int).tmod 4 != 0) = false := by
      rw [Int.tmod_eq_emod_of_nonneg (by omega)]; simp; omega
    have g3 : decide ((200 : Int) < l.length) = false := by simp; omega
    have HR := Lib.hid hR
    clear hR
    go_enter Try.func7, Try.ntmps7
    go_wp2
    go_loopw [5] (fun i wr => ∃ j : Nat, j ≤ 2 ∧ i = .int .i64 j ∧ Below w.heap.size w wr) (fun i _ => 2 - (intOf i).toNat)
    case atStart => exact ⟨0, by omega, rfl, Below.refl _ _⟩
    case round =>
      obtain ⟨j, hj, rfl, hb⟩ := hrel
      by_cases hlt : j < 2
      · obtain ⟨z, kl, kb, e1, e2, e3, hz, z1, z2, b1, b2, hk1, hk2, hsz⟩ : ∃ (z : Nat) (kl kb : Int), (z : Int) = 2 + 2 * (j : Int) ∧ kl = 1 + 2 * (j : Int) ∧ kb = 2 + 2 * (j : Int) ∧ (z = 2 ∨ z = 4) ∧ wsize kl = z ∧ wsize kb = z ∧ bigOf kl = false ∧ bigOf kb = true ∧
            (1 ≤ kl ∧ kl ≤ 4) ∧ (1 ≤ kb ∧ kb ≤ 4) ∧ s.size % z = 0 := by
          rcases (show j = 0 ∨ j = 1 from by omega) with rfl | rfl
          · exact ⟨2, 1, 2, by decide, by decide, by decide, .inl rfl, by decide, by decide, by decide, by decide, by decide, by decide, by omega⟩
          · exact ⟨4, 3, 4, by decide, by decide, by decide, .inr rfl, by decide, by decide, by decide, by decide, by decide, by decide, by omega⟩
        have HT := Lib.hid (fun w => turn_any s z (by omega) (by omega) (by omega) w)
        have hd := kinds_dec z hz s.data.toList (by simpa using hsz)
        obtain ⟨D, x, hD1⟩ : ∃ D x, dec (wnext z false) 2 s.data.toList = (D, x, 0) := by obtain ⟨D, _, x, hD1, _⟩ := (wide_codec z false hz).replace_skip s.data.toList; exact ⟨D, x, hD1⟩
        have hlen := turnJ_length z s.data.toList (s.size / z) (by simpa using Nat.div_mul_le_self s.size z)
        have hlen2 := Nat.div_mul_le_self s.size z
        have hDl : D.length ≤ 400 ∧ x.length ≤ 400 := by
          have := dec_len (wnext z false) 2 (fun t h => (wnext_pos _ _ t h hz).1) s.data.toList
          rw [hD1] at this; simp at this; omega
        rw [show s.data.toList.length = s.size from by simp, hD1] at hd
        obtain ⟨U, hU⟩ : ∃ U, turnJ z s.data.toList (s.size / z) = U := ⟨_, rfl⟩
        rw [hU] at hd hlen HT
        have HD1 := Lib.hid (fun T w => dec1 kl 2 s T (by omega) w)
        have HD2 := Lib.hid (fun T w => dec1 kb 2 ⟨U.toArray⟩ T (by rw [ba_size]; omega) w)
        rw [kdec_of kl 2 _ hk1 (by decide), z1, b1, hD1] at HD1
        rw [kdec_of kb 2 _ hk2 (by decide), z2, b2, show (⟨U.toArray⟩ : ByteArray).data.toList = U from by simp, hd] at HD2
        obtain ⟨t, u, e, k1, k2, k3, k4⟩ := kinds_enc z hz l h200
        have HE1 := Lib.hid (fun w h => encode_any kl A l.length cap l (by omega) w h)
        have HE2 := Lib.hid (fun w h => encode_any kb A l.length cap l (by omega) w h)
        rw [show kenc kl l = (t, e) from by unfold kenc; rw [if_pos hk1, z1, b1, k1]] at HE1
        rw [show kenc kb l = (u, e) from by unfold kenc; rw [if_pos hk2, z2, b2, k2]] at HE2
        have HT2 := Lib.hid (fun w => turn_any ⟨t.toArray⟩ z (by omega) (by omega) (by rw [ba_size]; omega) w)
        rw [ba_size, show (⟨t.toArray⟩ : ByteArray).data.toList = t from by simp, k3] at HT2
        rw [e1] at HT HT2
        rw [e2] at HD1 HE1
        rw [e3] at HD2 HE2
        have HB := Lib.hid hb
        clear e1 e2 e3 hz z1 z2 b1 b2 hk1 hk2 hsz hd hD1 hlen hlen2 hU k1 k2 k3 k4 hb
        go_wp2_with fail
        go_at_call 25
        refine (HT.out _).mono ?_
        rintro e' w1 ⟨rfl, b1⟩
        go_wp2_with fail
        go_at_call 21
        refine (HD1.out _ _).mono ?_
        rintro e' w2 hd1
        obtain ⟨A1, c1, A2, c2, rfl, r1, q1, b2⟩ := hd1.rd.since
        clear hd1
        go_wp2_with fail
        go_at_call 21
        refine (HD2.out _ _).mono ?_
        rintro e' w3 hd1
        obtain ⟨A3, c3, A4, c4, rfl, r3, q3, b3⟩ := hd1.rd.since
        clear hd1
        have hb3 : Below w.heap.size w w3 := by
          have a1 := HB.out.trans (b1.mono HB.out.size)
          have a2 := a1.trans (b2.mono a1.size)
          exact a2.trans (b3.mono a2.size)
        have HQ1 := Lib.hid (runes_any A1 _ c1 D A3 _ c3 D w3 (r1.keep b3) r3 (by omega))
        rw [decide_eq_true rfl] at HQ1
        have q1' := q1.keep b3
        have HB3 := Lib.hid hb3
        clear r1 r3 q1 b1 b2 b3 hb3
        go_wp2_with fail
        go_at_call 23
        refine HQ1.out.mono ?_
        rintro e' w4 ⟨rfl, hd4⟩
        have b4 := hd4.below w3.heap.size
        have HQ2 := Lib.hid (faults_any A2 _ c2 x A4 _ c4 x w4 (q1'.keep b4) (q3.keep b4) (by omega))
        rw [decide_eq_true rfl] at HQ2
        go_wp2_with fail
        go_at_call 24
        refine HQ2.out.mono ?_
        rintro e' w5 ⟨rfl, hd5⟩
        have b5 := hd5.below w4.heap.size
        have hb5 : Below w.heap.size w w5 := by
          have a1 := HB3.out.trans (b4.mono HB3.out.size)
          exact a1.trans (b5.mono a1.size)
        have HB5 := Lib.hid hb5
        clear hd4 hd5 b4 b5 hb5 q1' q3 HQ1 HQ2
        go_wp2_with fail
        go_at_call 15
        refine (HE1.out _ (HR.out.keep HB5.out)).mono ?_
        rintro e' w6 ⟨he, b6⟩
        rw [encEnd] at he
        subst he
        have HB6 := Lib.hid (HB5.out.trans (b6.mono HB5.out.size))
        clear b6
        go_wp2_with fail
        go_at_call 15
        refine (HE2.out _ (HR.out.keep HB6.out)).mono ?_
        rintro e' w7 ⟨he, b7⟩
        rw [encEnd] at he
        subst he
        have HB7 := Lib.hid (HB6.out.trans (b7.mono HB6.out.size))
        clear b7
        go_wp2_with fail
        go_at_call 25
        refine (HT2.out _).mono ?_
        rintro e' w8 ⟨rfl, b8⟩
        have HB8 := Lib.hid (HB7.out.trans (b8.mono HB7.out.size))
        clear b8
        go_wp2
        go_roundw
        case rel => exact ⟨j + 1, by omega, by go_num, HB8.out⟩
        case measure => simp [intOf]; omega
      · obtain rfl : j = 2 := by omega
        have HB := Lib.hid hb
        clear hb
        go_wp2_with (go_at_call 11; refine (HA.out _).mono ?_; rintro e w9 ⟨rfl, hb9⟩)
        go_returns
        exact ⟨rfl, HB.out.trans (hb9.mono HB.out.size)⟩
  · have hcase : 400 < s.size ∨ (s.size ≤ 400 ∧ (s.size % 4 ≠ 0 ∨ (s.size % 4 = 0 ∧ 200 < l.length))) := by omega
    clear hpre hR
    rcases hcase with h | ⟨h1, h | ⟨h2, h⟩⟩
    all_goals
      try have g1 : decide ((400 : Int) < s.size) = false := by simp; omega
      try have g2 : ((s.size : Int).tmod 4 != 0) = false := by (rw [Int.tmod_eq_emod_of_nonneg (by omega)]; simp; omega)
      try have g2 : ((s.size : Int).tmod 4 != 0) = true := by (rw [Int.tmod_eq_emod_of_nonneg (by omega)]; simp; omega)
      try have g3 : (400 : Int) < s.size := by omega
      try have g4 : (200 : Int) < l.length := by omega
      go_enter Try.func7, Try.ntmps7
      go_wp2_with (go_at_call 11; refine (HA.out _).mono ?_; rintro e w9 ⟨rfl, hb9⟩)
      go_returns
      exact ⟨rfl, hb9⟩
end Go.Proofs.Ytlfhmkjomogkiaa
