/- The statement UtfBack: its walk. Written by mkULk.py. -/
import Derived.Test.YtlfhmkjomogkiaaDoorULd
import Derived.Test.YtlfhmkjomogkiaaDoorU6
namespace Go.Proofs.YtlfhmkjomogkiaaDoor.Utf
open Go.RowKit Pl

theorem ba_take (s : ByteArray) (u : List UInt8) (h : u = s.data.toList.take u.length) : (u == (s.extract 0 u.length).toList) = true := by
  rw [ByteArray.toList_eq]
  simp only [beq_iff_eq]
  rw [show (s.extract 0 u.length).data.toList = s.data.toList.take u.length from by simp [ByteArray.data_extract]]
  exact h
theorem uenc_of (l : List Int) (hl : l.all scal = true) : uenc l = (l.flatMap uch, 0) := by
  unfold uenc; rw [if_pos hl]

set_option maxRecDepth 100000 in
set_option maxHeartbeats 6400000 in
theorem utfBack_law (A : Option Addr) (len cap : Nat) (l : List Int) (s : ByteArray) (w : World) (hR : Rd w A len (i32s l)) (_hl : ∀ r ∈ l, -2147483648 ≤ r ∧ r ≤ 2147483647) (hm : s.size ≤ maxLen) (hRL : RL w) :
    Calls Tryd.prog 9 #[.slice A len cap, .string s] w fun e w' => e = .returned (.bool true) ∧ Below w.heap.size w w' := by
  have HA := Lib.hid awake_any
  have HRL := Lib.hid hRL
  unfold maxLen at hm
  obtain rfl := hR.i32_len
  by_cases hpre : l.length ≤ 200 ∧ s.size ≤ 400
  · obtain ⟨h200, h400⟩ := hpre
    have g3 : decide ((200 : Int) < l.length) = false := by simp; omega
    have g4 : decide ((400 : Int) < s.size) = false := by simp; omega
    obtain ⟨m, hms, hcase⟩ := utf_strict s.data.toList
    have hml : m.length ≤ 400 := by
      have := (dec_len unext 1 (fun t h => (unext_pos t h).1) s.data.toList).1
      rcases hcase with ⟨h, _⟩ | ⟨n, _, _, _, h, _⟩ <;> rw [h] at this <;> simp at this <;> omega
    have HE2 := Lib.hid (fun A' c' (w : World) hr h => encode_any A' m.length c' m (by omega) w hr h)
    rw [uenc_of m hms] at HE2
    have HD2 := Lib.hid (fun T w h => udec1 1 s T (by omega) w h)
    rw [udec_of 1 _ (by decide)] at HD2
    obtain ⟨u, hu⟩ : ∃ u, m.flatMap uch = u := ⟨_, rfl⟩
    rw [hu] at HE2 hcase
    rw [show s.data.toList.length = s.size from by simp] at hcase
    have HR := Lib.hid hR
    clear hu hms
    have HE := Lib.hid (encode_any A l.length cap l (by omega) w hRL hR)
    clear hR hRL
    by_cases hall : l.all scal = true
    · rw [uenc_of l hall] at HE
      have hv1 := ucut_enc l hall
      have hv2 := flat_uch_le l
      have hv3 := utf_codec.dec_all 1 l hall
      obtain ⟨v, hv⟩ : ∃ v, l.flatMap uch = v := ⟨_, rfl⟩
      rw [hv] at hv1 hv2 hv3 HE
      have hvd : (⟨v.toArray⟩ : ByteArray).data.toList = v := by simp
      have HD1 := Lib.hid (fun T w h => udec1 1 ⟨v.toArray⟩ T (by rw [ba_size]; omega) w h)
      rw [udec_of 1 _ (by decide), hvd, hv3] at HD1
      have HV := Lib.hid (fun w h => valid_any ⟨v.toArray⟩ (by rw [ba_size]; omega) w h)
      rw [udec_of 1 _ (by decide), hvd, hv3] at HV
      have HC := Lib.hid (fun w h => cut_any ⟨v.toArray⟩ (by rw [ba_size]; omega) w h)
      rw [hvd, hv1] at HC
      clear hv hv1 hv3 hall hvd
      rcases hcase with ⟨h1, rfl⟩ | ⟨n, n1, n3, n2, h1, h2⟩
      · rw [h1] at HD2
        clear h1
        have e7 : ((⟨s.data.toList.toArray⟩ : ByteArray).toList == s.toList) = true := by simp
        go_enter Tryd.func9, Tryd.ntmps9
        go_wp2_with fail
        go_at_call 19
        refine HE.out.mono ?_
        rintro e w1 ⟨he, b1⟩
        rw [encEnd] at he
        subst he
        have HB1 := Lib.hid b1
        clear b1
        go_wp2_with fail
        go_at_call 23
        refine (HD1.out _ _ (HRL.out.since HB1.out)).mono ?_
        rintro e w2 hd1
        obtain ⟨A1, c1, A2, c2, rfl, r1, _, b2⟩ := hd1.rd.since
        have HB2 := Lib.hid (HB1.out.trans (b2.mono HB1.out.size))
        have HQ1 := Lib.hid (runes_any A1 _ c1 l A _ cap l w2 r1 (HR.out.keep HB2.out) (by show l.length ≤ 1000000000; omega))
        rw [decide_eq_true rfl] at HQ1
        clear hd1 r1 b2
        have e5 : ((v.length : Int) != (⟨v.toArray⟩ : ByteArray).size) = false := by rw [ba_size]; simp
        have e6 : ((v.length : Int) != (v.length : Int)) = false := by simp
        go_wp2_with fail
        go_at_call 24
        refine HQ1.out.mono ?_
        rintro e w4 ⟨rfl, hd4⟩
        have b4 := hd4.below w2.heap.size
        have HB4 := Lib.hid (HB2.out.trans (b4.mono HB2.out.size))
        clear hd4 b4 HQ1
        go_wp2_with fail
        go_at_call 27
        refine (HV.out _ (HRL.out.since HB4.out)).mono ?_
        rintro e w5 ⟨rfl, b5⟩
        have HB5 := Lib.hid (HB4.out.trans (b5.mono HB4.out.size))
        clear b5
        go_wp2_with fail
        go_at_call 28
        refine (HC.out _ (HRL.out.since HB5.out)).mono ?_
        rintro e w6 ⟨rfl, b6⟩
        have HB := Lib.hid (HB5.out.trans (b6.mono HB5.out.size))
        clear b6
        go_wp2_with fail
        go_at_call 23
        refine (HD2.out _ _ (HRL.out.since HB.out)).mono ?_
        rintro e w7 hd1
        obtain ⟨A3, c3, A4, c4, rfl, r3, q3, b7⟩ := hd1.rd.since
        have HB7 := Lib.hid (HB.out.trans (b7.mono HB.out.size))
        clear hd1 b7
        go_wp2_with fail
        go_at_call 19
        refine (HE2.out _ _ _ (HRL.out.since HB7.out) r3).mono ?_
        rintro e w8 ⟨he, b8⟩
        rw [encEnd] at he
        subst he
        have HB8 := Lib.hid (HB7.out.trans (b8.mono HB7.out.size))
        have q6 := q3.keep b8
        clear r3 q3 b8
        clear q6
        go_wp2_with (go_at_call 16; refine (HA.out _ (HRL.out.since HB8.out)).mono ?_; rintro e w9 ⟨rfl, hb9⟩)
        go_returns
        exact ⟨rfl, HB8.out.trans (hb9.mono HB8.out.size)⟩
      · rw [h1] at HD2
        have e7 := ba_take s u h2
        clear h1 h2
        go_enter Tryd.func9, Tryd.ntmps9
        go_wp2_with fail
        go_at_call 19
        refine HE.out.mono ?_
        rintro e w1 ⟨he, b1⟩
        rw [encEnd] at he
        subst he
        have HB1 := Lib.hid b1
        clear b1
        go_wp2_with fail
        go_at_call 23
        refine (HD1.out _ _ (HRL.out.since HB1.out)).mono ?_
        rintro e w2 hd1
        obtain ⟨A1, c1, A2, c2, rfl, r1, _, b2⟩ := hd1.rd.since
        have HB2 := Lib.hid (HB1.out.trans (b2.mono HB1.out.size))
        have HQ1 := Lib.hid (runes_any A1 _ c1 l A _ cap l w2 r1 (HR.out.keep HB2.out) (by show l.length ≤ 1000000000; omega))
        rw [decide_eq_true rfl] at HQ1
        clear hd1 r1 b2
        have e5 : ((v.length : Int) != (⟨v.toArray⟩ : ByteArray).size) = false := by rw [ba_size]; simp
        have e6 : ((v.length : Int) != (v.length : Int)) = false := by simp
        go_wp2_with fail
        go_at_call 24
        refine HQ1.out.mono ?_
        rintro e w4 ⟨rfl, hd4⟩
        have b4 := hd4.below w2.heap.size
        have HB4 := Lib.hid (HB2.out.trans (b4.mono HB2.out.size))
        clear hd4 b4 HQ1
        go_wp2_with fail
        go_at_call 27
        refine (HV.out _ (HRL.out.since HB4.out)).mono ?_
        rintro e w5 ⟨rfl, b5⟩
        have HB5 := Lib.hid (HB4.out.trans (b5.mono HB4.out.size))
        clear b5
        go_wp2_with fail
        go_at_call 28
        refine (HC.out _ (HRL.out.since HB5.out)).mono ?_
        rintro e w6 ⟨rfl, b6⟩
        have HB := Lib.hid (HB5.out.trans (b6.mono HB5.out.size))
        clear b6
        go_wp2_with fail
        go_at_call 23
        refine (HD2.out _ _ (HRL.out.since HB.out)).mono ?_
        rintro e w7 hd1
        obtain ⟨A3, c3, A4, c4, rfl, r3, q3, b7⟩ := hd1.rd.since
        have HB7 := Lib.hid (HB.out.trans (b7.mono HB.out.size))
        clear hd1 b7
        go_wp2_with fail
        go_at_call 19
        refine (HE2.out _ _ _ (HRL.out.since HB7.out) r3).mono ?_
        rintro e w8 ⟨he, b8⟩
        rw [encEnd] at he
        subst he
        have HB8 := Lib.hid (HB7.out.trans (b8.mono HB7.out.size))
        have q6 := q3.keep b8
        clear r3 q3 b8
        obtain ⟨b, o, rfl, hb, hc0, hc1⟩ := q6.at_ (k := 0) (by simp)
        have hc0 : w8.cell? ⟨b, o, none⟩ = some (.int .i64 (u.length : Int)) := hc0
        have hc1 : w8.cell? ⟨b, o + 1, none⟩ = some (.int .i64 (n : Int)) := hc1
        have j1 : (1 : Int) ≤ (n : Int) := by omega
        have j5 : (n : Int) ≤ 3 := by omega
        have j2 : (u.length : Int) + (n : Int) ≤ (s.size : Int) := by omega
        have j3 : (0 : Int) ≤ (u.length : Int) := by omega
        have j4 : (u.length : Int) ≤ (s.size : Int) := by omega
        have hw1 : IntKind.i64.wrap ((u.length : Int) + (n : Int)) = (u.length : Int) + (n : Int) := IntWalk.i64_in _ (by omega)
        clear hb q6
        go_wp2
        go_still_tail 53, (by kernel_rfl)
        clear hw1 hc0 hc1
        change wpList _ _ _ _ _ w8.drew
        have HB9 : Hid (Below w.heap.size w w8.drew) := Lib.hid HB8.out.drew
        go_wp2_with (go_at_call 16; refine (HA.out _ (HRL.out.since HB9.out)).mono ?_; rintro e w9 ⟨rfl, hb9⟩)
        go_returns
        exact ⟨rfl, HB9.out.trans (hb9.mono HB9.out.size)⟩
    · have HE' : Hid (Calls Tryd.prog 19 #[.slice A l.length cap] w fun e w' => encEnd ([], 11) e ∧ Below w.heap.size w w') := by
        have h := HE.out
        rwa [show uenc l = ([], 11) from by unfold uenc; rw [if_neg hall]] at h
      clear HE hall
      rcases hcase with ⟨h1, rfl⟩ | ⟨n, n1, n3, n2, h1, h2⟩
      · rw [h1] at HD2
        clear h1
        have e7 : ((⟨s.data.toList.toArray⟩ : ByteArray).toList == s.toList) = true := by simp
        go_enter Tryd.func9, Tryd.ntmps9
        go_wp2_with fail
        go_at_call 19
        refine HE'.out.mono ?_
        rintro e w6 ⟨he, b1⟩
        rw [encEnd] at he
        subst he
        have HB := Lib.hid b1
        clear b1
        go_wp2_with fail
        go_at_call 23
        refine (HD2.out _ _ (HRL.out.since HB.out)).mono ?_
        rintro e w7 hd1
        obtain ⟨A3, c3, A4, c4, rfl, r3, q3, b7⟩ := hd1.rd.since
        have HB7 := Lib.hid (HB.out.trans (b7.mono HB.out.size))
        clear hd1 b7
        go_wp2_with fail
        go_at_call 19
        refine (HE2.out _ _ _ (HRL.out.since HB7.out) r3).mono ?_
        rintro e w8 ⟨he, b8⟩
        rw [encEnd] at he
        subst he
        have HB8 := Lib.hid (HB7.out.trans (b8.mono HB7.out.size))
        have q6 := q3.keep b8
        clear r3 q3 b8
        clear q6
        go_wp2_with (go_at_call 16; refine (HA.out _ (HRL.out.since HB8.out)).mono ?_; rintro e w9 ⟨rfl, hb9⟩)
        go_returns
        exact ⟨rfl, HB8.out.trans (hb9.mono HB8.out.size)⟩
      · rw [h1] at HD2
        have e7 := ba_take s u h2
        clear h1 h2
        go_enter Tryd.func9, Tryd.ntmps9
        go_wp2_with fail
        go_at_call 19
        refine HE'.out.mono ?_
        rintro e w6 ⟨he, b1⟩
        rw [encEnd] at he
        subst he
        have HB := Lib.hid b1
        clear b1
        go_wp2_with fail
        go_at_call 23
        refine (HD2.out _ _ (HRL.out.since HB.out)).mono ?_
        rintro e w7 hd1
        obtain ⟨A3, c3, A4, c4, rfl, r3, q3, b7⟩ := hd1.rd.since
        have HB7 := Lib.hid (HB.out.trans (b7.mono HB.out.size))
        clear hd1 b7
        go_wp2_with fail
        go_at_call 19
        refine (HE2.out _ _ _ (HRL.out.since HB7.out) r3).mono ?_
        rintro e w8 ⟨he, b8⟩
        rw [encEnd] at he
        subst he
        have HB8 := Lib.hid (HB7.out.trans (b8.mono HB7.out.size))
        have q6 := q3.keep b8
        clear r3 q3 b8
        obtain ⟨b, o, rfl, hb, hc0, hc1⟩ := q6.at_ (k := 0) (by simp)
        have hc0 : w8.cell? ⟨b, o, none⟩ = some (.int .i64 (u.length : Int)) := hc0
        have hc1 : w8.cell? ⟨b, o + 1, none⟩ = some (.int .i64 (n : Int)) := hc1
        have j1 : (1 : Int) ≤ (n : Int) := by omega
        have j5 : (n : Int) ≤ 3 := by omega
        have j2 : (u.length : Int) + (n : Int) ≤ (s.size : Int) := by omega
        have j3 : (0 : Int) ≤ (u.length : Int) := by omega
        have j4 : (u.length : Int) ≤ (s.size : Int) := by omega
        have hw1 : IntKind.i64.wrap ((u.length : Int) + (n : Int)) = (u.length : Int) + (n : Int) := IntWalk.i64_in _ (by omega)
        clear hb q6
        go_wp2
        go_still_tail 53, (by kernel_rfl)
        clear hw1 hc0 hc1
        change wpList _ _ _ _ _ w8.drew
        have HB9 : Hid (Below w.heap.size w w8.drew) := Lib.hid HB8.out.drew
        go_wp2_with (go_at_call 16; refine (HA.out _ (HRL.out.since HB9.out)).mono ?_; rintro e w9 ⟨rfl, hb9⟩)
        go_returns
        exact ⟨rfl, HB9.out.trans (hb9.mono HB9.out.size)⟩
  · have hcase : 200 < l.length ∨ (l.length ≤ 200 ∧ (400 < s.size)) := by omega
    clear hpre hR hRL
    rcases hcase with h | ⟨h3, h⟩
    all_goals
      try have g3 : decide ((200 : Int) < l.length) = false := by simp; omega
      try have g4 : (200 : Int) < l.length := by omega
      try have g5 : (400 : Int) < s.size := by omega
      go_enter Tryd.func9, Tryd.ntmps9
      go_wp2_with (go_at_call 16; refine (HA.out _ HRL.out).mono ?_; rintro e w9 ⟨rfl, hb9⟩)
      go_returns
      exact ⟨rfl, hb9⟩
end Go.Proofs.YtlfhmkjomogkiaaDoor.Utf
