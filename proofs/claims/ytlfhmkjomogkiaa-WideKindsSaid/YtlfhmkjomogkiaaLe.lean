/- The statement WideParts: its walk. -/
import Derived.Test.YtlfhmkjomogkiaaWm
import Derived.Test.YtlfhmkjomogkiaaLa
import Derived.Test.YtlfhmkjomogkiaaLb
import Derived.Deep.RegionHeld3
namespace Go.Proofs.Ytlfhmkjomogkiaa
open Go.RowKit Pl

theorem kdec_of (k pol : Int) (t : List UInt8) (hk : 1 ≤ k ∧ k ≤ 4) (hp : 1 ≤ pol ∧ pol ≤ 3) : kdec k pol t = dec (wnext (wsize k) (bigOf k)) pol t := if_pos ⟨hk, hp⟩
theorem kenc_of (k : Int) (l : List Int) (hk : 1 ≤ k ∧ k ≤ 4) (hl : l.all scal = true) : kenc k l = (l.flatMap (wchar (wsize k) (bigOf k)), 0) := by
  unfold kenc wenc; rw [if_pos hk, if_pos hl]
theorem lens_take (l : List (Nat × Nat)) (j : Nat) (h : j < l.length) : lens (l.take (j + 1)) = lens (l.take j) + l[j].2 := by
  rw [List.take_succ_eq_append_getElem h, lens_append]; simp [lens]
theorem lens_take_le (l : List (Nat × Nat)) (j : Nat) : lens (l.take j) ≤ lens l := by
  have h := lens_append (l.take j) (l.drop j)
  rw [List.take_append_drop] at h; omega

set_option maxHeartbeats 3200000 in
theorem wideParts_law (k : Int) (s : ByteArray) (p : Int) (w : World) (hm : s.size ≤ maxLen) :
    Calls Try.prog 8 #[.int .i64 k, .string s, .int .i64 p] w fun e w' => e = .returned (.bool true) ∧ Below w.heap.size w w' := by
  have HA := Lib.hid awake_any
  unfold maxLen at hm
  by_cases hpre : (1 ≤ k ∧ k ≤ 4) ∧ s.size ≤ 400 ∧ 0 ≤ p ∧ p ≤ s.size
  · obtain ⟨hk, h400, hp0, hps⟩ := hpre
    obtain ⟨a, rfl⟩ := Int.eq_ofNat_of_zero_le hp0
    have ha : a ≤ s.size := by omega
    obtain ⟨A, c, x, h1, h2, h3, h4, h5⟩ := (wide_codec (wsize k) (bigOf k) (wsize_cases k)).replace_skip s.data.toList
    have HD1 := Lib.hid (fun T w => dec1 k 2 s T (by omega) w)
    have HD2 := Lib.hid (fun T w => dec_parted k 2 s a T (by omega) w)
    have HD3 := Lib.hid (fun T w => dec1 k 3 s T (by omega) w)
    rw [kdec_of k 2 _ hk (by decide), h1] at HD1 HD2
    rw [kdec_of k 3 _ hk (by decide), h2] at HD3
    have hlA : A.length ≤ 400 := by
      have := (dec_len (wnext (wsize k) (bigOf k)) 2 (fun t h => (wnext_pos _ _ t h (wsize_cases k)).1) s.data.toList).1
      rw [h1] at this; simp at this; omega
    have HE := Lib.hid (fun A' c' (w : World) h => encode_any k A' c.length c' c (by omega) w h)
    rw [kenc_of k c hk h3] at HE
    obtain ⟨u, hu⟩ : ∃ u, c.flatMap (wchar (wsize k) (bigOf k)) = u := ⟨_, rfl⟩
    rw [hu] at HE h5
    rw [show s.data.toList.length = s.size from by simp] at h5
    clear h1 h2 h3 hu
    have HX := Lib.hid h5
    have hx2 : x.length ≤ 400 := by omega
    have hul : u.length ≤ 400 := by omega
    have g1 : decide (k < 1) = false := by simp; omega
    have g2 : decide (4 < k) = false := by simp; omega
    have g3 : decide ((400 : Int) < s.size) = false := by simp; omega
    have g4 : decide ((a : Int) < 0) = false := by simp
    have g5 : decide ((s.size : Int) < a) = false := by simp; omega
    have j0 : (0 : Int) ≤ (a : Int) := by omega
    have j2 : (a : Int) ≤ (s.size : Int) := by omega
    have hw : wrap64 ((c.length : Int) + (x.length : Int)) = (A.length : Int) := by unfold wrap64; omega
    have e4 : ((A.length : Int) != wrap64 ((c.length : Int) + (x.length : Int))) = false := by rw [hw]; simp
    clear h5 hk hps hp0 h4 hw
    go_enter Try.func8, Try.ntmps8
    go_wp2_with fail
    go_at_call 21
    refine (HD1.out _ _).mono ?_
    rintro e w1 hd1
    obtain ⟨A1, c1, A2, c2, rfl, r1, q1, b1⟩ := hd1.rd.since
    clear hd1
    go_wp2_with fail
    go_region_held3 (fun _ => True) (trivial) (first | (go_at_call 21; refine (HD2.out _ _).mono ?_; rintro e w2 hd2; obtain ⟨A3, c3, A4, c4, rfl, r3, q3, b2⟩ := hd2.rd.since_drew; clear hd2))
    go_wp2_with fail
    go_at_call 21
    refine (HD3.out _ _).mono ?_
    rintro e w3 hd3
    obtain ⟨A5, c5, A6, c6, rfl, r5, q5, b3⟩ := hd3.rd.since
    clear hd3
    go_wp2_with fail
    go_at_call 15
    refine (HE.out _ _ _ r5).mono ?_
    rintro e w4 ⟨he, b4⟩
    rw [encEnd] at he
    subst he
    have r1' := ((r1.keep b2).keep b3).keep b4
    have r3' := (r3.keep b3).keep b4
    have q1' := ((q1.keep b2).keep b3).keep b4
    have q3' := (q3.keep b3).keep b4
    have q5' := q5.keep b4
    have hbA : Below w.heap.size w w4 := b1.trans (((b2.trans (b3.mono b2.size)).trans (b4.mono (b2.trans (b3.mono b2.size)).size)).mono b1.size)
    have HB := Lib.hid hbA
    have HQ1 := Lib.hid (runes_any A1 _ c1 A A3 _ c3 A w4 r1' r3' (by omega))
    rw [decide_eq_true rfl] at HQ1
    clear r1 r3 r5 q1 q3 q5 b1 b2 b3 b4 r1' r3' hbA HD1 HD2 HD3 HE
    go_wp2_with fail
    go_at_call 23
    refine HQ1.out.mono ?_
    rintro e w5 ⟨rfl, hd5⟩
    have b5 := hd5.below w4.heap.size
    have HQ2 := Lib.hid (faults_any A2 _ c2 x A4 _ c4 x w5 (q1'.keep b5) (q3'.keep b5) (by omega))
    rw [decide_eq_true rfl] at HQ2
    go_wp2_with fail
    go_at_call 24
    refine HQ2.out.mono ?_
    rintro e w6 ⟨rfl, hd6⟩
    have b6 := hd6.below w5.heap.size
    have HQ3 := Lib.hid (faults_any A2 _ c2 x A6 _ c6 x w6 ((q1'.keep b5).keep b6) ((q5'.keep b5).keep b6) (by omega))
    rw [decide_eq_true rfl] at HQ3
    have q1 := (q1'.keep b5).keep b6
    go_wp2_with fail
    go_at_call 24
    refine HQ3.out.mono ?_
    rintro e w7 ⟨rfl, hd7⟩
    have b7 := hd7.below w6.heap.size
    have q1 := q1.keep b7
    have hb : Below w.heap.size w w7 := by
      have hb4 := HB.out
      have hb5 := hb4.trans (b5.mono hb4.size)
      have hb6 := hb5.trans (b6.mono hb5.size)
      exact hb6.trans (b7.mono hb6.size)
    have HB7 := Lib.hid hb
    have HF := Lib.hid q1
    clear HB HQ1 HQ2 HQ3 q1' q3' q5' hd5 hd6 hd7 b5 b6 b7 q1 hb
    go_wp2_with fail
    go_loop [18, 19] (fun n i => ∃ j : Nat, j ≤ x.length ∧ i = .int .i64 j ∧ n = .int .i64 ((u.length + lens (x.take j) : Nat) : Int)) (fun _ i => x.length - (intOf i).toNat)
    case atStart => exact ⟨0, Nat.zero_le _, rfl, by simp [lens]⟩
    case round =>
      obtain ⟨j, hj, rfl, rfl⟩ := hrel
      by_cases hlt : j < x.length
      · obtain ⟨b, o, rfl, hb, hc0, hc1⟩ := HF.out.at_ hlt
        have hln := lens_take x j hlt
        have hle := lens_take_le x (j + 1)
        have hle2 := HX.out
        rw [hln] at hle
        have HLN := Lib.hid hln
        clear hb hln
        generalize x[j] = y at *
        obtain ⟨y1, y2⟩ := y
        have hle : lens (x.take j) + y2 ≤ lens x := hle
        have i0 : (0 : Int) ≤ (j : Int) := by omega
        have i1 : (j : Int) < (x.length : Int) := by omega
        go_wp2
        go_round
        case rel => exact ⟨j + 1, by omega, by go_num, by rw [HLN.out]; go_num⟩
        case measure => simp [intOf]; omega
      · obtain rfl : j = x.length := by omega
        rw [List.take_of_length_le (Nat.le_refl _), HX.out]
        go_wp2_with (go_at_call 11; refine (HA.out _).mono ?_; rintro e w9 ⟨rfl, hb9⟩)
        go_returns
        exact ⟨rfl, HB7.out.trans (hb9.mono HB7.out.size)⟩
  · have hcase : k < 1 ∨ (1 ≤ k ∧ (4 < k ∨ (k ≤ 4 ∧ (400 < s.size ∨ (s.size ≤ 400 ∧ (p < 0 ∨ (0 ≤ p ∧ (s.size : Int) < p))))))) := by omega
    clear hpre
    rcases hcase with h | ⟨h1, h | ⟨h2, h | ⟨h3, h | ⟨h4, h⟩⟩⟩⟩
    all_goals
      try have g1 : decide (k < 1) = false := by simp; omega
      try have g2 : decide (4 < k) = false := by simp; omega
      try have g3 : decide ((400 : Int) < s.size) = false := by simp; omega
      try have g4 : decide (p < 0) = false := by simp; omega
      try have g5 : (400 : Int) < s.size := by omega
      go_enter Try.func8, Try.ntmps8
      go_wp2_with (go_at_call 11; refine (HA.out _).mono ?_; rintro e w9 ⟨rfl, hb9⟩)
      go_returns
      exact ⟨rfl, hb9⟩
end Go.Proofs.Ytlfhmkjomogkiaa
