/- The statement WideBack: its walk. -/
import Derived.Test.YtlfhmkjomogkiaaWm
import Derived.Test.YtlfhmkjomogkiaaLe
import Derived.Test.YtlfhmkjomogkiaaPlain6
namespace Go.Proofs.Ytlfhmkjomogkiaa
open Go.RowKit Pl

theorem ba_take (s : ByteArray) (u : List UInt8) (h : u = s.data.toList.take u.length) : (u == (s.extract 0 u.length).toList) = true := by
  rw [ByteArray.toList_eq]
  simp only [beq_iff_eq]
  rw [show (s.extract 0 u.length).data.toList = s.data.toList.take u.length from by simp [ByteArray.data_extract]]
  exact h

set_option maxRecDepth 20000 in
set_option maxHeartbeats 6400000 in
theorem wideBack_law (k : Int) (A : Option Addr) (len cap : Nat) (l : List Int) (s : ByteArray) (w : World) (hR : Rd w A len (i32s l)) (_hl : ∀ r ∈ l, -2147483648 ≤ r ∧ r ≤ 2147483647) (hm : s.size ≤ maxLen) :
    Calls Try.prog 9 #[.int .i64 k, .slice A len cap, .string s] w fun e w' => e = .returned (.bool true) ∧ Below w.heap.size w w' := by
  have HA := Lib.hid awake_any
  unfold maxLen at hm
  obtain rfl := hR.i32_len
  by_cases hpre : (1 ≤ k ∧ k ≤ 4) ∧ l.length ≤ 200 ∧ s.size ≤ 400
  · obtain ⟨hk, h200, h400⟩ := hpre
    have g1 : decide (k < 1) = false := by simp; omega
    have g2 : decide (4 < k) = false := by simp; omega
    have g3 : decide ((200 : Int) < l.length) = false := by simp; omega
    have g4 : decide ((400 : Int) < s.size) = false := by simp; omega
    obtain ⟨m, hms, hcase⟩ := (wide_codec (wsize k) (bigOf k) (wsize_cases k)).dec_strict s.data.toList
    have hml : m.length ≤ 400 := by
      have := (dec_len (wnext (wsize k) (bigOf k)) 1 (fun t h => (wnext_pos _ _ t h (wsize_cases k)).1) s.data.toList).1
      rcases hcase with ⟨h, _⟩ | ⟨n, _, _, h, _⟩ <;> rw [h] at this <;> simp at this <;> omega
    have HE2 := Lib.hid (fun A' c' (w : World) h => encode_any k A' m.length c' m (by omega) w h)
    rw [kenc_of k m hk hms] at HE2
    have HD2 := Lib.hid (fun T w => dec1 k 1 s T (by omega) w)
    rw [kdec_of k 1 _ hk (by decide)] at HD2
    obtain ⟨u, hu⟩ : ∃ u, m.flatMap (wchar (wsize k) (bigOf k)) = u := ⟨_, rfl⟩
    rw [hu] at HE2 hcase
    rw [show s.data.toList.length = s.size from by simp] at hcase
    have HR := Lib.hid hR
    clear hu hms
    have HE := Lib.hid (encode_any k A l.length cap l (by omega) w hR)
    clear hR
    by_cases hall : l.all scal = true
    · rw [kenc_of k l hk hall] at HE
      have hv1 := wcut_enc (wsize k) (bigOf k) (wsize_cases k) l hall
      have hv2 := flat_wchar_length_le (wsize k) (bigOf k) l (wsize_le k)
      have hv3 := (wide_codec (wsize k) (bigOf k) (wsize_cases k)).dec_all 1 l hall
      obtain ⟨v, hv⟩ : ∃ v, l.flatMap (wchar (wsize k) (bigOf k)) = v := ⟨_, rfl⟩
      rw [hv] at hv1 hv2 hv3 HE
      have HD1 := Lib.hid (fun T w => dec1 k 1 ⟨v.toArray⟩ T (by rw [ba_size]; omega) w)
      rw [kdec_of k 1 _ hk (by decide), show (⟨v.toArray⟩ : ByteArray).data.toList = v from by simp, hv3] at HD1
      have HC := Lib.hid (fun w => cut_any k ⟨v.toArray⟩ (by rw [ba_size]; omega) w)
      rw [show kcut k (⟨v.toArray⟩ : ByteArray).data.toList = (v.length, 0) from by unfold kcut; rw [if_pos hk, show (⟨v.toArray⟩ : ByteArray).data.toList = v from by simp, hv1]] at HC
      clear hv hv1 hv3 hall hk
      rcases hcase with ⟨h1, rfl⟩ | ⟨n, n1, n2, h1, h2⟩
      · rw [h1] at HD2
        clear h1
        have e7 : ((⟨s.data.toList.toArray⟩ : ByteArray).toList == s.toList) = true := by simp
        go_enter Try.func9, Try.ntmps9
        go_wp2_with fail
        go_at_call 15
        refine HE.out.mono ?_
        rintro e w1 ⟨he, b1⟩
        rw [encEnd] at he
        subst he
        go_wp2_with fail
        go_at_call 21
        refine (HD1.out _ _).mono ?_
        rintro e w2 hd1
        obtain ⟨A1, c1, A2, c2, rfl, r1, _, b2⟩ := hd1.rd.since
        clear hd1
        go_wp2_with fail
        go_at_call 20
        refine (HC.out _).mono ?_
        rintro e w3 ⟨he, b3⟩
        rw [cutEnd] at he
        subst he
        have hb : Below w.heap.size w w3 := by
          have hb2 := b1.trans (b2.mono b1.size)
          exact hb2.trans (b3.mono hb2.size)
        have HQ1 := Lib.hid (runes_any A1 _ c1 l A _ cap l w3 (r1.keep b3) (HR.out.keep hb) (by omega))
        rw [decide_eq_true rfl] at HQ1
        clear r1 b1 b2 b3
        have e5 : ((v.length : Int) != (⟨v.toArray⟩ : ByteArray).size) = false := by rw [ba_size]; simp
        have e6 : ((v.length : Int) != (v.length : Int)) = false := by simp
        go_wp2_with fail
        go_at_call 23
        refine HQ1.out.mono ?_
        rintro e w4 ⟨rfl, hd4⟩
        have b4 := hd4.below w3.heap.size
        have HB := Lib.hid (hb.trans (b4.mono hb.size))
        clear hd4 b4 hb HQ1
        go_wp2_with fail
        go_at_call 21
        refine (HD2.out _ _).mono ?_
        rintro e w5 hd1
        obtain ⟨A3, c3, A4, c4, rfl, r3, q3, b5⟩ := hd1.rd.since
        clear hd1
        go_wp2_with fail
        go_at_call 15
        refine (HE2.out _ _ _ r3).mono ?_
        rintro e w6 ⟨he, b6⟩
        rw [encEnd] at he
        subst he
        have hb6 : Below w.heap.size w w6 := by
          have h := HB.out
          have h5 := h.trans (b5.mono h.size)
          exact h5.trans (b6.mono h5.size)
        have HB6 := Lib.hid hb6
        have q6 := q3.keep b6
        clear r3 q3 b5 b6 hb6
        clear q6
        go_wp2_with (go_at_call 11; refine (HA.out _).mono ?_; rintro e w9 ⟨rfl, hb9⟩)
        go_returns
        exact ⟨rfl, HB6.out.trans (hb9.mono HB6.out.size)⟩
      · rw [h1] at HD2
        have e7 := ba_take s u h2
        clear h1 h2
        go_enter Try.func9, Try.ntmps9
        go_wp2_with fail
        go_at_call 15
        refine HE.out.mono ?_
        rintro e w1 ⟨he, b1⟩
        rw [encEnd] at he
        subst he
        go_wp2_with fail
        go_at_call 21
        refine (HD1.out _ _).mono ?_
        rintro e w2 hd1
        obtain ⟨A1, c1, A2, c2, rfl, r1, _, b2⟩ := hd1.rd.since
        clear hd1
        go_wp2_with fail
        go_at_call 20
        refine (HC.out _).mono ?_
        rintro e w3 ⟨he, b3⟩
        rw [cutEnd] at he
        subst he
        have hb : Below w.heap.size w w3 := by
          have hb2 := b1.trans (b2.mono b1.size)
          exact hb2.trans (b3.mono hb2.size)
        have HQ1 := Lib.hid (runes_any A1 _ c1 l A _ cap l w3 (r1.keep b3) (HR.out.keep hb) (by omega))
        rw [decide_eq_true rfl] at HQ1
        clear r1 b1 b2 b3
        have e5 : ((v.length : Int) != (⟨v.toArray⟩ : ByteArray).size) = false := by rw [ba_size]; simp
        have e6 : ((v.length : Int) != (v.length : Int)) = false := by simp
        go_wp2_with fail
        go_at_call 23
        refine HQ1.out.mono ?_
        rintro e w4 ⟨rfl, hd4⟩
        have b4 := hd4.below w3.heap.size
        have HB := Lib.hid (hb.trans (b4.mono hb.size))
        clear hd4 b4 hb HQ1
        go_wp2_with fail
        go_at_call 21
        refine (HD2.out _ _).mono ?_
        rintro e w5 hd1
        obtain ⟨A3, c3, A4, c4, rfl, r3, q3, b5⟩ := hd1.rd.since
        clear hd1
        go_wp2_with fail
        go_at_call 15
        refine (HE2.out _ _ _ r3).mono ?_
        rintro e w6 ⟨he, b6⟩
        rw [encEnd] at he
        subst he
        have hb6 : Below w.heap.size w w6 := by
          have h := HB.out
          have h5 := h.trans (b5.mono h.size)
          exact h5.trans (b6.mono h5.size)
        have HB6 := Lib.hid hb6
        have q6 := q3.keep b6
        clear r3 q3 b5 b6 hb6
        obtain ⟨b, o, rfl, hb, hc0, hc1⟩ := q6.at_ (k := 0) (by simp)
        have hc0 : w6.cell? ⟨b, o, none⟩ = some (.int .i64 (u.length : Int)) := hc0
        have hc1 : w6.cell? ⟨b, o + 1, none⟩ = some (.int .i64 (n : Int)) := hc1
        have j1 : (1 : Int) ≤ (n : Int) := by omega
        have j2 : (u.length : Int) + (n : Int) ≤ (s.size : Int) := by omega
        have j3 : (0 : Int) ≤ (u.length : Int) := by omega
        have j4 : (u.length : Int) ≤ (s.size : Int) := by omega
        have hw1 : IntKind.i64.wrap ((u.length : Int) + (n : Int)) = (u.length : Int) + (n : Int) := IntWalk.i64_in _ (by omega)
        clear hb q6
        go_wp2
        go_still_tail 46, (by kernel_rfl)
        clear hw1 hc0 hc1
        change wpList _ _ _ _ _ w6.drew
        go_wp2_with (go_at_call 11; refine (HA.out _).mono ?_; rintro e w9 ⟨rfl, hb9⟩)
        go_returns
        exact ⟨rfl, HB6.out.drew.trans (hb9.mono HB6.out.size)⟩
    · have HE' : Hid (Calls Try.prog 15 #[.int .i64 k, .slice A l.length cap] w fun e w' => encEnd ([], 11) e ∧ Below w.heap.size w w') := by
        have h := HE.out
        rwa [show kenc k l = ([], 11) from by unfold kenc wenc; rw [if_pos hk, if_neg hall]] at h
      clear HE hall hk
      rcases hcase with ⟨h1, rfl⟩ | ⟨n, n1, n2, h1, h2⟩
      · rw [h1] at HD2
        clear h1
        have e7 : ((⟨s.data.toList.toArray⟩ : ByteArray).toList == s.toList) = true := by simp
        go_enter Try.func9, Try.ntmps9
        go_wp2_with fail
        go_at_call 15
        refine HE'.out.mono ?_
        rintro e w4 ⟨he, b1⟩
        rw [encEnd] at he
        subst he
        have HB := Lib.hid b1
        clear b1
        go_wp2_with fail
        go_at_call 21
        refine (HD2.out _ _).mono ?_
        rintro e w5 hd1
        obtain ⟨A3, c3, A4, c4, rfl, r3, q3, b5⟩ := hd1.rd.since
        clear hd1
        go_wp2_with fail
        go_at_call 15
        refine (HE2.out _ _ _ r3).mono ?_
        rintro e w6 ⟨he, b6⟩
        rw [encEnd] at he
        subst he
        have hb6 : Below w.heap.size w w6 := by
          have h := HB.out
          have h5 := h.trans (b5.mono h.size)
          exact h5.trans (b6.mono h5.size)
        have HB6 := Lib.hid hb6
        have q6 := q3.keep b6
        clear r3 q3 b5 b6 hb6
        clear q6
        go_wp2_with (go_at_call 11; refine (HA.out _).mono ?_; rintro e w9 ⟨rfl, hb9⟩)
        go_returns
        exact ⟨rfl, HB6.out.trans (hb9.mono HB6.out.size)⟩
      · rw [h1] at HD2
        have e7 := ba_take s u h2
        clear h1 h2
        go_enter Try.func9, Try.ntmps9
        go_wp2_with fail
        go_at_call 15
        refine HE'.out.mono ?_
        rintro e w4 ⟨he, b1⟩
        rw [encEnd] at he
        subst he
        have HB := Lib.hid b1
        clear b1
        go_wp2_with fail
        go_at_call 21
        refine (HD2.out _ _).mono ?_
        rintro e w5 hd1
        obtain ⟨A3, c3, A4, c4, rfl, r3, q3, b5⟩ := hd1.rd.since
        clear hd1
        go_wp2_with fail
        go_at_call 15
        refine (HE2.out _ _ _ r3).mono ?_
        rintro e w6 ⟨he, b6⟩
        rw [encEnd] at he
        subst he
        have hb6 : Below w.heap.size w w6 := by
          have h := HB.out
          have h5 := h.trans (b5.mono h.size)
          exact h5.trans (b6.mono h5.size)
        have HB6 := Lib.hid hb6
        have q6 := q3.keep b6
        clear r3 q3 b5 b6 hb6
        obtain ⟨b, o, rfl, hb, hc0, hc1⟩ := q6.at_ (k := 0) (by simp)
        have hc0 : w6.cell? ⟨b, o, none⟩ = some (.int .i64 (u.length : Int)) := hc0
        have hc1 : w6.cell? ⟨b, o + 1, none⟩ = some (.int .i64 (n : Int)) := hc1
        have j1 : (1 : Int) ≤ (n : Int) := by omega
        have j2 : (u.length : Int) + (n : Int) ≤ (s.size : Int) := by omega
        have j3 : (0 : Int) ≤ (u.length : Int) := by omega
        have j4 : (u.length : Int) ≤ (s.size : Int) := by omega
        have hw1 : IntKind.i64.wrap ((u.length : Int) + (n : Int)) = (u.length : Int) + (n : Int) := IntWalk.i64_in _ (by omega)
        clear hb q6
        go_wp2
        go_still_tail 46, (by kernel_rfl)
        clear hw1 hc0 hc1
        change wpList _ _ _ _ _ w6.drew
        go_wp2_with (go_at_call 11; refine (HA.out _).mono ?_; rintro e w9 ⟨rfl, hb9⟩)
        go_returns
        exact ⟨rfl, HB6.out.drew.trans (hb9.mono HB6.out.size)⟩
  · have hcase : k < 1 ∨ (1 ≤ k ∧ (4 < k ∨ (k ≤ 4 ∧ (200 < l.length ∨ (l.length ≤ 200 ∧ (400 < s.size)))))) := by omega
    clear hpre hR
    rcases hcase with h | ⟨h1, h | ⟨h2, h | ⟨h3, h⟩⟩⟩
    all_goals
      try have g1 : decide (k < 1) = false := by simp; omega
      try have g2 : decide (4 < k) = false := by simp; omega
      try have g3 : decide ((200 : Int) < l.length) = false := by simp; omega
      try have g4 : (200 : Int) < l.length := by omega
      try have g5 : (400 : Int) < s.size := by omega
      go_enter Try.func9, Try.ntmps9
      go_wp2_with (go_at_call 11; refine (HA.out _).mono ?_; rintro e w9 ⟨rfl, hb9⟩)
      go_returns
      exact ⟨rfl, hb9⟩
end Go.Proofs.Ytlfhmkjomogkiaa
