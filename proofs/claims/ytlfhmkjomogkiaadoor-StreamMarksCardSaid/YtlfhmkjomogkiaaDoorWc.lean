/- Walks: wide.Next, inkhornref02.Next: each comes to Pl.wnext. -/
import Derived.Test.YtlfhmkjomogkiaaDoorWb
namespace Go.Proofs.YtlfhmkjomogkiaaDoor
open Go.RowKit Pl

/-- form.next, of the form of a kind. -/
theorem next_form (k : Int) (_h1 : 1 ≤ k) (_h4 : k ≤ 4) (s : ByteArray) (hm : s.size ≤ maxLen) (w : World) :
    Calls Tryd.prog 86 #[.agg #[.int .i64 (wsize k), .bool (k % 2 == 0), .bool (decide (k ≤ 2))], .string s] w fun e w' =>
      nextEnd (wnext (wsize k) (bigOf k) s.data.toList) e ∧ Below w.heap.size w w' := by
  unfold bigOf wsize
  by_cases h2 : k ≤ 2
  · rw [if_pos h2, decide_eq_true h2]; exact next2 _ s hm w
  · rw [if_neg h2, decide_eq_false h2]; exact next4 _ s hm w

set_option maxRecDepth 100000 in
set_option maxHeartbeats 1600000 in
theorem refNext_any (k : Int) (h1 : 1 ≤ k) (h4 : k ≤ 4) (s : ByteArray) (hm : s.size ≤ maxLen) (w : World) :
    Calls Tryd.prog 66 #[.int .i64 k, .string s] w fun e w' => nextEnd (knext k s.data.toList) e ∧ w = w' := by
  unfold knext
  rw [if_pos ⟨h1, h4⟩]
  have HZ := Lib.hid (size_any k)
  have hl : s.data.toList.length = s.size := by simp
  have HNu : wsize k ≤ s.size → ∀ w, Calls Tryd.prog 78 #[.int .i64 k, .string s] w fun e w' => e = .returned (.int .i64 (unitN (wsize k) (bigOf k) s.data.toList)) ∧ w = w' :=
    fun hs w => number_any k s h1 h4 hs hm w
  have HNu2 : wsize k = 2 → 4 ≤ s.size → ∀ w, Calls Tryd.prog 78 #[.int .i64 k, .string (s.extract 2 4)] w fun e w' => e = .returned (.int .i64 (unitN 2 (bigOf k) (s.data.toList.drop 2))) ∧ w = w' := by
    intro hs h4s w
    have h := number_any k (s.extract 2 4) h1 h4 (by rw [hs]; simp; omega) (by simp; omega) w
    rw [hs] at h
    rw [show unitN 2 (bigOf k) (s.data.toList.drop 2) = unitN 2 (k % 2 == 0) (s.extract 2 4).data.toList from ?_]
    · exact h
    · rw [Lib.extract_data]; unfold unitN bigOf; rw [List.take_take]; rfl
  unfold wnext
  rw [hl]
  have hz : wsize k = 2 ∨ wsize k = 4 := by unfold wsize; split <;> simp
  unfold maxLen at hm
  rcases hz with hz | hz
  · rw [hz] at HZ HNu HNu2 ⊢
    have hn := unitN_le2 (bigOf k) s.data.toList
    have hm' := unitN_le2 (bigOf k) (s.data.toList.drop 2)
    have HNu2 := HNu2 rfl
    generalize unitN 2 (bigOf k) s.data.toList = n at *
    generalize unitN 2 (bigOf k) (s.data.toList.drop 2) = m at *
    clear hl hz h1 h4
    by_cases h2 : s.size < 2
    · rw [wn_short h2]
      clear HNu HNu2 hn hm'
      go_enter Tryd.func66, Tryd.ntmps66
      go_wp2_with (go_at_call 77; refine (HZ.out _).mono ?_; rintro e w' ⟨rfl, rfl⟩)
      go_returns
      exact ⟨rfl, rfl⟩
    have HN1 := Lib.hid (HNu (by omega)); clear HNu
    have d0 : decide ((s.size : Int) < 2) = false := by simp; omega
    by_cases hh : 55296 ≤ n ∧ n ≤ 57343
    · by_cases hlow : n ≤ 56319
      · have i1 : decide ((n : Int) < 55296) = false := by simp; omega
        have i2 : decide ((57343 : Int) < n) = false := by simp; omega
        have i3 : decide ((56319 : Int) < n) = false := by simp; omega
        by_cases h4 : s.size < 4
        · rw [wn_high_short h2 (by omega) (by omega) h4]
          have i4 : (s.size : Int) < 4 := by omega
          clear HNu2 h4 h2 hn hm' hh hlow
          go_enter Tryd.func66, Tryd.ntmps66
          go_wp2_with (first | (go_at_call 77; refine (HZ.out _).mono ?_; rintro e w' ⟨rfl, rfl⟩) | (go_at_call 78; with_reducible refine (HN1.out _).mono ?_; rintro e w' ⟨rfl, rfl⟩))
          go_returns
          exact ⟨rfl, rfl⟩
        · have HN2 := Lib.hid (HNu2 (by omega)); clear HNu2
          have d4 : decide ((s.size : Int) < 4) = false := by simp; omega
          have d5 : (4 : Int) ≤ s.size := by omega
          have i5 : (n : Int) ≤ 65535 := by omega
          by_cases hh3 : 56320 ≤ m ∧ m < 57344
          · rw [wn_pair (by omega) (by omega) h4 hh3.1 hh3.2]
            have HV : Hid (((65536 + (n - 55296) * 1024 + (m - 56320) : Nat) : Int) = 65536 + ((n : Int) - 55296) * 1024 + m - 56320) := by show _ = _; omega
            have j1 : decide ((m : Int) < 56320) = false := by simp; omega
            have j2 : decide ((57343 : Int) < m) = false := by simp; omega
            have j3 : (m : Int) ≤ 57343 := by omega
            have j4 : (55296 : Int) ≤ n := by omega
            have j5 : (n : Int) ≤ 56319 := by omega
            clear h4 h2 hn hm' hh hlow hh3
            go_enter Tryd.func66, Tryd.ntmps66
            go_wp2_with (first | (go_at_call 77; refine (HZ.out _).mono ?_; rintro e w' ⟨rfl, rfl⟩) | (go_at_call 78; with_reducible refine (HN1.out _).mono ?_; rintro e w' ⟨rfl, rfl⟩) | (go_at_call 78; with_reducible refine (HN2.out _).mono ?_; rintro e w' ⟨rfl, rfl⟩))
            go_returns
            exact ⟨by rw [nextEnd, HV.out]; rfl, rfl⟩
          · rw [wn_high_bad (by omega) (by omega) h4 (by omega)]
            rcases (show m < 56320 ∨ 57344 ≤ m from by omega) with h5 | h5
            · have j1 : decide ((m : Int) < 56320) = true := by simp; omega
              have J1 := Lib.hid j1
              clear h4 h2 hn hm' hh hlow hh3 h5 j1
              go_enter Tryd.func66, Tryd.ntmps66
              go_wp2_with (first | (go_at_call 77; refine (HZ.out _).mono ?_; rintro e w' ⟨rfl, rfl⟩) | (go_at_call 78; with_reducible refine (HN1.out _).mono ?_; rintro e w' ⟨rfl, rfl⟩) | ((go_at_call 78; with_reducible refine (HN2.out _).mono ?_; rintro e w' ⟨rfl, rfl⟩); have j1 := J1.out))
              go_returns
              exact ⟨rfl, rfl⟩
            · have j1 : decide ((m : Int) < 56320) = false := by simp; omega
              have j2 : (57343 : Int) < m := by omega
              clear h4 h2 hn hm' hh hlow hh3 h5
              go_enter Tryd.func66, Tryd.ntmps66
              go_wp2_with (first | (go_at_call 77; refine (HZ.out _).mono ?_; rintro e w' ⟨rfl, rfl⟩) | (go_at_call 78; with_reducible refine (HN1.out _).mono ?_; rintro e w' ⟨rfl, rfl⟩) | (go_at_call 78; with_reducible refine (HN2.out _).mono ?_; rintro e w' ⟨rfl, rfl⟩))
              go_returns
              exact ⟨rfl, rfl⟩
      · rw [wn_bad h2 (by omega) (by simp [scal]; omega)]
        have i1 : decide ((n : Int) < 55296) = false := by simp; omega
        have i2 : decide ((57343 : Int) < n) = false := by simp; omega
        have i3 : (56319 : Int) < n := by omega
        clear HNu2 h2 hn hm' hh hlow
        go_enter Tryd.func66, Tryd.ntmps66
        go_wp2_with (first | (go_at_call 77; refine (HZ.out _).mono ?_; rintro e w' ⟨rfl, rfl⟩) | (go_at_call 78; with_reducible refine (HN1.out _).mono ?_; rintro e w' ⟨rfl, rfl⟩))
        go_returns
        exact ⟨rfl, rfl⟩
    · rw [wn_ok h2 (by omega) (by simp [scal]; omega)]
      have i9 : (n : Int) ≤ 65535 := by omega
      rcases (show n < 55296 ∨ 57343 < n from by omega) with h5 | h5
      · have j1 : decide ((n : Int) < 55296) = true := by simp; omega
        have J1 := Lib.hid j1
        clear HNu2 h2 hn hm' hh h5 j1
        go_enter Tryd.func66, Tryd.ntmps66
        go_wp2_with (first | (go_at_call 77; refine (HZ.out _).mono ?_; rintro e w' ⟨rfl, rfl⟩) | ((go_at_call 78; with_reducible refine (HN1.out _).mono ?_; rintro e w' ⟨rfl, rfl⟩); have j1 := J1.out))
        go_returns
        exact ⟨rfl, rfl⟩
      · have j1 : decide ((n : Int) < 55296) = false := by simp; omega
        have j2 : (57343 : Int) < n := by omega
        clear HNu2 h2 hn hm' hh h5
        go_enter Tryd.func66, Tryd.ntmps66
        go_wp2_with (first | (go_at_call 77; refine (HZ.out _).mono ?_; rintro e w' ⟨rfl, rfl⟩) | (go_at_call 78; with_reducible refine (HN1.out _).mono ?_; rintro e w' ⟨rfl, rfl⟩))
        go_returns
        exact ⟨rfl, rfl⟩
  · rw [hz] at HZ HNu ⊢
    have hn := unitN_le4 (bigOf k) s.data.toList
    clear HNu2
    generalize unitN 4 (bigOf k) s.data.toList = n at *
    generalize unitN 2 (bigOf k) (s.data.toList.drop 2) = m at *
    clear hl hz h1 h4
    by_cases h2 : s.size < 4
    · rw [wn_short h2]
      clear HNu hn
      go_enter Tryd.func66, Tryd.ntmps66
      go_wp2_with (go_at_call 77; refine (HZ.out _).mono ?_; rintro e w' ⟨rfl, rfl⟩)
      go_returns
      exact ⟨rfl, rfl⟩
    have HN1 := Lib.hid (HNu (by omega)); clear HNu
    have d0 : decide ((s.size : Int) < 4) = false := by simp; omega
    have hq : (4 : Nat) = 2 → n < 55296 ∨ 56320 ≤ n := fun h => absurd h (by decide)
    by_cases hg : 1114111 < n
    · rw [wn_bad h2 hq (by simp [scal]; omega)]
      have i1 : (1114111 : Int) < n := by omega
      clear hq h2 hn hg
      go_enter Tryd.func66, Tryd.ntmps66
      go_wp2_with (first | (go_at_call 77; refine (HZ.out _).mono ?_; rintro e w' ⟨rfl, rfl⟩) | (go_at_call 78; with_reducible refine (HN1.out _).mono ?_; rintro e w' ⟨rfl, rfl⟩))
      go_returns
      exact ⟨rfl, rfl⟩
    · have g0 : decide ((1114111 : Int) < n) = false := by simp; omega
      have i9 : (n : Int) ≤ 1114111 := by omega
      rcases (show n < 55296 ∨ 57343 < n ∨ (55296 ≤ n ∧ n ≤ 57343) from by omega) with h5 | h5 | h5
      · rw [wn_ok h2 hq (by simp [scal]; omega)]
        have i1 : decide ((55296 : Int) ≤ n) = false := by simp; omega
        clear hq h2 hn hg h5
        go_enter Tryd.func66, Tryd.ntmps66
        go_wp2_with (first | (go_at_call 77; refine (HZ.out _).mono ?_; rintro e w' ⟨rfl, rfl⟩) | (go_at_call 78; with_reducible refine (HN1.out _).mono ?_; rintro e w' ⟨rfl, rfl⟩))
        go_returns
        exact ⟨rfl, rfl⟩
      · rw [wn_ok h2 hq (by simp [scal]; omega)]
        have i1 : (55296 : Int) ≤ n := by omega
        have i2 : decide ((n : Int) ≤ 57343) = false := by simp; omega
        clear hq h2 hn hg h5
        go_enter Tryd.func66, Tryd.ntmps66
        go_wp2_with (first | (go_at_call 77; refine (HZ.out _).mono ?_; rintro e w' ⟨rfl, rfl⟩) | (go_at_call 78; with_reducible refine (HN1.out _).mono ?_; rintro e w' ⟨rfl, rfl⟩))
        go_returns
        exact ⟨rfl, rfl⟩
      · rw [wn_bad h2 hq (by simp [scal]; omega)]
        have i1 : (55296 : Int) ≤ n := by omega
        have i2 : (n : Int) ≤ 57343 := by omega
        clear hq h2 hn hg h5
        go_enter Tryd.func66, Tryd.ntmps66
        go_wp2_with (first | (go_at_call 77; refine (HZ.out _).mono ?_; rintro e w' ⟨rfl, rfl⟩) | (go_at_call 78; with_reducible refine (HN1.out _).mono ?_; rintro e w' ⟨rfl, rfl⟩))
        go_returns
        exact ⟨rfl, rfl⟩
end Go.Proofs.YtlfhmkjomogkiaaDoor
