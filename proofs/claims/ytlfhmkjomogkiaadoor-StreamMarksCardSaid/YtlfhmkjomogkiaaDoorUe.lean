/- Walks: inkhornref01.Next. -/
import Derived.Test.YtlfhmkjomogkiaaDoorUd
import Derived.Lib.IndexBytes
namespace Go.Proofs.YtlfhmkjomogkiaaDoor.Utf
open Go.RowKit Pl

theorem starts_cut (s : ByteArray) (hm : s.size ≤ maxLen) (k : Nat) (h1 : 1 ≤ k) (hk : k ≤ s.size) (w : World) :
    Calls Tryd.prog 43 #[.string (s.extract 0 k)] w fun e w' => e = .returned (.int .i64 (starts (nats (s.data.toList.take k)))) ∧ w = w' := by
  have h := starts_any (s.extract 0 k) (by simp; omega) (by simp; omega) w
  rw [Lib.extract_data] at h
  simpa using h
theorem head_of {s : ByteArray} (h : 0 < s.size) : s.data.toList.headD 0 = s[0] := by rw [is_cons h]; rfl
theorem least_n (s : ByteArray) (hm : s.size ≤ maxLen) (h0 : 0 < s.size) (n : Nat) (h2 : 2 ≤ n) (h4 : n ≤ 4) (hn : uMany s[0].toNat = n) (w : World) :
    Calls Tryd.prog 44 #[.string s, .int .i64 n] w fun e w' => e = .returned (.int .i32 (leastV s[0].toNat (nats (s.data.toList.drop 1)) n)) ∧ w = w' := by
  have hc := uMany_cases s[0].toNat
  rcases (show n = 2 ∨ n = 3 ∨ n = 4 from by omega) with rfl | rfl | rfl
  · exact least_2 s hm h0 (by omega) (by omega) w
  · exact least_3 s hm h0 (by omega) (by omega) w
  · exact least_4 s hm h0 (by omega) (by omega) w
theorem least_cut (s : ByteArray) (hm : s.size ≤ maxLen) (n : Nat) (h2 : 2 ≤ n) (h4 : n ≤ 4) (hk : n ≤ s.size) (hn : uMany (s.data.toList.headD 0).toNat = n) (w : World) :
    Calls Tryd.prog 44 #[.string (s.extract 0 n), .int .i64 n] w fun e w' => e = .returned (.int .i32 (leastV (s.data.toList.headD 0).toNat (nats ((s.data.toList.take n).drop 1)) n)) ∧ w = w' := by
  have hz : 0 < (s.extract 0 n).size := by simp; omega
  have hd : (s.extract 0 n).data.toList = s.data.toList.take n := by rw [Lib.extract_data]; simp
  have hh : (s.extract 0 n)[0] = s.data.toList.headD 0 := by
    rw [← head_of hz, hd]
    cases hl : s.data.toList with
    | nil => cases n <;> rfl
    | cons a l => cases n with
      | zero => omega
      | succ n => rfl
  have h := least_n (s.extract 0 n) (by simp; omega) hz n h2 h4 (by rw [hh]; exact hn) w
  rw [hh, hd] at h
  exact h
/-- The state of the reference's loop. -/
def PreSt (N : Nat) (l : List UInt8) (n k : Value) : Prop :=
  ∃ j : Nat, j ≤ 4 ∧ j ≤ l.length ∧ n = .int .i64 j ∧ k = .int .i64 ((j + 1 : Nat) : Int) ∧ preGo l (4 - j) (j + 1) j = N ∧ (j = 0 ∨ 0 < starts (nats (l.take j)))
theorem starts_full {l : List UInt8} {n : Nat} (h1 : 1 ≤ n) (hn : n ≤ l.length) (h : 0 < starts (nats (l.take n))) : n ≤ starts (nats (l.take n)) ∧ starts (nats (l.take n)) ≤ 4 ∧ starts (nats (l.take n)) = uMany (l.headD 0).toNat := by
  cases l with
  | nil => simp at hn; omega
  | cons b t =>
    cases n with
    | zero => omega
    | succ n =>
      have e : nats ((b :: t).take (n + 1)) = b.toNat :: nats (t.take n) := rfl
      rw [e] at h ⊢
      have h2 := starts_many rfl h
      have hc := uMany_cases b.toNat
      refine ⟨?_, by omega, h2⟩
      rw [starts_cons] at h
      split at h
      · omega
      · rename_i hx
        rw [h2]
        have : (nats (t.take n)).length = n := by rw [nats_length, List.length_take]; simp at hn; omega
        omega
set_option maxRecDepth 100000 in
set_option maxHeartbeats 3200000 in
theorem refNext_any (s : ByteArray) (hm : s.size ≤ maxLen) (w : World) :
    Calls Tryd.prog 18 #[.string s] w fun e w' => nextEnd (unext s.data.toList) e ∧ w = w' := by
  by_cases h0 : s.size = 0
  · have hs : s = ⟨#[]⟩ := ba_zero h0
    subst hs
    clear h0 hm
    go_enter Tryd.func18, Tryd.ntmps18
    go_wp2
    go_returns
    exact ⟨rfl, rfl⟩
  · have he := not_empty (s := s) (by omega)
    have hl : s.data.toList.length = s.size := by simp
    rw [← refNext_eq]
    unfold refNext
    rw [if_neg (by omega)]
    have HS := Lib.hid (fun k h1 hk w => starts_cut s hm k h1 hk w)
    have HT := Lib.hid (fun n h2 h4 hk hn w => least_cut s hm n h2 h4 hk hn w)
    obtain ⟨N, hN⟩ : ∃ N, preGo s.data.toList 4 1 0 = N := ⟨_, rfl⟩
    rw [hN]
    obtain ⟨A, hA⟩ : ∃ A, refOf s.data.toList N = A := ⟨_, rfl⟩
    rw [hA]
    have HA := Lib.hid hA
    have HN := Lib.hid hN
    have HL := Lib.hid hl
    unfold maxLen at hm
    clear hN hl hA
    go_enter Tryd.func18, Tryd.ntmps18
    go_wp2
    go_loop [5, 6] (PreSt N s.data.toList) (fun n _ => 5 - (intOf n).toNat)
    case atStart => exact ⟨0, by omega, by omega, rfl, rfl, HN.out, .inl rfl⟩
    case round =>
      obtain ⟨j, hj4, hjl, rfl, rfl, hp, hst⟩ := hrel
      rw [HL.out] at hjl
      by_cases hgo : j + 1 ≤ s.size ∧ j + 1 ≤ 4 ∧ 0 < starts (nats (s.data.toList.take (j + 1)))
      · obtain ⟨g1, g2, g3⟩ := hgo
        have hp2 : preGo s.data.toList (4 - (j + 1)) (j + 1 + 1) (j + 1) = N := by
          rw [show 4 - j = (4 - (j + 1)) + 1 from by omega, preGo_succ, if_pos ⟨by rw [HL.out]; exact g1, g2, g3⟩] at hp
          exact hp
        have HP := Lib.hid hp2
        have HC := Lib.hid (HS.out (j + 1) (by omega) g1)
        have HG3 := Lib.hid g3
        obtain ⟨M, hM⟩ : ∃ M, starts (nats (s.data.toList.take (j + 1))) = M := ⟨_, rfl⟩
        rw [hM] at HC g3
        have g3' : (0 : Int) < M := by omega
        clear hp hp2 hM g3 hst
        go_wp2_with (go_at_call 43; refine (HC.out _).mono ?_; rintro e w' ⟨rfl, rfl⟩)
        go_round
        case rel => exact ⟨j + 1, by omega, by rw [HL.out]; omega, by go_num, by go_num, HP.out, .inr HG3.out⟩
        case measure => simp [intOf]; omega
      · have hpN : j = N := by
          by_cases hj : j = 4
          · subst hj; exact hp
          · rw [show 4 - j = (3 - j) + 1 from by omega, preGo_succ, if_neg (by rw [HL.out]; exact hgo)] at hp
            exact hp
        subst hpN
        have hfull := fun h1 => starts_full (l := s.data.toList) (n := j) h1 (by rw [HL.out]; exact hjl)
        have HS2 := fun h1 => Lib.hid (HS.out (j + 1) (by omega) h1)
        have HSJ := fun h1 => Lib.hid (HS.out j h1 hjl)
        obtain ⟨M', hM'⟩ : ∃ M, starts (nats (s.data.toList.take (j + 1))) = M := ⟨_, rfl⟩
        have hA := HA.out
        unfold refOf at hA
        have hway : (∃ H : Hid (A = (0, 1, 17)), j = 0) ∨ (1 ≤ j ∧ ((∃ M : Nat, (∃ H : Hid (∀ w, Calls Tryd.prog 43 #[.string (s.extract 0 j)] w fun e w' => e = .returned (.int .i64 M) ∧ w = w'), True) ∧ j < M ∧
              ((j = s.size ∧ ∃ H : Hid (A = (0, j, 18)), True) ∨ (j < s.size ∧ ∃ H : Hid (A = (0, j, 17)), True))) ∨
            ((∃ H : Hid (∀ w, Calls Tryd.prog 43 #[.string (s.extract 0 j)] w fun e w' => e = .returned (.int .i64 j) ∧ w = w'), True) ∧
              ((j = 1 ∧ ∃ H : Hid (A = (((s.data.toList.headD 0).toNat : Int), 1, 0)), True) ∨ (2 ≤ j ∧ ∃ V : Int, (∃ H : Hid (A = (V, j, 0)), True) ∧ ∃ H : Hid (∀ w, Calls Tryd.prog 44 #[.string (s.extract 0 j), .int .i64 j] w fun e w' => e = .returned (.int .i32 V) ∧ w = w'), True))))) := by
          by_cases hj0 : j = 0
          · left; subst hj0; exact ⟨Lib.hid (by rw [← hA]; rfl), rfl⟩
          · right
            have hs := hst.resolve_left hj0
            obtain ⟨f1, f2, f3⟩ := hfull (by omega) hs
            have hq := HSJ (by omega)
            rw [if_neg hj0] at hA
            refine ⟨by omega, ?_⟩
            by_cases hlt : j < starts (nats (s.data.toList.take j))
            · left
              rw [if_pos hlt] at hA
              refine ⟨_, ⟨hq, trivial⟩, hlt, ?_⟩
              by_cases hje : j = s.size
              · left
                rw [if_pos (by rw [HL.out]; exact hje)] at hA
                exact ⟨hje, Lib.hid hA.symm, trivial⟩
              · right
                rw [if_neg (by rw [HL.out]; exact hje)] at hA
                exact ⟨by omega, Lib.hid hA.symm, trivial⟩
            · right
              have hje : starts (nats (s.data.toList.take j)) = j := by omega
              rw [hje] at hq
              rw [if_neg hlt, hje] at hA
              refine ⟨⟨hq, trivial⟩, ?_⟩
              by_cases hj1 : j = 1
              · left
                rw [if_pos hj1] at hA
                exact ⟨hj1, Lib.hid hA.symm, trivial⟩
              · right
                rw [if_neg hj1] at hA
                refine ⟨by omega, _, ⟨Lib.hid hA.symm, trivial⟩, Lib.hid (fun w => HT.out j (by omega) hj4 hjl (by rw [← f3]; exact hje) w), trivial⟩
        rw [hM'] at hgo HS2
        clear hA hfull HSJ hp hst hM'
        have hexit : (s.size < j + 1) ∨ (j + 1 ≤ s.size ∧ j = 4) ∨ (j + 1 ≤ s.size ∧ j ≤ 3 ∧ M' = 0) := by omega
        clear hgo
        have h255 : ∀ h : 0 < s.size, ((s[0]'h).toNat : Int) ≤ 255 := fun h => by have := (s[0]'h).toNat_lt; omega
        rcases hexit with g1 | ⟨g1, g2⟩ | ⟨g1, g2, g3⟩
        · clear HS2
          rcases hway with ⟨H1, hj⟩ | ⟨hj, ⟨M, ⟨H1, _⟩, hjM, hh⟩ | ⟨⟨H1, _⟩, hh⟩⟩
          · subst hj
            go_wp2
            all_goals
              go_returns
              exact ⟨by rw [H1.out]; rfl, rfl⟩
          · have hjM' : (j : Int) < M := by omega
            rcases hh with ⟨hje, H2, _⟩ | ⟨hje, H2, _⟩
            · have hje' : ((j : Int) == (s.size : Int)) = true := by simp [hje]
              have HJE := Lib.hid hje
              clear hje
              go_wp2_with (first | (go_at_call 43; (with_reducible refine (H1.out _).mono ?_); rintro e w' ⟨rfl, rfl⟩))
              all_goals
                go_returns
                exact ⟨by rw [H2.out]; rfl, rfl⟩
            · have hje' : ((j : Int) == (s.size : Int)) = false := by simp; omega
              clear hje
              go_wp2_with (first | (go_at_call 43; (with_reducible refine (H1.out _).mono ?_); rintro e w' ⟨rfl, rfl⟩))
              all_goals
                go_returns
                exact ⟨by rw [H2.out]; rfl, rfl⟩
          · rcases hh with ⟨hje, H2, _⟩ | ⟨hje, V, ⟨H2, _⟩, H3, _⟩
            · have HX : Hid (A = (((s[0]'(by omega)).toNat : Int), 1, 0)) := by show _ = _; rw [H2.out, head_of (by omega)]
              have h1 : (1 : Int) ≤ s.size := by omega
              have h2 := h255 (by omega)
              subst hje
              go_wp2_with (first | (go_at_call 43; (with_reducible refine (H1.out _).mono ?_); rintro e w' ⟨rfl, rfl⟩))
              all_goals
                go_returns
                exact ⟨by rw [HX.out]; rfl, rfl⟩
            · have hx : ((j : Int) == 1) = false := by simp; omega
              go_wp2_with (first | (go_at_call 43; (with_reducible refine (H1.out _).mono ?_); rintro e w' ⟨rfl, rfl⟩) | (go_at_call 44; refine (H3.out _).mono ?_; rintro e w' ⟨rfl, rfl⟩))
              all_goals
                go_returns
                exact ⟨by rw [H2.out]; rfl, rfl⟩
        · clear HS2
          have g2' : (j : Int) = 4 := by omega
          have G2 := Lib.hid g2'
          have g4 : decide (((j + 1 : Nat) : Int) ≤ 4) = false := by simp; omega
          have g3' : (4 : Int) ≤ j := by omega
          clear g2 g2'
          rcases hway with ⟨H1, hj⟩ | ⟨hj, ⟨M, ⟨H1, _⟩, hjM, hh⟩ | ⟨⟨H1, _⟩, hh⟩⟩
          · subst hj
            go_wp2
            all_goals
              go_returns
              exact ⟨by rw [H1.out]; rfl, rfl⟩
          · have hjM' : (j : Int) < M := by omega
            rcases hh with ⟨hje, H2, _⟩ | ⟨hje, H2, _⟩
            · have hje' : ((j : Int) == (s.size : Int)) = true := by simp [hje]
              have HJE := Lib.hid hje
              clear hje
              go_wp2_with (first | (go_at_call 43; (with_reducible refine (H1.out _).mono ?_); rintro e w' ⟨rfl, rfl⟩))
              all_goals
                go_returns
                exact ⟨by rw [H2.out]; rfl, rfl⟩
            · have hje' : ((j : Int) == (s.size : Int)) = false := by simp; omega
              clear hje
              go_wp2_with (first | (go_at_call 43; (with_reducible refine (H1.out _).mono ?_); rintro e w' ⟨rfl, rfl⟩))
              all_goals
                go_returns
                exact ⟨by rw [H2.out]; rfl, rfl⟩
          · rcases hh with ⟨hje, H2, _⟩ | ⟨hje, V, ⟨H2, _⟩, H3, _⟩
            · have HX : Hid (A = (((s[0]'(by omega)).toNat : Int), 1, 0)) := by show _ = _; rw [H2.out, head_of (by omega)]
              have h1 : (1 : Int) ≤ s.size := by omega
              have h2 := h255 (by omega)
              subst hje
              go_wp2_with (first | (go_at_call 43; (with_reducible refine (H1.out _).mono ?_); rintro e w' ⟨rfl, rfl⟩))
              all_goals
                go_returns
                exact ⟨by rw [HX.out]; rfl, rfl⟩
            · have hx : ((j : Int) == 1) = false := by simp; omega
              go_wp2_with (first | (go_at_call 43; (with_reducible refine (H1.out _).mono ?_); rintro e w' ⟨rfl, rfl⟩) | (go_at_call 44; refine (H3.out _).mono ?_; rintro e w' ⟨rfl, rfl⟩))
              all_goals
                go_returns
                exact ⟨by rw [H2.out]; rfl, rfl⟩
        · have HC := HS2 g1
          rw [g3] at HC
          clear HS2 g3
          rcases hway with ⟨H1, hj⟩ | ⟨hj, ⟨M, ⟨H1, _⟩, hjM, hh⟩ | ⟨⟨H1, _⟩, hh⟩⟩
          · subst hj
            go_wp2_with (first | (go_at_call 43; (with_reducible refine (HC.out _).mono ?_); rintro e w' ⟨rfl, rfl⟩))
            all_goals
              go_returns
              exact ⟨by rw [H1.out]; rfl, rfl⟩
          · have hjM' : (j : Int) < M := by omega
            rcases hh with ⟨hje, H2, _⟩ | ⟨hje, H2, _⟩
            · have hje' : ((j : Int) == (s.size : Int)) = true := by simp [hje]
              have HJE := Lib.hid hje
              clear hje
              go_wp2_with (first | (go_at_call 43; (with_reducible refine (HC.out _).mono ?_); rintro e w' ⟨rfl, rfl⟩) | (go_at_call 43; (with_reducible refine (H1.out _).mono ?_); rintro e w' ⟨rfl, rfl⟩))
              all_goals
                go_returns
                exact ⟨by rw [H2.out]; rfl, rfl⟩
            · have hje' : ((j : Int) == (s.size : Int)) = false := by simp; omega
              clear hje
              go_wp2_with (first | (go_at_call 43; (with_reducible refine (HC.out _).mono ?_); rintro e w' ⟨rfl, rfl⟩) | (go_at_call 43; (with_reducible refine (H1.out _).mono ?_); rintro e w' ⟨rfl, rfl⟩))
              all_goals
                go_returns
                exact ⟨by rw [H2.out]; rfl, rfl⟩
          · rcases hh with ⟨hje, H2, _⟩ | ⟨hje, V, ⟨H2, _⟩, H3, _⟩
            · have HX : Hid (A = (((s[0]'(by omega)).toNat : Int), 1, 0)) := by show _ = _; rw [H2.out, head_of (by omega)]
              have h1 : (1 : Int) ≤ s.size := by omega
              have h2 := h255 (by omega)
              subst hje
              go_wp2_with (first | (go_at_call 43; (with_reducible refine (HC.out _).mono ?_); rintro e w' ⟨rfl, rfl⟩) | (go_at_call 43; (with_reducible refine (H1.out _).mono ?_); rintro e w' ⟨rfl, rfl⟩))
              all_goals
                go_returns
                exact ⟨by rw [HX.out]; rfl, rfl⟩
            · have hx : ((j : Int) == 1) = false := by simp; omega
              go_wp2_with (first | (go_at_call 43; (with_reducible refine (HC.out _).mono ?_); rintro e w' ⟨rfl, rfl⟩) | (go_at_call 43; (with_reducible refine (H1.out _).mono ?_); rintro e w' ⟨rfl, rfl⟩) | (go_at_call 44; refine (H3.out _).mono ?_; rintro e w' ⟨rfl, rfl⟩))
              all_goals
                go_returns
                exact ⟨by rw [H2.out]; rfl, rfl⟩
end Go.Proofs.YtlfhmkjomogkiaaDoor.Utf
