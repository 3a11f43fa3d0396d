/- Walks: inkhornref01.least, Starts, Next. -/
import Derived.Test.YtlfhmkjomogkiaaDoorUc
import Derived.Test.YtlfhmkjomogkiaaDoorU3
namespace Go.Proofs.YtlfhmkjomogkiaaDoor.Utf
open Go.RowKit Pl

theorem nats_length (l : List UInt8) : (nats l).length = l.length := by simp [nats]
theorem nats_drop (l : List UInt8) (k : Nat) : (nats l).drop k = nats (l.drop k) := by simp [nats]
theorem leastGo_end (t : List Nat) (n h : Int) : leastGo t 0 n h = some (n, h) := by cases t <;> rfl
theorem leastGo_nil (k : Nat) (n h : Int) : leastGo [] (k + 1) n h = leastGo [] k (n * 64) (h * 64 + 63) := rfl
theorem leastGo_cons (c : Nat) (t : List Nat) (k : Nat) (n h : Int) : leastGo (c :: t) (k + 1) n h = if (c : Int) - 128 < 0 ∨ 63 < (c : Int) - 128 then none else leastGo t k (n * 64 + ((c : Int) - 128)) (h * 64 + ((c : Int) - 128)) := rfl
theorem ret32 {a b : Int} (h : a = b) : Ending.returned (.int .i32 a) = .returned (.int .i32 b) := by rw [h]
/-- The state of the loop over the bytes behind the first one. -/
def LeastSt (X : Option (Int × Int)) (l : List UInt8) (many : Nat) (a b i : Value) : Prop :=
  ∃ (k : Nat) (n h : Int), 1 ≤ k ∧ k ≤ many ∧ i = .int .i64 k ∧ a = .int .i64 n ∧ b = .int .i64 h ∧ 0 ≤ n ∧ n ≤ h ∧ ((k = 1 ∧ h ≤ 31) ∨ (k = 2 ∧ h ≤ 2047) ∨ (k = 3 ∧ h ≤ 131071) ∨ (k = 4 ∧ h ≤ 8388607)) ∧
    leastGo (nats (l.drop k)) (many - k) n h = X
def leastRet (X : Option (Int × Int)) (many : Nat) : Int := match X with | none => -1 | some (n, h) => leastOf (max n (leastLo many)) (min h (leastHi many))
theorem leastV_eq (b : Nat) (t : List Nat) (many : Nat) : leastV b t many = leastRet (leastGo t (many - 1) (leastFirst b many) (leastFirst b many)) many := rfl
set_option maxRecDepth 100000 in
set_option maxHeartbeats 3200000 in
theorem least_2 (s : ByteArray) (hm0 : s.size ≤ maxLen) (h0 : 0 < s.size) (b1 : 192 ≤ s[0].toNat) (b2 : s[0].toNat ≤ 223) (w : World) :
    Calls Tryd.prog 44 #[.string s, .int .i64 2] w fun e w' => e = .returned (.int .i32 (leastV s[0].toNat (nats (s.data.toList.drop 1)) 2)) ∧ w = w' := by
  have hl : s.data.toList.length = s.size := by simp
  have hm := hm0
  unfold maxLen at hm
  rw [leastV_eq]
  obtain ⟨X, hX⟩ : ∃ X, leastGo (nats (s.data.toList.drop 1)) (2 - 1) (leastFirst s[0].toNat 2) (leastFirst s[0].toNat 2) = X := ⟨_, rfl⟩
  rw [hX]
  have HX := Lib.hid hX
  have HL := Lib.hid hl
  clear hX hl
  have i1 : (192 : Int) ≤ s[0].toNat := by omega
  have i2 : (s[0].toNat : Int) ≤ 223 := by omega
  clear b1 b2
  go_enter Tryd.func44, Tryd.ntmps44
  go_wp2
  go_loop [5, 6, 7] (LeastSt X s.data.toList 2) (fun _ _ i => 2 - (intOf i).toNat)
  case atStart => exact ⟨1, (s[0].toNat : Int) - 192, (s[0].toNat : Int) - 192, by omega, by omega, rfl, rfl, rfl, by omega, by omega, .inl ⟨rfl, by omega⟩, HX.out⟩
  case round =>
    obtain ⟨k, n, h, hk1, hk2, rfl, rfl, rfl, hn, hnh, hbd, hgo⟩ := hrel
    have HG := Lib.hid hgo
    clear hgo
    have hh : h ≤ 8388607 := by omega
    by_cases hlt : k < 2
    · obtain ⟨j, hj⟩ : ∃ j, 2 - k = j + 1 := ⟨2 - k - 1, by omega⟩
      have hj2 : j = 2 - (k + 1) := by omega
      by_cases hks : k < s.size
      · have hdrop : s.data.toList.drop k = s[k] :: s.data.toList.drop (k + 1) := by
          rw [List.drop_eq_getElem_cons (by rw [HL.out]; exact hks), byte_at s k hks]
        have hg := HG.out
        rw [hdrop, hj, hj2] at hg
        rw [show nats (s[k] :: s.data.toList.drop (k + 1)) = s[k].toNat :: nats (s.data.toList.drop (k + 1)) from rfl, leastGo_cons] at hg
        have hc255 : (s[k].toNat : Int) ≤ 255 := by have := s[k].toNat_lt; omega
        have HH := Lib.hid hg
        clear hg hdrop hj hj2
        by_cases hc : (s[k].toNat : Int) < 128 ∨ 191 < (s[k].toNat : Int)
        · have HR : Hid (X = none) := by
            have h := HH.out
            rw [if_pos (by omega)] at h
            exact h.symm
          rcases hc with hc | hc
          all_goals
            go_wp2
            go_returns
            exact ⟨by rw [HR.out]; rfl, rfl⟩
        · have HT : Hid (leastGo (nats (s.data.toList.drop (k + 1))) (2 - (k + 1)) (n * 64 + ((s[k].toNat : Int) - 128)) (h * 64 + ((s[k].toNat : Int) - 128)) = X) := by
            have h := HH.out
            rw [if_neg (by omega)] at h
            exact h
          have c1 : 128 ≤ (s[k].toNat : Int) := by omega
          have c2 : (s[k].toNat : Int) ≤ 191 := by omega
          clear hc
          go_wp2
          go_round
          case rel => exact ⟨k + 1, n * 64 + ((s[k].toNat : Int) - 128), h * 64 + ((s[k].toNat : Int) - 128), by omega, by omega, by go_num, by go_num, by go_num, by omega, by omega, by omega, HT.out⟩
          case measure => simp [intOf]; omega
      · have HT : Hid (leastGo (nats (s.data.toList.drop (k + 1))) (2 - (k + 1)) (n * 64) (h * 64 + 63) = X) := by
          have hg := HG.out
          rw [List.drop_of_length_le (by rw [HL.out]; omega), hj, show nats [] = [] from rfl, leastGo_nil, hj2] at hg
          rw [List.drop_of_length_le (by rw [HL.out]; omega)]
          exact hg
        clear hj hj2
        go_wp2
        go_round
        case rel => exact ⟨k + 1, n * 64, h * 64 + 63, by omega, by omega, by go_num, by go_num, by go_num, by omega, by omega, by omega, HT.out⟩
        case measure => simp [intOf]; omega
    · obtain rfl : k = 2 := by omega
      have HR : Hid (X = some (n, h)) := by
        have h := HG.out
        rw [Nat.sub_self, leastGo_end] at h
        exact h.symm
      clear hbd hlt hk1 hk2
      have HV : Hid (leastRet X 2 = leastOf (max n 128) (min h 2047)) := by show _ = _; rw [HR.out]; rfl
      clear HG HR HX
      go_wp2
      all_goals
        go_returns
        exact ⟨ret32 (by rw [HV.out]; unfold leastOf; (repeat' split) <;> omega), rfl⟩
set_option maxRecDepth 100000 in
set_option maxHeartbeats 3200000 in
theorem least_3 (s : ByteArray) (hm0 : s.size ≤ maxLen) (h0 : 0 < s.size) (b1 : 224 ≤ s[0].toNat) (b2 : s[0].toNat ≤ 239) (w : World) :
    Calls Tryd.prog 44 #[.string s, .int .i64 3] w fun e w' => e = .returned (.int .i32 (leastV s[0].toNat (nats (s.data.toList.drop 1)) 3)) ∧ w = w' := by
  have hl : s.data.toList.length = s.size := by simp
  have hm := hm0
  unfold maxLen at hm
  rw [leastV_eq]
  obtain ⟨X, hX⟩ : ∃ X, leastGo (nats (s.data.toList.drop 1)) (3 - 1) (leastFirst s[0].toNat 3) (leastFirst s[0].toNat 3) = X := ⟨_, rfl⟩
  rw [hX]
  have HX := Lib.hid hX
  have HL := Lib.hid hl
  clear hX hl
  have i1 : (224 : Int) ≤ s[0].toNat := by omega
  have i2 : (s[0].toNat : Int) ≤ 239 := by omega
  clear b1 b2
  go_enter Tryd.func44, Tryd.ntmps44
  go_wp2
  go_loop [5, 6, 7] (LeastSt X s.data.toList 3) (fun _ _ i => 3 - (intOf i).toNat)
  case atStart => exact ⟨1, (s[0].toNat : Int) - 224, (s[0].toNat : Int) - 224, by omega, by omega, rfl, rfl, rfl, by omega, by omega, .inl ⟨rfl, by omega⟩, HX.out⟩
  case round =>
    obtain ⟨k, n, h, hk1, hk2, rfl, rfl, rfl, hn, hnh, hbd, hgo⟩ := hrel
    have HG := Lib.hid hgo
    clear hgo
    have hh : h ≤ 8388607 := by omega
    by_cases hlt : k < 3
    · obtain ⟨j, hj⟩ : ∃ j, 3 - k = j + 1 := ⟨3 - k - 1, by omega⟩
      have hj2 : j = 3 - (k + 1) := by omega
      by_cases hks : k < s.size
      · have hdrop : s.data.toList.drop k = s[k] :: s.data.toList.drop (k + 1) := by
          rw [List.drop_eq_getElem_cons (by rw [HL.out]; exact hks), byte_at s k hks]
        have hg := HG.out
        rw [hdrop, hj, hj2] at hg
        rw [show nats (s[k] :: s.data.toList.drop (k + 1)) = s[k].toNat :: nats (s.data.toList.drop (k + 1)) from rfl, leastGo_cons] at hg
        have hc255 : (s[k].toNat : Int) ≤ 255 := by have := s[k].toNat_lt; omega
        have HH := Lib.hid hg
        clear hg hdrop hj hj2
        by_cases hc : (s[k].toNat : Int) < 128 ∨ 191 < (s[k].toNat : Int)
        · have HR : Hid (X = none) := by
            have h := HH.out
            rw [if_pos (by omega)] at h
            exact h.symm
          rcases hc with hc | hc
          all_goals
            go_wp2
            go_returns
            exact ⟨by rw [HR.out]; rfl, rfl⟩
        · have HT : Hid (leastGo (nats (s.data.toList.drop (k + 1))) (3 - (k + 1)) (n * 64 + ((s[k].toNat : Int) - 128)) (h * 64 + ((s[k].toNat : Int) - 128)) = X) := by
            have h := HH.out
            rw [if_neg (by omega)] at h
            exact h
          have c1 : 128 ≤ (s[k].toNat : Int) := by omega
          have c2 : (s[k].toNat : Int) ≤ 191 := by omega
          clear hc
          go_wp2
          go_round
          case rel => exact ⟨k + 1, n * 64 + ((s[k].toNat : Int) - 128), h * 64 + ((s[k].toNat : Int) - 128), by omega, by omega, by go_num, by go_num, by go_num, by omega, by omega, by omega, HT.out⟩
          case measure => simp [intOf]; omega
      · have HT : Hid (leastGo (nats (s.data.toList.drop (k + 1))) (3 - (k + 1)) (n * 64) (h * 64 + 63) = X) := by
          have hg := HG.out
          rw [List.drop_of_length_le (by rw [HL.out]; omega), hj, show nats [] = [] from rfl, leastGo_nil, hj2] at hg
          rw [List.drop_of_length_le (by rw [HL.out]; omega)]
          exact hg
        clear hj hj2
        go_wp2
        go_round
        case rel => exact ⟨k + 1, n * 64, h * 64 + 63, by omega, by omega, by go_num, by go_num, by go_num, by omega, by omega, by omega, HT.out⟩
        case measure => simp [intOf]; omega
    · obtain rfl : k = 3 := by omega
      have HR : Hid (X = some (n, h)) := by
        have h := HG.out
        rw [Nat.sub_self, leastGo_end] at h
        exact h.symm
      clear hbd hlt hk1 hk2
      have HV : Hid (leastRet X 3 = leastOf (max n 2048) (min h 65535)) := by show _ = _; rw [HR.out]; rfl
      clear HG HR HX
      go_wp2
      all_goals
        go_returns
        exact ⟨ret32 (by rw [HV.out]; unfold leastOf; (repeat' split) <;> omega), rfl⟩
set_option maxRecDepth 100000 in
set_option maxHeartbeats 3200000 in
theorem least_4 (s : ByteArray) (hm0 : s.size ≤ maxLen) (h0 : 0 < s.size) (b1 : 240 ≤ s[0].toNat) (b2 : s[0].toNat ≤ 247) (w : World) :
    Calls Tryd.prog 44 #[.string s, .int .i64 4] w fun e w' => e = .returned (.int .i32 (leastV s[0].toNat (nats (s.data.toList.drop 1)) 4)) ∧ w = w' := by
  have hl : s.data.toList.length = s.size := by simp
  have hm := hm0
  unfold maxLen at hm
  rw [leastV_eq]
  obtain ⟨X, hX⟩ : ∃ X, leastGo (nats (s.data.toList.drop 1)) (4 - 1) (leastFirst s[0].toNat 4) (leastFirst s[0].toNat 4) = X := ⟨_, rfl⟩
  rw [hX]
  have HX := Lib.hid hX
  have HL := Lib.hid hl
  clear hX hl
  have i1 : (240 : Int) ≤ s[0].toNat := by omega
  have i2 : (s[0].toNat : Int) ≤ 247 := by omega
  clear b1 b2
  go_enter Tryd.func44, Tryd.ntmps44
  go_wp2
  go_loop [5, 6, 7] (LeastSt X s.data.toList 4) (fun _ _ i => 4 - (intOf i).toNat)
  case atStart => exact ⟨1, (s[0].toNat : Int) - 240, (s[0].toNat : Int) - 240, by omega, by omega, rfl, rfl, rfl, by omega, by omega, .inl ⟨rfl, by omega⟩, HX.out⟩
  case round =>
    obtain ⟨k, n, h, hk1, hk2, rfl, rfl, rfl, hn, hnh, hbd, hgo⟩ := hrel
    have HG := Lib.hid hgo
    clear hgo
    have hh : h ≤ 8388607 := by omega
    by_cases hlt : k < 4
    · obtain ⟨j, hj⟩ : ∃ j, 4 - k = j + 1 := ⟨4 - k - 1, by omega⟩
      have hj2 : j = 4 - (k + 1) := by omega
      by_cases hks : k < s.size
      · have hdrop : s.data.toList.drop k = s[k] :: s.data.toList.drop (k + 1) := by
          rw [List.drop_eq_getElem_cons (by rw [HL.out]; exact hks), byte_at s k hks]
        have hg := HG.out
        rw [hdrop, hj, hj2] at hg
        rw [show nats (s[k] :: s.data.toList.drop (k + 1)) = s[k].toNat :: nats (s.data.toList.drop (k + 1)) from rfl, leastGo_cons] at hg
        have hc255 : (s[k].toNat : Int) ≤ 255 := by have := s[k].toNat_lt; omega
        have HH := Lib.hid hg
        clear hg hdrop hj hj2
        by_cases hc : (s[k].toNat : Int) < 128 ∨ 191 < (s[k].toNat : Int)
        · have HR : Hid (X = none) := by
            have h := HH.out
            rw [if_pos (by omega)] at h
            exact h.symm
          rcases hc with hc | hc
          all_goals
            go_wp2
            go_returns
            exact ⟨by rw [HR.out]; rfl, rfl⟩
        · have HT : Hid (leastGo (nats (s.data.toList.drop (k + 1))) (4 - (k + 1)) (n * 64 + ((s[k].toNat : Int) - 128)) (h * 64 + ((s[k].toNat : Int) - 128)) = X) := by
            have h := HH.out
            rw [if_neg (by omega)] at h
            exact h
          have c1 : 128 ≤ (s[k].toNat : Int) := by omega
          have c2 : (s[k].toNat : Int) ≤ 191 := by omega
          clear hc
          go_wp2
          go_round
          case rel => exact ⟨k + 1, n * 64 + ((s[k].toNat : Int) - 128), h * 64 + ((s[k].toNat : Int) - 128), by omega, by omega, by go_num, by go_num, by go_num, by omega, by omega, by omega, HT.out⟩
          case measure => simp [intOf]; omega
      · have HT : Hid (leastGo (nats (s.data.toList.drop (k + 1))) (4 - (k + 1)) (n * 64) (h * 64 + 63) = X) := by
          have hg := HG.out
          rw [List.drop_of_length_le (by rw [HL.out]; omega), hj, show nats [] = [] from rfl, leastGo_nil, hj2] at hg
          rw [List.drop_of_length_le (by rw [HL.out]; omega)]
          exact hg
        clear hj hj2
        go_wp2
        go_round
        case rel => exact ⟨k + 1, n * 64, h * 64 + 63, by omega, by omega, by go_num, by go_num, by go_num, by omega, by omega, by omega, HT.out⟩
        case measure => simp [intOf]; omega
    · obtain rfl : k = 4 := by omega
      have HR : Hid (X = some (n, h)) := by
        have h := HG.out
        rw [Nat.sub_self, leastGo_end] at h
        exact h.symm
      clear hbd hlt hk1 hk2
      have HV : Hid (leastRet X 4 = leastOf (max n 65536) (min h 1114111)) := by show _ = _; rw [HR.out]; rfl
      clear HG HR HX
      go_wp2
      all_goals
        go_returns
        exact ⟨ret32 (by rw [HV.out]; unfold leastOf; (repeat' split) <;> omega), rfl⟩
/- (least ends) -/
theorem starts_nats {s : ByteArray} (h : 0 < s.size) : starts (nats s.data.toList) = if uMany s[0].toNat = 0 ∨ uMany s[0].toNat < s.size ∨ (1 < uMany s[0].toNat ∧ leastV s[0].toNat (nats (s.data.toList.drop 1)) (uMany s[0].toNat) < 0) then 0 else uMany s[0].toNat := by
  have hl : (nats (s.data.toList.drop 1)).length + 1 = s.size := by rw [nats_length, List.length_drop, show s.data.toList.length = s.size from by simp]; omega
  conv => lhs; rw [is_cons h]
  show starts (s[0].toNat :: nats (s.data.toList.drop 1)) = _
  rw [starts_cons, hl]
/-- What Starts answers. -/
theorem ret64 {a b : Int} (h : a = b) : Ending.returned (.int .i64 a) = .returned (.int .i64 b) := by rw [h]
set_option maxRecDepth 100000 in
set_option maxHeartbeats 3200000 in
theorem starts_any (s : ByteArray) (hm : s.size ≤ maxLen) (h0 : 0 < s.size) (w : World) :
    Calls Tryd.prog 43 #[.string s] w fun e w' => e = .returned (.int .i64 (starts (nats s.data.toList))) ∧ w = w' := by
  rw [starts_nats h0]
  have H2 := fun h1 h2 => Lib.hid (fun w => least_2 s hm h0 h1 h2 w)
  have H3 := fun h1 h2 => Lib.hid (fun w => least_3 s hm h0 h1 h2 w)
  have H4 := fun h1 h2 => Lib.hid (fun w => least_4 s hm h0 h1 h2 w)
  have h255 : (s[0].toNat : Int) ≤ 255 := by have := s[0].toNat_lt; omega
  unfold maxLen at hm
  rcases uMany_cases s[0].toNat with ⟨hz, h⟩ | ⟨hz, h, _⟩ | ⟨hz, h, h2, _⟩ | ⟨hz, h, h2, _⟩ | ⟨hz, h, h2, _⟩
  · rw [if_pos (.inl hz)]
    clear H2 H3 H4 hz
    rcases h with ⟨h1, h2⟩ | h1
    · have i1 : (128 : Int) ≤ s[0].toNat := by omega
      have i2 : (s[0].toNat : Int) ≤ 191 := by omega
      clear h1 h2
      go_enter Tryd.func43, Tryd.ntmps43
      go_wp2
      go_returns
      exact ⟨rfl, rfl⟩
    · have i1 : (248 : Int) ≤ s[0].toNat := by omega
      clear h1
      go_enter Tryd.func43, Tryd.ntmps43
      go_wp2
      go_returns
      exact ⟨rfl, rfl⟩
  · have i2 : (s[0].toNat : Int) ≤ 127 := by omega
    have HV : Hid ((if uMany s[0].toNat = 0 ∨ uMany s[0].toNat < s.size ∨ (1 < uMany s[0].toNat ∧ leastV s[0].toNat (nats (s.data.toList.drop 1)) (uMany s[0].toNat) < 0) then 0 else uMany s[0].toNat) = if 1 < s.size then 0 else 1) := by
      show _ = _
      rw [hz]
      by_cases h1 : 1 < s.size
      · rw [if_pos h1, if_pos (.inr (.inl h1))]
      · rw [if_neg h1, if_neg (by omega)]
    rw [HV.out]
    clear H2 H3 H4 hz h HV
    by_cases h1 : 1 < s.size
    · rw [if_pos h1]
      go_enter Tryd.func43, Tryd.ntmps43
      go_wp2
      go_returns
      exact ⟨rfl, rfl⟩
    · rw [if_neg h1]
      go_enter Tryd.func43, Tryd.ntmps43
      go_wp2
      go_returns
      exact ⟨rfl, rfl⟩
  · have i1 : (192 : Int) ≤ s[0].toNat := by omega
    have i2 : (s[0].toNat : Int) ≤ 223 := by omega
    have HC := H2 (by omega) (by omega)
    rw [hz]
    obtain ⟨V, hV⟩ : ∃ V, leastV s[0].toNat (nats (s.data.toList.drop 1)) 2 = V := ⟨_, rfl⟩
    rw [hV] at HC ⊢
    clear H2 H3 H4 hz h h2 hV
    by_cases h1 : 2 < s.size
    · rw [if_pos (.inr (.inl h1))]
      clear HC
      go_enter Tryd.func43, Tryd.ntmps43
      go_wp2
      go_returns
      exact ⟨rfl, rfl⟩
    · by_cases hv : V < 0
      · rw [if_pos (.inr (.inr ⟨by decide, hv⟩))]
        go_enter Tryd.func43, Tryd.ntmps43
        go_wp2_with (go_at_call 44; refine (HC.out _).mono ?_; rintro e w' ⟨rfl, rfl⟩)
        go_returns
        exact ⟨rfl, rfl⟩
      · rw [if_neg (by omega)]
        go_enter Tryd.func43, Tryd.ntmps43
        go_wp2_with (go_at_call 44; refine (HC.out _).mono ?_; rintro e w' ⟨rfl, rfl⟩)
        go_returns
        exact ⟨rfl, rfl⟩
  · have i1 : (224 : Int) ≤ s[0].toNat := by omega
    have i2 : (s[0].toNat : Int) ≤ 239 := by omega
    have HC := H3 (by omega) (by omega)
    rw [hz]
    obtain ⟨V, hV⟩ : ∃ V, leastV s[0].toNat (nats (s.data.toList.drop 1)) 3 = V := ⟨_, rfl⟩
    rw [hV] at HC ⊢
    clear H2 H3 H4 hz h h2 hV
    by_cases h1 : 3 < s.size
    · rw [if_pos (.inr (.inl h1))]
      clear HC
      go_enter Tryd.func43, Tryd.ntmps43
      go_wp2
      go_returns
      exact ⟨rfl, rfl⟩
    · by_cases hv : V < 0
      · rw [if_pos (.inr (.inr ⟨by decide, hv⟩))]
        go_enter Tryd.func43, Tryd.ntmps43
        go_wp2_with (go_at_call 44; refine (HC.out _).mono ?_; rintro e w' ⟨rfl, rfl⟩)
        go_returns
        exact ⟨rfl, rfl⟩
      · rw [if_neg (by omega)]
        go_enter Tryd.func43, Tryd.ntmps43
        go_wp2_with (go_at_call 44; refine (HC.out _).mono ?_; rintro e w' ⟨rfl, rfl⟩)
        go_returns
        exact ⟨rfl, rfl⟩
  · have i1 : (240 : Int) ≤ s[0].toNat := by omega
    have i2 : (s[0].toNat : Int) ≤ 247 := by omega
    have HC := H4 (by omega) (by omega)
    rw [hz]
    obtain ⟨V, hV⟩ : ∃ V, leastV s[0].toNat (nats (s.data.toList.drop 1)) 4 = V := ⟨_, rfl⟩
    rw [hV] at HC ⊢
    clear H2 H3 H4 hz h h2 hV
    by_cases h1 : 4 < s.size
    · rw [if_pos (.inr (.inl h1))]
      clear HC
      go_enter Tryd.func43, Tryd.ntmps43
      go_wp2
      go_returns
      exact ⟨rfl, rfl⟩
    · by_cases hv : V < 0
      · rw [if_pos (.inr (.inr ⟨by decide, hv⟩))]
        go_enter Tryd.func43, Tryd.ntmps43
        go_wp2_with (go_at_call 44; refine (HC.out _).mono ?_; rintro e w' ⟨rfl, rfl⟩)
        go_returns
        exact ⟨rfl, rfl⟩
      · rw [if_neg (by omega)]
        go_enter Tryd.func43, Tryd.ntmps43
        go_wp2_with (go_at_call 44; refine (HC.out _).mono ?_; rintro e w' ⟨rfl, rfl⟩)
        go_returns
        exact ⟨rfl, rfl⟩
end Go.Proofs.YtlfhmkjomogkiaaDoor.Utf
