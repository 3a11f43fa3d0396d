/- Walks: inkhornref01.Decode. -/
import Derived.Test.YtlfhmkjomogkiaaDoorUe
import Derived.Test.YtlfhmkjomogkiaaDoorJoin
namespace Go.Proofs.YtlfhmkjomogkiaaDoor.Utf
open Go.RowKit Pl

set_option maxRecDepth 100000 in
set_option maxHeartbeats 3200000 in
theorem refDecode_yes (pol : Int) (p1 : 1 ≤ pol) (p3 : pol ≤ 3) (s : ByteArray) (hlen : s.size ≤ 1000000) (w : World) :
    Calls Tryd.prog 26 #[.int .i64 pol, .string s] w (DecPost w (dec unext pol s.data.toList)) := by
  have HN := Lib.hid (fun (s : ByteArray) hm => refNext_any s hm)
  have hpos : ∀ t : List UInt8, 0 < t.length → 1 ≤ (unext t).2.1 ∧ (unext t).2.1 ≤ t.length := unext_pos
  generalize unext = nx at *
  unfold dec
  rw [show s.data.toList.length = s.size from by simp]
  obtain ⟨R, hRR⟩ : ∃ R, decL nx pol s.size s.data.toList 0 [] [] = R := ⟨_, rfl⟩
  rw [hRR]
  have HRR := Lib.hid hRR; have HP := Lib.hid hpos
  have hst0 := St.start w
  clear hRR hpos
  have q1 : decide (pol < 1) = false := by simp; omega
  have q3 : decide (3 < pol) = false := by simp; omega
  go_enter Tryd.func26, Tryd.ntmps26
  go_wp2
  clear q1 q3
  go_loopw [7, 8, 9] (fun vo vb va wr => ∃ (a : Nat) (o : List Int) (b : List (Nat × Nat)), a ≤ s.size ∧ va = .int .i64 a ∧ St w.heap.size w wr vo o vb b ∧
      decL nx pol s.size (s.data.toList.drop a) a o b = R ∧ o.length ≤ a ∧ b.length ≤ a) (fun _ _ va _ => s.size - (intOf va).toNat)
  case atStart => exact ⟨0, [], [], Nat.zero_le _, rfl, hst0, by rw [List.drop_zero]; exact HRR.out, Nat.le_refl _, Nat.le_refl _⟩
  case round =>
    obtain ⟨a, o, b, ha, rfl, hst, hd, hol, hbl⟩ := hrel
    by_cases hlt : a < s.size
    · have hl2 : (s.data.toList.drop a).length = s.size - a := by simp
      have hpp := HP.out (s.data.toList.drop a) (by omega)
      rw [hl2] at hpp
      have hok := decL_ok nx pol (fun t h => (HP.out t h).1) s.size (s.data.toList.drop a) a o b (by omega) (by omega)
      have hmo := decL_more nx pol (fun t h => (HP.out t h).1) s.size (s.data.toList.drop a) a o b (by omega) (by omega)
      have hsr := decL_strict nx s.size (s.data.toList.drop a) a o b (by omega) (by omega)
      have HN2 := HN.out (s.extract a s.size) (by simp; unfold maxLen; omega)
      rw [Lib.extract_to_end] at HN2
      rw [List.drop_drop, hd] at hok hmo
      generalize nx (s.data.toList.drop a) = x at *
      obtain ⟨r, m, e⟩ := x
      have hm1 : 1 ≤ m := hpp.1
      have hm2 : m ≤ s.size - a := hpp.2
      have HOK := Lib.hid hok; have HMO := Lib.hid hmo; have HSR := Lib.hid hsr; have HN3 := Lib.hid HN2; have HD := Lib.hid hd; have HST := Lib.hid hst
      have j0 : (0 : Int) ≤ (a : Int) := by omega
      have j1 : (a : Int) < (s.size : Int) := by omega
      have j2 : (a : Int) ≤ (s.size : Int) := by omega
      clear hok hmo hsr HN2 hd hst hpp hl2
      by_cases he : e = 0
      · subst he
        go_wp2_with (first | (go_at_call 18; refine (HN3.out _).mono ?_; rintro e w2 ⟨he2, rfl⟩; rw [nextEnd] at he2; subst he2; have HSTX := HST) | (at_builtin; refine wpList_out w _ rfl _ _ rfl w.heap.size _ _ _ _ rfl HSTX.out r _ rfl (by omega) ?_; intro v3 w3 hst3 hk3))
        go_roundw
        case rel => exact ⟨a + m, o ++ [r], b, by omega, by go_num, hst3, (HOK.out trivial).symm, by simp; omega, by omega⟩
        case measure => simp [intOf]; omega
      · have e1 : (e == 0) = false := by simp [he]
        have e2 : (e != 0) = true := by simp [he]
        have HE := Lib.hid he
        clear he
        rcases (show pol = 1 ∨ pol = 2 ∨ pol = 3 from by omega) with rfl | rfl | rfl
        · clear p1 p3
          go_wp2_with (first | (go_at_call 18; refine (HN3.out _).mono ?_; rintro e w2 ⟨he2, rfl⟩; rw [nextEnd] at he2; subst he2; have HSTX := HST) | (at_builtin; refine wpList_bad w _ rfl _ _ rfl w.heap.size _ _ _ _ rfl HSTX.out a m _ rfl (by omega) ?_; intro v4 w4 hst4 hk4))
          go_returns
          have hR : R = (o, b ++ [(a, m)], 17) := by rw [← HD.out]; exact HSR.out HE.out
          exact ⟨_, _, by rw [hR]; rfl, by rw [hR]; exact hst4⟩
        · clear p1 p3
          go_wp2_with (first | (go_at_call 18; refine (HN3.out _).mono ?_; rintro e w2 ⟨he2, rfl⟩; rw [nextEnd] at he2; subst he2; have HSTX := HST) | (at_builtin; refine wpList_bad w _ rfl _ _ rfl w.heap.size _ _ _ _ rfl HSTX.out a m _ rfl (by omega) ?_; intro v4 w4 hst4 hk4) | (at_builtin; refine wpList_out w _ rfl _ _ rfl w.heap.size _ _ _ _ rfl hst4 65533 _ rfl (by omega) ?_; intro v3 w3 hst3 hk3))
          go_roundw
          case rel => exact ⟨a + m, o ++ [65533], b ++ [(a, m)], by omega, by go_num, hst3, (HMO.out HE.out (by decide)).symm, by simp; omega, by simp; omega⟩
          case measure => simp [intOf]; omega
        · clear p1 p3
          go_wp2_with (first | (go_at_call 18; refine (HN3.out _).mono ?_; rintro e w2 ⟨he2, rfl⟩; rw [nextEnd] at he2; subst he2; have HSTX := HST) | (at_builtin; refine wpList_bad w _ rfl _ _ rfl w.heap.size _ _ _ _ rfl HSTX.out a m _ rfl (by omega) ?_; intro v4 w4 hst4 hk4))
          go_roundw
          case rel => exact ⟨a + m, o, b ++ [(a, m)], by omega, by go_num, hst4, (HMO.out HE.out (by decide)).symm, by omega, by simp; omega⟩
          case measure => simp [intOf]; omega
    · obtain rfl : a = s.size := by omega
      rw [List.drop_of_length_le (by simp), decL_end] at hd
      have HD := Lib.hid hd
      have HST := Lib.hid hst
      clear hd hst
      go_wp2
      go_returns
      exact ⟨_, _, by rw [← HD.out]; rfl, by rw [← HD.out]; exact HST.out⟩

theorem refDecode_no (pol : Int) (hp : ¬ (1 ≤ pol ∧ pol ≤ 3)) (s : ByteArray) (w : World) :
    Calls Tryd.prog 26 #[.int .i64 pol, .string s] w (DecPost w ([], [], 16)) := by
  rcases (show pol < 1 ∨ 3 < pol from by omega) with h | h
  · clear hp
    go_enter Tryd.func26, Tryd.ntmps26
    go_wp2
    go_returns
    exact ⟨_, _, rfl, St.start w⟩
  · have h' : decide (pol < 1) = false := by simp; omega
    clear hp
    go_enter Tryd.func26, Tryd.ntmps26
    go_wp2
    go_returns
    exact ⟨_, _, rfl, St.start w⟩
theorem refDecode_any (pol : Int) (s : ByteArray) (hlen : s.size ≤ 1000000) (w : World) :
    Calls Tryd.prog 26 #[.int .i64 pol, .string s] w (DecPost w (if 1 ≤ pol ∧ pol ≤ 3 then dec unext pol s.data.toList else ([], [], 16))) := by
  by_cases hp : 1 ≤ pol ∧ pol ≤ 3
  · rw [if_pos hp]
    exact refDecode_yes pol hp.1 hp.2 s hlen w
  · rw [if_neg hp]
    exact refDecode_no pol hp s w
end Go.Proofs.YtlfhmkjomogkiaaDoor.Utf
