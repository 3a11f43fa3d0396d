/- Walks: utf8.Decode. -/
import Derived.Test.YtlfhmkjomogkiaaDoorUc
import Derived.Test.YtlfhmkjomogkiaaDoorJoin
namespace Go.Proofs.YtlfhmkjomogkiaaDoor.Utf
open Go.RowKit Pl

/-- What Decode answers. -/
def udec (pol : Int) (t : List UInt8) : List Int × List (Nat × Nat) × Int := if 1 ≤ pol ∧ pol ≤ 3 then dec unext pol t else ([], [], 16)
theorem udec_of (pol : Int) (t : List UInt8) (h : 1 ≤ pol ∧ pol ≤ 3) : udec pol t = dec unext pol t := if_pos h
set_option maxRecDepth 100000 in
set_option maxHeartbeats 3200000 in
theorem decode_yes (pol : Int) (p1 : 1 ≤ pol) (p3 : pol ≤ 3) (A : Option Addr) (n c : Nat) (ls : List ByteArray) (w : World) (hRL : RL w) (hR : Rd w A n (strv ls)) (hcap : n ≤ c) (hn : n ≤ 1000000) (hlen : (allB ls).length ≤ 1000000) :
    Calls Tryd.prog 23 #[.int .i64 pol, .slice A n c] w (DecPost w (dec unext pol (allB ls))) := by
  have HN : Hid (∀ s : ByteArray, s.size ≤ maxLen → ∀ w, RL w → _) := fun s hm w h => utfNext_any s hm w h
  have hpos : ∀ t : List UInt8, 0 < t.length → 1 ≤ (unext t).2.1 ∧ (unext t).2.1 ≤ t.length := unext_pos
  generalize unext = nx at *
  have HJ := Lib.hid (join_any A n c ls w hR hcap hn (by omega))
  unfold dec
  have hs : (⟨(allB ls).toArray⟩ : ByteArray).data.toList = allB ls := by simp
  have hsz : (⟨(allB ls).toArray⟩ : ByteArray).size = (allB ls).length := by simp [ByteArray.size]
  generalize hsd : (⟨(allB ls).toArray⟩ : ByteArray) = s at *
  rw [← hs, show s.data.toList.length = s.size from by simp]
  rw [← hsz] at hlen
  obtain ⟨R, hRR⟩ : ∃ R, decL nx pol s.size s.data.toList 0 [] [] = R := ⟨_, rfl⟩
  rw [hRR]
  have HRR := Lib.hid hRR; have HP := Lib.hid hpos; have HRL := Lib.hid hRL
  have hposw := hRL.pos
  clear hRR hpos hs hsz hsd hR hcap hn hRL
  have q1 : decide (pol < 1) = false := by simp; omega
  have q3 : decide (3 < pol) = false := by simp; omega
  go_enter Tryd.func23, Tryd.ntmps23
  go_wp2_with (go_at_call 47; refine HJ.out.mono ?_; rintro e w2 ⟨rfl, hb2⟩)
  have hst0 : St w.heap.size w w2 (.slice none 0 0) [] (.slice none 0 0) [] := (St.start w).below hb2
  clear hb2 HJ q1 q3
  go_loopw [8, 9, 10] (fun vo vb va wr => ∃ (a : Nat) (o : List Int) (b : List (Nat × Nat)), a ≤ s.size ∧ va = .int .i64 a ∧ St w.heap.size w wr vo o vb b ∧
      decL nx pol s.size (s.data.toList.drop a) a o b = R ∧ o.length ≤ a ∧ b.length ≤ a) (fun _ _ va _ => s.size - (intOf va).toNat)
  case atStart => exact ⟨0, [], [], Nat.zero_le _, rfl, hst0, by rw [List.drop_zero]; exact HRR.out, Nat.le_refl _, Nat.le_refl _⟩
  case round =>
    obtain ⟨a, o, b, ha, rfl, hst, hd, hol, hbl⟩ := hrel
    by_cases hlt : a < s.size
    · have hl2 : (s.data.toList.drop a).length = s.size - a := by simp
      have hpp := HP.out (s.data.toList.drop a) (by omega)
      rw [hl2] at hpp
      have hok := decL_ok nx pol (fun t h => (HP.out t h).1) s.size (s.data.toList.drop a) a o b (by omega) (by omega)
      have hmo := decL_more nx pol (fun t h => (HP.out t h).1) s.size (s.data.toList.drop a) a o b (by omega) (by omega)
      have hsr := decL_strict nx s.size (s.data.toList.drop a) a o b (by omega) (by omega)
      have hRLr := HRL.out.since (hst.2.2.1)
      have HN2 := HN.out (s.extract a s.size) (by simp; unfold maxLen; omega) wr hRLr
      rw [Lib.extract_to_end] at HN2
      rw [List.drop_drop, hd] at hok hmo
      generalize nx (s.data.toList.drop a) = x at *
      obtain ⟨r, m, e⟩ := x
      have hm1 : 1 ≤ m := hpp.1
      have hm2 : m ≤ s.size - a := hpp.2
      have HOK := Lib.hid hok; have HMO := Lib.hid hmo; have HSR := Lib.hid hsr; have HN3 := Lib.hid HN2; have HD := Lib.hid hd; have HST := Lib.hid hst
      have j0 : (0 : Int) ≤ (a : Int) := by omega
      have j1 : (a : Int) < (s.size : Int) := by omega
      have j2 : (a : Int) ≤ (s.size : Int) := by omega
      clear hok hmo hsr HN2 hd hst hpp hl2 hRLr
      by_cases he : e = 0
      · subst he
        go_wp2_with fail
        refine HN3.out.mono ?_
        rintro e w2 ⟨he2, hb2⟩
        rw [nextEnd] at he2
        subst he2
        have HSTX := Lib.hid (HST.out.below hb2)
        clear hb2
        go_wp2_with (at_builtin; refine wpList_out w _ rfl _ _ rfl w.heap.size _ _ _ _ rfl HSTX.out r _ rfl (by omega) ?_; intro v3 w3 hst3 hk3)
        go_roundw
        case rel => exact ⟨a + m, o ++ [r], b, by omega, by go_num, hst3, (HOK.out trivial).symm, by simp; omega, by omega⟩
        case measure => simp [intOf]; omega
      · have e1 : (e == 0) = false := by simp [he]
        have e2 : (e != 0) = true := by simp [he]
        have HE := Lib.hid he
        clear he
        rcases (show pol = 1 ∨ pol = 2 ∨ pol = 3 from by omega) with rfl | rfl | rfl
        · clear p1 p3
          go_wp2_with fail
          refine HN3.out.mono ?_
          rintro e w2 ⟨he2, hb2⟩
          rw [nextEnd] at he2
          subst he2
          have HSTX := Lib.hid (HST.out.below hb2)
          clear hb2
          go_wp2_with (at_builtin; refine wpList_bad w _ rfl _ _ rfl w.heap.size _ _ _ _ rfl HSTX.out a m _ rfl (by omega) ?_; intro v4 w4 hst4 hk4)
          go_returns
          have hR : R = (o, b ++ [(a, m)], 17) := by rw [← HD.out]; exact HSR.out HE.out
          exact ⟨_, _, by rw [hR]; rfl, by rw [hR]; exact hst4⟩
        · clear p1 p3
          go_wp2_with fail
          refine HN3.out.mono ?_
          rintro e w2 ⟨he2, hb2⟩
          rw [nextEnd] at he2
          subst he2
          have HSTX := Lib.hid (HST.out.below hb2)
          clear hb2
          go_wp2_with (first | (at_builtin; refine wpList_bad w _ rfl _ _ rfl w.heap.size _ _ _ _ rfl HSTX.out a m _ rfl (by omega) ?_; intro v4 w4 hst4 hk4) | (at_builtin; refine wpList_out w _ rfl _ _ rfl w.heap.size _ _ _ _ rfl hst4 65533 _ rfl (by omega) ?_; intro v3 w3 hst3 hk3))
          go_roundw
          case rel => exact ⟨a + m, o ++ [65533], b ++ [(a, m)], by omega, by go_num, hst3, (HMO.out HE.out (by decide)).symm, by simp; omega, by simp; omega⟩
          case measure => simp [intOf]; omega
        · clear p1 p3
          go_wp2_with fail
          refine HN3.out.mono ?_
          rintro e w2 ⟨he2, hb2⟩
          rw [nextEnd] at he2
          subst he2
          have HSTX := Lib.hid (HST.out.below hb2)
          clear hb2
          go_wp2_with (at_builtin; refine wpList_bad w _ rfl _ _ rfl w.heap.size _ _ _ _ rfl HSTX.out a m _ rfl (by omega) ?_; intro v4 w4 hst4 hk4)
          go_roundw
          case rel => exact ⟨a + m, o, b ++ [(a, m)], by omega, by go_num, hst4, (HMO.out HE.out (by decide)).symm, by omega, by simp; omega⟩
          case measure => simp [intOf]; omega
    · obtain rfl : a = s.size := by omega
      rw [List.drop_of_length_le (by simp), decL_end] at hd
      have HD := Lib.hid hd
      have HST := Lib.hid hst
      clear hd hst
      go_wp2
      go_returns
      exact ⟨_, _, by rw [← HD.out]; rfl, by rw [← HD.out]; exact HST.out⟩
theorem decode_any (pol : Int) (A : Option Addr) (n c : Nat) (ls : List ByteArray) (w : World) (hRL : RL w) (hR : Rd w A n (strv ls)) (hcap : n ≤ c) (hn : n ≤ 1000000) (hlen : (allB ls).length ≤ 1000000) :
    Calls Tryd.prog 23 #[.int .i64 pol, .slice A n c] w (DecPost w (udec pol (allB ls))) := by
  unfold udec
  by_cases hp : 1 ≤ pol ∧ pol ≤ 3
  · rw [if_pos hp]
    exact decode_yes pol hp.1 hp.2 A n c ls w hRL hR hcap hn hlen
  · rw [if_neg hp]
    clear hR
    rcases (show pol < 1 ∨ 3 < pol from by omega) with h | h
    · clear hp
      go_enter Tryd.func23, Tryd.ntmps23
      go_wp2
      go_returns
      exact ⟨_, _, rfl, St.start w⟩
    · have h' : decide (pol < 1) = false := by simp; omega
      clear hp
      go_enter Tryd.func23, Tryd.ntmps23
      go_wp2
      go_returns
      exact ⟨_, _, rfl, St.start w⟩
end Go.Proofs.YtlfhmkjomogkiaaDoor.Utf
