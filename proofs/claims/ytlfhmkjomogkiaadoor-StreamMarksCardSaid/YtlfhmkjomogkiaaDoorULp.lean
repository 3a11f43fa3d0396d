/- The statement UtfParts: its walk. -/
import Derived.Test.YtlfhmkjomogkiaaDoorULd
import Derived.Test.YtlfhmkjomogkiaaDoorU5
import Derived.Deep.RegionHeld3
namespace Go.Proofs.YtlfhmkjomogkiaaDoor.Utf
open Go.RowKit Pl

/-- Bytes parted at a place. -/
theorem udec_parted (pol : Int) (s : ByteArray) (a : Nat) (T : TypeId) (hs : s.size ≤ 1000000) (w : World) (hRL : RL w) :
    Calls Tryd.prog 23 #[.int .i64 pol, .slice (some ⟨w.heap.size, 0, none⟩) 2 2] (w.alloc (.cells #[.string (s.extract 0 a), .string (s.extract a s.size)] T)).drew
      (DecPost (w.alloc (.cells #[.string (s.extract 0 a), .string (s.extract a s.size)] T)).drew (udec pol s.data.toList)) := by
  have he : allB [s.extract 0 a, s.extract a s.size] = s.data.toList := by
    simp only [allB, List.flatMap_cons, List.flatMap_nil]
    rw [Lib.extract_to_end, List.append_nil]
    rw [show (s.extract 0 a).data.toList = s.data.toList.take a from by simp [ByteArray.data_extract]]
    rw [List.take_append_drop]
  have h := decode_any pol (some ⟨w.heap.size, 0, none⟩) 2 2 [s.extract 0 a, s.extract a s.size] (w.alloc (.cells #[.string (s.extract 0 a), .string (s.extract a s.size)] T)).drew
    (hRL.since (((Below.refl w.heap.size w).alloc (Nat.le_refl _) _).drew)) (Rd.of_new w T [.string (s.extract 0 a), .string (s.extract a s.size)] 2 rfl) (Nat.le_refl _) (by decide) (by rw [he]; simpa using hs)
  rwa [he] at h
theorem cell2 {w w1 : World} {a b : Addr} {x y : Value} (ha : a.block < w.heap.size) (hb : b.block < w.heap.size) (h : Below w.heap.size w w1) (hc : w.cell? a = some x ∧ w.cell? b = some y) : w1.cell? a = some x ∧ w1.cell? b = some y :=
  ⟨(h.cell ha).trans hc.1, (h.cell hb).trans hc.2⟩
set_option maxRecDepth 100000 in
set_option maxHeartbeats 6400000 in
theorem utfParts_law (s : ByteArray) (p : Int) (w : World) (hm : s.size ≤ maxLen) (hRL : RL w) :
    Calls Tryd.prog 5 #[.string s, .int .i64 p] w fun e w' => e = .returned (.bool true) ∧ Below w.heap.size w w' := by
  have HA := Lib.hid awake_any
  have HRL := Lib.hid hRL
  unfold maxLen at hm
  clear hRL
  by_cases hpre : s.size ≤ 400 ∧ 0 ≤ p ∧ p ≤ s.size
  · obtain ⟨h400, hp0, hps⟩ := hpre
    obtain ⟨a, rfl⟩ := Int.eq_ofNat_of_zero_le hp0
    have ha : a ≤ s.size := by omega
    obtain ⟨A, c, x, h1, h2, h3⟩ := utf_codec.merge s.data.toList
    have HD1 := Lib.hid (fun T w h => udec1 2 s T (by omega) w h)
    have HD2 := Lib.hid (fun T w h => udec_parted 2 s a T (by omega) w h)
    have HD3 := Lib.hid (fun T w h => udec1 3 s T (by omega) w h)
    have hl1 := udec_len 2 s.data.toList
    have hl2 := udec_len 3 s.data.toList
    rw [udec_of 2 _ (by decide), h1] at HD1 HD2 hl1
    rw [udec_of 3 _ (by decide), h2] at HD3 hl2
    simp at hl1 hl2
    rw [show s.data.toList.length = s.size from by simp] at h3
    have hlen := h3.len
    have HM := Lib.hid h3
    have xa : A.length ≤ 400 := by omega
    have xc : c.length ≤ 400 := by omega
    have xx : x.length ≤ 400 := by omega
    have g3 : decide ((400 : Int) < s.size) = false := by simp; omega
    have g4 : decide ((a : Int) < 0) = false := by simp
    have g5 : decide ((s.size : Int) < a) = false := by simp; omega
    have j0 : (0 : Int) ≤ (a : Int) := by omega
    have j2 : (a : Int) ≤ (s.size : Int) := by omega
    have e4 : ((A.length : Int) != (c.length : Int) + (x.length : Int)) = false := by simp; omega
    clear h1 h2 h3 hl1 hl2 hlen hps hp0
    go_enter Tryd.func5, Tryd.ntmps5
    go_wp2_with fail
    go_at_call 23
    refine (HD1.out _ _ HRL.out).mono ?_
    rintro e w1 hd1
    obtain ⟨A1, c1, A2, c2, rfl, r1, q1, b1⟩ := hd1.rd.since
    have HB1 := Lib.hid b1
    clear hd1 b1
    go_wp2_with fail
    go_region_held3 (fun _ => True) (trivial) (first | (go_at_call 23; refine (HD2.out _ _ (HRL.out.since HB1.out)).mono ?_; rintro e w2 hd2; obtain ⟨A3, c3, A4, c4, rfl, r3, q3, b2⟩ := hd2.rd.since_drew; clear hd2))
    have HB2 := Lib.hid (HB1.out.trans (b2.mono HB1.out.size))
    go_wp2_with fail
    go_at_call 23
    refine (HD3.out _ _ (HRL.out.since HB2.out)).mono ?_
    rintro e w3 hd3
    obtain ⟨A5, c5, A6, c6, rfl, r5, q5, b3⟩ := hd3.rd.since
    clear hd3
    have r1' := (r1.keep b2).keep b3
    have r3' := r3.keep b3
    have q1' := (q1.keep b2).keep b3
    have q3' := q3.keep b3
    have HB := Lib.hid (HB2.out.trans (b3.mono HB2.out.size))
    have HQ1 := Lib.hid (runes_any A1 _ c1 A A3 _ c3 A w3 r1' r3' (by omega))
    rw [decide_eq_true rfl] at HQ1
    have HR1 := Lib.hid r1'
    have HR5 := Lib.hid r5
    clear r1 r3 r5 q1 q3 b2 b3 r1' r3' HD1 HD2 HD3
    go_wp2_with fail
    go_at_call 24
    refine HQ1.out.mono ?_
    rintro e w5 ⟨rfl, hd5⟩
    have b5 := hd5.below w3.heap.size
    have HQ2 := Lib.hid (faults_any A2 _ c2 x A4 _ c4 x w5 (q1'.keep b5) (q3'.keep b5) (by omega))
    rw [decide_eq_true rfl] at HQ2
    go_wp2_with fail
    go_at_call 25
    refine HQ2.out.mono ?_
    rintro e w6 ⟨rfl, hd6⟩
    have b6 := hd6.below w5.heap.size
    have HQ3 := Lib.hid (faults_any A2 _ c2 x A6 _ c6 x w6 ((q1'.keep b5).keep b6) ((q5.keep b5).keep b6) (by omega))
    rw [decide_eq_true rfl] at HQ3
    have q1 := (q1'.keep b5).keep b6
    go_wp2_with fail
    go_at_call 25
    refine HQ3.out.mono ?_
    rintro e w7 ⟨rfl, hd7⟩
    have b7 := hd7.below w6.heap.size
    have HX := Lib.hid (q1.keep b7)
    have HRA := Lib.hid (((HR1.out.keep b5).keep b6).keep b7)
    have HRC := Lib.hid (((HR5.out.keep b5).keep b6).keep b7)
    have HB7 : Hid (Below w.heap.size w w7) := by
      have hb4 := HB.out
      have hb5 := hb4.trans (b5.mono hb4.size)
      have hb6 := hb5.trans (b6.mono hb5.size)
      exact Lib.hid (hb6.trans (b7.mono hb6.size))
    have HR7 := Lib.hid (HRL.out.since HB7.out)
    clear HB HQ1 HQ2 HQ3 q1' q3' q5 hd5 hd6 hd7 b5 b6 b7 q1 HB1 HB2 HR1 HR5
    go_wp2_with fail
    go_loopw [14, 15, 16, 17] (fun n k m i wr => ∃ i' k' m' n' : Nat, i' ≤ A.length ∧ k' ≤ x.length ∧ n = .int .i64 n' ∧ k = .int .i64 k' ∧ m = .int .i64 m' ∧ i = .int .i64 i' ∧ Merge uch s.size n' (A.drop i') (x.drop k') (c.drop m') ∧ Below w7.heap.size w7 wr) (fun _ _ _ i _ => A.length - (intOf i).toNat)
    case atStart => exact ⟨0, 0, 0, 0, Nat.zero_le _, Nat.zero_le _, rfl, rfl, rfl, rfl, HM.out, Below.refl _ _⟩
    case round =>
      obtain ⟨i, k, m, n, hi, hk, rfl, rfl, rfl, rfl, hmg, hb⟩ := hrel
      have hcase := hmg.at_ uch_pos hi hk
      have HBr := Lib.hid hb
      have HRr := Lib.hid (HR7.out.since hb)
      have hzz := hb.size
      clear hmg hb
      rcases hcase with ⟨e1, e2, e3⟩ | ⟨h1, h2, hs, e1, e2, e3, e5⟩ | ⟨h1, h3, e1, e2, e3, e5, e6⟩
      · subst e1 e2 e3
        go_wp2_with (go_at_call 16; refine (HA.out _ HRr.out).mono ?_; rintro e w9 ⟨rfl, hb9⟩)
        go_returns
        have h8 := HB7.out.trans (HBr.out.mono HB7.out.size)
        exact ⟨rfl, h8.trans (hb9.mono h8.size)⟩
      · obtain ⟨bA, oA, rfl, hbA, hcA⟩ := HRA.out.i32_at h1
        obtain ⟨bC, oC, rfl, hbC, hcC⟩ := HRC.out.i32_at h2
        have c0 : wr.cell? ⟨bA, oA + i, none⟩ = some (.int .i32 A[i]) := (HBr.out.cell (p := ⟨bA, oA + i, none⟩) hbA).trans hcA
        have cc0 : wr.cell? ⟨bC, oC + m, none⟩ = some (.int .i32 c[m]) := (HBr.out.cell (p := ⟨bC, oC + m, none⟩) hbC).trans hcC
        rw [e1] at cc0
        have HLen := Lib.hid (fun w h => len_any A[i] w h)
        rw [show ulen A[i] = (uch A[i]).length from by unfold ulen; rw [if_pos hs]] at HLen
        have hu := uch_pos A[i]
        have hu4 := uch_le A[i]
        have HE5 := Lib.hid e5
        clear hcA hcC e1 hs e5
        generalize A[i] = r at *
        generalize (uch r).length = u at *
        have g6 : decide ((c.length : Int) ≤ (m : Int)) = false := by simp; omega
        have g6' : decide (c.length ≤ m) = false := by simp; omega
        have g8 : decide ((u : Int) < 1) = false := by simp; omega
        have i0 : (0 : Int) ≤ (i : Int) := by omega
        have i1 : (i : Int) < (A.length : Int) := by omega
        have m0 : (0 : Int) ≤ (m : Int) := by omega
        have m1 : (m : Int) < (c.length : Int) := by omega
        have hbA' : bA < wr.heap.size := by omega
        have hbC' : bC < wr.heap.size := by omega
        rcases e2 with e2 | ⟨h3, e2⟩
        · have g7 : decide (k < x.length) = false := by simp; omega
          have g7' : decide ((k : Int) < (x.length : Int)) = false := by simp; omega
          clear e2
          go_wp2_with fail
          go_region_held3 (fun w' => w'.cell? ⟨bA, oA + i, none⟩ = some (.int .i32 r) ∧ w'.cell? ⟨bC, oC + m, none⟩ = some (.int .i32 r)) (first | exact ⟨c0, cc0⟩ | exact cell2 (w := wr.drew) hbA' hbC' hb2 ⟨c0, cc0⟩) (first | (go_at_call 22; refine (HLen.out _ (show RL wr.drew from HRr.out)).mono ?_; rintro e w2 ⟨rfl, hb2⟩))
          have HB2 := Lib.hid (HBr.out.drew.trans (hb2.mono hzz))
          have cq := cell2 (w := wr.drew) (a := ⟨bA, oA + i, none⟩) (b := ⟨bC, oC + m, none⟩) hbA' hbC' hb2 ⟨c0, cc0⟩
          obtain ⟨cq0, _⟩ := cq
          have HR2 := Lib.hid (HR7.out.since HB2.out)
          have hzz2 := HB2.out.size
          clear hb2 c0 cc0
          go_wp2_with fail
          go_at_call 22
          refine (HLen.out _ HR2.out).mono ?_
          rintro e w3 ⟨rfl, hb3⟩
          have HB3 := Lib.hid (HB2.out.trans (hb3.mono hzz2))
          clear hb3
          go_wp2
          go_roundw
          case rel => exact ⟨i + 1, k, m + 1, n + u, by omega, by omega, by go_num, by go_num, by go_num, by go_num, HE5.out, HB3.out⟩
          case measure => simp [intOf]; omega
        · obtain ⟨bX, oX, rfl, hbX, hx0, _⟩ := HX.out.at_ h3
          have cx : wr.cell? ⟨bX, oX + k * 2, none⟩ = some (.int .i64 x[k].1) := (HBr.out.cell (p := ⟨bX, oX + k * 2, none⟩) hbX).trans hx0
          have g9 : ((x[k].1 : Int) == (n : Int)) = false := by simp; omega
          clear hx0
          generalize x[k].1 = at' at *
          go_wp2_with fail
          go_region_held3 (fun w' => w'.cell? ⟨bA, oA + i, none⟩ = some (.int .i32 r) ∧ w'.cell? ⟨bC, oC + m, none⟩ = some (.int .i32 r)) (first | exact ⟨c0, cc0⟩ | exact cell2 (w := wr.drew) hbA' hbC' hb2 ⟨c0, cc0⟩) (first | (go_at_call 22; refine (HLen.out _ (show RL wr.drew from HRr.out)).mono ?_; rintro e w2 ⟨rfl, hb2⟩))
          have HB2 := Lib.hid (HBr.out.drew.trans (hb2.mono hzz))
          have cq := cell2 (w := wr.drew) (a := ⟨bA, oA + i, none⟩) (b := ⟨bC, oC + m, none⟩) hbA' hbC' hb2 ⟨c0, cc0⟩
          obtain ⟨cq0, _⟩ := cq
          have HR2 := Lib.hid (HR7.out.since HB2.out)
          have hzz2 := HB2.out.size
          clear hb2 c0 cc0
          go_wp2_with fail
          go_at_call 22
          refine (HLen.out _ HR2.out).mono ?_
          rintro e w3 ⟨rfl, hb3⟩
          have HB3 := Lib.hid (HB2.out.trans (hb3.mono hzz2))
          clear hb3
          go_wp2
          go_roundw
          case rel => exact ⟨i + 1, k, m + 1, n + u, by omega, by omega, by go_num, by go_num, by go_num, by go_num, HE5.out, HB3.out⟩
          case measure => simp [intOf]; omega
      · obtain ⟨bA, oA, rfl, hbA, hcA⟩ := HRA.out.i32_at h1
        obtain ⟨bX, oX, rfl, hbX, hx0, hx1⟩ := HX.out.at_ h3
        have c0 : wr.cell? ⟨bA, oA + i, none⟩ = some (.int .i32 65533) := by rw [← e1]; exact (HBr.out.cell (p := ⟨bA, oA + i, none⟩) hbA).trans hcA
        have cx : wr.cell? ⟨bX, oX + k * 2, none⟩ = some (.int .i64 n) := by rw [← e2]; exact (HBr.out.cell (p := ⟨bX, oX + k * 2, none⟩) hbX).trans hx0
        have cx1 : wr.cell? ⟨bX, oX + k * 2 + 1, none⟩ = some (.int .i64 x[k].2) := (HBr.out.cell (p := ⟨bX, oX + k * 2 + 1, none⟩) hbX).trans hx1
        have HE6 := Lib.hid e6
        clear hcA hx0 hx1 e1 e2 e6
        generalize x[k].2 = L at *
        have g8 : decide ((L : Int) < 1) = false := by simp; omega
        go_wp2
        go_roundw
        case rel => exact ⟨i + 1, k + 1, m, n + L, by omega, by omega, by go_num, by go_num, by go_num, by go_num, HE6.out, HBr.out⟩
        case measure => simp [intOf]; omega
  · have hcase : 400 < s.size ∨ (s.size ≤ 400 ∧ (p < 0 ∨ (0 ≤ p ∧ (s.size : Int) < p))) := by omega
    clear hpre
    rcases hcase with h | ⟨h3, h | ⟨h4, h⟩⟩
    all_goals
      try have g3 : decide ((400 : Int) < s.size) = false := by simp; omega
      try have g4 : decide (p < 0) = false := by simp; omega
      try have g5 : (400 : Int) < s.size := by omega
      go_enter Tryd.func5, Tryd.ntmps5
      go_wp2_with (go_at_call 16; refine (HA.out _ HRL.out).mono ?_; rintro e w9 ⟨rfl, hb9⟩)
      go_returns
      exact ⟨rfl, hb9⟩
end Go.Proofs.YtlfhmkjomogkiaaDoor.Utf
