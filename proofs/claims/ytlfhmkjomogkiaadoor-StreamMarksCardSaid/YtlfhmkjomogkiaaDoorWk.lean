/- Walks: strings.Join without a separator, wide.Decode. -/
import Derived.Test.YtlfhmkjomogkiaaDoorJoin
import Derived.Test.YtlfhmkjomogkiaaDoorWh
import Derived.Test.YtlfhmkjomogkiaaDoorPlain3
namespace Go.Proofs.YtlfhmkjomogkiaaDoor
open Go.RowKit Pl

theorem keep3 {w w1 : World} {F : Nat} {x y z : Value} (hF : F < w.heap.size) (hb : Below w.heap.size w w1) (h : w.cell? ⟨F, 0, none⟩ = some x ∧ w.cell? ⟨F, 1, none⟩ = some y ∧ w.cell? ⟨F, 2, none⟩ = some z) :
    w1.cell? ⟨F, 0, none⟩ = some x ∧ w1.cell? ⟨F, 1, none⟩ = some y ∧ w1.cell? ⟨F, 2, none⟩ = some z :=
  ⟨(hb.cell hF).trans h.1, (hb.cell hF).trans h.2.1, (hb.cell hF).trans h.2.2⟩
set_option maxRecDepth 100000 in
set_option maxHeartbeats 3200000 in
theorem wideDecode_yes (k pol : Int) (h1 : 1 ≤ k) (h4 : k ≤ 4) (p1 : 1 ≤ pol) (p3 : pol ≤ 3) (A : Option Addr) (n c : Nat) (ls : List ByteArray) (w : World) (hR : Rd w A n (strv ls)) (hcap : n ≤ c) (hn : n ≤ 1000000) (hlen : (allB ls).length ≤ 1000000) :
    Calls Tryd.prog 75 #[.int .i64 k, .int .i64 pol, .slice A n c] w (DecPost w (dec (wnext (wsize k) (bigOf k)) pol (allB ls))) := by
  have HO := Lib.hid (of_yes k h1 h4)
  have HN : Hid (∀ s : ByteArray, s.size ≤ maxLen → ∀ w, _) := fun s hm w => next_form k h1 h4 s hm w
  have hpos : ∀ t : List UInt8, 0 < t.length → 1 ≤ (wnext (wsize k) (bigOf k) t).2.1 ∧ (wnext (wsize k) (bigOf k) t).2.1 ≤ t.length := fun t h => wnext_pos _ _ t h (wsize_cases k)
  obtain ⟨z, hz⟩ : ∃ z : Int, (wsize k : Int) = z := ⟨_, rfl⟩
  obtain ⟨bg, hb⟩ : ∃ b : Bool, (k % 2 == 0) = b := ⟨_, rfl⟩
  obtain ⟨pr, hc⟩ : ∃ b : Bool, decide (k ≤ 2) = b := ⟨_, rfl⟩
  rw [hz, hb, hc] at HO
  simp only [hz, hb, hc] at HN
  generalize wnext (wsize k) (bigOf k) = nx at *
  have HJ : Hid (∀ w', Below w.heap.size w w' → Calls Tryd.prog 47 #[.slice A n c, .string ⟨#[]⟩] w' fun e w'' => e = .returned (.string ⟨(allB ls).toArray⟩) ∧ Below w'.heap.size w' w'') :=
    fun w' hb => join_any A n c ls w' (hR.keep hb) hcap hn (by omega)
  unfold dec
  have hs : (⟨(allB ls).toArray⟩ : ByteArray).data.toList = allB ls := by simp
  have hsz : (⟨(allB ls).toArray⟩ : ByteArray).size = (allB ls).length := by simp [ByteArray.size]
  generalize hsd : (⟨(allB ls).toArray⟩ : ByteArray) = s at *
  rw [← hs, show s.data.toList.length = s.size from by simp]
  rw [← hsz] at hlen
  obtain ⟨R, hRR⟩ : ∃ R, decL nx pol s.size s.data.toList 0 [] [] = R := ⟨_, rfl⟩
  rw [hRR]
  have HRR := Lib.hid hRR; have HP := Lib.hid hpos
  clear hRR hpos hs hsz hsd hR hcap hn hz hb hc h1 h4
  have q1 : decide (pol < 1) = false := by simp; omega
  have q3 : decide (3 < pol) = false := by simp; omega
  go_enter Tryd.func75, Tryd.ntmps75
  go_wp2_with (first | (go_at_call 84; refine (HO.out _).mono ?_; rintro e w1 ⟨rfl, hb1⟩; have hs1 := hb1.size) | (go_at_call 47; refine (HJ.out _ (by go_grown)).mono ?_; rintro e w2 ⟨rfl, hb2⟩))
  have hbA := hb1.alloc hs1 (Obj.cells #[Value.int IntKind.i64 z, Value.bool bg, Value.bool pr] 123)
  have hst0 : St w.heap.size w w2 (.slice none 0 0) [] (.slice none 0 0) [] := ((St.start w).below hbA).below hb2
  have hf0 : Blk w2 w1.heap.size 123 #[Value.int IntKind.i64 z, Value.bool bg, Value.bool pr] := (Blk.new _ _ _).below hb2 (by simp)
  clear hb1 hb2 hs1 hbA HJ HO q1 q3
  generalize w1.heap.size = F at *
  go_loopw [12, 13, 14] (fun vo vb va wr => ∃ (a : Nat) (o : List Int) (b : List (Nat × Nat)), a ≤ s.size ∧ va = .int .i64 a ∧ St w.heap.size w wr vo o vb b ∧
      decL nx pol s.size (s.data.toList.drop a) a o b = R ∧ o.length ≤ a ∧ b.length ≤ a ∧ Blk wr F 123 #[Value.int IntKind.i64 z, Value.bool bg, Value.bool pr]) (fun _ _ va _ => s.size - (intOf va).toNat)
  case atStart => exact ⟨0, [], [], Nat.zero_le _, rfl, hst0, by rw [List.drop_zero]; exact HRR.out, Nat.le_refl _, Nat.le_refl _, hf0⟩
  case round =>
    obtain ⟨a, o, b, ha, rfl, hst, hd, hol, hbl, hf⟩ := hrel
    by_cases hlt : a < s.size
    · have hl2 : (s.data.toList.drop a).length = s.size - a := by simp
      have hpp := HP.out (s.data.toList.drop a) (by omega)
      rw [hl2] at hpp
      have hok := decL_ok nx pol (fun t h => (HP.out t h).1) s.size (s.data.toList.drop a) a o b (by omega) (by omega)
      have hmo := decL_more nx pol (fun t h => (HP.out t h).1) s.size (s.data.toList.drop a) a o b (by omega) (by omega)
      have hsr := decL_strict nx s.size (s.data.toList.drop a) a o b (by omega) (by omega)
      have HN2 := HN.out (s.extract a s.size) (by simp; unfold maxLen; omega)
      rw [Lib.extract_to_end] at HN2
      rw [List.drop_drop, hd] at hok hmo
      generalize nx (s.data.toList.drop a) = x at *
      obtain ⟨r, m, e⟩ := x
      have hm1 : 1 ≤ m := hpp.1
      have hm2 : m ≤ s.size - a := hpp.2
      have HOK := Lib.hid hok; have HMO := Lib.hid hmo; have HSR := Lib.hid hsr; have HN3 := Lib.hid HN2; have HD := Lib.hid hd; have HST := Lib.hid hst; have HF := Lib.hid hf
      have c0 : wr.cell? ⟨F, 0, none⟩ = some (.int .i64 z) := by rw [hf.cell]; rfl
      have c1 : wr.cell? ⟨F, 1, none⟩ = some (.bool bg) := by rw [hf.cell]; rfl
      have c2 : wr.cell? ⟨F, 2, none⟩ = some (.bool pr) := by rw [hf.cell]; rfl
      have j0 : (0 : Int) ≤ (a : Int) := by omega
      have j1 : (a : Int) < (s.size : Int) := by omega
      have j2 : (a : Int) ≤ (s.size : Int) := by omega
      have hFl : F < wr.heap.size := hf.lt
      clear hok hmo hsr HN2 hd hst hf hpp hl2
      by_cases he : e = 0
      · subst he
        go_wp2
        go_region_held3 (fun w' => w'.cell? ⟨F, 0, none⟩ = some (.int .i64 z) ∧ w'.cell? ⟨F, 1, none⟩ = some (.bool bg) ∧ w'.cell? ⟨F, 2, none⟩ = some (.bool pr)) (first | exact ⟨c0, c1, c2⟩ | exact keep3 (w := wr.drew) hFl hb2 ⟨c0, c1, c2⟩) (first | (go_at_call 86; refine (HN3.out _).mono ?_; rintro e w2 ⟨he2, hb2⟩; rw [nextEnd] at he2; subst he2))
        have HSTX := Lib.hid (HST.out.drew.below hb2)
        have HFX := Lib.hid ((show Blk wr.drew F _ _ from HF.out).below hb2 hFl)
        clear hb2 c0 c1 c2
        go_wp2_with (at_builtin; refine wpList_out w _ rfl _ _ rfl w.heap.size _ _ _ _ rfl HSTX.out r _ rfl (by omega) ?_; intro v3 w3 hst3 hk3)
        go_roundw
        case rel => exact ⟨a + m, o ++ [r], b, by omega, by go_num, hst3, (HOK.out trivial).symm, by simp; omega, by omega, HFX.out.rune hk3 (by decide) (by decide)⟩
        case measure => simp [intOf]; omega
      · have e1 : (e == 0) = false := by simp [he]
        have e2 : (e != 0) = true := by simp [he]
        have HE := Lib.hid he
        clear he
        rcases (show pol = 1 ∨ pol = 2 ∨ pol = 3 from by omega) with rfl | rfl | rfl
        · clear p1 p3
          go_wp2
          go_region_held3 (fun w' => w'.cell? ⟨F, 0, none⟩ = some (.int .i64 z) ∧ w'.cell? ⟨F, 1, none⟩ = some (.bool bg) ∧ w'.cell? ⟨F, 2, none⟩ = some (.bool pr)) (first | exact ⟨c0, c1, c2⟩ | exact keep3 (w := wr.drew) hFl hb2 ⟨c0, c1, c2⟩) (first | (go_at_call 86; refine (HN3.out _).mono ?_; rintro e w2 ⟨he2, hb2⟩; rw [nextEnd] at he2; subst he2))
          have HSTX := Lib.hid (HST.out.drew.below hb2)
          have HFX := Lib.hid ((show Blk wr.drew F _ _ from HF.out).below hb2 hFl)
          clear hb2 c0 c1 c2
          go_wp2_with (at_builtin; refine wpList_bad w _ rfl _ _ rfl w.heap.size _ _ _ _ rfl HSTX.out a m _ rfl (by omega) ?_; intro v4 w4 hst4 hk4)
          go_returns
          have hR : R = (o, b ++ [(a, m)], 17) := by rw [← HD.out]; exact HSR.out HE.out
          exact ⟨_, _, by rw [hR]; rfl, by rw [hR]; exact hst4⟩
        · clear p1 p3
          go_wp2
          go_region_held3 (fun w' => w'.cell? ⟨F, 0, none⟩ = some (.int .i64 z) ∧ w'.cell? ⟨F, 1, none⟩ = some (.bool bg) ∧ w'.cell? ⟨F, 2, none⟩ = some (.bool pr)) (first | exact ⟨c0, c1, c2⟩ | exact keep3 (w := wr.drew) hFl hb2 ⟨c0, c1, c2⟩) (first | (go_at_call 86; refine (HN3.out _).mono ?_; rintro e w2 ⟨he2, hb2⟩; rw [nextEnd] at he2; subst he2))
          have HSTX := Lib.hid (HST.out.drew.below hb2)
          have HFX := Lib.hid ((show Blk wr.drew F _ _ from HF.out).below hb2 hFl)
          clear hb2 c0 c1 c2
          go_wp2_with (first | (at_builtin; refine wpList_bad w _ rfl _ _ rfl w.heap.size _ _ _ _ rfl HSTX.out a m _ rfl (by omega) ?_; intro v4 w4 hst4 hk4) | (at_builtin; refine wpList_out w _ rfl _ _ rfl w.heap.size _ _ _ _ rfl hst4 65533 _ rfl (by omega) ?_; intro v3 w3 hst3 hk3))
          go_roundw
          case rel => exact ⟨a + m, o ++ [65533], b ++ [(a, m)], by omega, by go_num, hst3, (HMO.out HE.out (by decide)).symm, by simp; omega, by simp; omega, (HFX.out.rune hk4 (by decide) (by decide)).rune hk3 (by decide) (by decide)⟩
          case measure => simp [intOf]; omega
        · clear p1 p3
          go_wp2
          go_region_held3 (fun w' => w'.cell? ⟨F, 0, none⟩ = some (.int .i64 z) ∧ w'.cell? ⟨F, 1, none⟩ = some (.bool bg) ∧ w'.cell? ⟨F, 2, none⟩ = some (.bool pr)) (first | exact ⟨c0, c1, c2⟩ | exact keep3 (w := wr.drew) hFl hb2 ⟨c0, c1, c2⟩) (first | (go_at_call 86; refine (HN3.out _).mono ?_; rintro e w2 ⟨he2, hb2⟩; rw [nextEnd] at he2; subst he2))
          have HSTX := Lib.hid (HST.out.drew.below hb2)
          have HFX := Lib.hid ((show Blk wr.drew F _ _ from HF.out).below hb2 hFl)
          clear hb2 c0 c1 c2
          go_wp2_with (at_builtin; refine wpList_bad w _ rfl _ _ rfl w.heap.size _ _ _ _ rfl HSTX.out a m _ rfl (by omega) ?_; intro v4 w4 hst4 hk4)
          go_roundw
          case rel => exact ⟨a + m, o, b ++ [(a, m)], by omega, by go_num, hst4, (HMO.out HE.out (by decide)).symm, by omega, by simp; omega, HFX.out.rune hk4 (by decide) (by decide)⟩
          case measure => simp [intOf]; omega
    · obtain rfl : a = s.size := by omega
      rw [List.drop_of_length_le (by simp), decL_end] at hd
      have HD := Lib.hid hd
      have HST := Lib.hid hst
      clear hd hst hf
      go_wp2
      go_returns
      exact ⟨_, _, by rw [← HD.out]; rfl, by rw [← HD.out]; exact HST.out⟩
end Go.Proofs.YtlfhmkjomogkiaaDoor
