/- Walk: inkhornlaw13.Valid. -/
import Derived.Test.YtkfjmcidcnpijaaGreatDoorG2
import Derived.Lib.OthersKept
import Derived.BigRegion
namespace Go.Proofs.YtkfjmcidcnpijaaGreatDoor.Sg
open Go.RowKit Pl Go.Lib

theorem conv_one (r : Nat) (H : Nat) (w : World) (h : w.cell? ⟨H, 0, none⟩ = some (.int .i32 r)) : (convert 72 9 (.slice (some ⟨H, 0, none⟩) 1 1)).run Tryz.prog w = .ok (.string (runesBytes [(r : Int)])) w :=
  run_convert_runes w 72 9 21 ⟨H, 0, none⟩ 1 1 [(r : Int)] (Nat.le_refl _) Tryz.underlying72 Tryz.underlying21 Tryz.underlying9 (by
    intro j hj
    obtain rfl : j = 0 := by simpa using hj
    simpa [Addr.add] using h)
theorem same_one (r : Nat) (h : r ≤ 1114111) (s : ByteArray) (pos W : Nat) : ((runesBytes [(r : Int)]).toList == (s.extract pos (pos + W)).toList) = (encodeRune (r : Int) == (s.data.toList.drop pos).take W) := by
  have h1 : (runesBytes [(r : Int)]).toList = encodeRune (r : Int) := by
    rw [ByteArray.toList_eq, runesBytes_eq _ (by intro x hx; simp at hx; omega)]
    simp [textB]
  rw [h1, ByteArray.toList_eq, extract_data, Nat.add_sub_cancel_left]
set_option maxRecDepth 100000 in
set_option maxHeartbeats 1600000 in
theorem valid_any (s : ByteArray) (hs : s.size ≤ 1000000000000000) (w : World) :
    Calls Tryz.prog 48 #[.string s] w fun e w' => e = .returned (.bool (validD s.data.toList)) ∧ Below w.heap.size w w' := by
  obtain ⟨F, hF⟩ : ∃ F, validD s.data.toList = F := ⟨_, rfl⟩
  rw [hF]
  go_enter Tryz.func48, Tryz.ntmps48
  go_wp2
  go_loopw [3] (fun vn wr => ∃ pos : Nat, pos ≤ s.size ∧ vn = .int .i64 pos ∧ validD (s.data.toList.drop pos) = F ∧ wr.heap[w.heap.size]? = some (.stringIter s pos) ∧ Below w.heap.size w wr) (fun vn _ => s.size - (intOf vn).toNat)
  case atStart => exact ⟨0, Nat.zero_le _, rfl, hF, World.iter_heap _ _ _, (Below.refl _ _).alloc (Nat.le_refl _) _⟩
  case round =>
    obtain ⟨pos, hp, rfl, hv, hit, hb⟩ := hrel
    have HB := Lib.hid hb
    clear hb hF
    by_cases hlt : pos < s.size
    · have hnx := fun ty => run_next_any_at (P := Tryz.prog) wr w.heap.size s pos ty hit hlt
      have hd := decodeL_drop s pos
      have hne : s.data.toList.drop pos ≠ [] := by
        intro h
        have := congrArg List.length h
        simp at this
        omega
      have hle := decodeL_rune (s.data.toList.drop pos)
      have hok := okAt_eq _ hne
      have hol := okAt_len _ hne
      have hvc := valid_cons _ hne
      have hnp := decodeL_pos (s.data.toList.drop pos)
      rw [hd] at hle hnp
      unfold okAt at hok hol
      rw [hd, List.length_drop, show s.data.toList.length = s.size from by simp] at hok hol
      rw [hd, List.drop_drop, hv] at hvc
      have hit2 := iterAt_heap wr w.heap.size s pos (pos + (Utf8.decode s pos).2) hit
      have hb2 := below_iterAt HB.out (Nat.le_refl w.heap.size) s (pos + (Utf8.decode s pos).2)
      have hsz2 := iterAt_size wr w.heap.size s (pos + (Utf8.decode s pos).2)
      have hklt : w.heap.size < wr.heap.size := (Array.getElem?_eq_some_iff.1 hit).1
      generalize Utf8.decode s pos = d at *
      obtain ⟨r, wd⟩ := d
      replace hle : r ≤ 1114111 := hle
      replace hnp : 1 ≤ wd := hnp
      replace hnx : ∀ ty, (Instr.next (.pointer (some ⟨w.heap.size, 0, none⟩)) true ty).run Tryz.prog wr = .ok (.tuple #[.bool true, .int .i64 pos, .int .i32 r]) (wr.iterAt w.heap.size s (pos + wd)) := hnx
      replace hok : (decide (wlen r ≤ s.size - pos) && (encodeRune (r : Int) == (s.data.toList.drop pos).take (wlen r))) = !decide (badU (s.data.toList.drop pos)) := hok
      replace hol : (decide (wlen r ≤ s.size - pos) && (encodeRune (r : Int) == (s.data.toList.drop pos).take (wlen r))) = true → wlen r = wd ∧ wd ≤ s.size - pos := hol
      replace hvc : F = if badU (s.data.toList.drop pos) then false else validD (s.data.toList.drop (pos + wd)) := hvc
      replace hit2 : (wr.iterAt w.heap.size s (pos + wd)).heap[w.heap.size]? = some (.stringIter s (pos + wd)) := hit2
      replace hb2 : Below w.heap.size w (wr.iterAt w.heap.size s (pos + wd)) := hb2
      replace hsz2 : (wr.iterAt w.heap.size s (pos + wd)).heap.size = wr.heap.size := hsz2
      have HBad : Hid ((decide (wlen r ≤ s.size - pos) && (encodeRune (r : Int) == (s.data.toList.drop pos).take (wlen r))) = false → F = false) := Lib.hid fun h => by
        rw [h] at hok
        have hbd : badU (s.data.toList.drop pos) := by simpa using hok.symm
        rw [hvc, if_pos hbd]
      have HOk : Hid ((decide (wlen r ≤ s.size - pos) && (encodeRune (r : Int) == (s.data.toList.drop pos).take (wlen r))) = true → validD (s.data.toList.drop (pos + wlen r)) = F ∧ wlen r = wd ∧ wd ≤ s.size - pos) := Lib.hid fun h => by
        have h2 := hol h
        rw [h] at hok
        have hbd : ¬ badU (s.data.toList.drop pos) := by simpa using hok.symm
        rw [hvc, if_neg hbd, h2.1]
        exact ⟨rfl, rfl, h2.2⟩
      have HSame := Lib.hid (same_one r hle s pos)
      obtain ⟨W1, hW1⟩ : ∃ W1, wr.iterAt w.heap.size s (pos + wd) = W1 := ⟨_, rfl⟩
      rw [hW1] at hit2 hb2 hsz2 hnx
      have HIT2 := Lib.hid hit2; have HB2 := Lib.hid hb2; have HSZ2 := Lib.hid hsz2
      have hcv1 := conv_one r W1.heap.size (W1.alloc (.cells #[.int .i32 r] 21)).drew (by rw [(Blk.new W1 _ _).drew.cell]; rfl)
      clear hit hd hok hol hvc hit2 hb2 hsz2 hW1 hv
      rcases (show r < 128 ∨ (128 ≤ r ∧ r < 2048) ∨ (2048 ≤ r ∧ r < 65536) ∨ 65536 ≤ r from by omega) with h1 | ⟨h1, h2⟩ | ⟨h1, h2⟩ | h1
      · have hw : wlen r = 1 := by unfold wlen; rw [if_pos h1]
        have t1 : decide ((128 : Int) ≤ (r : Int)) = false := decide_eq_false (by omega)
        have t2 : decide ((2048 : Int) ≤ (r : Int)) = false := decide_eq_false (by omega)
        have t3 : decide ((65536 : Int) ≤ (r : Int)) = false := decide_eq_false (by omega)
        rw [hw] at HBad HOk
        have t5 : IntKind.i64.wrap ((pos : Int) + 1) = (pos : Int) + 1 := IntWalk.i64_in _ (by omega)
        by_cases hf : 1 ≤ s.size - pos
        · have t4 : decide ((s.size : Int) < (pos : Int) + 1) = false := decide_eq_false (by omega)
          have t6 : (0 : Int) ≤ (pos : Int) := by omega
          have t7 : (pos : Int) ≤ (pos : Int) + 1 := by omega
          have t8 : (pos : Int) + 1 ≤ (s.size : Int) := by omega
          rw [decide_eq_true hf, Bool.true_and] at HBad HOk
          have hsame := HSame.out 1
          cases hE : (encodeRune (r : Int) == (s.data.toList.drop pos).take 1)
          · rw [hE] at HBad hsame
            have HF := Lib.hid (HBad.out rfl)
            clear h1 hw HBad HOk hE hle hnp
            go_wp2_with fail
            go_big_region
            go_wp2_with fail
            go_returns
            exact ⟨by rw [HF.out]; rfl, (HB2.out.alloc HB2.out.size _).drew⟩
          · rw [hE] at HOk hsame
            obtain ⟨o1, o2, o3⟩ := HOk.out rfl
            subst o2
            have HO1 := Lib.hid o1
            clear h1 hw HBad HOk hE hle o1
            go_wp2_with fail
            go_big_region
            go_wp2_with fail
            go_roundw
            case rel =>
              refine ⟨pos + 1, by omega, by go_num, HO1.out, ?_, (HB2.out.alloc HB2.out.size _).drew⟩
              exact (Below.heap_alloc W1 _ _ (by rw [HSZ2.out]; exact hklt)).trans HIT2.out
            case measure => simp [intOf]; omega
        · have t4 : decide ((s.size : Int) < (pos : Int) + 1) = true := decide_eq_true (by omega)
          rw [decide_eq_false hf, Bool.false_and] at HBad
          have HF := Lib.hid (HBad.out rfl)
          clear h1 hw HBad HOk hle hnp
          go_wp2_with fail
          go_big_region
          go_wp2_with fail
          go_returns
          exact ⟨by rw [HF.out]; rfl, HB2.out.drew⟩
      · have hw : wlen r = 2 := by unfold wlen; rw [if_neg (by omega), if_pos h2]
        have t1 : decide ((128 : Int) ≤ (r : Int)) = true := decide_eq_true (by omega)
        have t2 : decide ((2048 : Int) ≤ (r : Int)) = false := decide_eq_false (by omega)
        have t3 : decide ((65536 : Int) ≤ (r : Int)) = false := decide_eq_false (by omega)
        rw [hw] at HBad HOk
        have t5 : IntKind.i64.wrap ((pos : Int) + 2) = (pos : Int) + 2 := IntWalk.i64_in _ (by omega)
        by_cases hf : 2 ≤ s.size - pos
        · have t4 : decide ((s.size : Int) < (pos : Int) + 2) = false := decide_eq_false (by omega)
          have t6 : (0 : Int) ≤ (pos : Int) := by omega
          have t7 : (pos : Int) ≤ (pos : Int) + 2 := by omega
          have t8 : (pos : Int) + 2 ≤ (s.size : Int) := by omega
          rw [decide_eq_true hf, Bool.true_and] at HBad HOk
          have hsame := HSame.out 2
          cases hE : (encodeRune (r : Int) == (s.data.toList.drop pos).take 2)
          · rw [hE] at HBad hsame
            have HF := Lib.hid (HBad.out rfl)
            clear h1 hw HBad HOk hE hle hnp
            go_wp2_with fail
            go_big_region
            go_wp2_with fail
            go_returns
            exact ⟨by rw [HF.out]; rfl, (HB2.out.alloc HB2.out.size _).drew⟩
          · rw [hE] at HOk hsame
            obtain ⟨o1, o2, o3⟩ := HOk.out rfl
            subst o2
            have HO1 := Lib.hid o1
            clear h1 hw HBad HOk hE hle o1
            go_wp2_with fail
            go_big_region
            go_wp2_with fail
            go_roundw
            case rel =>
              refine ⟨pos + 2, by omega, by go_num, HO1.out, ?_, (HB2.out.alloc HB2.out.size _).drew⟩
              exact (Below.heap_alloc W1 _ _ (by rw [HSZ2.out]; exact hklt)).trans HIT2.out
            case measure => simp [intOf]; omega
        · have t4 : decide ((s.size : Int) < (pos : Int) + 2) = true := decide_eq_true (by omega)
          rw [decide_eq_false hf, Bool.false_and] at HBad
          have HF := Lib.hid (HBad.out rfl)
          clear h1 hw HBad HOk hle hnp
          go_wp2_with fail
          go_big_region
          go_wp2_with fail
          go_returns
          exact ⟨by rw [HF.out]; rfl, HB2.out.drew⟩
      · have hw : wlen r = 3 := by unfold wlen; rw [if_neg (by omega), if_neg (by omega), if_pos h2]
        have t1 : decide ((128 : Int) ≤ (r : Int)) = true := decide_eq_true (by omega)
        have t2 : decide ((2048 : Int) ≤ (r : Int)) = true := decide_eq_true (by omega)
        have t3 : decide ((65536 : Int) ≤ (r : Int)) = false := decide_eq_false (by omega)
        rw [hw] at HBad HOk
        have t5 : IntKind.i64.wrap ((pos : Int) + 3) = (pos : Int) + 3 := IntWalk.i64_in _ (by omega)
        by_cases hf : 3 ≤ s.size - pos
        · have t4 : decide ((s.size : Int) < (pos : Int) + 3) = false := decide_eq_false (by omega)
          have t6 : (0 : Int) ≤ (pos : Int) := by omega
          have t7 : (pos : Int) ≤ (pos : Int) + 3 := by omega
          have t8 : (pos : Int) + 3 ≤ (s.size : Int) := by omega
          rw [decide_eq_true hf, Bool.true_and] at HBad HOk
          have hsame := HSame.out 3
          cases hE : (encodeRune (r : Int) == (s.data.toList.drop pos).take 3)
          · rw [hE] at HBad hsame
            have HF := Lib.hid (HBad.out rfl)
            clear h1 hw HBad HOk hE hle hnp
            go_wp2_with fail
            go_big_region
            go_wp2_with fail
            go_returns
            exact ⟨by rw [HF.out]; rfl, (HB2.out.alloc HB2.out.size _).drew⟩
          · rw [hE] at HOk hsame
            obtain ⟨o1, o2, o3⟩ := HOk.out rfl
            subst o2
            have HO1 := Lib.hid o1
            clear h1 hw HBad HOk hE hle o1
            go_wp2_with fail
            go_big_region
            go_wp2_with fail
            go_roundw
            case rel =>
              refine ⟨pos + 3, by omega, by go_num, HO1.out, ?_, (HB2.out.alloc HB2.out.size _).drew⟩
              exact (Below.heap_alloc W1 _ _ (by rw [HSZ2.out]; exact hklt)).trans HIT2.out
            case measure => simp [intOf]; omega
        · have t4 : decide ((s.size : Int) < (pos : Int) + 3) = true := decide_eq_true (by omega)
          rw [decide_eq_false hf, Bool.false_and] at HBad
          have HF := Lib.hid (HBad.out rfl)
          clear h1 hw HBad HOk hle hnp
          go_wp2_with fail
          go_big_region
          go_wp2_with fail
          go_returns
          exact ⟨by rw [HF.out]; rfl, HB2.out.drew⟩
      · have hw : wlen r = 4 := by unfold wlen; rw [if_neg (by omega), if_neg (by omega), if_neg (by omega)]
        have t1 : decide ((128 : Int) ≤ (r : Int)) = true := decide_eq_true (by omega)
        have t2 : decide ((2048 : Int) ≤ (r : Int)) = true := decide_eq_true (by omega)
        have t3 : decide ((65536 : Int) ≤ (r : Int)) = true := decide_eq_true (by omega)
        rw [hw] at HBad HOk
        have t5 : IntKind.i64.wrap ((pos : Int) + 4) = (pos : Int) + 4 := IntWalk.i64_in _ (by omega)
        by_cases hf : 4 ≤ s.size - pos
        · have t4 : decide ((s.size : Int) < (pos : Int) + 4) = false := decide_eq_false (by omega)
          have t6 : (0 : Int) ≤ (pos : Int) := by omega
          have t7 : (pos : Int) ≤ (pos : Int) + 4 := by omega
          have t8 : (pos : Int) + 4 ≤ (s.size : Int) := by omega
          rw [decide_eq_true hf, Bool.true_and] at HBad HOk
          have hsame := HSame.out 4
          cases hE : (encodeRune (r : Int) == (s.data.toList.drop pos).take 4)
          · rw [hE] at HBad hsame
            have HF := Lib.hid (HBad.out rfl)
            clear h1 hw HBad HOk hE hle hnp
            go_wp2_with fail
            go_big_region
            go_wp2_with fail
            go_returns
            exact ⟨by rw [HF.out]; rfl, (HB2.out.alloc HB2.out.size _).drew⟩
          · rw [hE] at HOk hsame
            obtain ⟨o1, o2, o3⟩ := HOk.out rfl
            subst o2
            have HO1 := Lib.hid o1
            clear h1 hw HBad HOk hE hle o1
            go_wp2_with fail
            go_big_region
            go_wp2_with fail
            go_roundw
            case rel =>
              refine ⟨pos + 4, by omega, by go_num, HO1.out, ?_, (HB2.out.alloc HB2.out.size _).drew⟩
              exact (Below.heap_alloc W1 _ _ (by rw [HSZ2.out]; exact hklt)).trans HIT2.out
            case measure => simp [intOf]; omega
        · have t4 : decide ((s.size : Int) < (pos : Int) + 4) = true := decide_eq_true (by omega)
          rw [decide_eq_false hf, Bool.false_and] at HBad
          have HF := Lib.hid (HBad.out rfl)
          clear h1 hw HBad HOk hle hnp
          go_wp2_with fail
          go_big_region
          go_wp2_with fail
          go_returns
          exact ⟨by rw [HF.out]; rfl, HB2.out.drew⟩
    · have hnx := fun ty => run_next_end_at (P := Tryz.prog) wr w.heap.size s pos ty hit hlt
      obtain rfl : pos = s.size := by omega
      have hFt : F = true := by rw [← hv, List.drop_eq_nil_of_le (by simp)]; rfl
      clear hit hv
      go_wp2_with fail
      go_returns
      exact ⟨by rw [hFt]; rfl, HB.out⟩
end Go.Proofs.YtkfjmcidcnpijaaGreatDoor.Sg
