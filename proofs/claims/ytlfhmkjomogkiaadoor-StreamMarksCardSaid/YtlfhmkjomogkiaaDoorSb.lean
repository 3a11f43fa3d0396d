/- Walks: stream.marked, open. -/
import Derived.Test.YtlfhmkjomogkiaaDoorS1
import Derived.Test.YtlfhmkjomogkiaaDoorWf
import Derived.Test.YtlfhmkjomogkiaaDoorJoin
import Derived.Deep.RegionHeld3
namespace Go.Proofs.YtlfhmkjomogkiaaDoor.Str
open Go.RowKit Pl

theorem hasPre (s p : ByteArray) (w : World) : Calls Tryd.prog 70 #[.string s, .string p] w fun e w' => e = .returned (.bool (p.data.toList.isPrefixOf s.data.toList)) ∧ w = w' :=
  (hasPrefix_any s p w).mono fun _ _ ⟨he, hw⟩ => ⟨he, hw.symm⟩
/-- What marked answers. -/
def markedEnd (l : List UInt8) (e : Ending) : Prop := e = .returned (.tuple #[.int .i64 (smarked l).1, .int .i64 (smarked l).2])
theorem marked_any (s : ByteArray) (w : World) :
    Calls Tryd.prog 59 #[.string s] w fun e w' => markedEnd s.data.toList e ∧ Below w.heap.size w w' := by
  have HP := Lib.hid (hasPre s ⟨#[239, 187, 191]⟩)
  have HG := Lib.hid (guess_any s)
  rw [show (⟨#[239, 187, 191]⟩ : ByteArray).data.toList = utfMark from rfl] at HP
  unfold markedEnd smarked
  cases h : utfMark.isPrefixOf s.data.toList
  · rw [h] at HP
    simp only [Bool.false_eq_true, if_false]
    generalize wguess s.data.toList = x at *
    clear h
    go_enter Tryd.func59, Tryd.ntmps59
    go_wp2_with (first | (go_at_call 70; refine (HP.out _).mono ?_; rintro e w' ⟨rfl, rfl⟩) | (go_at_call 73; refine (HG.out _).mono ?_; rintro e w1 ⟨rfl, hb1⟩))
    go_returns
    exact ⟨rfl, hb1⟩
  · rw [h] at HP
    simp only [if_true]
    clear h
    go_enter Tryd.func59, Tryd.ntmps59
    go_wp2_with (go_at_call 70; refine (HP.out _).mono ?_; rintro e w' ⟨rfl, rfl⟩)
    go_returns
    exact ⟨rfl, Below.refl _ _⟩

/-- The function value that open makes: does a kind's mark begin with the bytes? -/
theorem begins_any (k : Int) (s : ByteArray) (g : Nat) (w : World) (hc : w.cell? ⟨g, 0, none⟩ = some (.string s)) (hg : g < w.heap.size) :
    Calls Tryd.prog 69 #[.int .i64 k, .pointer (some ⟨g, 0, none⟩)] w fun e w' => e = .returned (.bool (s.data.toList.isPrefixOf (wmark k))) ∧ Below w.heap.size w w' := by
  have HM := Lib.hid (mark_any k)
  have HP := Lib.hid (hasPre ⟨(wmark k).toArray⟩ s)
  rw [show (⟨(wmark k).toArray⟩ : ByteArray).data.toList = wmark k from by simp] at HP
  generalize s.data.toList.isPrefixOf (wmark k) = p at *
  generalize wmark k = m at *
  go_enter Tryd.func69, Tryd.ntmps69
  go_wp2_with fail
  go_region_held3 (fun w' => w'.cell? ⟨g, 0, none⟩ = some (.string s)) (first | exact hc | exact (hb2.cell (p := ⟨g, 0, none⟩) hg).trans hc) (first | (go_at_call 71; refine (HM.out _).mono ?_; rintro e w2 ⟨rfl, hb2⟩) | (go_at_call 70; refine (HP.out _).mono ?_; rintro e w' ⟨rfl, rfl⟩))
  go_wp2
  go_returns
  exact ⟨rfl, (Below.refl _ _).drew.trans hb2⟩
/- (IndexFunc) -/
/-- The first of four that is so. -/
def firstOf (p1 p2 p3 p4 : Bool) : Int := if p1 then 0 else if p2 then 1 else if p3 then 2 else if p4 then 3 else -1
set_option maxRecDepth 100000 in
set_option maxHeartbeats 1600000 in
theorem index_any (s : ByteArray) (p1 p2 p3 p4 : Bool) (h1 : s.data.toList.isPrefixOf (wmark 1) = p1) (h2 : s.data.toList.isPrefixOf (wmark 2) = p2) (h3 : s.data.toList.isPrefixOf (wmark 3) = p3) (h4 : s.data.toList.isPrefixOf (wmark 4) = p4)
    (g h : Nat) (w : World) (hg : w.cell? ⟨g, 0, none⟩ = some (.string s)) (hgl : g < w.heap.size) (hh : Blk w h 3 #[.int .i64 1, .int .i64 2, .int .i64 3, .int .i64 4]) :
    Calls Tryd.prog 83 #[.slice (some ⟨h, 0, none⟩) 4 4, .func (Fn.func 69) #[] #[.pointer (some ⟨g, 0, none⟩)]] w fun e w' => e = .returned (.int .i64 (firstOf p1 p2 p3 p4)) ∧ Below w.heap.size w w' := by
  have HB : Hid (∀ k w', Below w.heap.size w w' → Calls Tryd.prog 69 #[.int .i64 k, .pointer (some ⟨g, 0, none⟩)] w' fun e w'' => e = .returned (.bool (s.data.toList.isPrefixOf (wmark k))) ∧ Below w'.heap.size w' w'') :=
    fun k w' hb => begins_any k s g w' ((hb.cell (p := ⟨g, 0, none⟩) hgl).trans hg) (Nat.lt_of_lt_of_le hgl hb.size)
  have B1 := Lib.hid (HB.out 1)
  have B2 := Lib.hid (HB.out 2)
  have B3 := Lib.hid (HB.out 3)
  have B4 := Lib.hid (HB.out 4)
  rw [h1] at B1
  rw [h2] at B2
  rw [h3] at B3
  rw [h4] at B4
  have HH := Lib.hid hh
  have hl := hh.lt
  have W0 : Hid (Below w.heap.size w w) := Lib.hid (Below.refl _ _)
  clear h1 h2 h3 h4 hg hh HB
  cases p1
  · cases p2
    · cases p3
      · cases p4
        · go_enter Tryd.func83, Tryd.ntmps83
          go_wp2
          refine wp_loop_rounds 6 ?_
          rw [rounds_succ]
          have c1 : w.cell? ⟨h, 0, none⟩ = some (.int .i64 1) := (W0.out.cell (p := ⟨h, 0, none⟩) hl).trans (by rw [HH.out.cell]; rfl)
          go_wp2_with fail
          refine (B1.out _ W0.out).mono ?_
          rintro e w1 ⟨rfl, hb1⟩
          have W1 := Lib.hid (W0.out.trans (hb1.mono W0.out.size))
          clear hb1 c1
          go_wp2_with fail
          rw [rounds_succ]
          have c2 : w1.cell? ⟨h, 1, none⟩ = some (.int .i64 2) := (W1.out.cell (p := ⟨h, 1, none⟩) hl).trans (by rw [HH.out.cell]; rfl)
          go_wp2_with fail
          refine (B2.out _ W1.out).mono ?_
          rintro e w2 ⟨rfl, hb2⟩
          have W2 := Lib.hid (W1.out.trans (hb2.mono W1.out.size))
          clear hb2 c2
          go_wp2_with fail
          rw [rounds_succ]
          have c3 : w2.cell? ⟨h, 2, none⟩ = some (.int .i64 3) := (W2.out.cell (p := ⟨h, 2, none⟩) hl).trans (by rw [HH.out.cell]; rfl)
          go_wp2_with fail
          refine (B3.out _ W2.out).mono ?_
          rintro e w3 ⟨rfl, hb3⟩
          have W3 := Lib.hid (W2.out.trans (hb3.mono W2.out.size))
          clear hb3 c3
          go_wp2_with fail
          rw [rounds_succ]
          have c4 : w3.cell? ⟨h, 3, none⟩ = some (.int .i64 4) := (W3.out.cell (p := ⟨h, 3, none⟩) hl).trans (by rw [HH.out.cell]; rfl)
          go_wp2_with fail
          refine (B4.out _ W3.out).mono ?_
          rintro e w4 ⟨rfl, hb4⟩
          have W4 := Lib.hid (W3.out.trans (hb4.mono W3.out.size))
          clear hb4 c4
          go_wp2_with fail
          rw [rounds_succ]
          go_wp2
          go_returns
          exact ⟨rfl, W4.out⟩
        · go_enter Tryd.func83, Tryd.ntmps83
          go_wp2
          refine wp_loop_rounds 6 ?_
          rw [rounds_succ]
          have c1 : w.cell? ⟨h, 0, none⟩ = some (.int .i64 1) := (W0.out.cell (p := ⟨h, 0, none⟩) hl).trans (by rw [HH.out.cell]; rfl)
          go_wp2_with fail
          refine (B1.out _ W0.out).mono ?_
          rintro e w1 ⟨rfl, hb1⟩
          have W1 := Lib.hid (W0.out.trans (hb1.mono W0.out.size))
          clear hb1 c1
          go_wp2_with fail
          rw [rounds_succ]
          have c2 : w1.cell? ⟨h, 1, none⟩ = some (.int .i64 2) := (W1.out.cell (p := ⟨h, 1, none⟩) hl).trans (by rw [HH.out.cell]; rfl)
          go_wp2_with fail
          refine (B2.out _ W1.out).mono ?_
          rintro e w2 ⟨rfl, hb2⟩
          have W2 := Lib.hid (W1.out.trans (hb2.mono W1.out.size))
          clear hb2 c2
          go_wp2_with fail
          rw [rounds_succ]
          have c3 : w2.cell? ⟨h, 2, none⟩ = some (.int .i64 3) := (W2.out.cell (p := ⟨h, 2, none⟩) hl).trans (by rw [HH.out.cell]; rfl)
          go_wp2_with fail
          refine (B3.out _ W2.out).mono ?_
          rintro e w3 ⟨rfl, hb3⟩
          have W3 := Lib.hid (W2.out.trans (hb3.mono W2.out.size))
          clear hb3 c3
          go_wp2_with fail
          rw [rounds_succ]
          have c4 : w3.cell? ⟨h, 3, none⟩ = some (.int .i64 4) := (W3.out.cell (p := ⟨h, 3, none⟩) hl).trans (by rw [HH.out.cell]; rfl)
          go_wp2_with fail
          refine (B4.out _ W3.out).mono ?_
          rintro e w4 ⟨rfl, hb4⟩
          have W4 := Lib.hid (W3.out.trans (hb4.mono W3.out.size))
          clear hb4 c4
          go_wp2_with fail
          go_returns
          exact ⟨rfl, W4.out⟩
      · go_enter Tryd.func83, Tryd.ntmps83
        go_wp2
        refine wp_loop_rounds 6 ?_
        rw [rounds_succ]
        have c1 : w.cell? ⟨h, 0, none⟩ = some (.int .i64 1) := (W0.out.cell (p := ⟨h, 0, none⟩) hl).trans (by rw [HH.out.cell]; rfl)
        go_wp2_with fail
        refine (B1.out _ W0.out).mono ?_
        rintro e w1 ⟨rfl, hb1⟩
        have W1 := Lib.hid (W0.out.trans (hb1.mono W0.out.size))
        clear hb1 c1
        go_wp2_with fail
        rw [rounds_succ]
        have c2 : w1.cell? ⟨h, 1, none⟩ = some (.int .i64 2) := (W1.out.cell (p := ⟨h, 1, none⟩) hl).trans (by rw [HH.out.cell]; rfl)
        go_wp2_with fail
        refine (B2.out _ W1.out).mono ?_
        rintro e w2 ⟨rfl, hb2⟩
        have W2 := Lib.hid (W1.out.trans (hb2.mono W1.out.size))
        clear hb2 c2
        go_wp2_with fail
        rw [rounds_succ]
        have c3 : w2.cell? ⟨h, 2, none⟩ = some (.int .i64 3) := (W2.out.cell (p := ⟨h, 2, none⟩) hl).trans (by rw [HH.out.cell]; rfl)
        go_wp2_with fail
        refine (B3.out _ W2.out).mono ?_
        rintro e w3 ⟨rfl, hb3⟩
        have W3 := Lib.hid (W2.out.trans (hb3.mono W2.out.size))
        clear hb3 c3
        go_wp2_with fail
        go_returns
        exact ⟨rfl, W3.out⟩
    · go_enter Tryd.func83, Tryd.ntmps83
      go_wp2
      refine wp_loop_rounds 6 ?_
      rw [rounds_succ]
      have c1 : w.cell? ⟨h, 0, none⟩ = some (.int .i64 1) := (W0.out.cell (p := ⟨h, 0, none⟩) hl).trans (by rw [HH.out.cell]; rfl)
      go_wp2_with fail
      refine (B1.out _ W0.out).mono ?_
      rintro e w1 ⟨rfl, hb1⟩
      have W1 := Lib.hid (W0.out.trans (hb1.mono W0.out.size))
      clear hb1 c1
      go_wp2_with fail
      rw [rounds_succ]
      have c2 : w1.cell? ⟨h, 1, none⟩ = some (.int .i64 2) := (W1.out.cell (p := ⟨h, 1, none⟩) hl).trans (by rw [HH.out.cell]; rfl)
      go_wp2_with fail
      refine (B2.out _ W1.out).mono ?_
      rintro e w2 ⟨rfl, hb2⟩
      have W2 := Lib.hid (W1.out.trans (hb2.mono W1.out.size))
      clear hb2 c2
      go_wp2_with fail
      go_returns
      exact ⟨rfl, W2.out⟩
  · go_enter Tryd.func83, Tryd.ntmps83
    go_wp2
    refine wp_loop_rounds 6 ?_
    rw [rounds_succ]
    have c1 : w.cell? ⟨h, 0, none⟩ = some (.int .i64 1) := (W0.out.cell (p := ⟨h, 0, none⟩) hl).trans (by rw [HH.out.cell]; rfl)
    go_wp2_with fail
    refine (B1.out _ W0.out).mono ?_
    rintro e w1 ⟨rfl, hb1⟩
    have W1 := Lib.hid (W0.out.trans (hb1.mono W0.out.size))
    clear hb1 c1
    go_wp2_with fail
    go_returns
    exact ⟨rfl, W1.out⟩
theorem contains_any (s : ByteArray) (g h : Nat) (w : World) (hg : w.cell? ⟨g, 0, none⟩ = some (.string s)) (hgl : g < w.heap.size) (hh : Blk w h 3 #[.int .i64 1, .int .i64 2, .int .i64 3, .int .i64 4]) :
    Calls Tryd.prog 72 #[.slice (some ⟨h, 0, none⟩) 4 4, .func (Fn.func 69) #[] #[.pointer (some ⟨g, 0, none⟩)]] w fun e w' =>
      e = .returned (.bool (s.data.toList.isPrefixOf (wmark 1) || (s.data.toList.isPrefixOf (wmark 2) || (s.data.toList.isPrefixOf (wmark 3) || s.data.toList.isPrefixOf (wmark 4))))) ∧ Below w.heap.size w w' := by
  have H := Lib.hid (index_any s _ _ _ _ rfl rfl rfl rfl g h w hg hgl hh)
  generalize s.data.toList.isPrefixOf (wmark 1) = p1 at *
  generalize s.data.toList.isPrefixOf (wmark 2) = p2 at *
  generalize s.data.toList.isPrefixOf (wmark 3) = p3 at *
  generalize s.data.toList.isPrefixOf (wmark 4) = p4 at *
  clear hg hgl hh
  have hd : decide ((0 : Int) ≤ firstOf p1 p2 p3 p4) = (p1 || (p2 || (p3 || p4))) := by
    cases p1 <;> cases p2 <;> cases p3 <;> cases p4 <;> rfl
  rw [← hd]
  generalize firstOf p1 p2 p3 p4 = q at *
  clear hd
  go_enter Tryd.func72, Tryd.ntmps72
  go_wp2_with fail
  refine H.out.mono ?_
  rintro e w1 ⟨rfl, hb1⟩
  go_wp2
  go_returns
  exact ⟨rfl, hb1⟩
/- (IndexFunc ends) -/
theorem open_any (s : ByteArray) (w : World) :
    Calls Tryd.prog 58 #[.string s] w fun e w' => e = .returned (.bool (sopen s.data.toList)) ∧ Below w.heap.size w w' := by
  have hl : s.data.toList.length = s.size := by simp
  have HP := Lib.hid (hasPre ⟨#[239, 187, 191]⟩ s)
  rw [show (⟨#[239, 187, 191]⟩ : ByteArray).data.toList = utfMark from rfl] at HP
  unfold sopen
  rw [hl]
  by_cases h4 : 4 ≤ s.size
  · rw [if_pos (.inl h4)]
    have i1 : (4 : Int) ≤ s.size := by omega
    clear hl h4
    go_enter Tryd.func58, Tryd.ntmps58
    go_wp2
    go_returns
    exact ⟨rfl, by go_grown⟩
  · have i1 : decide ((4 : Int) ≤ s.size) = false := by simp; omega
    by_cases hm : s.data.toList = utfMark
    · rw [if_pos (.inr hm)]
      have i2 : (s.toList == [239, 187, 191]) = true := by rw [Lib.toList_data, hm]; rfl
      clear hl h4 hm
      go_enter Tryd.func58, Tryd.ntmps58
      go_wp2
      go_returns
      exact ⟨rfl, by go_grown⟩
    · rw [if_neg (fun h => h.elim h4 hm)]
      have i2 : (s.toList == [239, 187, 191]) = false := by rw [Lib.toList_data, beq_eq_false_iff_ne]; exact hm
      clear hl h4 hm
      cases hp : s.data.toList.isPrefixOf utfMark
      · rw [hp] at HP
        simp only [Bool.false_or]
        go_enter Tryd.func58, Tryd.ntmps58
        go_wp2_with (go_at_call 70; refine (HP.out _).mono ?_; rintro e w' ⟨rfl, rfl⟩)
        refine (contains_any s w.heap.size (w.heap.size + 1) _ ?_ (by simp; omega) ?_).mono ?_
        · rw [cell_of_row _ _ 0 _ 9 (0, 0) ((Below.heap_alloc _ _ w.heap.size (by simp)).trans (heap_alloc_new w _))]; rfl
        · have h := Blk.new (w.alloc (.cells #[.string s] 9)) 3 #[.int .i64 1, .int .i64 2, .int .i64 3, .int .i64 4]
          simpa using h
        rintro e w1 ⟨rfl, hb1⟩
        go_wp2
        go_returns
        exact ⟨rfl, (((Below.refl w.heap.size w).alloc (Nat.le_refl _) _).alloc (by simp) _).trans (hb1.mono (by simp; omega))⟩
      · rw [hp] at HP
        simp only [Bool.true_or]
        clear hp
        go_enter Tryd.func58, Tryd.ntmps58
        go_wp2_with (go_at_call 70; refine (HP.out _).mono ?_; rintro e w' ⟨rfl, rfl⟩)
        go_returns
        exact ⟨rfl, by go_grown⟩
end Go.Proofs.YtlfhmkjomogkiaaDoor.Str
