/- Walks: wide.Cut. -/
import Derived.Test.YtlfhmkjomogkiaaDoorWf
import Derived.Test.YtlfhmkjomogkiaaDoorPlain2
namespace Go.Proofs.YtlfhmkjomogkiaaDoor
open Go.RowKit Pl

/-- What Cut answers. -/
def cutEnd (x : Nat × Int) (e : Ending) : Prop := e = .returned (.tuple #[.int .i64 x.1, .int .i64 x.2])
/-- What Cut of a kind answers. -/
def kcut (k : Int) (l : List UInt8) : Nat × Int := if 1 ≤ k ∧ k ≤ 4 then (wcut (wsize k) (bigOf k) l, 0) else (0, 16)

set_option maxRecDepth 100000 in
theorem cut4 (k : Int) (h1 : 2 < k) (h4 : k ≤ 4) (s : ByteArray) (hm : s.size ≤ 1000000000) (w : World) :
    Calls Tryd.prog 74 #[.int .i64 k, .string s] w fun e w' => cutEnd (s.size / 4 * 4, 0) e ∧ Below w.heap.size w w' := by
  obtain ⟨big, hbig⟩ : ∃ b, (k % 2 == 0) = b := ⟨_, rfl⟩
  have HO : ∀ w, Calls Tryd.prog 84 #[.int .i64 k] w fun e w' => e = .returned (.tuple #[.agg #[.int .i64 4, .bool big, .bool false], .bool true]) ∧ Below w.heap.size w w' := by
    intro w
    have h := of_yes k (by omega) h4 w
    rw [show wsize k = 4 from by unfold wsize; rw [if_neg (by omega)], show decide (k ≤ 2) = false from by simp; omega, hbig] at h
    exact h
  have HO' := Lib.hid HO; clear HO hbig h1 h4
  go_enter Tryd.func74, Tryd.ntmps74
  go_wp2_with (go_at_call 84; refine (HO'.out _).mono ?_; rintro e w1 ⟨rfl, hb1⟩)
  go_quiet (fail)
  go_wp2
  go_returns
  have hs1 := hb1.size
  exact ⟨rfl, bdN (by go_grown) _⟩

set_option maxRecDepth 100000 in
theorem cut2 (k : Int) (h1 : 1 ≤ k) (h2 : k ≤ 2) (s : ByteArray) (hm : s.size ≤ 1000000000) (w : World) :
    Calls Tryd.prog 74 #[.int .i64 k, .string s] w fun e w' => cutEnd (wcut 2 (bigOf k) s.data.toList, 0) e ∧ Below w.heap.size w w' := by
  obtain ⟨big, hbig⟩ : ∃ b, (k % 2 == 0) = b := ⟨_, rfl⟩
  have HO : ∀ w, Calls Tryd.prog 84 #[.int .i64 k] w fun e w' => e = .returned (.tuple #[.agg #[.int .i64 2, .bool big, .bool true], .bool true]) ∧ Below w.heap.size w w' := by
    intro w
    have h := of_yes k h1 (by omega) w
    rw [show wsize k = 2 from by unfold wsize; rw [if_pos h2], show decide (k ≤ 2) = true from by simp; omega, hbig] at h
    exact h
  have HO' := Lib.hid HO
  rw [show bigOf k = big from hbig]
  clear HO hbig h1 h2
  have hl : s.data.toList.length = s.size := by simp
  unfold wcut
  rw [hl]
  clear hl
  have HG : ∀ j, j + 2 ≤ s.size → ∀ w, Calls Tryd.prog 85 #[.agg #[.int .i64 2, .bool big], .string (s.extract j s.size)] w fun e w' => e = .returned (.int .i64 (unitN 2 big (s.data.toList.drop j))) ∧ Below w.heap.size w w' := by
    intro j hj w
    rw [← Lib.extract_to_end]
    exact get_any 2 big (s.extract j s.size) (by omega) (by omega) (by simp; omega) (by simp; unfold maxLen; omega) w
  by_cases h0 : s.size / 2 * 2 = 0
  · rw [if_neg (by omega), h0]
    have e0 : (s.size : Int) / 2 * 2 = 0 := by omega
    clear HG h0
    go_enter Tryd.func74, Tryd.ntmps74
    go_wp2_with (go_at_call 84; refine (HO'.out _).mono ?_; rintro e w1 ⟨rfl, hb1⟩)
    go_quiet (fail)
    go_wp2
    go_returns
    have hs1 := hb1.size
    exact ⟨rfl, bdN (by go_grown) _⟩
  · obtain ⟨q, hq⟩ : ∃ q, s.size / 2 * 2 = q + 2 := ⟨s.size / 2 * 2 - 2, by omega⟩
    rw [hq, show q + 2 - 2 = q from rfl]
    have hq' : (s.size : Int) / 2 * 2 = (q : Int) + 2 := by omega
    have e1 : decide (0 < (q : Int) + 2) = true := by simp; omega
    have e2 : (s.size : Int) < (q : Int) + 2 + 2 := by omega
    have e4 : (q : Int) + 2 ≤ (s.size : Int) := by omega
    have e5 : (q : Int) ≤ (s.size : Int) := by omega
    have e6 : q ≤ s.size := by omega
    have HG' := Lib.hid (HG q (by omega)); clear HG
    have hn := unitN_le2 big (s.data.toList.drop q)
    generalize unitN 2 big (s.data.toList.drop q) = n at *
    clear hq
    by_cases hh : 55296 ≤ n ∧ n < 56320
    · rw [if_pos ⟨rfl, by omega, hh⟩]
      have i1 : (55296 : Int) ≤ (n : Int) := by omega
      have i2 : (n : Int) < 56320 := by omega
      clear hh hn h0
      go_enter Tryd.func74, Tryd.ntmps74
      go_wp2_with (go_at_call 84; refine (HO'.out _).mono ?_; rintro e w1 ⟨rfl, hb1⟩)
      go_quiet (fail)
      go_wp2_with fail
      have hs1 := hb1.size
      have hbA : Below w.heap.size w ((w1.alloc (Obj.cells #[Value.int IntKind.i64 2, Value.bool big, Value.bool true] 123)).drewN nq) := bdN (by go_grown) _
      have hbx : Box3 ((w1.alloc (Obj.cells #[Value.int IntKind.i64 2, Value.bool big, Value.bool true] 123)).drewN nq) w1.heap.size (.int .i64 2) (.bool big) (.bool true) := Box3.of_alloc (w := w1) (T := 123) (bdN (Below.refl _ _) nq)
      generalize (w1.alloc (Obj.cells #[Value.int IntKind.i64 2, Value.bool big, Value.bool true] 123)).drewN nq = wA at *
      obtain ⟨c0, c1, c2, hz⟩ := id hbx
      have hw1 : IntKind.i64.wrap (q : Int) = (q : Int) := IntWalk.i64_in _ (by omega)
      go_still_tail 9, (by kernel_rfl)
      clear hw1
      change wpList _ _ _ _ _ wA.drew
      go_wp2_with (go_at_call 85; refine (HG'.out _).mono ?_; rintro e w2 ⟨rfl, hb2⟩; have hx2 := hbx.drew.below hb2; have hb3 : Below w.heap.size w w2 := hbA.drew.trans (hb2.mono hbA.size); clear hb2 hbA hbx c0 c1 c2 hz; obtain ⟨c0, c1, c2, hz⟩ := hx2)
      go_returns
      exact ⟨rfl, hb3⟩
    · rw [if_neg (fun h => hh h.2.2)]
      rcases (show n < 55296 ∨ 56320 ≤ n from by omega) with h5 | h5
      · have i1 : decide ((55296 : Int) ≤ (n : Int)) = false := by simp; omega
        clear hh hn h0 h5
        go_enter Tryd.func74, Tryd.ntmps74
        go_wp2_with (go_at_call 84; refine (HO'.out _).mono ?_; rintro e w1 ⟨rfl, hb1⟩)
        go_quiet (fail)
        go_wp2_with fail
        have hs1 := hb1.size
        have hbA : Below w.heap.size w ((w1.alloc (Obj.cells #[Value.int IntKind.i64 2, Value.bool big, Value.bool true] 123)).drewN nq) := bdN (by go_grown) _
        have hbx : Box3 ((w1.alloc (Obj.cells #[Value.int IntKind.i64 2, Value.bool big, Value.bool true] 123)).drewN nq) w1.heap.size (.int .i64 2) (.bool big) (.bool true) := Box3.of_alloc (w := w1) (T := 123) (bdN (Below.refl _ _) nq)
        generalize (w1.alloc (Obj.cells #[Value.int IntKind.i64 2, Value.bool big, Value.bool true] 123)).drewN nq = wA at *
        obtain ⟨c0, c1, c2, hz⟩ := id hbx
        have hw1 : IntKind.i64.wrap (q : Int) = (q : Int) := IntWalk.i64_in _ (by omega)
        go_still_tail 9, (by kernel_rfl)
        clear hw1
        change wpList _ _ _ _ _ wA.drew
        go_wp2_with (go_at_call 85; refine (HG'.out _).mono ?_; rintro e w2 ⟨rfl, hb2⟩; have hx2 := hbx.drew.below hb2; have hb3 : Below w.heap.size w w2 := hbA.drew.trans (hb2.mono hbA.size); clear hb2 hbA hbx c0 c1 c2 hz; obtain ⟨c0, c1, c2, hz⟩ := hx2)
        go_returns
        exact ⟨rfl, hb3⟩
      · have i1 : (55296 : Int) ≤ (n : Int) := by omega
        have i2 : decide ((n : Int) < 56320) = false := by simp; omega
        clear hh hn h0 h5
        go_enter Tryd.func74, Tryd.ntmps74
        go_wp2_with (go_at_call 84; refine (HO'.out _).mono ?_; rintro e w1 ⟨rfl, hb1⟩)
        go_quiet (fail)
        go_wp2_with fail
        have hs1 := hb1.size
        have hbA : Below w.heap.size w ((w1.alloc (Obj.cells #[Value.int IntKind.i64 2, Value.bool big, Value.bool true] 123)).drewN nq) := bdN (by go_grown) _
        have hbx : Box3 ((w1.alloc (Obj.cells #[Value.int IntKind.i64 2, Value.bool big, Value.bool true] 123)).drewN nq) w1.heap.size (.int .i64 2) (.bool big) (.bool true) := Box3.of_alloc (w := w1) (T := 123) (bdN (Below.refl _ _) nq)
        generalize (w1.alloc (Obj.cells #[Value.int IntKind.i64 2, Value.bool big, Value.bool true] 123)).drewN nq = wA at *
        obtain ⟨c0, c1, c2, hz⟩ := id hbx
        have hw1 : IntKind.i64.wrap (q : Int) = (q : Int) := IntWalk.i64_in _ (by omega)
        go_still_tail 9, (by kernel_rfl)
        clear hw1
        change wpList _ _ _ _ _ wA.drew
        go_wp2_with (go_at_call 85; refine (HG'.out _).mono ?_; rintro e w2 ⟨rfl, hb2⟩; have hx2 := hbx.drew.below hb2; have hb3 : Below w.heap.size w w2 := hbA.drew.trans (hb2.mono hbA.size); clear hb2 hbA hbx c0 c1 c2 hz; obtain ⟨c0, c1, c2, hz⟩ := hx2)
        go_returns
        exact ⟨rfl, hb3⟩

set_option maxRecDepth 100000 in
theorem cut_any (k : Int) (s : ByteArray) (hm : s.size ≤ 1000000000) (w : World) :
    Calls Tryd.prog 74 #[.int .i64 k, .string s] w fun e w' => cutEnd (kcut k s.data.toList) e ∧ Below w.heap.size w w' := by
  unfold kcut
  by_cases hk : 1 ≤ k ∧ k ≤ 4
  · rw [if_pos hk]
    by_cases h2 : k ≤ 2
    · rw [show wsize k = 2 from by simp [wsize, h2]]; exact cut2 k hk.1 h2 s hm w
    · rw [show wsize k = 4 from by simp [wsize, h2], show wcut 4 (bigOf k) s.data.toList = s.size / 4 * 4 from by unfold wcut; rw [if_neg (by simp)]; simp]
      exact cut4 k (by omega) hk.2 s hm w
  · rw [if_neg hk]
    have HO := Lib.hid (of_no k (by omega))
    clear hk
    go_enter Tryd.func74, Tryd.ntmps74
    go_wp2_with (go_at_call 84; refine (HO.out _).mono ?_; rintro e w1 ⟨⟨a, b, c, rfl⟩, hb1⟩)
    go_returns
    have hs1 := hb1.size
    exact ⟨rfl, by go_grown⟩
end Go.Proofs.YtlfhmkjomogkiaaDoor
