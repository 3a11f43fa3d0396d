/- Walks: wide.form.next, wide.Next, inkhornref02.Next: each comes to Pl.wnext. -/
import Derived.Test.YtlfhmkjomogkiaaDoorWa
import Derived.Test.YtlfhmkjomogkiaaDoorRd
import Derived.StillTailTactics
import Derived.Deep.RegionHeld3
import Derived.Lib.IndexBytes
namespace Go.Proofs.YtlfhmkjomogkiaaDoor
open Go.RowKit Pl

theorem unitN_le2 (big : Bool) (l : List UInt8) : unitN 2 big l ≤ 65535 := by have := unitN_lt 2 big l; omega
theorem unitN_le4 (big : Bool) (l : List UInt8) : unitN 4 big l ≤ 4294967295 := by have := unitN_lt 4 big l; omega

/-- Three cells of a block. -/
def Box3 (w : World) (g : Nat) (x y z : Value) : Prop := w.cell? ⟨g, 0, none⟩ = some x ∧ w.cell? ⟨g, 1, none⟩ = some y ∧ w.cell? ⟨g, 2, none⟩ = some z ∧ g < w.heap.size
theorem Box3.of_alloc {w w1 : World} {x y z : Value} {T : TypeId} (hb : Below (w.alloc (.cells #[x, y, z] T)).heap.size (w.alloc (.cells #[x, y, z] T)) w1) : Box3 w1 w.heap.size x y z := by
  have hs : w.heap.size < (w.alloc (.cells #[x, y, z] T)).heap.size := by simp
  refine ⟨?_, ?_, ?_, Nat.lt_of_lt_of_le hs hb.size⟩ <;> (rw [hb.cell (by simp)]; simp [go_sem])
theorem Box3.below {w w1 : World} {g : Nat} {x y z : Value} (h : Box3 w g x y z) (hb : Below w.heap.size w w1) : Box3 w1 g x y z :=
  ⟨(hb.cell h.2.2.2).trans h.1, (hb.cell h.2.2.2).trans h.2.1, (hb.cell h.2.2.2).trans h.2.2.1, Nat.lt_of_lt_of_le h.2.2.2 hb.size⟩
theorem Box3.drew {w : World} {g : Nat} {x y z : Value} (h : Box3 w g x y z) : Box3 w.drew g x y z := h

/-- What next answers. -/
def nextEnd (x : Int × Nat × Int) (e : Ending) : Prop := e = .returned (.tuple #[.int .i32 x.1, .int .i64 x.2.1, .int .i64 x.2.2])

set_option maxRecDepth 100000 in
set_option maxHeartbeats 1600000 in
theorem next2 (big : Bool) (s : ByteArray) (hm : s.size ≤ maxLen) (w : World) :
    Calls Tryd.prog 86 #[.agg #[.int .i64 2, .bool big, .bool true], .string s] w fun e w' =>
      nextEnd (wnext 2 big s.data.toList) e ∧ Below w.heap.size w w' := by
  have hl : s.data.toList.length = s.size := by simp
  have hn := unitN_le2 big s.data.toList
  have hm' := unitN_le2 big (s.data.toList.drop 2)
  have HG1 : 2 ≤ s.size → ∀ w, Calls Tryd.prog 85 #[.agg #[.int .i64 2, .bool big], .string s] w fun e w' => e = .returned (.int .i64 (unitN 2 big s.data.toList)) ∧ Below w.heap.size w w' :=
    fun hs w => get_any 2 big s (by omega) (by omega) hs hm w
  have HG2 : 4 ≤ s.size → ∀ w, Calls Tryd.prog 85 #[.agg #[.int .i64 2, .bool big], .string (s.extract 2 s.size)] w fun e w' => e = .returned (.int .i64 (unitN 2 big (s.data.toList.drop 2))) ∧ Below w.heap.size w w' := by
    intro h4 w
    rw [← Lib.extract_to_end]
    exact get_any 2 big (s.extract 2 s.size) (by omega) (by omega) (by simp; omega) (by simp; omega) w
  unfold wnext
  rw [hl]
  clear hl
  generalize unitN 2 big s.data.toList = n at *
  generalize unitN 2 big (s.data.toList.drop 2) = m at *
  unfold maxLen at hm
  by_cases h2 : s.size < 2
  · rw [wn_short h2]
    clear HG1 HG2 hn hm'
    go_enter Tryd.func86, Tryd.ntmps86
    go_wp2
    go_returns
    exact ⟨rfl, by go_grown⟩
  have HG := Lib.hid (HG1 (by omega)); clear HG1
  have d0 : decide ((s.size : Int) < 2) = false := by simp; omega
  by_cases hh : 55296 ≤ n ∧ n < 56320
  · obtain ⟨hh1, hh2⟩ := hh
    have i1 : (55296 : Int) ≤ (n : Int) := by omega
    have i2 : (n : Int) < 56320 := by omega
    by_cases h4 : s.size < 4
    · rw [wn_high_short h2 hh1 hh2 h4]
      have i4 : (s.size : Int) < 4 := by omega
      clear HG2 hh1 hh2 h4 h2 hn hm'
      go_enter Tryd.func86, Tryd.ntmps86
      go_wp2_with (go_at_call 85; refine (HG.out _).mono ?_; rintro e w1 ⟨rfl, hb⟩; have hx := Box3.of_alloc hb; have hb1 : Below w.heap.size w w1 := below_via hb (by go_grown) (by simp); clear hb; obtain ⟨c0, c1, c2, hz⟩ := id hx)
      go_returns
      exact ⟨rfl, by go_grown⟩
    · have HG2' := Lib.hid (HG2 (by omega)); clear HG2
      have d4 : decide ((s.size : Int) < 4) = false := by simp; omega
      have d2 : (2 : Int) ≤ s.size := by omega
      by_cases hh3 : 56320 ≤ m ∧ m < 57344
      · rw [wn_pair hh1 hh2 h4 hh3.1 hh3.2]
        have HV : Hid (((65536 + (n - 55296) * 1024 + (m - 56320) : Nat) : Int) = 65536 + ((n : Int) - 55296) * 1024 + m - 56320) := by show _ = _; omega
        have i5 : (56320 : Int) ≤ (m : Int) := by omega
        have i6 : (m : Int) < 57344 := by omega
        clear hh1 hh2 h4 h2 hh3 hn hm'
        go_enter Tryd.func86, Tryd.ntmps86
        go_wp2_with (go_at_call 85; refine (HG.out _).mono ?_; rintro e w1 ⟨rfl, hb⟩; have hx := Box3.of_alloc hb; have hb1 : Below w.heap.size w w1 := below_via hb (by go_grown) (by simp); clear hb; obtain ⟨c0, c1, c2, hz⟩ := id hx)
        go_still_tail 7, (by kernel_rfl)
        change wpList _ _ _ _ _ w1.drew
        go_wp2_with (go_at_call 85; refine (HG2'.out _).mono ?_; rintro e w2 ⟨rfl, hb⟩; have hx2 := Box3.below hx.drew hb; have hb2 : Below w.heap.size w w2 := hb1.drew.trans (hb.mono (Nat.le_of_lt hz)); clear hb c0 c1 c2 hx hz hb1; obtain ⟨c0, c1, c2, hz⟩ := hx2)
        go_quiet (fail)
        go_wp2
        go_returns
        exact ⟨by rw [nextEnd, HV.out]; rfl, bdN (by go_grown) _⟩
      · rw [wn_high_bad hh1 hh2 h4 (by omega)]
        rcases (show m < 56320 ∨ 57344 ≤ m from by omega) with h5 | h5
        · have i5 : decide ((56320 : Int) ≤ (m : Int)) = false := by simp; omega
          clear hh1 hh2 h4 h2 hh3 hn hm' h5
          go_enter Tryd.func86, Tryd.ntmps86
          go_wp2_with (go_at_call 85; refine (HG.out _).mono ?_; rintro e w1 ⟨rfl, hb⟩; have hx := Box3.of_alloc hb; have hb1 : Below w.heap.size w w1 := below_via hb (by go_grown) (by simp); clear hb; obtain ⟨c0, c1, c2, hz⟩ := id hx)
          go_still_tail 7, (by kernel_rfl)
          change wpList _ _ _ _ _ w1.drew
          go_wp2_with (go_at_call 85; refine (HG2'.out _).mono ?_; rintro e w2 ⟨rfl, hb⟩; have hx2 := Box3.below hx.drew hb; have hb2 : Below w.heap.size w w2 := hb1.drew.trans (hb.mono (Nat.le_of_lt hz)); clear hb c0 c1 c2 hx hz hb1; obtain ⟨c0, c1, c2, hz⟩ := hx2)
          go_quiet (fail)
          go_wp2
          go_returns
          exact ⟨rfl, bdN (by go_grown) _⟩
        · have i5 : (56320 : Int) ≤ (m : Int) := by omega
          have i6 : decide ((m : Int) < 57344) = false := by simp; omega
          clear hh1 hh2 h4 h2 hh3 hn hm' h5
          go_enter Tryd.func86, Tryd.ntmps86
          go_wp2_with (go_at_call 85; refine (HG.out _).mono ?_; rintro e w1 ⟨rfl, hb⟩; have hx := Box3.of_alloc hb; have hb1 : Below w.heap.size w w1 := below_via hb (by go_grown) (by simp); clear hb; obtain ⟨c0, c1, c2, hz⟩ := id hx)
          go_still_tail 7, (by kernel_rfl)
          change wpList _ _ _ _ _ w1.drew
          go_wp2_with (go_at_call 85; refine (HG2'.out _).mono ?_; rintro e w2 ⟨rfl, hb⟩; have hx2 := Box3.below hx.drew hb; have hb2 : Below w.heap.size w w2 := hb1.drew.trans (hb.mono (Nat.le_of_lt hz)); clear hb c0 c1 c2 hx hz hb1; obtain ⟨c0, c1, c2, hz⟩ := hx2)
          go_quiet (fail)
          go_wp2
          go_returns
          exact ⟨rfl, bdN (by go_grown) _⟩
  · have hh' : n < 55296 ∨ 56320 ≤ n := by omega
    have g0 : decide ((1114111 : Int) < n) = false := by simp; omega
    clear HG2
    cases hsc : scal n
    · rw [wn_bad h2 (fun _ => hh') hsc]
      have HS : Hid (∀ w, Calls Tryd.prog 20 #[.int .i32 n] w fun e w' => e = .returned (.bool false) ∧ w = w') := by
        intro w; rw [← hsc]; exact scalar_any n w
      rcases hh' with h5 | h5
      · exfalso; simp [scal] at hsc; omega
      · have i1 : (55296 : Int) ≤ (n : Int) := by omega
        have i5 : decide ((n : Int) < 56320) = false := by simp; omega
        have i6 : (n : Int) ≤ 65535 := by omega
        clear hsc hh h2 hn hm' h5
        go_enter Tryd.func86, Tryd.ntmps86
        go_wp2_with (first | (go_at_call 85; refine (HG.out _).mono ?_; rintro e w1 ⟨rfl, hb⟩; have hx := Box3.of_alloc hb; have hb1 : Below w.heap.size w w1 := below_via hb (by go_grown) (by simp); clear hb; obtain ⟨c0, c1, c2, hz⟩ := id hx) | (go_at_call 20; refine (HS.out _).mono ?_; rintro e w' ⟨rfl, rfl⟩))
        go_quiet (fail)
        go_wp2
        go_returns
        exact ⟨rfl, bdN (by go_grown) _⟩
    · rw [wn_ok h2 (fun _ => hh') hsc]
      have HS : Hid (∀ w, Calls Tryd.prog 20 #[.int .i32 n] w fun e w' => e = .returned (.bool true) ∧ w = w') := by
        intro w; rw [← hsc]; exact scalar_any n w
      rcases hh' with h5 | h5
      · have i5 : decide ((55296 : Int) ≤ (n : Int)) = false := by simp; omega
        have i6 : (n : Int) ≤ 65535 := by omega
        clear hsc hh h2 hn hm' h5
        go_enter Tryd.func86, Tryd.ntmps86
        go_wp2_with (first | (go_at_call 85; refine (HG.out _).mono ?_; rintro e w1 ⟨rfl, hb⟩; have hx := Box3.of_alloc hb; have hb1 : Below w.heap.size w w1 := below_via hb (by go_grown) (by simp); clear hb; obtain ⟨c0, c1, c2, hz⟩ := id hx) | (go_at_call 20; refine (HS.out _).mono ?_; rintro e w' ⟨rfl, rfl⟩))
        go_quiet (fail)
        go_wp2
        go_returns
        exact ⟨rfl, bdN (by go_grown) _⟩
      · have i1 : (55296 : Int) ≤ (n : Int) := by omega
        have i5 : decide ((n : Int) < 56320) = false := by simp; omega
        have i6 : (n : Int) ≤ 65535 := by omega
        clear hsc hh h2 hn hm' h5
        go_enter Tryd.func86, Tryd.ntmps86
        go_wp2_with (first | (go_at_call 85; refine (HG.out _).mono ?_; rintro e w1 ⟨rfl, hb⟩; have hx := Box3.of_alloc hb; have hb1 : Below w.heap.size w w1 := below_via hb (by go_grown) (by simp); clear hb; obtain ⟨c0, c1, c2, hz⟩ := id hx) | (go_at_call 20; refine (HS.out _).mono ?_; rintro e w' ⟨rfl, rfl⟩))
        go_quiet (fail)
        go_wp2
        go_returns
        exact ⟨rfl, bdN (by go_grown) _⟩

set_option maxRecDepth 100000 in
set_option maxHeartbeats 1600000 in
theorem next4 (big : Bool) (s : ByteArray) (hm : s.size ≤ maxLen) (w : World) :
    Calls Tryd.prog 86 #[.agg #[.int .i64 4, .bool big, .bool false], .string s] w fun e w' =>
      nextEnd (wnext 4 big s.data.toList) e ∧ Below w.heap.size w w' := by
  have hl : s.data.toList.length = s.size := by simp
  have hn := unitN_le4 big s.data.toList
  have HG1 : 4 ≤ s.size → ∀ w, Calls Tryd.prog 85 #[.agg #[.int .i64 4, .bool big], .string s] w fun e w' => e = .returned (.int .i64 (unitN 4 big s.data.toList)) ∧ Below w.heap.size w w' :=
    fun hs w => get_any 4 big s (by omega) (by omega) hs hm w
  unfold wnext
  rw [hl]
  clear hl
  generalize unitN 4 big s.data.toList = n at *
  generalize unitN 2 big (s.data.toList.drop 2) = m at *
  unfold maxLen at hm
  by_cases h2 : s.size < 4
  · rw [wn_short h2]
    clear HG1 hn
    go_enter Tryd.func86, Tryd.ntmps86
    go_wp2
    go_returns
    exact ⟨rfl, by go_grown⟩
  have HG := Lib.hid (HG1 (by omega)); clear HG1
  have d0 : decide ((s.size : Int) < 4) = false := by simp; omega
  have hq : (4 : Nat) = 2 → n < 55296 ∨ 56320 ≤ n := fun h => absurd h (by decide)
  by_cases hg : 1114111 < n
  · have hsc : scal n = false := by simp [scal]; omega
    rw [wn_bad h2 hq hsc]
    have g0 : (1114111 : Int) < n := by omega
    clear hsc hq h2 hn hg
    go_enter Tryd.func86, Tryd.ntmps86
    go_wp2_with (go_at_call 85; refine (HG.out _).mono ?_; rintro e w1 ⟨rfl, hb⟩; have hx := Box3.of_alloc hb; have hb1 : Below w.heap.size w w1 := below_via hb (by go_grown) (by simp); clear hb; obtain ⟨c0, c1, c2, hz⟩ := id hx)
    go_quiet (fail)
    go_wp2
    go_returns
    exact ⟨rfl, bdN (by go_grown) _⟩
  · have g0 : decide ((1114111 : Int) < n) = false := by simp; omega
    cases hsc : scal n
    · rw [wn_bad h2 hq hsc]
      have HS : Hid (∀ w, Calls Tryd.prog 20 #[.int .i32 n] w fun e w' => e = .returned (.bool false) ∧ w = w') := by
        intro w; rw [← hsc]; exact scalar_any n w
      have i6 : (n : Int) ≤ 1114111 := by omega
      clear hsc hq h2 hn hg
      go_enter Tryd.func86, Tryd.ntmps86
      go_wp2_with (first | (go_at_call 85; refine (HG.out _).mono ?_; rintro e w1 ⟨rfl, hb⟩; have hx := Box3.of_alloc hb; have hb1 : Below w.heap.size w w1 := below_via hb (by go_grown) (by simp); clear hb; obtain ⟨c0, c1, c2, hz⟩ := id hx) | (go_at_call 20; refine (HS.out _).mono ?_; rintro e w' ⟨rfl, rfl⟩))
      go_quiet (fail)
      go_wp2
      go_returns
      exact ⟨rfl, bdN (by go_grown) _⟩
    · rw [wn_ok h2 hq hsc]
      have HS : Hid (∀ w, Calls Tryd.prog 20 #[.int .i32 n] w fun e w' => e = .returned (.bool true) ∧ w = w') := by
        intro w; rw [← hsc]; exact scalar_any n w
      have i6 : (n : Int) ≤ 1114111 := by omega
      clear hsc hq h2 hn hg
      go_enter Tryd.func86, Tryd.ntmps86
      go_wp2_with (first | (go_at_call 85; refine (HG.out _).mono ?_; rintro e w1 ⟨rfl, hb⟩; have hx := Box3.of_alloc hb; have hb1 : Below w.heap.size w w1 := below_via hb (by go_grown) (by simp); clear hb; obtain ⟨c0, c1, c2, hz⟩ := id hx) | (go_at_call 20; refine (HS.out _).mono ?_; rintro e w' ⟨rfl, rfl⟩))
      go_quiet (fail)
      go_wp2
      go_returns
      exact ⟨rfl, bdN (by go_grown) _⟩
end Go.Proofs.YtlfhmkjomogkiaaDoor
