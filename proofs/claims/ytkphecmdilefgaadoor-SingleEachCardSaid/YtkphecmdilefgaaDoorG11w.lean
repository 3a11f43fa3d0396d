/- Walk: inkhornref18's Wrong. -/
import Derived.Test.YtkphecmdilefgaaDoorG10
import Derived.Test.YtkphecmdilefgaaDoorG11
namespace Go.Proofs.YtkphecmdilefgaaDoor.Sg
open Go.RowKit Pl Go.Lib

/-- Which row may not be, for single bytes. -/
def oneGo : Nat → List RRow → Int × Int
  | _, [] => (0, 0)
  | i, r :: t => if r.code.size ≠ 1 then ((i : Int) + 1, 16) else oneGo (i + 1) t
def wrong18 (l : List RRow) : Int × Int := if (wrong17 l).2 ≠ 0 then wrong17 l else oneGo 0 l
theorem oneGo_at (l : List RRow) (i : Nat) (hi : i < l.length) : oneGo i (l.drop i) = if l[i].code.size ≠ 1 then ((i : Int) + 1, 16) else oneGo (i + 1) (l.drop (i + 1)) := by
  rw [List.drop_eq_getElem_cons hi]
  rfl
set_option maxRecDepth 100000 in
set_option maxHeartbeats 1600000 in
theorem wrong18_any (A : Option Addr) (c : Nat) (l : List RRow) (w : World) (hR : RefsAt w A l) (hF : fitR l) (hn : l.length ≤ 1048576) :
    Calls Tryd.prog 7 #[.slice A l.length c] w fun e w' => e = .returned (.tuple #[.int .i64 (wrong18 l).1, .int .i64 (wrong18 l).2]) ∧ Below w.heap.size w w' := by
  have HW := Lib.hid (wrong17_any A c l w hR hF hn)
  have HR := Lib.hid hR
  have HF := Lib.hid hF
  unfold wrong18
  generalize wrong17 l = Y at *
  obtain ⟨y1, y2⟩ := Y
  clear hR hF
  by_cases h0 : y2 = 0
  · subst h0
    rw [if_neg (by simp)]
    obtain ⟨Z, hZ⟩ : ∃ Z, oneGo 0 l = Z := ⟨_, rfl⟩
    rw [hZ]
    have HZ : Hid (oneGo 0 (l.drop 0) = Z) := Lib.hid hZ
    clear hZ
    go_enter Tryd.func7, Tryd.ntmps7
    go_wp2_with fail
    refine HW.out.mono ?_
    rintro _ w1 ⟨rfl, hb1⟩
    have HB1 := Lib.hid hb1
    have HR1 := Lib.hid (HR.out.keep hb1)
    clear hb1 HW HR
    go_wp2_with fail
    go_loopw [6] (fun vi wr => ∃ i : Nat, i ≤ l.length ∧ vi = .int .i64 i ∧ oneGo i (l.drop i) = Z ∧ Drew w1 wr) (fun vi _ => l.length - (intOf vi).toNat)
    case atStart => exact ⟨0, Nat.zero_le _, rfl, HZ.out, 0, rfl⟩
    case round =>
      obtain ⟨i, hi, rfl, hz, m, rfl⟩ := hrel
      by_cases hlt : i < l.length
      · rw [oneGo_at l i hlt] at hz
        obtain ⟨bk, o, v, rfl, hbk, c0, c1, c2, htx⟩ := HR1.out.at_ hlt
        have hsz := (HF.out l[i] (List.getElem_mem hlt)).1
        generalize l[i].code = rc at *
        clear c1 c2 htx hbk
        by_cases h1 : rc.size = 1
        · rw [if_neg (by simp [h1])] at hz
          have e1 : ((rc.size : Int) != 1) = false := by simp [h1]
          have HZI := Lib.hid hz
          clear hz h1
          go_wp2_with fail
          go_roundw
          case rel => exact ⟨i + 1, by omega, by go_num, HZI.out, _, rfl⟩
          case measure => simp [intOf]; omega
        · rw [if_pos h1] at hz
          have e1 : ((rc.size : Int) != 1) = true := by simp; omega
          subst hz
          clear h1
          go_wp2_with fail
          go_returns
          exact ⟨rfl, bdN HB1.out _⟩
      · obtain rfl : i = l.length := by omega
        rw [List.drop_eq_nil_of_le (Nat.le_refl _)] at hz
        have hz : ((0 : Int), (0 : Int)) = Z := hz
        subst hz
        go_wp2_with fail
        go_returns
        exact ⟨rfl, bdN HB1.out _⟩
  · rw [if_pos h0]
    have z0 : (y2 != 0) = true := by simp [h0]
    clear h0
    go_enter Tryd.func7, Tryd.ntmps7
    go_wp2_with fail
    refine HW.out.mono ?_
    rintro _ w1 ⟨rfl, hb1⟩
    have HB1 := Lib.hid hb1
    clear hb1 HW
    go_wp2_with fail
    go_returns
    exact ⟨rfl, HB1.out⟩
end Go.Proofs.YtkphecmdilefgaaDoor.Sg
