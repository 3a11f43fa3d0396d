/- Walks: inkhornlaw17.Small, inkhornlaw18.faults, awake. -/
import Derived.Test.YtkphecmdilefgaaDoorG32
namespace Go.Proofs.YtkphecmdilefgaaDoor.Sg
open Go.RowKit Pl Go.Lib

set_option maxRecDepth 100000 in
theorem small17_any (w : World) : Calls Tryd.prog 11 #[] w fun e w' => e = .returned smallI ∧ w = w' := by
  go_enter Tryd.func11, Tryd.ntmps11
  go_wp2_with fail
  go_returns
  exact ⟨rfl, rfl⟩
set_option maxRecDepth 100000 in
set_option maxHeartbeats 1600000 in
theorem faults_any (B1 B2 : Nat) (v1 v2 : Value) (f g : List Nat) (w : World) (h1 : w.ownsRow B1 FaultT 2 v1 f.length (flts f)) (h2 : w.ownsRow B2 IntT 1 v2 g.length (i64s g)) (hl : f.length ≤ 1000000) (hl2 : g.length ≤ 1000000) :
    Calls Tryd.prog 14 #[v1, v2] w fun e w' => e = .returned (.bool (decide (f = g))) ∧ Below w.heap.size w w' := by
  obtain ⟨A1, c1, rfl⟩ : ∃ A c, v1 = .slice A f.length c := by
    rcases own_shapeS h1 with ⟨rfl, h⟩ | ⟨g, c, rfl⟩
    · exact ⟨none, 0, by rw [h]⟩
    · exact ⟨_, _, rfl⟩
  obtain ⟨A2, c2, rfl⟩ : ∃ A c, v2 = .slice A g.length c := by
    rcases own_shapeS h2 with ⟨rfl, h⟩ | ⟨g, c, rfl⟩
    · exact ⟨none, 0, by rw [h]⟩
    · exact ⟨_, _, rfl⟩
  obtain ⟨Z, hZ⟩ : ∃ Z, decide (f = g) = Z := ⟨_, rfl⟩
  rw [hZ]
  by_cases hlen : f.length = g.length
  rotate_left
  · have hz : Z = false := by rw [← hZ]; exact decide_eq_false (fun h => hlen (by rw [h]))
    subst hz
    have e1 : ((f.length : Int) != (g.length : Int)) = true := by simp; omega
    clear hZ h1 h2 hlen
    go_enter Tryd.func14, Tryd.ntmps14
    go_wp2_with fail
    go_returns
    exact ⟨rfl, Below.refl _ _⟩
  have e1 : ((f.length : Int) != (g.length : Int)) = false := by simp [hlen]
  have H1 := Lib.hid h1
  have H2 := Lib.hid h2
  have HZ := Lib.hid hZ
  have HLEN := Lib.hid hlen
  clear h1 h2 hZ hlen
  go_enter Tryd.func14, Tryd.ntmps14
  go_wp2_with fail
  go_loopw [5] (fun vi wr => ∃ i : Nat, i ≤ f.length ∧ vi = .int .i64 i ∧ Drew w wr ∧ f.take i = g.take i) (fun vi _ => f.length - (RowKit.intOf vi).toNat)
  case atStart => exact ⟨0, Nat.zero_le _, rfl, ⟨0, rfl⟩, by simp⟩
  case round =>
    obtain ⟨i, hi, rfl, ⟨m, rfl⟩, htk⟩ := hrel
    by_cases hlt : i < f.length
    · have hlt2 : i < g.length := by have := HLEN.out; omega
      obtain ⟨ga, rfl⟩ : ∃ g, A1 = some ⟨g, 0, none⟩ := by
        rcases own_shapeS H1.out with ⟨h, h0⟩ | ⟨g, c, h⟩
        · omega
        · injection h with h; exact ⟨g, h⟩
      obtain ⟨gb, rfl⟩ : ∃ g, A2 = some ⟨g, 0, none⟩ := by
        rcases own_shapeS H2.out with ⟨h, h0⟩ | ⟨g, c, h⟩
        · omega
        · injection h with h; exact ⟨g, h⟩
      obtain ⟨hp0, hp1⟩ := flts_at f i hlt
      have hb := bdN (Below.refl w.heap.size w) m
      have p0 := own_cellS (own_below H1.out hb) _ hp0
      have p1 := own_cellS (own_below H1.out hb) _ hp1
      have p2 := own_cell (own_below H2.out hb) (i := i) (.int .i64 (g[i] : Int)) (by unfold i64s; rw [List.getElem?_map, List.getElem?_eq_getElem hlt2]; rfl)
      have j0 : (0 : Int) ≤ (i : Int) := by omega
      have j1 : (i : Int) < (f.length : Int) := by omega
      have j2 : (i : Int) < (g.length : Int) := by omega
      have HSN : Hid (f[i] = g[i] → f.take (i + 1) = g.take (i + 1)) := Lib.hid (take_eq_step f g i hlt hlt2 htk)
      have HNE : Hid (f[i] ≠ g[i] → Z = false) := Lib.hid (fun h => by rw [← HZ.out]; exact decide_eq_false (fun he => h (by subst he; rfl)))
      generalize f[i] = x at *
      generalize g[i] = y at *
      clear hp0 hp1 hb
      by_cases hxy : x = y
      · have hsn := HSN.out hxy
        subst hxy
        have HSN2 := Lib.hid hsn
        clear hsn
        go_wp2_with fail
        go_region_held3 (fun w' => w'.cell? ⟨ga, i * 2, none⟩ = some (.int .i64 (x : Int)) ∧ w'.cell? ⟨ga, i * 2 + 1, none⟩ = some (.int .i64 1) ∧ w'.cell? ⟨gb, i, none⟩ = some (.int .i64 (x : Int))) (exact ⟨p0, p1, p2⟩) (fail)
        go_wp2_with fail
        go_roundw
        case rel => exact ⟨i + 1, by omega, by go_num, ⟨m + 1, rfl⟩, HSN2.out⟩
        case measure => simp [RowKit.intOf]; omega
      · have hz := HNE.out hxy
        subst hz
        have x1 : ((x : Int) == (y : Int)) = false := by simp; omega
        clear hxy HSN HNE
        go_wp2_with fail
        go_region_held3 (fun w' => w'.cell? ⟨ga, i * 2, none⟩ = some (.int .i64 (x : Int)) ∧ w'.cell? ⟨ga, i * 2 + 1, none⟩ = some (.int .i64 1) ∧ w'.cell? ⟨gb, i, none⟩ = some (.int .i64 (y : Int))) (exact ⟨p0, p1, p2⟩) (fail)
        go_wp2_with fail
        go_returns
        exact ⟨rfl, (bdN (Below.refl _ _) _).drew⟩
    · obtain rfl : i = f.length := by omega
      have hz : Z = true := by
        rw [← HZ.out]
        refine decide_eq_true ?_
        rw [List.take_of_length_le (Nat.le_refl _), List.take_of_length_le (by have := HLEN.out; omega)] at htk
        exact htk
      subst hz
      have jj : decide ((f.length : Int) < (f.length : Int)) = false := decide_eq_false (by omega)
      clear htk
      go_wp2_with fail
      go_returns
      exact ⟨rfl, bdN (Below.refl _ _) _⟩
end Go.Proofs.YtkphecmdilefgaaDoor.Sg
