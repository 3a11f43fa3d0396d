/- Walks: inkhornlaw01.Runes, Faults; strings.Join of no separator. -/
import Derived.Test.YtlfhmkjomogkiaaDoorWi
import Derived.Test.YtlfhmkjomogkiaaDoorShelf
import Derived.Test.YtlfhmkjomogkiaaDoorFrame
import Derived.Lib.Join
namespace Go.Proofs.YtlfhmkjomogkiaaDoor
open Go.RowKit

/-- A slice of structs of two cells that reads as a list of cells. -/
def Rd2 (w : World) (A : Option Addr) (n : Nat) (xs : List Value) : Prop :=
  xs.length = n * 2 ∧ (0 < n → ∃ b o, A = some ⟨b, o, none⟩ ∧ b < w.heap.size ∧ ∀ i x, xs[i]? = some x → w.cell? ⟨b, o + i, none⟩ = some x)
theorem Rd2.keep {w w' : World} {A : Option Addr} {n : Nat} {xs : List Value} (h : Rd2 w A n xs) (hb : Below w.heap.size w w') : Rd2 w' A n xs :=
  ⟨h.1, fun hn => by
    obtain ⟨b, o, e, hlt, hc⟩ := h.2 hn
    exact ⟨b, o, e, Nat.lt_of_lt_of_le hlt hb.size, fun i x hx => (hb.cell (p := ⟨b, o + i, none⟩) hlt).trans (hc i x hx)⟩⟩
theorem rd_of_own {w : World} {B : Nat} {e : TypeId} {v : Value} {n : Nat} {xs : List Value} (h : w.ownsRow B e 1 v n xs) : ∃ A c, v = .slice A n c ∧ Rd w A n xs := by
  rcases h.2 with ⟨rfl, rfl⟩ | ⟨g, cap, cur, rfl, hg, hh, _⟩
  · exact ⟨none, 0, rfl, by simpa using h.1, fun h => absurd h (by omega)⟩
  · refine ⟨some ⟨g, 0, none⟩, cap, rfl, by simpa using h.1, fun hn => ⟨g, 0, rfl, (Array.getElem?_eq_some_iff.1 hh).1, fun i x hx => ?_⟩⟩
    have hi : i < xs.length := (List.getElem?_eq_some_iff.1 hx).1
    rw [Nat.zero_add, h.cellAt i (by rw [← h.1]; exact hi)]
    exact hx
theorem rd2_of_own {w : World} {B : Nat} {e : TypeId} {v : Value} {n : Nat} {xs : List Value} (h : w.ownsRow B e 2 v n xs) : ∃ A c, v = .slice A n c ∧ Rd2 w A n xs := by
  rcases h.2 with ⟨rfl, rfl⟩ | ⟨g, cap, cur, rfl, hg, hh, _⟩
  · exact ⟨none, 0, rfl, h.1, fun h => absurd h (by omega)⟩
  · refine ⟨some ⟨g, 0, none⟩, cap, rfl, h.1, fun hn => ⟨g, 0, rfl, (Array.getElem?_eq_some_iff.1 hh).1, fun i x hx => ?_⟩⟩
    have hi : i < xs.length := (List.getElem?_eq_some_iff.1 hx).1
    rw [Nat.zero_add, h.cellAt i (by rw [← h.1]; exact hi)]
    exact hx

theorem Rd2.at_ {w : World} {A : Option Addr} {n : Nat} {l : List (Nat × Nat)} (h : Rd2 w A n (fcells l)) {k : Nat} (hk : k < l.length) :
    ∃ b o, A = some ⟨b, o, none⟩ ∧ b < w.heap.size ∧ w.cell? ⟨b, o + k * 2, none⟩ = some (.int .i64 l[k].1) ∧ w.cell? ⟨b, o + k * 2 + 1, none⟩ = some (.int .i64 l[k].2) := by
  have hl := h.1
  rw [fcells_length] at hl
  obtain ⟨b, o, e, hlt, hc⟩ := h.2 (by omega)
  have hf : ∀ (l : List (Nat × Nat)) (k : Nat) (hk : k < l.length), (fcells l)[k * 2]? = some (.int .i64 l[k].1) ∧ (fcells l)[k * 2 + 1]? = some (.int .i64 l[k].2) := by
    intro l
    induction l with
    | nil => intro k hk; simp at hk
    | cons x l ih =>
      intro k hk
      cases k with
      | zero => simp [fcells]
      | succ k =>
        have h2 := ih k (by simpa using hk)
        have e1 : (k + 1) * 2 = k * 2 + 2 := by omega
        rw [e1]
        simpa [fcells] using h2
  obtain ⟨h1, h2⟩ := hf l k hk
  exact ⟨b, o, e, hlt, hc _ _ h1, by have := hc _ _ h2; rw [← Nat.add_assoc] at this; exact this⟩
theorem Rd2.len {w : World} {A : Option Addr} {n : Nat} {l : List (Nat × Nat)} (h : Rd2 w A n (fcells l)) : l.length = n := by
  have := h.1; rw [fcells_length] at this; omega

/-- What comes of a call that only reads, in an order that Go leaves open. -/
def Drew (w w' : World) : Prop := ∃ m, w' = w.drewN m
theorem Drew.below {w w' : World} (h : Drew w w') (B : Nat) : Below B w w' := by
  obtain ⟨m, rfl⟩ := h
  exact bdN (Below.refl _ _) m

theorem take_eq_step {α : Type} [DecidableEq α] (l m : List α) (k : Nat) (h1 : k < l.length) (h2 : k < m.length) (h : l.take k = m.take k) (he : l[k] = m[k]) : l.take (k + 1) = m.take (k + 1) := by
  rw [List.take_succ_eq_append_getElem h1, List.take_succ_eq_append_getElem h2, h, he]

set_option maxRecDepth 100000 in
set_option maxHeartbeats 800000 in
theorem runes_any (A1 : Option Addr) (n1 c1 : Nat) (l1 : List Int) (A2 : Option Addr) (n2 c2 : Nat) (l2 : List Int) (w : World) (h1 : Rd w A1 n1 (i32s l1)) (h2 : Rd w A2 n2 (i32s l2)) (hsm : n1 ≤ 1000000000) :
    Calls Tryd.prog 24 #[.slice A1 n1 c1, .slice A2 n2 c2] w fun e w' => e = .returned (.bool (decide (l1 = l2))) ∧ Drew w w' := by
  obtain rfl := h1.i32_len
  obtain rfl := h2.i32_len
  by_cases hl : l1.length = l2.length
  · have e1 : ((l1.length : Int) == (l2.length : Int)) = true := by simp [hl]
    have e2 : ((l1.length : Int) != (l2.length : Int)) = false := by simp [hl]
    have HL := Lib.hid hl
    have H1 := Lib.hid h1; have H2 := Lib.hid h2
    clear hl h1 h2
    go_enter Tryd.func24, Tryd.ntmps24
    go_wp2
    go_loopw [5] (fun i wr => ∃ k : Nat, k ≤ l1.length ∧ i = .int .i64 k ∧ l1.take k = l2.take k ∧ Drew w wr) (fun i _ => l1.length - (intOf i).toNat)
    case atStart => exact ⟨0, Nat.zero_le _, rfl, rfl, 0, rfl⟩
    case round =>
      obtain ⟨k, hk, rfl, htk, m, rfl⟩ := hrel
      have HT := Lib.hid htk
      clear htk
      by_cases hlt : k < l1.length
      · have hlt2 : k < l2.length := by have := HL.out; omega
        obtain ⟨b1, o1, rfl, hb1, hc1⟩ := H1.out.i32_at hlt
        obtain ⟨b2, o2, rfl, hb2, hc2⟩ := H2.out.i32_at hlt2
        have j0 : (0 : Int) ≤ (k : Int) := by omega
        have j1 : (k : Int) < (l1.length : Int) := by omega
        have j2 : (k : Int) < (l2.length : Int) := by omega
        have HQ : Hid (l1[k] = l2[k] → l1.take (k + 1) = l2.take (k + 1)) := fun he => take_eq_step l1 l2 k hlt hlt2 HT.out he
        have HQ2 : Hid (l1[k] ≠ l2[k] → decide (l1 = l2) = false) := fun he => decide_eq_false (fun h => he (by subst h; rfl))
        generalize l1[k] = x at *
        generalize l2[k] = y at *
        clear hb1 hb2
        by_cases hxy : x = y
        · have e3 : (x == y) = true := by simp [hxy]
          have e4 : (x != y) = false := by simp [hxy]
          have HXY := Lib.hid hxy
          clear hxy
          go_wp2
          go_quiet (fail)
          go_wp2
          go_roundw
          case rel => exact ⟨k + 1, by omega, by go_num, HQ.out HXY.out, _, by first | rfl | exact World.drewN_drewN _ _ _⟩
          case measure => simp [intOf]; omega
        · have e3 : (x == y) = false := by simp [hxy]
          have e4 : (x != y) = true := by simp [hxy]
          have HF := Lib.hid (HQ2.out hxy)
          clear hxy
          go_wp2
          go_quiet (fail)
          go_wp2
          go_returns
          exact ⟨by rw [HF.out]; rfl, _, by first | exact World.drewN_drewN _ _ _ | rfl⟩
      · have hall : l1 = l2 := by
          have h := HT.out
          have hL := HL.out
          rw [List.take_of_length_le (by omega), List.take_of_length_le (by omega)] at h
          exact h
        have HF : Hid (decide (l1 = l2) = true) := decide_eq_true hall
        clear hall
        go_wp2
        go_returns
        exact ⟨by rw [HF.out]; rfl, _, rfl⟩
  · have e1 : ((l1.length : Int) == (l2.length : Int)) = false := by simp; omega
    have e2 : ((l1.length : Int) != (l2.length : Int)) = true := by simp; omega
    have HF : Hid (decide (l1 = l2) = false) := decide_eq_false (fun h => hl (by rw [h]))
    clear hl h1 h2
    go_enter Tryd.func24, Tryd.ntmps24
    go_wp2
    go_returns
    exact ⟨by rw [HF.out]; rfl, 0, rfl⟩

set_option maxRecDepth 100000 in
set_option maxHeartbeats 800000 in
theorem faults_any (A1 : Option Addr) (n1 c1 : Nat) (l1 : List (Nat × Nat)) (A2 : Option Addr) (n2 c2 : Nat) (l2 : List (Nat × Nat)) (w : World) (h1 : Rd2 w A1 n1 (fcells l1)) (h2 : Rd2 w A2 n2 (fcells l2)) (hsm : n1 ≤ 1000000000) :
    Calls Tryd.prog 25 #[.slice A1 n1 c1, .slice A2 n2 c2] w fun e w' => e = .returned (.bool (decide (l1 = l2))) ∧ Drew w w' := by
  obtain rfl := h1.len
  obtain rfl := h2.len
  by_cases hl : l1.length = l2.length
  · have e1 : ((l1.length : Int) == (l2.length : Int)) = true := by simp [hl]
    have e2 : ((l1.length : Int) != (l2.length : Int)) = false := by simp [hl]
    have HL := Lib.hid hl
    have H1 := Lib.hid h1; have H2 := Lib.hid h2
    clear hl h1 h2
    go_enter Tryd.func25, Tryd.ntmps25
    go_wp2
    go_loopw [5] (fun i wr => ∃ k : Nat, k ≤ l1.length ∧ i = .int .i64 k ∧ l1.take k = l2.take k ∧ Drew w wr) (fun i _ => l1.length - (intOf i).toNat)
    case atStart => exact ⟨0, Nat.zero_le _, rfl, rfl, 0, rfl⟩
    case round =>
      obtain ⟨k, hk, rfl, htk, m, rfl⟩ := hrel
      have HT := Lib.hid htk
      clear htk
      by_cases hlt : k < l1.length
      · have hlt2 : k < l2.length := by have := HL.out; omega
        obtain ⟨b1, o1, rfl, hb1, hc1, hd1⟩ := H1.out.at_ hlt
        obtain ⟨b2, o2, rfl, hb2, hc2, hd2⟩ := H2.out.at_ hlt2
        have j0 : (0 : Int) ≤ (k : Int) := by omega
        have j1 : (k : Int) < (l1.length : Int) := by omega
        have j2 : (k : Int) < (l2.length : Int) := by omega
        have HQ : Hid (l1[k] = l2[k] → l1.take (k + 1) = l2.take (k + 1)) := fun he => take_eq_step l1 l2 k hlt hlt2 HT.out he
        have HQ2 : Hid (l1[k] ≠ l2[k] → decide (l1 = l2) = false) := fun he => decide_eq_false (fun h => he (by subst h; rfl))
        generalize l1[k] = x at *
        generalize l2[k] = y at *
        obtain ⟨x1, x2⟩ := x
        obtain ⟨y1, y2⟩ := y
        clear hb1 hb2
        by_cases hx1 : x1 = y1
        · have e3 : ((x1 : Int) == (y1 : Int)) = true := by simp [hx1]
          have HX1 := Lib.hid hx1
          clear hx1
          by_cases hx2 : x2 = y2
          · have e4 : ((x2 : Int) == (y2 : Int)) = true := by simp [hx2]
            have HX2 := Lib.hid hx2
            clear hx2
            go_wp2
            go_quiet (fail)
            go_wp2
            go_roundw
            case rel => exact ⟨k + 1, by omega, by go_num, HQ.out (by rw [HX1.out, HX2.out]), _, by first | exact World.drewN_drewN _ _ _ | rfl⟩
            case measure => simp [intOf]; omega
          · have e4 : ((x2 : Int) == (y2 : Int)) = false := by simp; omega
            have HF := Lib.hid (HQ2.out (by intro h; injection h; contradiction))
            clear hx2
            go_wp2
            go_quiet (fail)
            go_wp2
            go_returns
            exact ⟨by rw [HF.out]; rfl, _, by first | exact World.drewN_drewN _ _ _ | rfl⟩
        · have e3 : ((x1 : Int) == (y1 : Int)) = false := by simp; omega
          have HF := Lib.hid (HQ2.out (by intro h; injection h; contradiction))
          clear hx1
          go_wp2
          go_quiet (fail)
          go_wp2
          go_returns
          exact ⟨by rw [HF.out]; rfl, _, by first | exact World.drewN_drewN _ _ _ | rfl⟩
      · have hall : l1 = l2 := by
          have h := HT.out
          have hL := HL.out
          rw [List.take_of_length_le (by omega), List.take_of_length_le (by omega)] at h
          exact h
        have HF : Hid (decide (l1 = l2) = true) := decide_eq_true hall
        clear hall
        go_wp2
        go_returns
        exact ⟨by rw [HF.out]; rfl, _, rfl⟩
  · have e1 : ((l1.length : Int) == (l2.length : Int)) = false := by simp; omega
    have e2 : ((l1.length : Int) != (l2.length : Int)) = true := by simp; omega
    have HF : Hid (decide (l1 = l2) = false) := decide_eq_false (fun h => hl (by rw [h]))
    clear hl h1 h2
    go_enter Tryd.func25, Tryd.ntmps25
    go_wp2
    go_returns
    exact ⟨by rw [HF.out]; rfl, 0, rfl⟩
end Go.Proofs.YtlfhmkjomogkiaaDoor
