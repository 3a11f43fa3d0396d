/- Walk: inkhornlaw13.same. -/
import Derived.Test.YtopaoejapnakiaaGreatDoorM12
import Derived.Test.YtopaoejapnakiaaGreatDoorJ1
import Derived.BigRegion
namespace Go.Proofs.YtopaoejapnakiaaGreatDoor.Mf
open Go.RowKit Pl

/-- Rows of the reference that a slice reads as. -/
def RdF (w : World) (A : Option Addr) (l : List LRow) : Prop := 0 < l.length → ∃ g o, A = some ⟨g, o, none⟩ ∧ g < w.heap.size ∧ ∀ k (hk : k < l.length), ∃ At n ct,
  w.cell? ⟨g, o + k * 3, none⟩ = some (.string ⟨l[k].code.toArray⟩) ∧ w.cell? ⟨g, o + k * 3 + 1, none⟩ = some (.slice At n ct) ∧ TextAt w (.slice At n ct) l[k].text ∧ w.cell? ⟨g, o + k * 3 + 2, none⟩ = some (.int .i64 l[k].flag)
theorem RdF.keep {w w' : World} {A : Option Addr} {l : List LRow} (h : RdF w A l) (hb : Below w.heap.size w w') : RdF w' A l := fun h0 => by
  obtain ⟨g, o, e, hg, hc⟩ := h h0
  refine ⟨g, o, e, Nat.lt_of_lt_of_le hg hb.size, fun k hk => ?_⟩
  obtain ⟨At, n, ct, c0, c1, c2, c3⟩ := hc k hk
  exact ⟨At, n, ct, (hb.cell (p := ⟨g, o + k * 3, none⟩) hg).trans c0, (hb.cell (p := ⟨g, o + k * 3 + 1, none⟩) hg).trans c1, c2.keep hb, (hb.cell (p := ⟨g, o + k * 3 + 2, none⟩) hg).trans c3⟩
theorem refcells_at (l : List (Value × LRow)) : ∀ k (hk : k < l.length), (refcells l)[k * 3]? = some (.string ⟨l[k].2.code.toArray⟩) ∧ (refcells l)[k * 3 + 1]? = some l[k].1 ∧ (refcells l)[k * 3 + 2]? = some (.int .i64 l[k].2.flag) := by
  induction l with
  | nil => intro k hk; cases hk
  | cons a l ih =>
    intro k hk
    have e : refcells (a :: l) = [.string ⟨a.2.code.toArray⟩, a.1, .int .i64 a.2.flag] ++ refcells l := rfl
    rw [e]
    cases k with
    | zero => exact ⟨rfl, rfl, rfl⟩
    | succ k =>
      obtain ⟨h1, h2, h3⟩ := ih k (by simpa using hk)
      have e1 : (k + 1) * 3 = k * 3 + 3 := by omega
      rw [e1]
      refine ⟨?_, ?_, ?_⟩
      · rw [List.getElem?_append_right (by simp)]; simpa using h1
      · rw [List.getElem?_append_right (by simp)]; simpa using h2
      · rw [List.getElem?_append_right (by simp)]; simpa using h3
theorem TextAt.shape {w : World} {v : Value} {t : List Int} (h : TextAt w v t) : ∃ A n c, v = .slice A n c := by
  rcases h with ⟨rfl, _⟩ | ⟨g, c, cur, rfl, _⟩
  · exact ⟨_, _, _, rfl⟩
  · exact ⟨_, _, _, rfl⟩
theorem Refs.rd {B : Nat} {w : World} {v : Value} {l : List LRow} (h : Refs B w v l) : ∃ A c, v = .slice A l.length c ∧ RdF w A l := by
  obtain ⟨A, c, e⟩ := h.shape
  refine ⟨A, c, e, fun hl => ?_⟩
  obtain ⟨ps, rfl, htp, hown⟩ := h
  rw [List.length_map] at hl e hown
  rcases hown.2 with ⟨_, h0⟩ | ⟨g, cap, cur, e2, _, hh, _, _, _, h4⟩
  · omega
  · rw [e] at e2
    injection e2 with e2 _ _
    have hc : ∀ j x, (refcells ps)[j]? = some x → w.cell? ⟨g, j, none⟩ = some x := fun j x hx => by
      rw [cell_of_row w g j cur RefT (0, 0) hh]
      rw [← h4, List.getElem?_take] at hx
      split at hx
      · simpa using hx
      · cases hx
    refine ⟨g, 0, e2, (Array.getElem?_eq_some_iff.1 hh).1, fun k hk => ?_⟩
    have hk2 : k < ps.length := by simpa using hk
    obtain ⟨r0, r1, r2⟩ := refcells_at ps k hk2
    have ht := htp ps[k] (List.getElem_mem hk2)
    obtain ⟨At, n, ct, hs⟩ := ht.shape
    rw [hs] at r1 ht
    rw [Nat.zero_add, List.getElem_map]
    exact ⟨At, n, ct, hc _ _ r0, hc _ _ r1, ht, hc _ _ r2⟩
theorem text_ok {x : LRow} (h : wrongL x = 0) : runesBytes x.text = ⟨(textB x.text).toArray⟩ := by
  rw [wrongL_eq] at h
  by_cases h1 : 1 ≤ x.code.length ∧ x.code.length ≤ 4 ∧ 1 ≤ x.text.length ∧ x.text.length ≤ 18
  · rw [if_pos h1] at h
    by_cases h2 : x.text.all okR = true
    · refine ba_ext (runesBytes_eq _ fun r hr => ?_)
      have := List.all_eq_true.1 h2 r hr
      unfold okR at this
      have := of_decide_eq_true this
      exact ⟨this.1, this.2.2⟩
    · rw [if_neg h2] at h
      exact absurd h (by decide)
  · rw [if_neg h1] at h
    exact absurd h (by decide)
theorem readGo_ok {F : List UInt8 → One} (hF : ∀ s x, F s = .row x → wrongL x = 0) : ∀ (b : List (List UInt8)) (i : Nat) (out : List LRow), (∀ x ∈ out, wrongL x = 0) → ∀ x ∈ (readGo F i out b).1, wrongL x = 0 := by
  intro b
  induction b with
  | nil => intro i out h; exact h
  | cons s t ih =>
    intro i out h
    rw [readGo_cons]
    cases hs : F (clean s) with
    | none => exact ih _ _ h
    | err e => intro x hx; cases hx
    | row y =>
      refine ih _ _ fun x hx => ?_
      rcases List.mem_append.1 hx with hx | hx
      · exact h x hx
      · obtain rfl : x = y := by simpa using hx
        exact hF _ _ hs
theorem readL_ok {F : List UInt8 → One} (hF : ∀ s x, F s = .row x → wrongL x = 0) (s : List UInt8) : ∀ x ∈ (readL F s).1, wrongL x = 0 := by
  unfold readL
  split
  · exact readGo_ok hF _ _ _ (fun x hx => by cases hx)
  · intro x hx; cases hx
theorem oneU_row (s : List UInt8) (x : LRow) (h : oneU s = .row x) : wrongL x = 0 := by
  unfold oneU at h
  split at h
  · cases h
  · split at h
    · cases h
    · split at h <;> cases h
    · split at h
      · rename_i h0; cases h; exact h0
      · cases h
theorem oneC_row (s : List UInt8) (x : LRow) (h : oneC s = .row x) : wrongL x = 0 := by
  unfold oneC at h
  split at h
  · cases h
  · split at h
    · cases h
    · split at h
      · rename_i h0; cases h; exact h0
      · cases h
set_option maxRecDepth 100000 in
set_option maxHeartbeats 3200000 in
theorem same_any (A1 A2 : Option Addr) (c1 c2 : Nat) (l : List LRow) (hl : l.length ≤ 1000000) (hv : ∀ x ∈ l, wrongL x = 0) (w : World) (h1 : RdR w A1 l) (h2 : RdF w A2 l) :
    Calls Tryz.prog 14 #[.slice A1 l.length c1, .slice A2 l.length c2] w fun e w' => e = .returned (.bool true) ∧ Below w.heap.size w w' := by
  have H1 := Lib.hid h1
  have H2 := Lib.hid h2
  have HV := Lib.hid hv
  clear h1 h2 hv
  go_enter Tryz.func14, Tryz.ntmps14
  go_wp2_with fail
  go_loopw [5] (fun vi wr => ∃ i : Nat, i ≤ l.length ∧ vi = .int .i64 i ∧ Below w.heap.size w wr) (fun vi _ => l.length - (RowKit.intOf vi).toNat)
  case atStart => exact ⟨0, Nat.zero_le _, rfl, Below.refl _ _⟩
  case round =>
    obtain ⟨i, hi, rfl, hb⟩ := hrel
    have HB := Lib.hid hb
    by_cases hlt : i < l.length
    · obtain ⟨g1, o1, rfl, hg1, hc1⟩ := (H1.out.keep hb) (by omega)
      obtain ⟨g2, o2, rfl, hg2, hc2⟩ := (H2.out.keep hb) (by omega)
      obtain ⟨p0, p1, p2⟩ := hc1 i hlt
      obtain ⟨At, n, ct, q0, q1, qt, q2⟩ := hc2 i hlt
      have a1 : decide ((i : Int) < (l.length : Int)) = true := decide_eq_true (by omega)
      have j0 : (0 : Int) ≤ (i : Int) := by omega
      have j1 : (i : Int) < (l.length : Int) := by omega
      have hkw : IntKind.i64.wrap ((i : Int) + 1) = (i : Int) + 1 := IntWalk.i64_in _ (by omega)
      have hcv1 := textback qt
      have hcv2 := textback (qt.keep (Below.refl wr.heap.size wr).drew)
      have hrt := text_ok (HV.out _ (List.getElem_mem hlt))
      rw [hrt] at hcv1 hcv2
      generalize l[i] = x at *
      obtain ⟨X, hX⟩ : ∃ X : ByteArray, (⟨(textB x.text).toArray⟩ : ByteArray) = X := ⟨_, rfl⟩
      obtain ⟨Y, hY⟩ : ∃ Y : ByteArray, (⟨x.code.toArray⟩ : ByteArray) = Y := ⟨_, rfl⟩
      obtain ⟨fl, hfl⟩ : ∃ fl, x.flag = fl := ⟨_, rfl⟩
      rw [hX] at p1 hcv1 hcv2
      rw [hY] at p0 q0
      rw [hfl] at p2 q2
      have b3 : (fl != fl) = false := bne_self_eq_false fl
      clear hc1 hc2 hb hX hY hfl qt hrt
      go_wp2_with fail
      go_big_region
      go_wp2_with fail
      go_roundw
      case rel => exact ⟨i + 1, by omega, by go_num, HB.out.drew⟩
      case measure => simp [RowKit.intOf]; omega
    · obtain rfl : i = l.length := by omega
      have a1 : decide ((l.length : Int) < (l.length : Int)) = false := decide_eq_false (by omega)
      clear hb
      go_wp2_with fail
      go_returns
      exact ⟨rfl, HB.out⟩
end Go.Proofs.YtopaoejapnakiaaGreatDoor.Mf
