/- Walks: inkhornref14's Same and Sort, inkhornref17's NFD and Key. -/
import Derived.Test.YtkphecmdilefgaaDoorG6
import Derived.Laws.AppendOwnNone
import Derived.Maps.AppendAt
namespace Go.Proofs.YtkphecmdilefgaaDoor.Sg
open Go.RowKit Pl Go.Lib

def Drew (w w' : World) : Prop := ∃ m, w' = w.drewN m
theorem Drew.below {w w' : World} (h : Drew w w') (B : Nat) : Below B w w' := by
  obtain ⟨m, rfl⟩ := h
  exact bdN (Below.refl _ _) m

theorem take_eq_step {α : Type} [DecidableEq α] (l m : List α) (k : Nat) (h1 : k < l.length) (h2 : k < m.length) (h : l.take k = m.take k) (he : l[k] = m[k]) : l.take (k + 1) = m.take (k + 1) := by
  rw [List.take_succ_eq_append_getElem h1, List.take_succ_eq_append_getElem h2, h, he]

set_option maxRecDepth 100000 in
set_option maxHeartbeats 800000 in
theorem same_any (A1 : Option Addr) (n1 c1 : Nat) (l1 : List Int) (A2 : Option Addr) (n2 c2 : Nat) (l2 : List Int) (w : World) (h1 : Rd w A1 n1 (i32s l1)) (h2 : Rd w A2 n2 (i32s l2)) (hsm : n1 ≤ 1000000000) :
    Calls Tryd.prog 18 #[.slice A1 n1 c1, .slice A2 n2 c2] w fun e w' => e = .returned (.bool (decide (l1 = l2))) ∧ Drew w w' := by
  obtain rfl := h1.i32_len
  obtain rfl := h2.i32_len
  by_cases hl : l1.length = l2.length
  · have e1 : ((l1.length : Int) == (l2.length : Int)) = true := by simp [hl]
    have e2 : ((l1.length : Int) != (l2.length : Int)) = false := by simp [hl]
    have HL := Lib.hid hl
    have H1 := Lib.hid h1; have H2 := Lib.hid h2
    clear hl h1 h2
    go_enter Tryd.func18, Tryd.ntmps18
    go_wp2
    go_loopw [5] (fun i wr => ∃ k : Nat, k ≤ l1.length ∧ i = .int .i64 k ∧ l1.take k = l2.take k ∧ Drew w wr) (fun i _ => l1.length - (intOf i).toNat)
    case atStart => exact ⟨0, Nat.zero_le _, rfl, rfl, 0, rfl⟩
    case round =>
      obtain ⟨k, hk, rfl, htk, m, rfl⟩ := hrel
      have HT := Lib.hid htk
      clear htk
      by_cases hlt : k < l1.length
      · have hlt2 : k < l2.length := by have := HL.out; omega
        obtain ⟨b1, o1, rfl, hb1, hc1⟩ := H1.out.i32_at hlt
        obtain ⟨b2, o2, rfl, hb2, hc2⟩ := H2.out.i32_at hlt2
        have j0 : (0 : Int) ≤ (k : Int) := by omega
        have j1 : (k : Int) < (l1.length : Int) := by omega
        have j2 : (k : Int) < (l2.length : Int) := by omega
        have HQ : Hid (l1[k] = l2[k] → l1.take (k + 1) = l2.take (k + 1)) := fun he => take_eq_step l1 l2 k hlt hlt2 HT.out he
        have HQ2 : Hid (l1[k] ≠ l2[k] → decide (l1 = l2) = false) := fun he => decide_eq_false (fun h => he (by subst h; rfl))
        generalize l1[k] = x at *
        generalize l2[k] = y at *
        clear hb1 hb2
        by_cases hxy : x = y
        · have e3 : (x == y) = true := by simp [hxy]
          have e4 : (x != y) = false := by simp [hxy]
          have HXY := Lib.hid hxy
          clear hxy
          go_wp2
          go_quiet (fail)
          go_wp2
          go_roundw
          case rel => exact ⟨k + 1, by omega, by go_num, HQ.out HXY.out, _, by first | rfl | exact World.drewN_drewN _ _ _⟩
          case measure => simp [intOf]; omega
        · have e3 : (x == y) = false := by simp [hxy]
          have e4 : (x != y) = true := by simp [hxy]
          have HF := Lib.hid (HQ2.out hxy)
          clear hxy
          go_wp2
          go_quiet (fail)
          go_wp2
          go_returns
          exact ⟨by rw [HF.out]; rfl, _, by first | exact World.drewN_drewN _ _ _ | rfl⟩
      · have hall : l1 = l2 := by
          have h := HT.out
          have hL := HL.out
          rw [List.take_of_length_le (by omega), List.take_of_length_le (by omega)] at h
          exact h
        have HF : Hid (decide (l1 = l2) = true) := decide_eq_true hall
        clear hall
        go_wp2
        go_returns
        exact ⟨by rw [HF.out]; rfl, _, rfl⟩
  · have e1 : ((l1.length : Int) == (l2.length : Int)) = false := by simp; omega
    have e2 : ((l1.length : Int) != (l2.length : Int)) = true := by simp; omega
    have HF : Hid (decide (l1 = l2) = false) := decide_eq_false (fun h => hl (by rw [h]))
    clear hl h1 h2
    go_enter Tryd.func18, Tryd.ntmps18
    go_wp2
    go_returns
    exact ⟨by rw [HF.out]; rfl, 0, rfl⟩


section
variable {ops : Array Oper} {rest : List Oper} {oo : Oper} {a : Act} {Q : Exit → Act → World → Prop}
/-- 'b = append(b, c...)' of two rows of characters. -/
theorem wpList_outs (w : World) (hgd : oo.guard = none) (s x : Operand) (ho : oo.op = .call { callee := .builtin .append, args := #[s, x], argTypes := #[50, 50] })
    (B : Nat) (v : Value) (o : List Int) (hs : a.eval s = v) (h1 : w.ownsRow B RuneT 1 v o.length (i32s o)) (hB : B ≤ w.heap.size) (B2 : Nat) (vc : Value) (c : List Int) (hx : a.eval x = vc) (h2 : w.ownsRow B2 RuneT 1 vc c.length (i32s c))
    (hsm : o.length + c.length ≤ 1000000000)
    (h : ∀ v' w', w'.ownsRow B RuneT 1 v' (o ++ c).length (i32s (o ++ c)) → w.grownBy w' v.ownBlock → (v'.ownBlock = v.ownBlock ∨ v'.ownBlock = some w.heap.size) → wpList Tryd.prog ops Q rest (a.put oo.dst v') w') : wpList Tryd.prog ops Q (oo :: rest) a w := by
  obtain ⟨i0, hi, hz0, hz1, hz2⟩ := info_parts infoRune
  rcases h2.2 with ⟨rfl, hc0⟩ | ⟨g, cap, cur, rfl, hg, hh, _⟩
  · have : c = [] := List.eq_nil_of_length_eq_zero hc0
    subst this
    rw [List.append_nil] at h
    exact wpList_append_own_none hgd s x 50 ho B RuneT i0 1 Tryd.underlying50 hi v o.length (i32s o) hs h1 hx (h v w h1 ⟨rfl, rfl, rfl, Nat.le_refl _, fun _ _ _ => rfl⟩ (.inl rfl))
  · refine wpList_append_own_at _ hgd s x 50 ho B RuneT i0 (.int .i32 0) 1 4 Tryd.underlying50 hi hz0 hz1 hz2 rfl (by decide) v o.length (i32s o) hs h1 ⟨g, 0, none⟩ c.length cap (i32s c) hx (by rw [i32s_length, Nat.mul_one]) ?_ ?_ ?_ ?_ hB ?_
    · exact fun j u hu => h2.cells (g := g) rfl j u hu
    · intro u hu
      obtain ⟨r, _, rfl⟩ := List.mem_map.1 hu
      rfl
    · unfold maxLen; omega
    · omega
    · intro v' w1 hown hgrow _ hat
      exact h v' w1 (by rw [i32s_append, List.length_append]; exact hown) hgrow hat
end
theorem passN_succ : ∀ (k : Nat) (l : List Int), passN (k + 1) l = passL (passN k l) := by
  intro k
  induction k with
  | zero => intro l; rfl
  | succ k ih => intro l; show passN (k + 1) (passL l) = _; rw [ih]; rfl
/-- A store into an own row. -/
theorem own_store {w : World} {B g n c i : Nat} {e : TypeId} {xs : List Value} (h : w.ownsRow B e 1 (.slice (some ⟨g, 0, none⟩) n c) n xs) (hi : i < n) (u : Value) : (w.setCell ⟨g, i, none⟩ u).ownsRow B e 1 (.slice (some ⟨g, 0, none⟩) n c) n (xs.set i u) := by
  refine ⟨by rw [List.length_set]; exact h.1, ?_⟩
  rcases h.2 with ⟨h1, _⟩ | ⟨g', cap, cur, e1, hg, hh, h2, h3, h4, h5⟩
  · cases h1
  · injection e1 with e2 _ e3
    injection e2 with e2
    injection e2 with e2
    subst e2 e3
    refine .inr ⟨g, c, cur.setIfInBounds i u, rfl, hg, heap_setCell_same w g i cur e u hh, h2, h3, by simpa using h4, ?_⟩
    rw [← h5, Nat.mul_one, Array.toList_setIfInBounds, List.take_set]
theorem own_frozen {w : World} {B g n c i : Nat} {e : TypeId} {xs : List Value} (h : w.ownsRow B e 1 (.slice (some ⟨g, 0, none⟩) n c) n xs) : w.frozen? ⟨g, i, none⟩ = false := by
  rcases h.2 with ⟨h1, _⟩ | ⟨g', cap, cur, e1, hg, hh, h2, h3, h4, h5⟩
  · cases h1
  · injection e1 with e2 _ e3
    injection e2 with e2
    injection e2 with e2
    subst e2
    exact frozen_of_row w g i cur e hh
theorem own_cell {w : World} {B g n c i : Nat} {e : TypeId} {xs : List Value} (h : w.ownsRow B e 1 (.slice (some ⟨g, 0, none⟩) n c) n xs) (x : Value) (hx : xs[i]? = some x) : w.cell? ⟨g, i, none⟩ = some x := by
  have h2 := h.cells (g := g) rfl i x hx
  rw [Addr.add_lit, Nat.zero_add] at h2
  exact h2
theorem own_below_self {B : Nat} {w0 w : World} {g i n c : Nat} {e : TypeId} {xs : List Value} {u : Value} (hb : Below B w0 w) (h : w.ownsRow B e 1 (.slice (some ⟨g, 0, none⟩) n c) n xs) : Below B w0 (w.setCell ⟨g, i, none⟩ u) :=
  below_set hb g i u (h.lt g rfl).1
theorem set_swap : ∀ (d t : List Int) (x b : Int), ((i32s (d ++ x :: b :: t)).set (d.length + 1) (.int .i32 x)).set d.length (.int .i32 b) = i32s ((d ++ [b]) ++ x :: t) := by
  intro d
  induction d with
  | nil => intro t x b; rfl
  | cons a d ih =>
    intro t x b
    have h := ih t x b
    simp only [List.cons_append, List.length_cons, i32s, List.map_cons, List.set_cons_succ] at h ⊢
    rw [h]
theorem own_shape {w : World} {B n : Nat} {e : TypeId} {v : Value} {xs : List Value} (h : w.ownsRow B e 1 v n xs) : (v = .slice none 0 0 ∧ n = 0) ∨ ∃ g c, v = .slice (some ⟨g, 0, none⟩) n c := by
  rcases h.2 with h1 | ⟨g, cap, _, e1, _⟩
  · exact .inl h1
  · exact .inr ⟨g, cap, e1⟩
set_option maxRecDepth 100000 in
set_option maxHeartbeats 1600000 in
theorem sort_any (B2 : Nat) (vc : Value) (l : List Int) (w : World) (hc : w.ownsRow B2 RuneT 1 vc l.length (i32s l)) (hl : l.length ≤ 1000000000) :
    Calls Tryd.prog 57 #[vc] w (OnePost w (sortRef l)) := by
  have HC := Lib.hid hc
  have HCL := Lib.hid (fun (r : Int) (w : World) => class_any (.agg #[]) rfl r w)
  have hsl := sortRef_len l
  clear hc
  go_enter Tryd.func57, Tryd.ntmps57
  go_wp2_with (at_builtin; go_loud (refine wpList_outs w rfl _ _ rfl w.heap.size (.slice none 0 0) [] rfl (World.ownsRow_nil _ _ _ _) (Nat.le_refl _) B2 vc l rfl HC.out (by simpa using hl) ?_); intro v w1 ho hgr _)
  have hb1 : Below w.heap.size w w1 := (Below.refl _ _).grown hgr (Nat.le_refl _) (fun k hk => by simp [Value.ownBlock] at hk)
  rw [List.nil_append] at ho
  have HB1 := Lib.hid hb1
  clear hgr hb1
  rcases own_shape ho with ⟨rfl, h0⟩ | ⟨g, c, rfl⟩
  · have hnil : l = [] := List.eq_nil_of_length_eq_zero h0
    subst hnil
    clear ho
    go_wp2_with fail
    go_loopw [4] (fun vn wr => vn = .int .i64 0 ∧ wr = w1) (fun _ _ => 0)
    case atStart => exact ⟨rfl, rfl⟩
    case round =>
      obtain ⟨rfl, rfl⟩ := hrel
      go_wp2_with fail
      go_returns
      exact ⟨_, rfl, World.ownsRow_nil _ _ _ _, HB1.out⟩
  · have HO1 := Lib.hid ho
    clear ho
    go_loopw [4] (fun vn wr => ∃ k : Nat, k ≤ l.length ∧ vn = .int .i64 k ∧ wr.ownsRow w.heap.size RuneT 1 (.slice (some ⟨g, 0, none⟩) l.length c) l.length (i32s (passN k l)) ∧ Below w.heap.size w wr) (fun vn _ => l.length - (intOf vn).toNat)
    case atStart => exact ⟨0, Nat.zero_le _, rfl, HO1.out, HB1.out⟩
    case round =>
      obtain ⟨k, hk, rfl, ho, hb⟩ := hrel
      by_cases hlt : k < l.length
      · have HB := Lib.hid hb
        have HO := Lib.hid ho
        have hlen : (passN k l).length = l.length := passN_len k l
        have hsucc := passN_succ k l
        generalize passN k l = L at *
        have HSU := Lib.hid hsucc
        clear hb ho hsucc
        go_wp2_with fail
        go_loopw [5] (fun vi wr => ∃ (d : List Int) (x : Int) (t : List Int), d.length + 1 + t.length = l.length ∧ vi = .int .i64 ((d.length : Int) + 1) ∧ d ++ pass x t = passL L ∧ wr.ownsRow w.heap.size RuneT 1 (.slice (some ⟨g, 0, none⟩) l.length c) l.length (i32s (d ++ x :: t)) ∧ Below w.heap.size w wr) (fun vi _ => l.length - (intOf vi).toNat)
        case atStart =>
          match L, hlen, HO.out with
          | x :: t, hlen, ho => exact ⟨[], x, t, by simp at hlen ⊢; omega, rfl, rfl, ho, HB.out⟩
          | [], hlen, _ => simp at hlen; omega
        case round =>
          obtain ⟨d, x, t, hdl, rfl, hp, ho, hb⟩ := hrel
          cases t with
          | nil =>
            have hdl' : (d.length : Int) + 1 = (l.length : Int) := by simp at hdl; omega
            have HO2 := Lib.hid ho
            have HP := Lib.hid hp
            have HB2 := Lib.hid hb
            clear ho hb hp
            have i1 : decide ((d.length : Int) + 1 < (l.length : Int)) = false := decide_eq_false (by omega)
            go_wp2_with fail
            go_roundw
            case rel => exact ⟨k + 1, by omega, by go_num, by rw [HSU.out, ← HP.out]; exact HO2.out, HB2.out⟩
            case measure => simp [intOf]; omega
          | cons b t =>
            have i1 : decide ((d.length : Int) + 1 < (l.length : Int)) = true := decide_eq_true (by simp at hdl; omega)
            have i2 : (0 : Int) ≤ (d.length : Int) + 1 := by omega
            have i3 : (d.length : Int) + 1 < (l.length : Int) := by simp at hdl; omega
            have i4 : (0 : Int) ≤ (d.length : Int) := by omega
            have i5 : (d.length : Int) < (l.length : Int) := by omega
            have hx : (i32s (d ++ x :: b :: t))[d.length]? = some (.int .i32 x) := by simp [i32s]
            have hb' : (i32s (d ++ x :: b :: t))[d.length + 1]? = some (.int .i32 b) := by
              rw [i32s_append, List.getElem?_append_right (by simp [i32s])]
              simp [i32s]
            have c0 := own_cell ho _ hx
            have HO2 := Lib.hid ho
            have HP := Lib.hid hp
            have HB2 := Lib.hid hb
            have HX := Lib.hid hx
            have HBB := Lib.hid hb'
            clear ho hb hp hx hb'
            go_wp2_with fail
            refine (HCL.out x wr).mono ?_
            rintro _ w2 ⟨rfl, hb2⟩
            have ho2 := own_below HO2.out hb2
            have c1 := own_cell ho2 _ HBB.out
            have HO3 := Lib.hid ho2
            have HB3 := Lib.hid (HB2.out.trans (hb2.mono HB2.out.size))
            clear ho2 hb2 c0 HO2 HB2
            go_wp2_with fail
            refine (HCL.out b w2).mono ?_
            rintro _ w3 ⟨rfl, hb3⟩
            have ho3 := own_below HO3.out hb3
            have HO4 := Lib.hid ho3
            have HB4 := Lib.hid (HB3.out.trans (hb3.mono HB3.out.size))
            have c2 := own_cell ho3 _ HX.out
            have c3 := own_cell ho3 _ HBB.out
            have f3 : w3.frozen? ⟨g, d.length + 1, none⟩ = false := own_frozen ho3
            obtain ⟨W4, hW4⟩ : ∃ W4, w3.setCell ⟨g, d.length + 1, none⟩ (.int .i32 x) = W4 := ⟨_, rfl⟩
            have ho4 : W4.ownsRow w.heap.size RuneT 1 (.slice (some ⟨g, 0, none⟩) l.length c) l.length ((i32s (d ++ x :: b :: t)).set (d.length + 1) (.int .i32 x)) := by
              rw [← hW4]; exact own_store ho3 (by simp at hdl; omega) _
            have c4 := own_cell ho4 (i := d.length) (.int .i32 x) (by rw [List.getElem?_set_ne (by omega)]; exact HX.out)
            have f4 : W4.frozen? ⟨g, d.length, none⟩ = false := own_frozen ho4
            have hb4 : Below w.heap.size w W4 := by rw [← hW4]; exact own_below_self HB4.out ho3
            have HO5 := Lib.hid ho4
            have HB5 := Lib.hid hb4
            have hss := set_swap d t x b
            have HSS := Lib.hid hss
            clear ho3 hb3 ho4 hb4 c1 HO3 HB3 hss
            have hpass : pass x (b :: t) = if 0 < cls b ∧ cls b < cls x then b :: pass x t else x :: pass b t := rfl
            by_cases hs1 : 0 < cls b
            · have s1 : decide (0 < cls b) = true := decide_eq_true hs1
              by_cases hs2 : cls b < cls x
              · have s2 : decide (cls b < cls x) = true := decide_eq_true hs2
                rw [if_pos ⟨hs1, hs2⟩] at hpass
                rw [hpass] at HP
                clear hpass hs1 hs2
                go_wp2_with fail
                go_roundw
                case rel =>
                  refine ⟨d ++ [b], x, t, by simp at hdl ⊢; omega, by simp, by rw [List.append_assoc]; exact HP.out, ?_, own_below_self HB5.out HO5.out⟩
                  have h := own_store HO5.out (i := d.length) (by omega) (.int .i32 b)
                  rw [HSS.out] at h
                  exact h
                case measure => simp [intOf]; omega
              · have s2 : decide (cls b < cls x) = false := decide_eq_false hs2
                rw [if_neg (by omega)] at hpass
                rw [hpass] at HP
                clear hpass hs1 hs2
                go_wp2_with fail
                go_roundw
                case rel => exact ⟨d ++ [x], b, t, by simp at hdl ⊢; omega, by simp, by rw [List.append_assoc]; exact HP.out, by rw [List.append_assoc]; exact HO4.out, HB4.out⟩
                case measure => simp [intOf]; omega
            · have s1 : decide (0 < cls b) = false := decide_eq_false hs1
              rw [if_neg (by omega)] at hpass
              rw [hpass] at HP
              clear hpass hs1
              go_wp2_with fail
              go_roundw
              case rel => exact ⟨d ++ [x], b, t, by simp at hdl ⊢; omega, by simp, by rw [List.append_assoc]; exact HP.out, by rw [List.append_assoc]; exact HO4.out, HB4.out⟩
              case measure => simp [intOf]; omega
      · obtain rfl : k = l.length := by omega
        have HO := Lib.hid ho
        have HB := Lib.hid hb
        clear ho hb
        go_wp2_with fail
        go_returns
        exact ⟨_, rfl, by rw [hsl]; exact HO.out, HB.out⟩
end Go.Proofs.YtkphecmdilefgaaDoor.Sg
