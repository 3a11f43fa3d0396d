/- Joined of: G6, G7, G8, G9. -/
import Derived.Test.YtkfjmcidcnpijaaGreatDoorG1
import Derived.Test.YtkfjmcidcnpijaaGreatDoorG4
import Derived.Test.YtkfjmcidcnpijaaGreatDoorC0
import Derived.Laws.AppendOwnNone
import Derived.Maps.AppendAt
/- Walks: inkhornref14's Class, inkhornref17's one. -/
namespace Go.Proofs.YtkfjmcidcnpijaaGreatDoor.Sg
open Go.RowKit Pl Go.Lib

theorem class_any (v : Value) (hv : v = .agg #[]) (r : Int) (w : World) :
    Calls Tryz.prog 176 #[v, .int .i32 r] w fun e w' => e = .returned (.int .i64 (cls r)) ∧ Below w.heap.size w w' := by
  subst hv
  by_cases h768 : r = 768
  · subst h768
    go_enter Tryz.func176, Tryz.ntmps176
    go_wp2
    go_returns
    exact ⟨rfl, (Below.refl _ _).alloc (Nat.le_refl _) _⟩
  by_cases h769 : r = 769
  · subst h769
    go_enter Tryz.func176, Tryz.ntmps176
    go_wp2
    go_returns
    exact ⟨rfl, (Below.refl _ _).alloc (Nat.le_refl _) _⟩
  by_cases h770 : r = 770
  · subst h770
    go_enter Tryz.func176, Tryz.ntmps176
    go_wp2
    go_returns
    exact ⟨rfl, (Below.refl _ _).alloc (Nat.le_refl _) _⟩
  by_cases h771 : r = 771
  · subst h771
    go_enter Tryz.func176, Tryz.ntmps176
    go_wp2
    go_returns
    exact ⟨rfl, (Below.refl _ _).alloc (Nat.le_refl _) _⟩
  by_cases h772 : r = 772
  · subst h772
    go_enter Tryz.func176, Tryz.ntmps176
    go_wp2
    go_returns
    exact ⟨rfl, (Below.refl _ _).alloc (Nat.le_refl _) _⟩
  by_cases h776 : r = 776
  · subst h776
    go_enter Tryz.func176, Tryz.ntmps176
    go_wp2
    go_returns
    exact ⟨rfl, (Below.refl _ _).alloc (Nat.le_refl _) _⟩
  by_cases h778 : r = 778
  · subst h778
    go_enter Tryz.func176, Tryz.ntmps176
    go_wp2
    go_returns
    exact ⟨rfl, (Below.refl _ _).alloc (Nat.le_refl _) _⟩
  by_cases h803 : r = 803
  · subst h803
    go_enter Tryz.func176, Tryz.ntmps176
    go_wp2
    go_returns
    exact ⟨rfl, (Below.refl _ _).alloc (Nat.le_refl _) _⟩
  by_cases h804 : r = 804
  · subst h804
    go_enter Tryz.func176, Tryz.ntmps176
    go_wp2
    go_returns
    exact ⟨rfl, (Below.refl _ _).alloc (Nat.le_refl _) _⟩
  by_cases h817 : r = 817
  · subst h817
    go_enter Tryz.func176, Tryz.ntmps176
    go_wp2
    go_returns
    exact ⟨rfl, (Below.refl _ _).alloc (Nat.le_refl _) _⟩
  by_cases h807 : r = 807
  · subst h807
    go_enter Tryz.func176, Tryz.ntmps176
    go_wp2
    go_returns
    exact ⟨rfl, (Below.refl _ _).alloc (Nat.le_refl _) _⟩
  by_cases h808 : r = 808
  · subst h808
    go_enter Tryz.func176, Tryz.ntmps176
    go_wp2
    go_returns
    exact ⟨rfl, (Below.refl _ _).alloc (Nat.le_refl _) _⟩
  by_cases h824 : r = 824
  · subst h824
    go_enter Tryz.func176, Tryz.ntmps176
    go_wp2
    go_returns
    exact ⟨rfl, (Below.refl _ _).alloc (Nat.le_refl _) _⟩
  by_cases h837 : r = 837
  · subst h837
    go_enter Tryz.func176, Tryz.ntmps176
    go_wp2
    go_returns
    exact ⟨rfl, (Below.refl _ _).alloc (Nat.le_refl _) _⟩
  have e768 : (r == 768) = false := by simp [h768]
  have e769 : (r == 769) = false := by simp [h769]
  have e770 : (r == 770) = false := by simp [h770]
  have e771 : (r == 771) = false := by simp [h771]
  have e772 : (r == 772) = false := by simp [h772]
  have e776 : (r == 776) = false := by simp [h776]
  have e778 : (r == 778) = false := by simp [h778]
  have e803 : (r == 803) = false := by simp [h803]
  have e804 : (r == 804) = false := by simp [h804]
  have e817 : (r == 817) = false := by simp [h817]
  have e807 : (r == 807) = false := by simp [h807]
  have e808 : (r == 808) = false := by simp [h808]
  have e824 : (r == 824) = false := by simp [h824]
  have e837 : (r == 837) = false := by simp [h837]
  have hc : cls r = 0 := by simp [cls, h768, h769, h770, h771, h772, h776, h778, h803, h804, h817, h807, h808, h824, h837]
  rw [hc]
  clear hc h768 h769 h770 h771 h772 h776 h778 h803 h804 h817 h807 h808 h824 h837
  go_enter Tryz.func176, Tryz.ntmps176
  go_wp2
  go_returns
  exact ⟨rfl, (Below.refl _ _).alloc (Nat.le_refl _) _⟩
/-- What 'one' answers. -/
def OnePost (w : World) (t : List Int) (e : Ending) (w' : World) : Prop := ∃ v, e = .returned v ∧ w'.ownsRow w.heap.size RuneT 1 v t.length (i32s t) ∧ Below w.heap.size w w'
theorem own_lit (w : World) (t : List Int) (hl : t.length ≤ 1000000) : (w.alloc (.cells (i32s t).toArray RuneT)).ownsRow w.heap.size RuneT 1 (.slice (some ⟨w.heap.size, 0, none⟩) t.length t.length) t.length (i32s t) := by
  refine ⟨by simp [i32s], .inr ⟨_, _, _, rfl, Nat.le_refl _, Blk.new _ _ _, Nat.le_refl _, by unfold maxLen; omega, by simp [i32s], ?_⟩⟩
  rw [Nat.mul_one]
  exact List.take_of_length_le (by simp [i32s])
theorem one_any (r : Int) (w : World) :
    Calls Tryz.prog 177 #[.int .i32 r] w (OnePost w (oneR r)) := by
  by_cases h196 : r = 196
  · subst h196
    go_enter Tryz.func177, Tryz.ntmps177
    go_wp2
    go_returns
    exact ⟨_, rfl, own_lit w [65, 776] (by decide), (Below.refl _ _).alloc (Nat.le_refl _) _⟩
  by_cases h228 : r = 228
  · subst h228
    go_enter Tryz.func177, Tryz.ntmps177
    go_wp2
    go_returns
    exact ⟨_, rfl, own_lit w [97, 776] (by decide), (Below.refl _ _).alloc (Nat.le_refl _) _⟩
  by_cases h225 : r = 225
  · subst h225
    go_enter Tryz.func177, Tryz.ntmps177
    go_wp2
    go_returns
    exact ⟨_, rfl, own_lit w [97, 769] (by decide), (Below.refl _ _).alloc (Nat.le_refl _) _⟩
  by_cases h7841 : r = 7841
  · subst h7841
    go_enter Tryz.func177, Tryz.ntmps177
    go_wp2
    go_returns
    exact ⟨_, rfl, own_lit w [97, 803] (by decide), (Below.refl _ _).alloc (Nat.le_refl _) _⟩
  by_cases h7853 : r = 7853
  · subst h7853
    go_enter Tryz.func177, Tryz.ntmps177
    go_wp2
    go_returns
    exact ⟨_, rfl, own_lit w [97, 803, 770] (by decide), (Below.refl _ _).alloc (Nat.le_refl _) _⟩
  by_cases h197 : r = 197
  · subst h197
    go_enter Tryz.func177, Tryz.ntmps177
    go_wp2
    go_returns
    exact ⟨_, rfl, own_lit w [65, 778] (by decide), (Below.refl _ _).alloc (Nat.le_refl _) _⟩
  by_cases h8491 : r = 8491
  · subst h8491
    go_enter Tryz.func177, Tryz.ntmps177
    go_wp2
    go_returns
    exact ⟨_, rfl, own_lit w [65, 778] (by decide), (Below.refl _ _).alloc (Nat.le_refl _) _⟩
  by_cases h836 : r = 836
  · subst h836
    go_enter Tryz.func177, Tryz.ntmps177
    go_wp2
    go_returns
    exact ⟨_, rfl, own_lit w [776, 769] (by decide), (Below.refl _ _).alloc (Nat.le_refl _) _⟩
  have e196 : (r == 196) = false := by simp [h196]
  have e228 : (r == 228) = false := by simp [h228]
  have e225 : (r == 225) = false := by simp [h225]
  have e7841 : (r == 7841) = false := by simp [h7841]
  have e7853 : (r == 7853) = false := by simp [h7853]
  have e197 : (r == 197) = false := by simp [h197]
  have e8491 : (r == 8491) = false := by simp [h8491]
  have e836 : (r == 836) = false := by simp [h836]
  have hc : oneR r = [r] := by simp [oneR, h196, h228, h225, h7841, h7853, h197, h8491, h836]
  rw [hc]
  clear hc h196 h228 h225 h7841 h7853 h197 h8491 h836
  go_enter Tryz.func177, Tryz.ntmps177
  go_wp2
  go_returns
  exact ⟨_, rfl, own_lit w [r] (by simp), (Below.refl _ _).alloc (Nat.le_refl _) _⟩
end Go.Proofs.YtkfjmcidcnpijaaGreatDoor.Sg
/- Walks: inkhornref14's Same and Sort, inkhornref17's NFD and Key. -/
namespace Go.Proofs.YtkfjmcidcnpijaaGreatDoor.Sg
open Go.RowKit Pl Go.Lib

def Drew (w w' : World) : Prop := ∃ m, w' = w.drewN m
theorem Drew.below {w w' : World} (h : Drew w w') (B : Nat) : Below B w w' := by
  obtain ⟨m, rfl⟩ := h
  exact bdN (Below.refl _ _) m

theorem take_eq_step {α : Type} [DecidableEq α] (l m : List α) (k : Nat) (h1 : k < l.length) (h2 : k < m.length) (h : l.take k = m.take k) (he : l[k] = m[k]) : l.take (k + 1) = m.take (k + 1) := by
  rw [List.take_succ_eq_append_getElem h1, List.take_succ_eq_append_getElem h2, h, he]









































































section
variable {ops : Array Oper} {rest : List Oper} {oo : Oper} {a : Act} {Q : Exit → Act → World → Prop}
/-- 'b = append(b, c...)' of two rows of characters. -/
theorem wpList_outs (w : World) (hgd : oo.guard = none) (s x : Operand) (ho : oo.op = .call { callee := .builtin .append, args := #[s, x], argTypes := #[72, 72] })
    (B : Nat) (v : Value) (o : List Int) (hs : a.eval s = v) (h1 : w.ownsRow B RuneT 1 v o.length (i32s o)) (hB : B ≤ w.heap.size) (B2 : Nat) (vc : Value) (c : List Int) (hx : a.eval x = vc) (h2 : w.ownsRow B2 RuneT 1 vc c.length (i32s c))
    (hsm : o.length + c.length ≤ 1000000000)
    (h : ∀ v' w', w'.ownsRow B RuneT 1 v' (o ++ c).length (i32s (o ++ c)) → w.grownBy w' v.ownBlock → (v'.ownBlock = v.ownBlock ∨ v'.ownBlock = some w.heap.size) → wpList Tryz.prog ops Q rest (a.put oo.dst v') w') : wpList Tryz.prog ops Q (oo :: rest) a w := by
  obtain ⟨i0, hi, hz0, hz1, hz2⟩ := info_parts infoRune
  rcases h2.2 with ⟨rfl, hc0⟩ | ⟨g, cap, cur, rfl, hg, hh, _⟩
  · have : c = [] := List.eq_nil_of_length_eq_zero hc0
    subst this
    rw [List.append_nil] at h
    exact wpList_append_own_none hgd s x 72 ho B RuneT i0 1 Tryz.underlying72 hi v o.length (i32s o) hs h1 hx (h v w h1 ⟨rfl, rfl, rfl, Nat.le_refl _, fun _ _ _ => rfl⟩ (.inl rfl))
  · refine wpList_append_own_at _ hgd s x 72 ho B RuneT i0 (.int .i32 0) 1 4 Tryz.underlying72 hi hz0 hz1 hz2 rfl (by decide) v o.length (i32s o) hs h1 ⟨g, 0, none⟩ c.length cap (i32s c) hx (by rw [i32s_length, Nat.mul_one]) ?_ ?_ ?_ ?_ hB ?_
    · exact fun j u hu => h2.cells (g := g) rfl j u hu
    · intro u hu
      obtain ⟨r, _, rfl⟩ := List.mem_map.1 hu
      rfl
    · unfold maxLen; omega
    · omega
    · intro v' w1 hown hgrow _ hat
      exact h v' w1 (by rw [i32s_append, List.length_append]; exact hown) hgrow hat
end
theorem passN_succ : ∀ (k : Nat) (l : List Int), passN (k + 1) l = passL (passN k l) := by
  intro k
  induction k with
  | zero => intro l; rfl
  | succ k ih => intro l; show passN (k + 1) (passL l) = _; rw [ih]; rfl
/-- A store into an own row. -/
theorem own_store {w : World} {B g n c i : Nat} {e : TypeId} {xs : List Value} (h : w.ownsRow B e 1 (.slice (some ⟨g, 0, none⟩) n c) n xs) (_hi : i < n) (u : Value) : (w.setCell ⟨g, i, none⟩ u).ownsRow B e 1 (.slice (some ⟨g, 0, none⟩) n c) n (xs.set i u) := by
  refine ⟨by rw [List.length_set]; exact h.1, ?_⟩
  rcases h.2 with ⟨h1, _⟩ | ⟨g', cap, cur, e1, hg, hh, h2, h3, h4, h5⟩
  · cases h1
  · injection e1 with e2 _ e3
    injection e2 with e2
    injection e2 with e2
    subst e2 e3
    refine .inr ⟨g, c, cur.setIfInBounds i u, rfl, hg, heap_setCell_same w g i cur e u hh, h2, h3, by simpa using h4, ?_⟩
    rw [← h5, Nat.mul_one, Array.toList_setIfInBounds, List.take_set]
theorem own_frozen {w : World} {B g n c i : Nat} {e : TypeId} {xs : List Value} (h : w.ownsRow B e 1 (.slice (some ⟨g, 0, none⟩) n c) n xs) : w.frozen? ⟨g, i, none⟩ = false := by
  rcases h.2 with ⟨h1, _⟩ | ⟨g', cap, cur, e1, hg, hh, h2, h3, h4, h5⟩
  · cases h1
  · injection e1 with e2 _ e3
    injection e2 with e2
    injection e2 with e2
    subst e2
    exact frozen_of_row w g i cur e hh
theorem own_cell {w : World} {B g n c i : Nat} {e : TypeId} {xs : List Value} (h : w.ownsRow B e 1 (.slice (some ⟨g, 0, none⟩) n c) n xs) (x : Value) (hx : xs[i]? = some x) : w.cell? ⟨g, i, none⟩ = some x := by
  have h2 := h.cells (g := g) rfl i x hx
  rw [Addr.add_lit, Nat.zero_add] at h2
  exact h2
theorem own_below_self {B : Nat} {w0 w : World} {g i n c : Nat} {e : TypeId} {xs : List Value} {u : Value} (hb : Below B w0 w) (h : w.ownsRow B e 1 (.slice (some ⟨g, 0, none⟩) n c) n xs) : Below B w0 (w.setCell ⟨g, i, none⟩ u) :=
  below_set hb g i u (h.lt g rfl).1
theorem set_swap : ∀ (d t : List Int) (x b : Int), ((i32s (d ++ x :: b :: t)).set (d.length + 1) (.int .i32 x)).set d.length (.int .i32 b) = i32s ((d ++ [b]) ++ x :: t) := by
  intro d
  induction d with
  | nil => intro t x b; rfl
  | cons a d ih =>
    intro t x b
    have h := ih t x b
    simp only [List.cons_append, List.length_cons, i32s, List.map_cons, List.set_cons_succ] at h ⊢
    rw [h]
theorem own_shape {w : World} {B n : Nat} {e : TypeId} {v : Value} {xs : List Value} (h : w.ownsRow B e 1 v n xs) : (v = .slice none 0 0 ∧ n = 0) ∨ ∃ g c, v = .slice (some ⟨g, 0, none⟩) n c := by
  rcases h.2 with h1 | ⟨g, cap, _, e1, _⟩
  · exact .inl h1
  · exact .inr ⟨g, cap, e1⟩
set_option maxRecDepth 100000 in
set_option maxHeartbeats 1600000 in
theorem sort_any (B2 : Nat) (vc : Value) (l : List Int) (w : World) (hc : w.ownsRow B2 RuneT 1 vc l.length (i32s l)) (hl : l.length ≤ 1000000000) :
    Calls Tryz.prog 178 #[vc] w (OnePost w (sortRef l)) := by
  have HC := Lib.hid hc
  have HCL := Lib.hid (fun (r : Int) (w : World) => class_any (.agg #[]) rfl r w)
  have hsl := sortRef_len l
  clear hc
  go_enter Tryz.func178, Tryz.ntmps178
  go_wp2_with (at_builtin; go_loud (refine wpList_outs w rfl _ _ rfl w.heap.size (.slice none 0 0) [] rfl (World.ownsRow_nil _ _ _ _) (Nat.le_refl _) B2 vc l rfl HC.out (by simpa using hl) ?_); intro v w1 ho hgr _)
  have hb1 : Below w.heap.size w w1 := (Below.refl _ _).grown hgr (Nat.le_refl _) (fun k hk => by simp [Value.ownBlock] at hk)
  rw [List.nil_append] at ho
  have HB1 := Lib.hid hb1
  clear hgr hb1
  rcases own_shape ho with ⟨rfl, h0⟩ | ⟨g, c, rfl⟩
  · have hnil : l = [] := List.eq_nil_of_length_eq_zero h0
    subst hnil
    clear ho
    go_wp2_with fail
    go_loopw [4] (fun vn wr => vn = .int .i64 0 ∧ wr = w1) (fun _ _ => 0)
    case atStart => exact ⟨rfl, rfl⟩
    case round =>
      obtain ⟨rfl, rfl⟩ := hrel
      go_wp2_with fail
      go_returns
      exact ⟨_, rfl, World.ownsRow_nil _ _ _ _, HB1.out⟩
  · have HO1 := Lib.hid ho
    clear ho
    go_loopw [4] (fun vn wr => ∃ k : Nat, k ≤ l.length ∧ vn = .int .i64 k ∧ wr.ownsRow w.heap.size RuneT 1 (.slice (some ⟨g, 0, none⟩) l.length c) l.length (i32s (passN k l)) ∧ Below w.heap.size w wr) (fun vn _ => l.length - (intOf vn).toNat)
    case atStart => exact ⟨0, Nat.zero_le _, rfl, HO1.out, HB1.out⟩
    case round =>
      obtain ⟨k, hk, rfl, ho, hb⟩ := hrel
      by_cases hlt : k < l.length
      · have HB := Lib.hid hb
        have HO := Lib.hid ho
        have hlen : (passN k l).length = l.length := passN_len k l
        have hsucc := passN_succ k l
        generalize passN k l = L at *
        have HSU := Lib.hid hsucc
        clear hb ho hsucc
        go_wp2_with fail
        go_loopw [5] (fun vi wr => ∃ (d : List Int) (x : Int) (t : List Int), d.length + 1 + t.length = l.length ∧ vi = .int .i64 ((d.length : Int) + 1) ∧ d ++ pass x t = passL L ∧ wr.ownsRow w.heap.size RuneT 1 (.slice (some ⟨g, 0, none⟩) l.length c) l.length (i32s (d ++ x :: t)) ∧ Below w.heap.size w wr) (fun vi _ => l.length - (intOf vi).toNat)
        case atStart =>
          match L, hlen, HO.out with
          | x :: t, hlen, ho => exact ⟨[], x, t, by simp at hlen ⊢; omega, rfl, rfl, ho, HB.out⟩
          | [], hlen, _ => simp at hlen; omega
        case round =>
          obtain ⟨d, x, t, hdl, rfl, hp, ho, hb⟩ := hrel
          cases t with
          | nil =>
            have hdl' : (d.length : Int) + 1 = (l.length : Int) := by simp at hdl; omega
            have HO2 := Lib.hid ho
            have HP := Lib.hid hp
            have HB2 := Lib.hid hb
            clear ho hb hp
            have i1 : decide ((d.length : Int) + 1 < (l.length : Int)) = false := decide_eq_false (by omega)
            go_wp2_with fail
            go_roundw
            case rel => exact ⟨k + 1, by omega, by go_num, by rw [HSU.out, ← HP.out]; exact HO2.out, HB2.out⟩
            case measure => simp [intOf]; omega
          | cons b t =>
            have i1 : decide ((d.length : Int) + 1 < (l.length : Int)) = true := decide_eq_true (by simp at hdl; omega)
            have i2 : (0 : Int) ≤ (d.length : Int) + 1 := by omega
            have i3 : (d.length : Int) + 1 < (l.length : Int) := by simp at hdl; omega
            have i4 : (0 : Int) ≤ (d.length : Int) := by omega
            have i5 : (d.length : Int) < (l.length : Int) := by omega
            have hx : (i32s (d ++ x :: b :: t))[d.length]? = some (.int .i32 x) := by simp [i32s]
            have hb' : (i32s (d ++ x :: b :: t))[d.length + 1]? = some (.int .i32 b) := by
              rw [i32s_append, List.getElem?_append_right (by simp [i32s])]
              simp [i32s]
            have c0 := own_cell ho _ hx
            have HO2 := Lib.hid ho
            have HP := Lib.hid hp
            have HB2 := Lib.hid hb
            have HX := Lib.hid hx
            have HBB := Lib.hid hb'
            clear ho hb hp hx hb'
            go_wp2_with fail
            refine (HCL.out x wr).mono ?_
            rintro _ w2 ⟨rfl, hb2⟩
            have ho2 := own_below HO2.out hb2
            have c1 := own_cell ho2 _ HBB.out
            have HO3 := Lib.hid ho2
            have HB3 := Lib.hid (HB2.out.trans (hb2.mono HB2.out.size))
            clear ho2 hb2 c0 HO2 HB2
            go_wp2_with fail
            refine (HCL.out b w2).mono ?_
            rintro _ w3 ⟨rfl, hb3⟩
            have ho3 := own_below HO3.out hb3
            have HO4 := Lib.hid ho3
            have HB4 := Lib.hid (HB3.out.trans (hb3.mono HB3.out.size))
            have c2 := own_cell ho3 _ HX.out
            have c3 := own_cell ho3 _ HBB.out
            have f3 : w3.frozen? ⟨g, d.length + 1, none⟩ = false := own_frozen ho3
            obtain ⟨W4, hW4⟩ : ∃ W4, w3.setCell ⟨g, d.length + 1, none⟩ (.int .i32 x) = W4 := ⟨_, rfl⟩
            have ho4 : W4.ownsRow w.heap.size RuneT 1 (.slice (some ⟨g, 0, none⟩) l.length c) l.length ((i32s (d ++ x :: b :: t)).set (d.length + 1) (.int .i32 x)) := by
              rw [← hW4]; exact own_store ho3 (by simp at hdl; omega) _
            have c4 := own_cell ho4 (i := d.length) (.int .i32 x) (by rw [List.getElem?_set_ne (by omega)]; exact HX.out)
            have f4 : W4.frozen? ⟨g, d.length, none⟩ = false := own_frozen ho4
            have hb4 : Below w.heap.size w W4 := by rw [← hW4]; exact own_below_self HB4.out ho3
            have HO5 := Lib.hid ho4
            have HB5 := Lib.hid hb4
            have hss := set_swap d t x b
            have HSS := Lib.hid hss
            clear ho3 hb3 ho4 hb4 c1 HO3 HB3 hss
            have hpass : pass x (b :: t) = if 0 < cls b ∧ cls b < cls x then b :: pass x t else x :: pass b t := rfl
            by_cases hs1 : 0 < cls b
            · have s1 : decide (0 < cls b) = true := decide_eq_true hs1
              by_cases hs2 : cls b < cls x
              · have s2 : decide (cls b < cls x) = true := decide_eq_true hs2
                rw [if_pos ⟨hs1, hs2⟩] at hpass
                rw [hpass] at HP
                clear hpass hs1 hs2
                go_wp2_with fail
                go_roundw
                case rel =>
                  refine ⟨d ++ [b], x, t, by simp at hdl ⊢; omega, by simp, by rw [List.append_assoc]; exact HP.out, ?_, own_below_self HB5.out HO5.out⟩
                  have h := own_store HO5.out (i := d.length) (by omega) (.int .i32 b)
                  rw [HSS.out] at h
                  exact h
                case measure => simp [intOf]; omega
              · have s2 : decide (cls b < cls x) = false := decide_eq_false hs2
                rw [if_neg (by omega)] at hpass
                rw [hpass] at HP
                clear hpass hs1 hs2
                go_wp2_with fail
                go_roundw
                case rel => exact ⟨d ++ [x], b, t, by simp at hdl ⊢; omega, by simp, by rw [List.append_assoc]; exact HP.out, by rw [List.append_assoc]; exact HO4.out, HB4.out⟩
                case measure => simp [intOf]; omega
            · have s1 : decide (0 < cls b) = false := decide_eq_false hs1
              rw [if_neg (by omega)] at hpass
              rw [hpass] at HP
              clear hpass hs1
              go_wp2_with fail
              go_roundw
              case rel => exact ⟨d ++ [x], b, t, by simp at hdl ⊢; omega, by simp, by rw [List.append_assoc]; exact HP.out, by rw [List.append_assoc]; exact HO4.out, HB4.out⟩
              case measure => simp [intOf]; omega
      · obtain rfl : k = l.length := by omega
        have HO := Lib.hid ho
        have HB := Lib.hid hb
        clear ho hb
        go_wp2_with fail
        go_returns
        exact ⟨_, rfl, by rw [hsl]; exact HO.out, HB.out⟩
end Go.Proofs.YtkfjmcidcnpijaaGreatDoor.Sg
/- Walks: inkhornref17's NFD, Key, begins; inkhornref13's Wrong. -/
namespace Go.Proofs.YtkfjmcidcnpijaaGreatDoor.Sg
open Go.RowKit Pl Go.Lib

theorem own_low {w : World} {B B' e sz n : Nat} {v : Value} {xs : List Value} (h : w.ownsRow B' e sz v n xs) (hB : B ≤ B') : w.ownsRow B e sz v n xs := by
  refine ⟨h.1, ?_⟩
  rcases h.2 with h1 | ⟨g, cap, cur, e1, hg, hh, h4⟩
  · exact .inl h1
  · exact .inr ⟨g, cap, cur, e1, Nat.le_trans hB hg, hh, h4⟩
theorem flat_one_le (l : List Int) : (l.flatMap oneR).length ≤ 3 * l.length := by
  induction l with
  | nil => simp
  | cons a l ih =>
    have := oneR_len a
    simp only [List.flatMap_cons, List.length_append, List.length_cons]
    omega
set_option maxRecDepth 100000 in
set_option maxHeartbeats 800000 in
theorem nfd_any (A : Option Addr) (c : Nat) (l : List Int) (w : World) (hR : Rd w A l.length (i32s l)) (hl : l.length ≤ 1048576) :
    Calls Tryz.prog 175 #[.agg #[], .slice A l.length c] w (OnePost w (nfd l)) := by
  have HR := Lib.hid hR
  unfold nfd
  clear hR
  go_enter Tryz.func175, Tryz.ntmps175
  go_wp2
  go_loopw [5, 6] (fun v i wr => ∃ j : Nat, j ≤ l.length ∧ i = .int .i64 j ∧ wr.ownsRow w.heap.size RuneT 1 v ((l.take j).flatMap oneR).length (i32s ((l.take j).flatMap oneR)) ∧ Below w.heap.size w wr) (fun _ i _ => l.length - (intOf i).toNat)
  case atStart => exact ⟨0, Nat.zero_le _, rfl, World.ownsRow_nil _ _ _ _, (Below.refl _ _).alloc (Nat.le_refl _) _⟩
  case round =>
    obtain ⟨j, hj, rfl, ho, hb⟩ := hrel
    have HB := Lib.hid hb
    have HO := Lib.hid ho
    have hL := flat_one_le (l.take j)
    rw [List.length_take] at hL
    by_cases hlt : j < l.length
    · obtain ⟨bk, o, rfl, hbk, c0⟩ := (HR.out.keep hb).i32_at hlt
      have htk : (l.take (j + 1)).flatMap oneR = (l.take j).flatMap oneR ++ oneR l[j] := by rw [List.take_succ_eq_append_getElem hlt, List.flatMap_append]; simp
      generalize l[j] = r at *
      have HTK := Lib.hid htk
      have H1 := Lib.hid (one_any r wr)
      have h3 := (oneR_len r).2
      generalize oneR r = R at *
      generalize (l.take j).flatMap oneR = L at *
      clear htk hb hbk ho
      go_wp2_with fail
      refine H1.out.mono ?_
      rintro _ w1 ⟨v1, rfl, ho1, hb1⟩
      have HO1 := Lib.hid (own_below HO.out hb1)
      have HB1 := Lib.hid (HB.out.trans (hb1.mono HB.out.size))
      have HV1 := Lib.hid ho1
      clear ho1 hb1 HO HB c0
      go_wp2_with (at_builtin; go_loud (refine wpList_outs w1 rfl _ _ rfl w.heap.size u5 L rfl HO1.out HB1.out.size wr.heap.size v1 R rfl HV1.out (by omega) ?_); intro v2 w2 ho2 hgr hat)
      have hb2 := HB1.out.grown hgr HB1.out.size (fun k hk => (HO1.out.lt k hk).1)
      go_roundw
      case rel => exact ⟨j + 1, by omega, by go_num, by rw [HTK.out]; exact ho2, hb2⟩
      case measure => simp [intOf]; omega
    · obtain rfl : j = l.length := by omega
      rw [List.take_of_length_le (Nat.le_refl _)] at HO hL
      have HS := Lib.hid (sort_any w.heap.size u5 (l.flatMap oneR) wr HO.out (by omega))
      clear hb ho
      go_wp2_with fail
      refine HS.out.mono ?_
      rintro _ w1 ⟨v1, rfl, ho1, hb1⟩
      go_wp2_with fail
      go_returns
      exact ⟨_, rfl, own_low ho1 HB.out.size, HB.out.trans (hb1.mono HB.out.size)⟩
/-- The value of a row of the reference. -/
abbrev rval (code : ByteArray) (v : Value) (flag : Int) : Value := .agg #[.string code, v, .int .i64 flag]














end Go.Proofs.YtkfjmcidcnpijaaGreatDoor.Sg
/- Walks: inkhornref17's begins, inkhornref13's Wrong. -/
namespace Go.Proofs.YtkfjmcidcnpijaaGreatDoor.Sg
open Go.RowKit Pl Go.Lib

def preB (s h : ByteArray) : Bool := h.data.toList.isPrefixOf s.data.toList
theorem pre_eq (s h : ByteArray) (_hl : h.size ≤ s.size) : ((s.extract 0 h.size).toList == h.toList) = preB s h := by
  unfold preB
  have h1 : (s.extract 0 h.size).toList = s.data.toList.take h.size := by rw [extract_toList]; simp
  have h2 : h.data.toList.length = h.size := by simp
  rw [h1, ByteArray.toList_eq, Bool.eq_iff_iff, beq_iff_eq, List.isPrefixOf_iff_prefix]
  constructor
  · intro he; rw [← he]; exact List.take_prefix _ _
  · intro hp; have := List.prefix_iff_eq_take.1 hp; rw [h2] at this; exact this.symm





























/-- What is wrong with a row of characters. -/
def wrong13 (x : RRow) : Int :=
  if 1 ≤ x.code.size ∧ x.code.size ≤ 4 ∧ 1 ≤ x.text.length ∧ x.text.length ≤ 18 then (if x.flag = 0 ∨ x.flag = 1 ∨ x.flag = 3 then 0 else 16) else 11
def scalR (l : List Int) : Prop := ∀ r ∈ l, 0 ≤ r ∧ (r < 55296 ∨ 57343 < r) ∧ r ≤ 1114111

























































































































end Go.Proofs.YtkfjmcidcnpijaaGreatDoor.Sg
