/- Words for memory: the two lists that a decoder makes, of characters and of faults; appends to them. -/
import Derived.Test.YtkfjmcidcnpijaaGreatDoorRd
import Derived.Test.YtkfjmcidcnpijaaGreatDoorRows
import Derived.Laws.OwnMore
import Derived.OwnWalk
namespace Go.Proofs.YtkfjmcidcnpijaaGreatDoor
open Go.RowKit

abbrev RuneT : TypeId := 21
abbrev FaultT : TypeId := 52
/-- Faults as cells. -/
def fcells (l : List (Nat × Nat)) : List Value := l.flatMap fun x => [.int .i64 x.1, .int .i64 x.2]
theorem fcells_length (l : List (Nat × Nat)) : (fcells l).length = l.length * 2 := by
  unfold fcells
  induction l with
  | nil => rfl
  | cons a l ih => simp [ih]; omega
theorem fcells_append (l m : List (Nat × Nat)) : fcells (l ++ m) = fcells l ++ fcells m := by simp [fcells]
theorem i32s_append (l m : List Int) : i32s (l ++ m) = i32s l ++ i32s m := by simp [i32s]
theorem infoRune : (Tryz.prog.info? RuneT).map (fun i => (i.zero, i.size, i.bytes)) = some (some (.int .i32 0), 1, 4) := by kernel_rfl
theorem infoFault : (Tryz.prog.info? FaultT).map (fun i => (i.zero, i.size, i.bytes)) = some (some (.agg #[.int .i64 0, .int .i64 0]), 2, 16) := by kernel_rfl
/-- Two rows of different element types, or a row and a block, lie apart. -/
theorem own_blk_ne {w : World} {g base size n : Nat} {t e : TypeId} {cs : Array Value} {v : Value} {xs : List Value} (h : w.ownsRow base e size v n xs) (hg : Blk w g t cs) (hne : t ≠ e) : v.ownBlock ≠ some g := by
  rcases h.2 with ⟨rfl, _⟩ | ⟨g', cap, cur, rfl, _, hh, _⟩
  · simp [Value.ownBlock]
  · intro he
    have : g' = g := by simpa [Value.ownBlock] using he
    subst this
    unfold Blk at hg
    rw [hg] at hh
    injection hh with hh
    injection hh with _ ht
    exact hne ht
theorem own_own_ne {w : World} {b1 s1 n1 b2 s2 n2 : Nat} {e1 e2 : TypeId} {v1 v2 : Value} {x1 x2 : List Value} (h1 : w.ownsRow b1 e1 s1 v1 n1 x1) (h2 : w.ownsRow b2 e2 s2 v2 n2 x2) (hne : e1 ≠ e2) :
    v1.ownBlock = none ∨ v1.ownBlock ≠ v2.ownBlock := by
  rcases h1.2 with ⟨rfl, _⟩ | ⟨g, cap, cur, rfl, _, hh, _⟩
  · exact .inl rfl
  · exact .inr fun he => own_blk_ne h2 (g := g) (cs := cur) hh hne he.symm
/-- Every block that is no row of characters or faults is as it was. -/
def KeepB (w w' : World) : Prop := ∀ g t cs, t ≠ RuneT → t ≠ FaultT → Blk w g t cs → Blk w' g t cs
/-- The two lists of a decoder. -/
def St (B : Nat) (w0 w : World) (vo : Value) (o : List Int) (vb : Value) (b : List (Nat × Nat)) : Prop :=
  w.ownsRow B RuneT 1 vo o.length (i32s o) ∧ w.ownsRow B FaultT 2 vb b.length (fcells b) ∧ Below B w0 w ∧ B ≤ w.heap.size
theorem St.start (w : World) : St w.heap.size w w (.slice none 0 0) [] (.slice none 0 0) [] := ⟨World.ownsRow_nil _ _ _ _, World.ownsRow_nil _ _ _ _, Below.refl _ _, Nat.le_refl _⟩
/-- It stays where only new blocks are made. -/
theorem own_below {w w' : World} {B e sz n : Nat} {v : Value} {xs : List Value} (h : w.ownsRow B e sz v n xs) (hb : Below w.heap.size w w') : w'.ownsRow B e sz v n xs := by
  refine ⟨h.1, ?_⟩
  rcases h.2 with h1 | ⟨g, cap, cur, rfl, hg, hh, h4⟩
  · exact .inl h1
  · exact .inr ⟨g, cap, cur, rfl, hg, (hb.block g (Array.getElem?_eq_some_iff.1 hh).1).trans hh, h4⟩
theorem St.below {B : Nat} {w0 w w' : World} {vo vb : Value} {o : List Int} {b : List (Nat × Nat)} (h : St B w0 w vo o vb b) (hb : Below w.heap.size w w') : St B w0 w' vo o vb b :=
  ⟨own_below h.1 hb, own_below h.2.1 hb, h.2.2.1.trans (hb.mono h.2.2.2), Nat.le_trans h.2.2.2 hb.size⟩
theorem St.drew {B : Nat} {w0 w : World} {vo vb : Value} {o : List Int} {b : List (Nat × Nat)} (h : St B w0 w vo o vb b) : St B w0 w.drew vo o vb b := ⟨h.1, h.2.1, h.2.2.1.drew, h.2.2.2⟩
theorem KeepB.grown {w w' : World} {v : Value} {B e sz n : Nat} {xs : List Value} (h : w.ownsRow B e sz v n xs) (hg : w.grownBy w' v.ownBlock) (he : e = RuneT ∨ e = FaultT) : KeepB w w' := by
  intro g t cs h1 h2 hb
  have hlt := hb.lt
  show w'.heap[g]? = _
  rw [hg.block g hlt ?_]
  · exact hb
  · intro hx
    refine own_blk_ne h hb ?_ hx.symm
    rcases he with rfl | rfl
    · exact h1
    · exact h2
theorem Blk.rune {w : World} {g : Nat} {t : TypeId} {cs : Array Value} (h : Blk w g t cs) {w' : World} (hk : KeepB w w') (h1 : t ≠ RuneT) (h2 : t ≠ FaultT) : Blk w' g t cs := hk g t cs h1 h2 h
section
variable {ops : Array Oper} {rest : List Oper} {oo : Oper} {a : Act} {Q : Exit → Act → World → Prop}
/-- 'out = append(out, r)'. -/
theorem wpList_out (w0 w : World) (hgd : oo.guard = none) (s x : Operand) (ho : oo.op = .call { callee := .builtin .append, args := #[s, x], argTypes := #[72, 72] })
    (B : Nat) (vo vb : Value) (o : List Int) (b : List (Nat × Nat)) (hs : a.eval s = vo) (hst : St B w0 w vo o vb b) (r : Int) (c : Nat) (hx : a.eval x = .slice (some ⟨w.heap.size, 0, none⟩) 1 c)
    (hsm : o.length ≤ 1000000)
    (h : ∀ v' w', St B w0 w' v' (o ++ [r]) vb b → KeepB w w' → wpList Tryz.prog ops Q rest (a.put oo.dst v') w') : wpList Tryz.prog ops Q (oo :: rest) a (w.alloc (.cells #[.int .i32 r] RuneT)) := by
  obtain ⟨i0, hi, hz0, hz1, hz2⟩ := info_parts infoRune
  obtain ⟨h1, h2, h3, h4⟩ := hst
  have h1' := h1.alloc (.cells #[.int .i32 r] RuneT)
  refine wpList_append_own _ hgd s x 72 ho B RuneT i0 (.int .i32 0) 1 4 Tryz.underlying72 hi hz0 hz1 hz2 rfl (by decide) vo o.length (i32s o) hs h1' ⟨w.heap.size, 0, none⟩ 1 c [.int .i32 r] hx rfl ?_ ?_ ?_ ?_ ?_ ?_
  · intro j u hj
    match j, hj with
    | 0, hj => simp at hj; subst hj; simp [Addr.add]
  · intro u hu; simp at hu; subst hu; rfl
  · unfold maxLen; omega
  · omega
  · simp; omega
  · intro v' w1 hown hgrow _
    refine h v' w1 ⟨by rw [i32s_append, List.length_append]; exact hown, ?_, ?_, ?_⟩ ?_
    · exact (h2.alloc _).kept hgrow (own_own_ne (h2.alloc _) h1' (by decide))
    · exact (h3.alloc h4 _).grown hgrow (by simp; omega) (fun k hk => (h1.lt k hk).1)
    · have := hgrow.size; simp at this; omega
    · intro g t cs e1 e2 hb
      exact KeepB.grown h1' hgrow (.inl rfl) g t cs e1 e2 (hb.alloc _)
/-- 'bad = append(bad, api.Fault(at, n))'. -/
theorem wpList_bad (w0 w : World) (hgd : oo.guard = none) (s x : Operand) (ho : oo.op = .call { callee := .builtin .append, args := #[s, x], argTypes := #[26, 26] })
    (B : Nat) (vo vb : Value) (o : List Int) (b : List (Nat × Nat)) (hs : a.eval s = vb) (hst : St B w0 w vo o vb b) (p n : Nat) (c : Nat) (hx : a.eval x = .slice (some ⟨w.heap.size, 0, none⟩) 1 c)
    (hsm : b.length ≤ 1000000)
    (h : ∀ v' w', St B w0 w' vo o v' (b ++ [(p, n)]) → KeepB w w' → wpList Tryz.prog ops Q rest (a.put oo.dst v') w') : wpList Tryz.prog ops Q (oo :: rest) a (w.alloc (.cells #[.int .i64 p, .int .i64 n] FaultT)) := by
  obtain ⟨i0, hi, hz0, hz1, hz2⟩ := info_parts infoFault
  obtain ⟨h1, h2, h3, h4⟩ := hst
  have h2' := h2.alloc (.cells #[.int .i64 p, .int .i64 n] FaultT)
  refine wpList_append_own _ hgd s x 26 ho B FaultT i0 (.agg #[.int .i64 0, .int .i64 0]) 2 16 Tryz.underlying26 hi hz0 hz1 hz2 rfl (by decide) vb b.length (fcells b) hs h2' ⟨w.heap.size, 0, none⟩ 1 c [.int .i64 p, .int .i64 n] hx rfl ?_ ?_ ?_ ?_ ?_ ?_
  · intro j u hj
    match j, hj with
    | 0, hj => simp at hj; subst hj; simp [Addr.add]
    | 1, hj => simp at hj; subst hj; simp [Addr.add]
  · intro u hu; simp at hu; rcases hu with rfl | rfl <;> rfl
  · unfold maxLen; omega
  · omega
  · simp; omega
  · intro v' w1 hown hgrow _
    refine h v' w1 ⟨?_, by rw [fcells_append, List.length_append]; exact hown, ?_, ?_⟩ ?_
    · exact (h1.alloc _).kept hgrow (own_own_ne (h1.alloc _) h2' (by decide))
    · exact (h3.alloc h4 _).grown hgrow (by simp; omega) (fun k hk => (h2.lt k hk).1)
    · have := hgrow.size; simp at this; omega
    · intro g t cs e1 e2 hb
      exact KeepB.grown h2' hgrow (.inr rfl) g t cs e1 e2 (hb.alloc _)
end
end Go.Proofs.YtkfjmcidcnpijaaGreatDoor
