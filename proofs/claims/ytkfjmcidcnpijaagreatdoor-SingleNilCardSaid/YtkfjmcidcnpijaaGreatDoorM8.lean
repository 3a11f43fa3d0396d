/- Words: rows of the reference in memory; walk: inkhornref13.Wrong. -/
import Derived.Test.YtkfjmcidcnpijaaGreatDoorM7
import Derived.Laws.AppendOwn
namespace Go.Proofs.YtkfjmcidcnpijaaGreatDoor.Mf
open Go.RowKit

abbrev RuneT : TypeId := 21
theorem i32s_append (l m : List Int) : i32s (l ++ m) = i32s l ++ i32s m := by simp [i32s]
theorem infoRune : (Tryz.prog.info? RuneT).map (fun i => (i.zero, i.size, i.bytes)) = some (some (.int .i32 0), 1, 4) := by kernel_rfl
/-- Two rows of different element types, or a row and a block, lie apart. -/
theorem own_blk_ne {w : World} {g base size n : Nat} {t e : TypeId} {cs : Array Value} {v : Value} {xs : List Value} (h : w.ownsRow base e size v n xs) (hg : Blk w g t cs) (hne : t ≠ e) : v.ownBlock ≠ some g := by
  rcases h.2 with ⟨rfl, _⟩ | ⟨g', cap, cur, rfl, _, hh, _⟩
  · simp [Value.ownBlock]
  · intro he
    have : g' = g := by simpa [Value.ownBlock] using he
    subst this
    unfold Blk at hg
    rw [hg] at hh
    injection hh with hh
    injection hh with _ ht
    exact hne ht
theorem own_own_ne {w : World} {b1 s1 n1 b2 s2 n2 : Nat} {e1 e2 : TypeId} {v1 v2 : Value} {x1 x2 : List Value} (h1 : w.ownsRow b1 e1 s1 v1 n1 x1) (h2 : w.ownsRow b2 e2 s2 v2 n2 x2) (hne : e1 ≠ e2) :
    v1.ownBlock = none ∨ v1.ownBlock ≠ v2.ownBlock := by
  rcases h1.2 with ⟨rfl, _⟩ | ⟨g, cap, cur, rfl, _, hh, _⟩
  · exact .inl rfl
  · exact .inr fun he => own_blk_ne h2 (g := g) (cs := cur) hh hne he.symm
abbrev RefT : TypeId := 84
/-- A slice of characters in a block of its own. -/
def TextAt (w : World) (v : Value) (t : List Int) : Prop := (v = .slice none 0 0 ∧ t = []) ∨ ∃ g c cur, v = .slice (some ⟨g, 0, none⟩) t.length c ∧ w.heap[g]? = some (.cells cur RuneT (0, 0)) ∧ cur.toList.take t.length = i32s t
theorem TextAt.keep {w w' : World} {v : Value} {t : List Int} (h : TextAt w v t) (hb : Below w.heap.size w w') : TextAt w' v t := by
  rcases h with h | ⟨g, c, cur, e, hg, ht⟩
  · exact .inl h
  · exact .inr ⟨g, c, cur, e, (hb.block g (Array.getElem?_eq_some_iff.1 hg).1).trans hg, ht⟩
theorem TextAt.grown {w w' : World} {v v' : Value} {t : List Int} {B e sz n : Nat} {xs : List Value} (h : TextAt w v t) (ho : w.ownsRow B e sz v' n xs) (hg : w.grownBy w' v'.ownBlock) (hne : RuneT ≠ e) : TextAt w' v t := by
  rcases h with h | ⟨g, c, cur, e', hb, ht⟩
  · exact .inl h
  · exact .inr ⟨g, c, cur, e', (hg.block g (Array.getElem?_eq_some_iff.1 hb).1 (fun he => own_blk_ne ho (g := g) (cs := cur) hb hne he.symm)).trans hb, ht⟩
theorem TextAt.rd {w : World} {v : Value} {t : List Int} (h : TextAt w v t) : ∃ A c, v = .slice A t.length c ∧ Rd w A t.length (i32s t) := by
  rcases h with ⟨rfl, rfl⟩ | ⟨g, c, cur, rfl, hb, ht⟩
  · exact ⟨none, 0, rfl, rfl, fun h => absurd h (by simp)⟩
  · refine ⟨some ⟨g, 0, none⟩, c, rfl, by simp [i32s], fun _ => ⟨g, 0, rfl, (Array.getElem?_eq_some_iff.1 hb).1, fun i x hx => ?_⟩⟩
    rw [Nat.zero_add, cell_of_row w g i cur RuneT (0, 0) hb]
    rw [← ht, List.getElem?_take] at hx
    split at hx
    · simpa using hx
    · cases hx
theorem Blk.frz {w : World} {g : Nat} {t : TypeId} {cs : Array Value} (h : Blk w g t cs) (i : Nat) : w.frozen? ⟨g, i, none⟩ = false := frozen_of_row w g i cs t h
theorem TextAt.set {w : World} {v x : Value} {t : List Int} {b i : Nat} {T : TypeId} {cs : Array Value} (h : TextAt w v t) (hb : Blk w b T cs) (hne : T ≠ RuneT) : TextAt (w.setCell ⟨b, i, none⟩ x) v t := by
  rcases h with h | ⟨g, c, cur, e, hg, ht⟩
  · exact .inl h
  · refine .inr ⟨g, c, cur, e, (heap_setCell_other w ⟨b, i, none⟩ g x (fun he => ?_)).trans hg, ht⟩
    unfold Blk at hb
    have he' : g = b := he
    rw [← he', hg] at hb
    injection hb with hb
    injection hb with _ h2
    exact hne h2.symm
theorem Blk.set {w : World} {g : Nat} {t : TypeId} {cs : Array Value} (h : Blk w g t cs) (i : Nat) (v : Value) : Blk (w.setCell ⟨g, i, none⟩ v) g t (cs.setIfInBounds i v) := heap_setCell_same w g i cs t v h
theorem below_set {B : Nat} {a w : World} (h : Below B a w) (b i : Nat) (v : Value) (hb : B ≤ b) : Below B a (w.setCell ⟨b, i, none⟩ v) :=
  ⟨h.os, h.tape, h.output, by simpa using h.size, fun k hk => (heap_setCell_other w ⟨b, i, none⟩ k v (by show k ≠ b; omega)).trans (h.block k hk)⟩
/-- Rows of the reference, as cells. -/
def refcells (ps : List (Value × LRow)) : List Value := ps.flatMap fun p => [.string ⟨p.2.code.toArray⟩, p.1, .int .i64 p.2.flag]
theorem refcells_length (ps : List (Value × LRow)) : (refcells ps).length = ps.length * 3 := by
  unfold refcells
  induction ps with
  | nil => rfl
  | cons a l ih => simp [ih]; omega
theorem refcells_append (a b : List (Value × LRow)) : refcells (a ++ b) = refcells a ++ refcells b := by simp [refcells]
theorem infoRef : (Tryz.prog.info? RefT).map (fun i => (i.zero, i.size, i.bytes)) = some (some (.agg #[.string ⟨#[]⟩, .slice none 0 0, .int .i64 0]), 3, 48) := by kernel_rfl
/-- An own slice of rows of the reference. -/
def Refs (B : Nat) (w : World) (v : Value) (l : List LRow) : Prop := ∃ ps : List (Value × LRow), ps.map (·.2) = l ∧ (∀ p ∈ ps, TextAt w p.1 p.2.text) ∧ w.ownsRow B RefT 3 v l.length (refcells ps)
def RefsPost (w : World) (l : List LRow) (e : Ending) (w' : World) : Prop := ∃ v, e = .returned v ∧ Refs w.heap.size w' v l ∧ Below w.heap.size w w'
section
variable {ops : Array Oper} {rest : List Oper} {oo : Oper} {a : Act} {Q : Exit → Act → World → Prop}
/-- 'out = append(out, row)'. -/
theorem wpList_ref (w : World) (hgd : oo.guard = none) (s x : Operand) (ho : oo.op = .call { callee := .builtin .append, args := #[s, x], argTypes := #[44, 44] })
    (B : Nat) (v : Value) (l : List LRow) (hs : a.eval s = v) (hst : Refs B w v l) (hB : B ≤ w.heap.size) (code : List UInt8) (At : Option Addr) (n ct : Nat) (text : List Int) (flag : Int) (htx : TextAt w (.slice At n ct) text)
    (c : Nat) (hx : a.eval x = .slice (some ⟨w.heap.size, 0, none⟩) 1 c) (hsm : l.length ≤ 1048576)
    (h : ∀ v' w', Refs B w' v' (l ++ [⟨code, text, flag⟩]) → Below B w w' → wpList Tryz.prog ops Q rest (a.put oo.dst v') w') : wpList Tryz.prog ops Q (oo :: rest) a (w.alloc (.cells #[.string ⟨code.toArray⟩, .slice At n ct, .int .i64 flag] RefT)) := by
  obtain ⟨i0, hi, hz0, hz1, hz2⟩ := info_parts infoRef
  obtain ⟨ps, hps, htp, hown⟩ := hst
  have hown' := hown.alloc (.cells #[.string ⟨code.toArray⟩, .slice At n ct, .int .i64 flag] RefT)
  have hba : Below w.heap.size w (w.alloc (.cells #[.string ⟨code.toArray⟩, .slice At n ct, .int .i64 flag] RefT)) := (Below.refl _ _).alloc (Nat.le_refl _) _
  refine wpList_append_own _ hgd s x 44 ho B RefT i0 (.agg #[.string ⟨#[]⟩, .slice none 0 0, .int .i64 0]) 3 48 Tryz.underlying44 hi hz0 hz1 hz2 rfl (by decide) v l.length (refcells ps) hs hown' ⟨w.heap.size, 0, none⟩ 1 c [.string ⟨code.toArray⟩, .slice At n ct, .int .i64 flag] hx rfl ?_ ?_ ?_ ?_ ?_ ?_
  · intro j u hj
    match j, hj with
    | 0, hj => simp at hj; subst hj; simp [Addr.add]
    | 1, hj => simp at hj; subst hj; simp [Addr.add]
    | 2, hj => simp at hj; subst hj; simp [Addr.add]
  · intro u hu; simp at hu; rcases hu with rfl | rfl | rfl <;> rfl
  · unfold maxLen; omega
  · omega
  · simp; omega
  · intro v' w1 hown1 hgrow _
    refine h v' w1 ⟨ps ++ [(.slice At n ct, ⟨code, text, flag⟩)], by rw [List.map_append, hps]; rfl, ?_, ?_⟩ ?_
    · intro p hp
      rcases List.mem_append.1 hp with hp | hp
      · exact (htp p hp).keep hba |>.grown hown' hgrow (by decide)
      · obtain rfl : p = (.slice At n ct, ⟨code, text, flag⟩) := by simpa using hp
        exact (htx.keep hba).grown hown' hgrow (by decide)
    · rw [refcells_append, List.length_append]; exact hown1
    · exact ((Below.refl B w).alloc hB _).grown hgrow (by simp; omega) (fun k hk => (hown.lt k hk).1)
end
/-- A row of the reference as a value. -/
def okR (r : Int) : Bool := decide (0 ≤ r ∧ (r < 55296 ∨ 57343 < r) ∧ r ≤ 1114111)
def lenOk (x : LRow) : Prop := 1 ≤ x.code.length ∧ x.code.length ≤ 4 ∧ 1 ≤ x.text.length ∧ x.text.length ≤ 18
theorem wrongL_eq (x : LRow) : wrongL x = if 1 ≤ x.code.length ∧ x.code.length ≤ 4 ∧ 1 ≤ x.text.length ∧ x.text.length ≤ 18 then (if x.text.all okR = true then (if x.flag = 0 ∨ x.flag = 1 ∨ x.flag = 3 then 0 else 16) else 11) else 11 := by
  unfold wrongL
  by_cases h : 1 ≤ x.code.length ∧ x.code.length ≤ 4 ∧ 1 ≤ x.text.length ∧ x.text.length ≤ 18
  · rw [if_pos h]
    by_cases h2 : x.text.all okR = true
    · rw [if_pos h2, if_pos ⟨h.1, h.2.1, h.2.2.1, h.2.2.2, h2⟩]
    · rw [if_neg h2, if_neg (fun h3 => h2 h3.2.2.2.2)]
  · rw [if_neg h, if_neg (fun h3 => h ⟨h3.1, h3.2.1, h3.2.2.1, h3.2.2.2.1⟩)]
































































































































































end Go.Proofs.YtkfjmcidcnpijaaGreatDoor.Mf
