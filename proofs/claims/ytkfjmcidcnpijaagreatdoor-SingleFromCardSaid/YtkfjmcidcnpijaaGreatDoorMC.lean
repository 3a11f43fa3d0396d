/- Joined of: M7, M8, M9. -/
import Derived.Test.YtkfjmcidcnpijaaGreatDoorMB
import Derived.Laws.OwnMore
import Derived.OwnWalk
import Derived.Laws.AppendOwn
import Derived.Deep.RegionHeld3
import Derived.Deep.CutRange
import Derived.Deep.DeepCutAuto
import Derived.Deep.CutBlock
/- Words: a row of strings that the call makes; walk: inkhornref13.Lines. -/
namespace Go.Proofs.YtkfjmcidcnpijaaGreatDoor.Mf
open Go.RowKit

abbrev StrT : TypeId := 9
theorem infoStr : (Tryz.prog.info? StrT).map (fun i => (i.zero, i.size, i.bytes)) = some (some (.string ⟨#[]⟩), 1, 16) := by kernel_rfl
def strsL (l : List (List UInt8)) : List Value := l.map fun b => Value.string ⟨b.toArray⟩
theorem strsL_append (a b : List (List UInt8)) : strsL (a ++ b) = strsL a ++ strsL b := by simp [strsL]
theorem own_keep {w w' : World} {B e sz n : Nat} {v : Value} {xs : List Value} (h : w.ownsRow B e sz v n xs) (hb : Below w.heap.size w w') : w'.ownsRow B e sz v n xs := by
  refine ⟨h.1, ?_⟩
  rcases h.2 with h1 | ⟨g, cap, cur, e1, hg, hh, h4⟩
  · exact .inl h1
  · exact .inr ⟨g, cap, cur, e1, hg, (hb.block g (Array.getElem?_eq_some_iff.1 hh).1).trans hh, h4⟩
theorem own_shapeN {w : World} {B n sz : Nat} {e : TypeId} {v : Value} {xs : List Value} (h : w.ownsRow B e sz v n xs) : ∃ A c, v = .slice A n c := by
  rcases h.2 with ⟨rfl, h0⟩ | ⟨g, cap, _, e1, _⟩
  · exact ⟨none, 0, by rw [h0]⟩
  · exact ⟨_, _, e1⟩
section
variable {ops : Array Oper} {rest : List Oper} {oo : Oper} {a : Act} {Q : Exit → Act → World → Prop}
/-- 'out = append(out, line)'. -/
theorem wpList_line (w : World) (hgd : oo.guard = none) (s x : Operand) (ho : oo.op = .call { callee := .builtin .append, args := #[s, x], argTypes := #[71, 71] })
    (B : Nat) (v : Value) (l : List (List UInt8)) (hs : a.eval s = v) (hst : w.ownsRow B StrT 1 v l.length (strsL l)) (hB : B ≤ w.heap.size) (b : ByteArray)
    (c : Nat) (hx : a.eval x = .slice (some ⟨w.heap.size, 0, none⟩) 1 c) (hsm : l.length ≤ 1048576)
    (h : ∀ v' w', w'.ownsRow B StrT 1 v' (l ++ [b.data.toList]).length (strsL (l ++ [b.data.toList])) → Below B w w' → wpList Tryz.prog ops Q rest (a.put oo.dst v') w') : wpList Tryz.prog ops Q (oo :: rest) a (w.alloc (.cells #[.string b] StrT)) := by
  obtain ⟨i0, hi, hz0, hz1, hz2⟩ := info_parts infoStr
  have hown' := hst.alloc (.cells #[.string b] StrT)
  refine wpList_append_own _ hgd s x 71 ho B StrT i0 (.string ⟨#[]⟩) 1 16 Tryz.underlying71 hi hz0 hz1 hz2 rfl (by decide) v l.length (strsL l) hs hown' ⟨w.heap.size, 0, none⟩ 1 c [.string b] hx rfl ?_ ?_ ?_ ?_ ?_ ?_
  · intro j u hj
    match j, hj with
    | 0, hj => simp at hj; subst hj; simp [Addr.add]
  · intro u hu; simp at hu; subst hu; rfl
  · unfold maxLen; omega
  · omega
  · simp; omega
  · intro v' w1 hown1 hgrow _
    refine h v' w1 ?_ (((Below.refl B w).alloc hB _).grown hgrow (by simp; omega) (fun k hk => (hst.lt k hk).1))
    rw [strsL_append, List.length_append]
    exact hown1
end
theorem lines_push (line t : List UInt8) (h : line.all (· != 10) = true) : linesOf (line ++ 10 :: t) = line :: linesOf t := by
  have hne : line ++ 10 :: t ≠ [] := by simp
  have hw : (line ++ 10 :: t).takeWhile (· != 10) = line := by
    rw [List.takeWhile_append_of_pos (fun a ha => List.all_eq_true.1 h a ha), List.takeWhile_cons]
    simp
  rw [linesOf_cons _ hne, hw]
  have h2 : (line ++ 10 :: t).drop (line.length + 1) = t := by
    rw [← List.drop_drop, List.drop_left]
    rfl
  rw [h2]
theorem lines_last (line : List UInt8) (h : line.all (· != 10) = true) (hn : line ≠ []) : linesOf line = [line] := by
  rw [linesOf_cons _ hn, while_all _ _ h, List.drop_eq_nil_of_le (by omega), linesOf_nil]
theorem fits_no1 (s : List UInt8) (out rest : List (List UInt8)) (line : List UInt8) (h : linesOf s = out ++ line :: rest) (hl : 512 < line.length) : fits s = false := by
  unfold fits
  rw [h, List.all_append, List.all_cons]
  have : decide (line.length ≤ 512) = false := decide_eq_false (by omega)
  rw [this]
  simp
theorem fits_no2 (s : List UInt8) (out rest : List (List UInt8)) (line : List UInt8) (h : linesOf s = out ++ line :: rest) (hl : out.length = 4096) : fits s = false := by
  unfold fits
  rw [h]
  have : decide ((out ++ line :: rest).length ≤ 4096) = false := decide_eq_false (by rw [List.length_append, List.length_cons]; omega)
  rw [this, Bool.and_false]
theorem ext_any (s : ByteArray) (i j : Nat) : (s.extract i j).data.toList = (s.data.toList.take j).drop i := by
  rw [ByteArray.data_extract, Array.toList_extract, List.extract_eq_take_drop, List.drop_take]
def LinesPost (w : World) (s : List UInt8) (e : Ending) (w' : World) : Prop :=
  (fits s = true → ∃ v, e = .returned (.tuple #[v, .bool true]) ∧ w'.ownsRow w.heap.size StrT 1 v (linesOf s).length (strsL (linesOf s))) ∧ (fits s = false → e = .returned (.tuple #[.slice none 0 0, .bool false])) ∧ Below w.heap.size w w'





















































































































































end Go.Proofs.YtkfjmcidcnpijaaGreatDoor.Mf
/- Words: rows of the reference in memory; walk: inkhornref13.Wrong. -/
namespace Go.Proofs.YtkfjmcidcnpijaaGreatDoor.Mf
open Go.RowKit

abbrev RuneT : TypeId := 21
theorem i32s_append (l m : List Int) : i32s (l ++ m) = i32s l ++ i32s m := by simp [i32s]
theorem infoRune : (Tryz.prog.info? RuneT).map (fun i => (i.zero, i.size, i.bytes)) = some (some (.int .i32 0), 1, 4) := by kernel_rfl
/-- Two rows of different element types, or a row and a block, lie apart. -/
theorem own_blk_ne {w : World} {g base size n : Nat} {t e : TypeId} {cs : Array Value} {v : Value} {xs : List Value} (h : w.ownsRow base e size v n xs) (hg : Blk w g t cs) (hne : t ≠ e) : v.ownBlock ≠ some g := by
  rcases h.2 with ⟨rfl, _⟩ | ⟨g', cap, cur, rfl, _, hh, _⟩
  · simp [Value.ownBlock]
  · intro he
    have : g' = g := by simpa [Value.ownBlock] using he
    subst this
    unfold Blk at hg
    rw [hg] at hh
    injection hh with hh
    injection hh with _ ht
    exact hne ht
theorem own_own_ne {w : World} {b1 s1 n1 b2 s2 n2 : Nat} {e1 e2 : TypeId} {v1 v2 : Value} {x1 x2 : List Value} (h1 : w.ownsRow b1 e1 s1 v1 n1 x1) (h2 : w.ownsRow b2 e2 s2 v2 n2 x2) (hne : e1 ≠ e2) :
    v1.ownBlock = none ∨ v1.ownBlock ≠ v2.ownBlock := by
  rcases h1.2 with ⟨rfl, _⟩ | ⟨g, cap, cur, rfl, _, hh, _⟩
  · exact .inl rfl
  · exact .inr fun he => own_blk_ne h2 (g := g) (cs := cur) hh hne he.symm
abbrev RefT : TypeId := 84
/-- A slice of characters in a block of its own. -/
def TextAt (w : World) (v : Value) (t : List Int) : Prop := (v = .slice none 0 0 ∧ t = []) ∨ ∃ g c cur, v = .slice (some ⟨g, 0, none⟩) t.length c ∧ w.heap[g]? = some (.cells cur RuneT (0, 0)) ∧ cur.toList.take t.length = i32s t
theorem TextAt.keep {w w' : World} {v : Value} {t : List Int} (h : TextAt w v t) (hb : Below w.heap.size w w') : TextAt w' v t := by
  rcases h with h | ⟨g, c, cur, e, hg, ht⟩
  · exact .inl h
  · exact .inr ⟨g, c, cur, e, (hb.block g (Array.getElem?_eq_some_iff.1 hg).1).trans hg, ht⟩
theorem TextAt.grown {w w' : World} {v v' : Value} {t : List Int} {B e sz n : Nat} {xs : List Value} (h : TextAt w v t) (ho : w.ownsRow B e sz v' n xs) (hg : w.grownBy w' v'.ownBlock) (hne : RuneT ≠ e) : TextAt w' v t := by
  rcases h with h | ⟨g, c, cur, e', hb, ht⟩
  · exact .inl h
  · exact .inr ⟨g, c, cur, e', (hg.block g (Array.getElem?_eq_some_iff.1 hb).1 (fun he => own_blk_ne ho (g := g) (cs := cur) hb hne he.symm)).trans hb, ht⟩
theorem TextAt.rd {w : World} {v : Value} {t : List Int} (h : TextAt w v t) : ∃ A c, v = .slice A t.length c ∧ Rd w A t.length (i32s t) := by
  rcases h with ⟨rfl, rfl⟩ | ⟨g, c, cur, rfl, hb, ht⟩
  · exact ⟨none, 0, rfl, rfl, fun h => absurd h (by simp)⟩
  · refine ⟨some ⟨g, 0, none⟩, c, rfl, by simp [i32s], fun _ => ⟨g, 0, rfl, (Array.getElem?_eq_some_iff.1 hb).1, fun i x hx => ?_⟩⟩
    rw [Nat.zero_add, cell_of_row w g i cur RuneT (0, 0) hb]
    rw [← ht, List.getElem?_take] at hx
    split at hx
    · simpa using hx
    · cases hx
theorem Blk.frz {w : World} {g : Nat} {t : TypeId} {cs : Array Value} (h : Blk w g t cs) (i : Nat) : w.frozen? ⟨g, i, none⟩ = false := frozen_of_row w g i cs t h
theorem TextAt.set {w : World} {v x : Value} {t : List Int} {b i : Nat} {T : TypeId} {cs : Array Value} (h : TextAt w v t) (hb : Blk w b T cs) (hne : T ≠ RuneT) : TextAt (w.setCell ⟨b, i, none⟩ x) v t := by
  rcases h with h | ⟨g, c, cur, e, hg, ht⟩
  · exact .inl h
  · refine .inr ⟨g, c, cur, e, (heap_setCell_other w ⟨b, i, none⟩ g x (fun he => ?_)).trans hg, ht⟩
    unfold Blk at hb
    have he' : g = b := he
    rw [← he', hg] at hb
    injection hb with hb
    injection hb with _ h2
    exact hne h2.symm
theorem Blk.set {w : World} {g : Nat} {t : TypeId} {cs : Array Value} (h : Blk w g t cs) (i : Nat) (v : Value) : Blk (w.setCell ⟨g, i, none⟩ v) g t (cs.setIfInBounds i v) := heap_setCell_same w g i cs t v h
theorem below_set {B : Nat} {a w : World} (h : Below B a w) (b i : Nat) (v : Value) (hb : B ≤ b) : Below B a (w.setCell ⟨b, i, none⟩ v) :=
  ⟨h.os, h.tape, h.output, by simpa using h.size, fun k hk => (heap_setCell_other w ⟨b, i, none⟩ k v (by show k ≠ b; omega)).trans (h.block k hk)⟩
/-- Rows of the reference, as cells. -/
def refcells (ps : List (Value × LRow)) : List Value := ps.flatMap fun p => [.string ⟨p.2.code.toArray⟩, p.1, .int .i64 p.2.flag]
theorem refcells_length (ps : List (Value × LRow)) : (refcells ps).length = ps.length * 3 := by
  unfold refcells
  induction ps with
  | nil => rfl
  | cons a l ih => simp [ih]; omega
theorem refcells_append (a b : List (Value × LRow)) : refcells (a ++ b) = refcells a ++ refcells b := by simp [refcells]
theorem infoRef : (Tryz.prog.info? RefT).map (fun i => (i.zero, i.size, i.bytes)) = some (some (.agg #[.string ⟨#[]⟩, .slice none 0 0, .int .i64 0]), 3, 48) := by kernel_rfl
/-- An own slice of rows of the reference. -/
def Refs (B : Nat) (w : World) (v : Value) (l : List LRow) : Prop := ∃ ps : List (Value × LRow), ps.map (·.2) = l ∧ (∀ p ∈ ps, TextAt w p.1 p.2.text) ∧ w.ownsRow B RefT 3 v l.length (refcells ps)
def RefsPost (w : World) (l : List LRow) (e : Ending) (w' : World) : Prop := ∃ v, e = .returned v ∧ Refs w.heap.size w' v l ∧ Below w.heap.size w w'
section
variable {ops : Array Oper} {rest : List Oper} {oo : Oper} {a : Act} {Q : Exit → Act → World → Prop}
/-- 'out = append(out, row)'. -/
theorem wpList_ref (w : World) (hgd : oo.guard = none) (s x : Operand) (ho : oo.op = .call { callee := .builtin .append, args := #[s, x], argTypes := #[44, 44] })
    (B : Nat) (v : Value) (l : List LRow) (hs : a.eval s = v) (hst : Refs B w v l) (hB : B ≤ w.heap.size) (code : List UInt8) (At : Option Addr) (n ct : Nat) (text : List Int) (flag : Int) (htx : TextAt w (.slice At n ct) text)
    (c : Nat) (hx : a.eval x = .slice (some ⟨w.heap.size, 0, none⟩) 1 c) (hsm : l.length ≤ 1048576)
    (h : ∀ v' w', Refs B w' v' (l ++ [⟨code, text, flag⟩]) → Below B w w' → wpList Tryz.prog ops Q rest (a.put oo.dst v') w') : wpList Tryz.prog ops Q (oo :: rest) a (w.alloc (.cells #[.string ⟨code.toArray⟩, .slice At n ct, .int .i64 flag] RefT)) := by
  obtain ⟨i0, hi, hz0, hz1, hz2⟩ := info_parts infoRef
  obtain ⟨ps, hps, htp, hown⟩ := hst
  have hown' := hown.alloc (.cells #[.string ⟨code.toArray⟩, .slice At n ct, .int .i64 flag] RefT)
  have hba : Below w.heap.size w (w.alloc (.cells #[.string ⟨code.toArray⟩, .slice At n ct, .int .i64 flag] RefT)) := (Below.refl _ _).alloc (Nat.le_refl _) _
  refine wpList_append_own _ hgd s x 44 ho B RefT i0 (.agg #[.string ⟨#[]⟩, .slice none 0 0, .int .i64 0]) 3 48 Tryz.underlying44 hi hz0 hz1 hz2 rfl (by decide) v l.length (refcells ps) hs hown' ⟨w.heap.size, 0, none⟩ 1 c [.string ⟨code.toArray⟩, .slice At n ct, .int .i64 flag] hx rfl ?_ ?_ ?_ ?_ ?_ ?_
  · intro j u hj
    match j, hj with
    | 0, hj => simp at hj; subst hj; simp [Addr.add]
    | 1, hj => simp at hj; subst hj; simp [Addr.add]
    | 2, hj => simp at hj; subst hj; simp [Addr.add]
  · intro u hu; simp at hu; rcases hu with rfl | rfl | rfl <;> rfl
  · unfold maxLen; omega
  · omega
  · simp; omega
  · intro v' w1 hown1 hgrow _
    refine h v' w1 ⟨ps ++ [(.slice At n ct, ⟨code, text, flag⟩)], by rw [List.map_append, hps]; rfl, ?_, ?_⟩ ?_
    · intro p hp
      rcases List.mem_append.1 hp with hp | hp
      · exact (htp p hp).keep hba |>.grown hown' hgrow (by decide)
      · obtain rfl : p = (.slice At n ct, ⟨code, text, flag⟩) := by simpa using hp
        exact (htx.keep hba).grown hown' hgrow (by decide)
    · rw [refcells_append, List.length_append]; exact hown1
    · exact ((Below.refl B w).alloc hB _).grown hgrow (by simp; omega) (fun k hk => (hown.lt k hk).1)
end
/-- A row of the reference as a value. -/
def okR (r : Int) : Bool := decide (0 ≤ r ∧ (r < 55296 ∨ 57343 < r) ∧ r ≤ 1114111)
def lenOk (x : LRow) : Prop := 1 ≤ x.code.length ∧ x.code.length ≤ 4 ∧ 1 ≤ x.text.length ∧ x.text.length ≤ 18
theorem wrongL_eq (x : LRow) : wrongL x = if 1 ≤ x.code.length ∧ x.code.length ≤ 4 ∧ 1 ≤ x.text.length ∧ x.text.length ≤ 18 then (if x.text.all okR = true then (if x.flag = 0 ∨ x.flag = 1 ∨ x.flag = 3 then 0 else 16) else 11) else 11 := by
  unfold wrongL
  by_cases h : 1 ≤ x.code.length ∧ x.code.length ≤ 4 ∧ 1 ≤ x.text.length ∧ x.text.length ≤ 18
  · rw [if_pos h]
    by_cases h2 : x.text.all okR = true
    · rw [if_pos h2, if_pos ⟨h.1, h.2.1, h.2.2.1, h.2.2.2, h2⟩]
    · rw [if_neg h2, if_neg (fun h3 => h2 h3.2.2.2.2)]
  · rw [if_neg h, if_neg (fun h3 => h ⟨h3.1, h3.2.1, h3.2.2.1, h3.2.2.2.1⟩)]
































































































































































end Go.Proofs.YtkfjmcidcnpijaaGreatDoor.Mf
/- Plain: pairs and characters without fuel; walk: inkhornref13.Unicode. -/
namespace Go.Proofs.YtkfjmcidcnpijaaGreatDoor.Mf
open Go.RowKit

def hexN (c : UInt8) : Nat := (hexV c).getD 0
theorem byteO_two (c d : UInt8) (t : List UInt8) : byteO (c :: d :: t) = if isHex c = true ∧ isHex d = true then some (UInt8.ofNat (hexN c * 16 + hexN d), t) else none := by
  have h0 : digs 0 t = [] := by cases t <;> rfl
  unfold byteO
  by_cases hc : isHex c = true
  · by_cases hd : isHex d = true
    · have h2 : digs 2 (c :: d :: t) = [c, d] := by simp [digs, hc, hd]
      rw [h2, if_pos (by rfl : [c, d].length = 2), if_pos ⟨hc, hd⟩]
      simp [numOf, hexN]
    · have h2 : digs 2 (c :: d :: t) = [c] := by simp [digs, hc, hd]
      rw [h2, if_neg (by simp), if_neg (fun h => hd h.2)]
  · have h2 : digs 2 (c :: d :: t) = [] := by simp [digs, hc]
    rw [h2, if_neg (by simp), if_neg (fun h => hc h.1)]
theorem byteO_short (s : List UInt8) (h : s.length < 2) : byteO s = none := by
  unfold byteO
  have := digs_le 2 s
  rw [if_neg (by omega)]
theorem pairs_fuel : ∀ (n m : Nat) (s : List UInt8), s.length < n → s.length < m → pairs n s = pairs m s := by
  intro n
  induction n with
  | zero => intro m s h; omega
  | succ n ih =>
    intro m s h1 h2
    cases m with
    | zero => omega
    | succ m =>
      unfold pairs
      cases hb : byteO s with
      | none => rfl
      | some x =>
        obtain ⟨b, t⟩ := x
        have := byteO_rest hb
        simp only
        rw [ih m t (by omega) (by omega)]
def pairsF (s : List UInt8) : List UInt8 × List UInt8 := pairs (s.length + 1) s
theorem pairsF_none (s : List UInt8) (h : byteO s = none) : pairsF s = ([], s) := pairs_none _ s h
theorem pairsF_some (s : List UInt8) {b : UInt8} {t : List UInt8} (h : byteO s = some (b, t)) : pairsF s = (b :: (pairsF t).1, (pairsF t).2) := by
  have hl := byteO_rest h
  have h1 : pairsF s = (b :: (pairs s.length t).1, (pairs s.length t).2) := by
    unfold pairsF
    show (match byteO s with | none => _ | some (b, t) => _) = _
    rw [h]
  rw [h1, pairs_fuel s.length (t.length + 1) t (by omega) (by omega)]
  rfl
theorem runesR_fuel : ∀ (n m : Nat) (s : List UInt8), s.length < n → s.length < m → runesR n s = runesR m s := by
  intro n
  induction n with
  | zero => intro m s h; omega
  | succ n ih =>
    intro m s h1 h2
    cases m with
    | zero => omega
    | succ m =>
      unfold runesR
      cases hb : runeO s with
      | none => rfl
      | some x =>
        obtain ⟨r, t⟩ := x
        have := runeO_rest hb
        cases t with
        | nil => rfl
        | cons c u =>
          simp only
          rw [List.length_cons] at this
          rw [ih m u (by omega) (by omega)]
def runesF (s : List UInt8) : Option (List Int) := runesR (s.length + 1) s
theorem runesF_eq (s : List UInt8) : runesF s = match runeO s with
    | none => none
    | some (r, t) => match t with
      | [] => some [r]
      | c :: u => if c = 43 then (match runesF u with | none => none | some l => some (r :: l)) else none := by
  have h0 : runesF s = match runeO s with
      | none => none
      | some (r, t) => match t with
        | [] => some [r]
        | c :: u => if c = 43 then (match runesR s.length u with | none => none | some l => some (r :: l)) else none := rfl
  rw [h0]
  cases hb : runeO s with
  | none => rfl
  | some x =>
    obtain ⟨r, t⟩ := x
    have := runeO_rest hb
    cases t with
    | nil => rfl
    | cons c u =>
      rw [List.length_cons] at this
      simp only
      rw [runesR_fuel s.length (u.length + 1) u (by omega) (by omega)]
      rfl
theorem gapO_nsp (s : List UInt8) : gapO s = if 0 < nsp s then some (s.drop (nsp s)) else none := by
  unfold gapO nsp
  have h : s.dropWhile sp = s.drop (s.takeWhile sp).length := by
    have h1 : s.takeWhile sp ++ s.dropWhile sp = s := List.takeWhile_append_dropWhile
    have h2 : (s.takeWhile sp ++ s.dropWhile sp).drop (s.takeWhile sp).length = s.dropWhile sp := List.drop_left
    rw [h1] at h2
    exact h2.symm
  have hl : (s.takeWhile sp).length ≤ s.length := (List.takeWhile_prefix _).length_le
  rw [h, List.length_drop]
  by_cases h0 : 0 < (s.takeWhile sp).length
  · rw [if_pos (by omega), if_pos h0]
  · rw [if_neg (by omega), if_neg h0]
theorem wordO_two (a b : UInt8) (s : List UInt8) : wordO [a, b] s = if s.take 2 = [a, b] then some (s.drop 2) else none := by
  unfold wordO
  by_cases h : [a, b].isPrefixOf s = true
  · rw [if_pos h, if_pos]
    · rfl
    · have := List.isPrefixOf_iff_prefix.1 h
      exact (List.prefix_iff_eq_take.1 this).symm
  · rw [if_neg h, if_neg]
    intro h2
    exact h (List.isPrefixOf_iff_prefix.2 (List.prefix_iff_eq_take.2 h2.symm))
theorem refU_eq (s : List UInt8) : refU s = if s.take 2 = [48, 120] then (if (pairsF (s.drop 2)).1 = [] then .bad else if (pairsF (s.drop 2)).2 = [] then .bare (pairsF (s.drop 2)).1 else
    if nsp (pairsF (s.drop 2)).2 = 0 then .bad else if ((pairsF (s.drop 2)).2.drop (nsp (pairsF (s.drop 2)).2)).take 2 = [48, 120] then (match runesF (((pairsF (s.drop 2)).2.drop (nsp (pairsF (s.drop 2)).2)).drop 2) with
      | none => .bad
      | some l => .row (pairsF (s.drop 2)).1 l) else .bad) else .bad := by
  unfold refU
  rw [wordO_two]
  by_cases h : s.take 2 = [48, 120]
  · rw [if_pos h, if_pos h]
    simp only
    show (if (pairsF (s.drop 2)).1 = [] then Line.bad else _) = _
    generalize s.drop 2 = u
    by_cases h1 : (pairsF u).1 = []
    · rw [if_pos h1, if_pos h1]
    rw [if_neg h1, if_neg h1]
    show (if (pairsF u).2 = [] then Line.bare (pairsF u).1 else _) = _
    by_cases h2 : (pairsF u).2 = []
    · rw [if_pos h2, if_pos h2]
    rw [if_neg h2, if_neg h2]
    show (match gapO (pairsF u).2 with | none => Line.bad | some u => _) = _
    rw [gapO_nsp]
    by_cases h3 : nsp (pairsF u).2 = 0
    · rw [if_neg (by omega), if_pos h3]
    rw [if_pos (by omega), if_neg h3]
    simp only
    rw [wordO_two]
    by_cases h4 : ((pairsF u).2.drop (nsp (pairsF u).2)).take 2 = [48, 120]
    · rw [if_pos h4, if_pos h4]
      rfl
    · rw [if_neg h4, if_neg h4]
  · rw [if_neg h, if_neg h]
/-- What Unicode answers. -/
def URefPost (w : World) (L : Line) (e : Ending) (w' : World) : Prop :=
  ∃ (rc : ByteArray) (rv : Value) (how : Int), e = .returned (.tuple #[.agg #[.string rc, rv, .int .i64 0], .int .i64 how]) ∧ Below w.heap.size w w' ∧ match L with
    | .bad => how = 0
    | .bare c => how = 2 ∧ rc = ⟨c.toArray⟩
    | .row c l => how = 1 ∧ rc = ⟨c.toArray⟩ ∧ TextAt w' rv l
theorem text_of_own {w : World} {B : Nat} {v : Value} {t : List Int} (h : w.ownsRow B RuneT 1 v t.length (i32s t)) : TextAt w v t := by
  rcases h.2 with ⟨rfl, h0⟩ | ⟨g, cap, cur, rfl, _, hh, _, _, _, h4⟩
  · exact .inl ⟨rfl, List.eq_nil_of_length_eq_zero h0⟩
  · exact .inr ⟨g, cap, cur, rfl, hh, by rw [Nat.mul_one] at h4; exact h4⟩
/-- A row is left where a block of another type is written. -/
theorem own_set {w : World} {B e sz n b i : Nat} {v x : Value} {xs : List Value} {T : TypeId} {cs : Array Value} (h : w.ownsRow B e sz v n xs) (hb : Blk w b T cs) (hne : T ≠ e) : (w.setCell ⟨b, i, none⟩ x).ownsRow B e sz v n xs := by
  refine ⟨h.1, ?_⟩
  rcases h.2 with h1 | ⟨g, cap, cur, e1, hg, hh, h4⟩
  · exact .inl h1
  · refine .inr ⟨g, cap, cur, e1, hg, (heap_setCell_other w ⟨b, i, none⟩ g x (fun he => ?_)).trans hh, h4⟩
    unfold Blk at hb
    have he' : g = b := he
    rw [← he', hh] at hb
    injection hb with hb
    injection hb with _ h2
    exact hne h2.symm
theorem Blk.apart {w : World} {g b i : Nat} {t : TypeId} {cs : Array Value} {x : Value} (h : Blk w g t cs) (hne : g ≠ b) : Blk (w.setCell ⟨b, i, none⟩ x) g t cs := (heap_setCell_other w ⟨b, i, none⟩ g x hne).trans h
/-- Three cells are written. -/
theorem ret3 {w0 V : World} {b : Nat} {c0 c1 c2 : Value} (x y z : Value) {B : Nat} (hk : Blk V b RefT #[c0, c1, c2]) (hb : Below B w0 V) (hB : B ≤ b) :
    ∃ Wf, (((V.setCell ⟨b, 0, none⟩ x).setCell ⟨b, 1, none⟩ y).setCell ⟨b, 2, none⟩ z) = Wf ∧ Wf.cell? ⟨b, 0, none⟩ = some x ∧ Wf.cell? ⟨b, 1, none⟩ = some y ∧ Wf.cell? ⟨b, 2, none⟩ = some z ∧ Below B w0 Wf ∧ (∀ v t, TextAt V v t → TextAt Wf v t) := by
  have h1 := Blk.set hk 0 x
  have h2 := Blk.set h1 1 y
  have h3 := Blk.set h2 2 z
  refine ⟨_, rfl, by rw [h3.cell]; rfl, by rw [h3.cell]; rfl, by rw [h3.cell]; rfl, below_set (below_set (below_set hb b 0 x hB) b 1 y hB) b 2 z hB, fun v t ht => ?_⟩
  exact ((ht.set (i := 0) (x := x) hk (by decide)).set (i := 1) (x := y) h1 (by decide)).set (i := 2) (x := z) h2 (by decide)
section
variable {ops : Array Oper} {rest : List Oper} {oo : Oper} {a : Act} {Q : Exit → Act → World → Prop}
/-- 'text = append(text, r)'. -/
theorem wpList_rune (w : World) (hgd : oo.guard = none) (s x : Operand) (ho : oo.op = .call { callee := .builtin .append, args := #[s, x], argTypes := #[72, 72] })
    (B : Nat) (v : Value) (l : List Int) (hs : a.eval s = v) (hst : w.ownsRow B RuneT 1 v l.length (i32s l)) (hB : B ≤ w.heap.size) (r : Int)
    (c : Nat) (hx : a.eval x = .slice (some ⟨w.heap.size, 0, none⟩) 1 c) (hsm : l.length ≤ 1048576)
    (h : ∀ v' w', w'.ownsRow B RuneT 1 v' (l ++ [r]).length (i32s (l ++ [r])) → Below B w w' → (∀ g t cs, t ≠ RuneT → Blk w g t cs → Blk w' g t cs) → wpList Tryz.prog ops Q rest (a.put oo.dst v') w') : wpList Tryz.prog ops Q (oo :: rest) a (w.alloc (.cells #[.int .i32 r] RuneT)) := by
  obtain ⟨i0, hi, hz0, hz1, hz2⟩ := info_parts infoRune
  have hown' := hst.alloc (.cells #[.int .i32 r] RuneT)
  refine wpList_append_own _ hgd s x 72 ho B RuneT i0 (.int .i32 0) 1 4 Tryz.underlying72 hi hz0 hz1 hz2 rfl (by decide) v l.length (i32s l) hs hown' ⟨w.heap.size, 0, none⟩ 1 c [.int .i32 r] hx rfl ?_ ?_ ?_ ?_ ?_ ?_
  · intro j u hj
    match j, hj with
    | 0, hj => simp at hj; subst hj; simp [Addr.add]
  · intro u hu; simp at hu; subst hu; rfl
  · unfold maxLen; omega
  · omega
  · simp; omega
  · intro v' w1 hown1 hgrow _
    refine h v' w1 ?_ (((Below.refl B w).alloc hB _).grown hgrow (by simp; omega) (fun k hk => (hst.lt k hk).1)) ?_
    · rw [i32s_append, List.length_append]
      exact hown1
    · intro g t cs ht hk
      have hk' := hk.alloc (.cells #[.int .i32 r] RuneT)
      exact (hgrow.block g hk'.lt (fun he => own_blk_ne hown' hk' ht he.symm)).trans hk'
end
end Go.Proofs.YtkfjmcidcnpijaaGreatDoor.Mf
