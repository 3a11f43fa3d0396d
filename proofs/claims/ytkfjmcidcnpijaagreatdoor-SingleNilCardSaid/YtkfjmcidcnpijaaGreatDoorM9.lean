/- Plain: pairs and characters without fuel; walk: inkhornref13.Unicode. -/
import Derived.Test.YtkfjmcidcnpijaaGreatDoorM8
import Derived.Deep.RegionHeld3
import Derived.Deep.CutRange
import Derived.Deep.DeepCutAuto
import Derived.Deep.CutBlock
namespace Go.Proofs.YtkfjmcidcnpijaaGreatDoor.Mf
open Go.RowKit

def hexN (c : UInt8) : Nat := (hexV c).getD 0
theorem byteO_two (c d : UInt8) (t : List UInt8) : byteO (c :: d :: t) = if isHex c = true ∧ isHex d = true then some (UInt8.ofNat (hexN c * 16 + hexN d), t) else none := by
  have h0 : digs 0 t = [] := by cases t <;> rfl
  unfold byteO
  by_cases hc : isHex c = true
  · by_cases hd : isHex d = true
    · have h2 : digs 2 (c :: d :: t) = [c, d] := by simp [digs, hc, hd]
      rw [h2, if_pos (by rfl : [c, d].length = 2), if_pos ⟨hc, hd⟩]
      simp [numOf, hexN]
    · have h2 : digs 2 (c :: d :: t) = [c] := by simp [digs, hc, hd]
      rw [h2, if_neg (by simp), if_neg (fun h => hd h.2)]
  · have h2 : digs 2 (c :: d :: t) = [] := by simp [digs, hc]
    rw [h2, if_neg (by simp), if_neg (fun h => hc h.1)]
theorem byteO_short (s : List UInt8) (h : s.length < 2) : byteO s = none := by
  unfold byteO
  have := digs_le 2 s
  rw [if_neg (by omega)]
theorem pairs_fuel : ∀ (n m : Nat) (s : List UInt8), s.length < n → s.length < m → pairs n s = pairs m s := by
  intro n
  induction n with
  | zero => intro m s h; omega
  | succ n ih =>
    intro m s h1 h2
    cases m with
    | zero => omega
    | succ m =>
      unfold pairs
      cases hb : byteO s with
      | none => rfl
      | some x =>
        obtain ⟨b, t⟩ := x
        have := byteO_rest hb
        simp only
        rw [ih m t (by omega) (by omega)]
def pairsF (s : List UInt8) : List UInt8 × List UInt8 := pairs (s.length + 1) s
theorem pairsF_none (s : List UInt8) (h : byteO s = none) : pairsF s = ([], s) := pairs_none _ s h
theorem pairsF_some (s : List UInt8) {b : UInt8} {t : List UInt8} (h : byteO s = some (b, t)) : pairsF s = (b :: (pairsF t).1, (pairsF t).2) := by
  have hl := byteO_rest h
  have h1 : pairsF s = (b :: (pairs s.length t).1, (pairs s.length t).2) := by
    unfold pairsF
    show (match byteO s with | none => _ | some (b, t) => _) = _
    rw [h]
  rw [h1, pairs_fuel s.length (t.length + 1) t (by omega) (by omega)]
  rfl
theorem runesR_fuel : ∀ (n m : Nat) (s : List UInt8), s.length < n → s.length < m → runesR n s = runesR m s := by
  intro n
  induction n with
  | zero => intro m s h; omega
  | succ n ih =>
    intro m s h1 h2
    cases m with
    | zero => omega
    | succ m =>
      unfold runesR
      cases hb : runeO s with
      | none => rfl
      | some x =>
        obtain ⟨r, t⟩ := x
        have := runeO_rest hb
        cases t with
        | nil => rfl
        | cons c u =>
          simp only
          rw [List.length_cons] at this
          rw [ih m u (by omega) (by omega)]
def runesF (s : List UInt8) : Option (List Int) := runesR (s.length + 1) s
theorem runesF_eq (s : List UInt8) : runesF s = match runeO s with
    | none => none
    | some (r, t) => match t with
      | [] => some [r]
      | c :: u => if c = 43 then (match runesF u with | none => none | some l => some (r :: l)) else none := by
  have h0 : runesF s = match runeO s with
      | none => none
      | some (r, t) => match t with
        | [] => some [r]
        | c :: u => if c = 43 then (match runesR s.length u with | none => none | some l => some (r :: l)) else none := rfl
  rw [h0]
  cases hb : runeO s with
  | none => rfl
  | some x =>
    obtain ⟨r, t⟩ := x
    have := runeO_rest hb
    cases t with
    | nil => rfl
    | cons c u =>
      rw [List.length_cons] at this
      simp only
      rw [runesR_fuel s.length (u.length + 1) u (by omega) (by omega)]
      rfl
theorem gapO_nsp (s : List UInt8) : gapO s = if 0 < nsp s then some (s.drop (nsp s)) else none := by
  unfold gapO nsp
  have h : s.dropWhile sp = s.drop (s.takeWhile sp).length := by
    have h1 : s.takeWhile sp ++ s.dropWhile sp = s := List.takeWhile_append_dropWhile
    have h2 : (s.takeWhile sp ++ s.dropWhile sp).drop (s.takeWhile sp).length = s.dropWhile sp := List.drop_left
    rw [h1] at h2
    exact h2.symm
  have hl : (s.takeWhile sp).length ≤ s.length := (List.takeWhile_prefix _).length_le
  rw [h, List.length_drop]
  by_cases h0 : 0 < (s.takeWhile sp).length
  · rw [if_pos (by omega), if_pos h0]
  · rw [if_neg (by omega), if_neg h0]
theorem wordO_two (a b : UInt8) (s : List UInt8) : wordO [a, b] s = if s.take 2 = [a, b] then some (s.drop 2) else none := by
  unfold wordO
  by_cases h : [a, b].isPrefixOf s = true
  · rw [if_pos h, if_pos]
    · rfl
    · have := List.isPrefixOf_iff_prefix.1 h
      exact (List.prefix_iff_eq_take.1 this).symm
  · rw [if_neg h, if_neg]
    intro h2
    exact h (List.isPrefixOf_iff_prefix.2 (List.prefix_iff_eq_take.2 h2.symm))
theorem refU_eq (s : List UInt8) : refU s = if s.take 2 = [48, 120] then (if (pairsF (s.drop 2)).1 = [] then .bad else if (pairsF (s.drop 2)).2 = [] then .bare (pairsF (s.drop 2)).1 else
    if nsp (pairsF (s.drop 2)).2 = 0 then .bad else if ((pairsF (s.drop 2)).2.drop (nsp (pairsF (s.drop 2)).2)).take 2 = [48, 120] then (match runesF (((pairsF (s.drop 2)).2.drop (nsp (pairsF (s.drop 2)).2)).drop 2) with
      | none => .bad
      | some l => .row (pairsF (s.drop 2)).1 l) else .bad) else .bad := by
  unfold refU
  rw [wordO_two]
  by_cases h : s.take 2 = [48, 120]
  · rw [if_pos h, if_pos h]
    simp only
    show (if (pairsF (s.drop 2)).1 = [] then Line.bad else _) = _
    generalize s.drop 2 = u
    by_cases h1 : (pairsF u).1 = []
    · rw [if_pos h1, if_pos h1]
    rw [if_neg h1, if_neg h1]
    show (if (pairsF u).2 = [] then Line.bare (pairsF u).1 else _) = _
    by_cases h2 : (pairsF u).2 = []
    · rw [if_pos h2, if_pos h2]
    rw [if_neg h2, if_neg h2]
    show (match gapO (pairsF u).2 with | none => Line.bad | some u => _) = _
    rw [gapO_nsp]
    by_cases h3 : nsp (pairsF u).2 = 0
    · rw [if_neg (by omega), if_pos h3]
    rw [if_pos (by omega), if_neg h3]
    simp only
    rw [wordO_two]
    by_cases h4 : ((pairsF u).2.drop (nsp (pairsF u).2)).take 2 = [48, 120]
    · rw [if_pos h4, if_pos h4]
      rfl
    · rw [if_neg h4, if_neg h4]
  · rw [if_neg h, if_neg h]
/-- What Unicode answers. -/
def URefPost (w : World) (L : Line) (e : Ending) (w' : World) : Prop :=
  ∃ (rc : ByteArray) (rv : Value) (how : Int), e = .returned (.tuple #[.agg #[.string rc, rv, .int .i64 0], .int .i64 how]) ∧ Below w.heap.size w w' ∧ match L with
    | .bad => how = 0
    | .bare c => how = 2 ∧ rc = ⟨c.toArray⟩
    | .row c l => how = 1 ∧ rc = ⟨c.toArray⟩ ∧ TextAt w' rv l
theorem text_of_own {w : World} {B : Nat} {v : Value} {t : List Int} (h : w.ownsRow B RuneT 1 v t.length (i32s t)) : TextAt w v t := by
  rcases h.2 with ⟨rfl, h0⟩ | ⟨g, cap, cur, rfl, _, hh, _, _, _, h4⟩
  · exact .inl ⟨rfl, List.eq_nil_of_length_eq_zero h0⟩
  · exact .inr ⟨g, cap, cur, rfl, hh, by rw [Nat.mul_one] at h4; exact h4⟩
/-- A row is left where a block of another type is written. -/
theorem own_set {w : World} {B e sz n b i : Nat} {v x : Value} {xs : List Value} {T : TypeId} {cs : Array Value} (h : w.ownsRow B e sz v n xs) (hb : Blk w b T cs) (hne : T ≠ e) : (w.setCell ⟨b, i, none⟩ x).ownsRow B e sz v n xs := by
  refine ⟨h.1, ?_⟩
  rcases h.2 with h1 | ⟨g, cap, cur, e1, hg, hh, h4⟩
  · exact .inl h1
  · refine .inr ⟨g, cap, cur, e1, hg, (heap_setCell_other w ⟨b, i, none⟩ g x (fun he => ?_)).trans hh, h4⟩
    unfold Blk at hb
    have he' : g = b := he
    rw [← he', hh] at hb
    injection hb with hb
    injection hb with _ h2
    exact hne h2.symm
theorem Blk.apart {w : World} {g b i : Nat} {t : TypeId} {cs : Array Value} {x : Value} (h : Blk w g t cs) (hne : g ≠ b) : Blk (w.setCell ⟨b, i, none⟩ x) g t cs := (heap_setCell_other w ⟨b, i, none⟩ g x hne).trans h
/-- Three cells are written. -/
theorem ret3 {w0 V : World} {b : Nat} {c0 c1 c2 : Value} (x y z : Value) {B : Nat} (hk : Blk V b RefT #[c0, c1, c2]) (hb : Below B w0 V) (hB : B ≤ b) :
    ∃ Wf, (((V.setCell ⟨b, 0, none⟩ x).setCell ⟨b, 1, none⟩ y).setCell ⟨b, 2, none⟩ z) = Wf ∧ Wf.cell? ⟨b, 0, none⟩ = some x ∧ Wf.cell? ⟨b, 1, none⟩ = some y ∧ Wf.cell? ⟨b, 2, none⟩ = some z ∧ Below B w0 Wf ∧ (∀ v t, TextAt V v t → TextAt Wf v t) := by
  have h1 := Blk.set hk 0 x
  have h2 := Blk.set h1 1 y
  have h3 := Blk.set h2 2 z
  refine ⟨_, rfl, by rw [h3.cell]; rfl, by rw [h3.cell]; rfl, by rw [h3.cell]; rfl, below_set (below_set (below_set hb b 0 x hB) b 1 y hB) b 2 z hB, fun v t ht => ?_⟩
  exact ((ht.set (i := 0) (x := x) hk (by decide)).set (i := 1) (x := y) h1 (by decide)).set (i := 2) (x := z) h2 (by decide)
section
variable {ops : Array Oper} {rest : List Oper} {oo : Oper} {a : Act} {Q : Exit → Act → World → Prop}
/-- 'text = append(text, r)'. -/
theorem wpList_rune (w : World) (hgd : oo.guard = none) (s x : Operand) (ho : oo.op = .call { callee := .builtin .append, args := #[s, x], argTypes := #[72, 72] })
    (B : Nat) (v : Value) (l : List Int) (hs : a.eval s = v) (hst : w.ownsRow B RuneT 1 v l.length (i32s l)) (hB : B ≤ w.heap.size) (r : Int)
    (c : Nat) (hx : a.eval x = .slice (some ⟨w.heap.size, 0, none⟩) 1 c) (hsm : l.length ≤ 1048576)
    (h : ∀ v' w', w'.ownsRow B RuneT 1 v' (l ++ [r]).length (i32s (l ++ [r])) → Below B w w' → (∀ g t cs, t ≠ RuneT → Blk w g t cs → Blk w' g t cs) → wpList Tryz.prog ops Q rest (a.put oo.dst v') w') : wpList Tryz.prog ops Q (oo :: rest) a (w.alloc (.cells #[.int .i32 r] RuneT)) := by
  obtain ⟨i0, hi, hz0, hz1, hz2⟩ := info_parts infoRune
  have hown' := hst.alloc (.cells #[.int .i32 r] RuneT)
  refine wpList_append_own _ hgd s x 72 ho B RuneT i0 (.int .i32 0) 1 4 Tryz.underlying72 hi hz0 hz1 hz2 rfl (by decide) v l.length (i32s l) hs hown' ⟨w.heap.size, 0, none⟩ 1 c [.int .i32 r] hx rfl ?_ ?_ ?_ ?_ ?_ ?_
  · intro j u hj
    match j, hj with
    | 0, hj => simp at hj; subst hj; simp [Addr.add]
  · intro u hu; simp at hu; subst hu; rfl
  · unfold maxLen; omega
  · omega
  · simp; omega
  · intro v' w1 hown1 hgrow _
    refine h v' w1 ?_ (((Below.refl B w).alloc hB _).grown hgrow (by simp; omega) (fun k hk => (hst.lt k hk).1)) ?_
    · rw [i32s_append, List.length_append]
      exact hown1
    · intro g t cs ht hk
      have hk' := hk.alloc (.cells #[.int .i32 r] RuneT)
      exact (hgrow.block g hk'.lt (fun he => own_blk_ne hown' hk' ht he.symm)).trans hk'
end
end Go.Proofs.YtkfjmcidcnpijaaGreatDoor.Mf
