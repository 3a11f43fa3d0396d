/- Words for memory: the keys that charset.New has met, each with a row; appended to, and a row replaced. -/
import Derived.Test.YtkfjmcidcnpijaaGreatDoorG26
namespace Go.Proofs.YtkfjmcidcnpijaaGreatDoor.Sg
open Go.RowKit Pl Go.Lib Go.Maps Go.WideMaps

abbrev KeyedT : TypeId := 109
theorem infoKeyed : (Tryz.prog.info? KeyedT).map (fun i => (i.zero, i.size, i.bytes)) = some (some (.agg #[.slice none 0 0, .string ⟨#[]⟩, .string ⟨#[]⟩, .int .i64 0]), 4, 64) := by kernel_rfl
/-- A key in memory, its characters, and a row. -/
structure KRow where
  v : Value
  key : List Int
  row : RowV
def kcells (ks : List KRow) : List Value := ks.flatMap fun p => [p.v, .string p.row.code, .string p.row.text, .int .i64 p.row.flag]
theorem kcells_length (ks : List KRow) : (kcells ks).length = ks.length * 4 := by
  unfold kcells
  induction ks with
  | nil => rfl
  | cons a l ih => simp [ih]; omega
theorem kcells_append (a b : List KRow) : kcells (a ++ b) = kcells a ++ kcells b := by simp [kcells]
theorem kcells_at : ∀ (ks : List KRow) (k : Nat) (hk : k < ks.length), (kcells ks)[k * 4]? = some ks[k].v ∧ (kcells ks)[k * 4 + 1]? = some (.string ks[k].row.code) ∧ (kcells ks)[k * 4 + 2]? = some (.string ks[k].row.text) ∧ (kcells ks)[k * 4 + 3]? = some (.int .i64 ks[k].row.flag) := by
  intro ks
  induction ks with
  | nil => intro k hk; simp at hk
  | cons a ps ih =>
    intro k hk
    cases k with
    | zero => exact ⟨rfl, rfl, rfl, rfl⟩
    | succ k =>
      have h := ih k (by simpa using hk)
      have e : kcells (a :: ps) = a.v :: .string a.row.code :: .string a.row.text :: .int .i64 a.row.flag :: kcells ps := rfl
      rw [e, show (k + 1) * 4 = k * 4 + 4 from by omega]
      simpa using h
theorem kcells_set : ∀ (ks : List KRow) (k : Nat) (hk : k < ks.length) (r : RowV), (((kcells ks).set (k * 4 + 1) (.string r.code)).set (k * 4 + 2) (.string r.text)).set (k * 4 + 3) (.int .i64 r.flag) = kcells (ks.set k ⟨ks[k].v, ks[k].key, r⟩) := by
  intro ks
  induction ks with
  | nil => intro k hk; simp at hk
  | cons a ps ih =>
    intro k hk r
    have e : ∀ (b : KRow) (qs : List KRow), kcells (b :: qs) = b.v :: .string b.row.code :: .string b.row.text :: .int .i64 b.row.flag :: kcells qs := fun _ _ => rfl
    cases k with
    | zero => rfl
    | succ k =>
      have h := ih k (by simpa using hk) r
      have hk' : k < ps.length := by simpa using hk
      have h3 : (a :: ps).set (k + 1) ⟨(a :: ps)[k + 1].v, (a :: ps)[k + 1].key, r⟩ = a :: ps.set k ⟨ps[k].v, ps[k].key, r⟩ := rfl
      rw [h3, e, e, ← h, show (k + 1) * 4 = k * 4 + 4 from by omega]
      rfl
theorem own_setS {w : World} {B g i n c sz e : Nat} {xs : List Value} {u : Value} (h : w.ownsRow B e sz (.slice (some ⟨g, 0, none⟩) n c) n xs) : (w.setCell ⟨g, i, none⟩ u).ownsRow B e sz (.slice (some ⟨g, 0, none⟩) n c) n (xs.set i u) := by
  refine ⟨by rw [List.length_set]; exact h.1, ?_⟩
  rcases h.2 with ⟨h1, _⟩ | ⟨g', cap, cur, e1, hg, hh, h2, h3, h4, h5⟩
  · cases h1
  · injection e1 with e2 _ e3
    injection e2 with e2
    injection e2 with e2
    subst e2 e3
    refine .inr ⟨g, c, cur.setIfInBounds i u, rfl, hg, heap_setCell_same w g i cur e u hh, h2, h3, by simpa using h4, ?_⟩
    rw [← h5, Array.toList_setIfInBounds, List.take_set]
theorem own_frozenS {w : World} {B g n c i sz e : Nat} {xs : List Value} (h : w.ownsRow B e sz (.slice (some ⟨g, 0, none⟩) n c) n xs) : w.frozen? ⟨g, i, none⟩ = false := by
  rcases h.2 with ⟨h1, _⟩ | ⟨g', cap, cur, e1, hg, hh, h2, h3, h4, h5⟩
  · cases h1
  · injection e1 with e2 _ e3
    injection e2 with e2
    injection e2 with e2
    subst e2
    exact frozen_of_row w g i cur e hh
theorem own_cellS {w : World} {B g n c i sz e : Nat} {xs : List Value} (h : w.ownsRow B e sz (.slice (some ⟨g, 0, none⟩) n c) n xs) (x : Value) (hx : xs[i]? = some x) : w.cell? ⟨g, i, none⟩ = some x := by
  have h2 := h.cells (g := g) rfl i x hx
  rw [Addr.add_lit, Nat.zero_add] at h2
  exact h2
theorem own_shapeS {w : World} {B n sz : Nat} {e : TypeId} {v : Value} {xs : List Value} (h : w.ownsRow B e sz v n xs) : (v = .slice none 0 0 ∧ n = 0) ∨ ∃ g c, v = .slice (some ⟨g, 0, none⟩) n c := by
  rcases h.2 with h1 | ⟨g, cap, _, e1, _⟩
  · exact .inl h1
  · exact .inr ⟨g, cap, e1⟩
/-- The list of keys. -/
structure KAll (B : Nat) (w : World) (va : Value) (ks : List KRow) : Prop where
  keys : ∀ p ∈ ks, w.ownsRow 0 RuneT 1 p.v p.key.length (i32s p.key)
  own : w.ownsRow B KeyedT 4 va ks.length (kcells ks)
theorem KAll.ck {B : Nat} {w w' : World} {va : Value} {ks : List KRow} (h : KAll B w va ks) (hk : CK w w') : KAll B w' va ks := ⟨fun p hp => own_ck (h.keys p hp) hk, own_ck h.own hk⟩
theorem KAll.keep {B : Nat} {w w' : World} {va : Value} {ks : List KRow} (h : KAll B w va ks) (hb : Below w.heap.size w w') : KAll B w' va ks := h.ck (.of_below hb)
/-- What is low is left. -/
theorem HS.low {H : Nat} {w0 w w' : World} {n : Nat} {cs : Array Value} {f : List UInt8 → Option ByteArray} {g : List UInt8 → Option Bool} {h : List UInt8 → Option Int} (s : HS H w0 w n cs f g h) (hb : Below (H + 4) w w') : HS H w0 w' n cs f g h :=
  ⟨s.blk.below hb (by omega), s.texts.block (hb.block _ (by omega)), s.heads.block (hb.block _ (by omega)), s.at_.block (hb.block _ (by omega)), s.below.trans (hb.mono (by omega)), Nat.le_trans s.size hb.size⟩
section
variable {ops : Array Oper} {rest : List Oper} {oo : Oper} {a : Act} {Q : Exit → Act → World → Prop}
/-- 'all = append(all, keyed{key, r})'. -/
theorem wpList_keyed (w : World) (hgd : oo.guard = none) (s x : Operand) (ho : oo.op = .call { callee := .builtin .append, args := #[s, x], argTypes := #[104, 104] })
    (B : Nat) (v : Value) (ks : List KRow) (hs : a.eval s = v) (hst : KAll B w v ks) (hB : B ≤ w.heap.size) (key : List Int) (g1 n1 c1 : Nat) (r : RowV) (hkey : w.ownsRow 0 RuneT 1 (.slice (some ⟨g1, 0, none⟩) n1 c1) key.length (i32s key))
    (c : Nat) (hx : a.eval x = .slice (some ⟨w.heap.size, 0, none⟩) 1 c) (hsm : ks.length ≤ 1048576)
    (h : ∀ v' w', KAll B w' v' (ks ++ [⟨.slice (some ⟨g1, 0, none⟩) n1 c1, key, r⟩]) → Below B w w' → wpList Tryz.prog ops Q rest (a.put oo.dst v') w') :
    wpList Tryz.prog ops Q (oo :: rest) a (w.alloc (.cells #[.slice (some ⟨g1, 0, none⟩) n1 c1, .string r.code, .string r.text, .int .i64 r.flag] KeyedT)) := by
  obtain ⟨i0, hi, hz0, hz1, hz2⟩ := info_parts infoKeyed
  have hown' := hst.own.alloc (.cells #[.slice (some ⟨g1, 0, none⟩) n1 c1, .string r.code, .string r.text, .int .i64 r.flag] KeyedT)
  have hba : Below w.heap.size w (w.alloc (.cells #[.slice (some ⟨g1, 0, none⟩) n1 c1, .string r.code, .string r.text, .int .i64 r.flag] KeyedT)) := (Below.refl _ _).alloc (Nat.le_refl _) _
  refine wpList_append_own _ hgd s x 104 ho B KeyedT i0 (.agg #[.slice none 0 0, .string ⟨#[]⟩, .string ⟨#[]⟩, .int .i64 0]) 4 64 Tryz.underlying104 hi hz0 hz1 hz2 rfl (by decide) v ks.length (kcells ks) hs hown' ⟨w.heap.size, 0, none⟩ 1 c [.slice (some ⟨g1, 0, none⟩) n1 c1, .string r.code, .string r.text, .int .i64 r.flag] hx rfl ?_ ?_ ?_ ?_ ?_ ?_
  · intro j u hj
    match j, hj with
    | 0, hj => simp at hj; subst hj; simp [Addr.add]
    | 1, hj => simp at hj; subst hj; simp [Addr.add]
    | 2, hj => simp at hj; subst hj; simp [Addr.add]
    | 3, hj => simp at hj; subst hj; simp [Addr.add]
  · intro u hu; simp at hu; rcases hu with rfl | rfl | rfl | rfl <;> rfl
  · unfold maxLen; omega
  · omega
  · simp; omega
  · intro v' w1 hown1 hgrow _
    have hN : NoRow (w.alloc (.cells #[.slice (some ⟨g1, 0, none⟩) n1 c1, .string r.code, .string r.text, .int .i64 r.flag] KeyedT)) v.ownBlock RuneT := noRow_own hown' (by decide)
    refine h v' w1 ⟨?_, ?_⟩ ?_
    · intro p hp
      rcases List.mem_append.1 hp with hp | hp
      · exact own_turn (own_below (hst.keys p hp) hba) hgrow hN
      · obtain rfl : p = ⟨.slice (some ⟨g1, 0, none⟩) n1 c1, key, r⟩ := by simpa using hp
        exact own_turn (own_below hkey hba) hgrow hN
    · rw [kcells_append, List.length_append]; exact hown1
    · exact ((Below.refl B w).alloc hB _).grown hgrow (by simp; omega) (fun k hk => (hst.own.lt k hk).1)
end
/-- 'all[i].best = r'. -/
theorem KAll.put {B g c i : Nat} {w : World} {ks : List KRow} (h : KAll B w (.slice (some ⟨g, 0, none⟩) ks.length c) ks) (hi : i < ks.length) (r : RowV) :
    KAll B (((w.setCell ⟨g, i * 4 + 1, none⟩ (.string r.code)).setCell ⟨g, i * 4 + 2, none⟩ (.string r.text)).setCell ⟨g, i * 4 + 3, none⟩ (.int .i64 r.flag)) (.slice (some ⟨g, 0, none⟩) (ks.set i ⟨ks[i].v, ks[i].key, r⟩).length c) (ks.set i ⟨ks[i].v, ks[i].key, r⟩) := by
  have hN : ∀ w' : World, w'.ownsRow B KeyedT 4 (.slice (some ⟨g, 0, none⟩) ks.length c) ks.length (kcells ks) ∨ True → True := fun _ _ => trivial
  have step : ∀ (w : World) (xs : List Value) (j : Nat) (u : Value), (w.ownsRow B KeyedT 4 (.slice (some ⟨g, 0, none⟩) ks.length c) ks.length xs ∧ ∀ p ∈ ks, w.ownsRow 0 RuneT 1 p.v p.key.length (i32s p.key)) →
      ((w.setCell ⟨g, j, none⟩ u).ownsRow B KeyedT 4 (.slice (some ⟨g, 0, none⟩) ks.length c) ks.length (xs.set j u) ∧ ∀ p ∈ ks, (w.setCell ⟨g, j, none⟩ u).ownsRow 0 RuneT 1 p.v p.key.length (i32s p.key)) := by
    intro w xs j u ⟨h1, h2⟩
    refine ⟨own_setS h1, fun p hp => own_turn (h2 p hp) (grown_set w ⟨g, j, none⟩ u) ?_⟩
    exact noRow_own (v := .slice (some ⟨g, 0, none⟩) ks.length c) h1 (by decide)
  have h3 := step _ _ (i * 4 + 3) (.int .i64 r.flag) (step _ _ (i * 4 + 2) (.string r.text) (step _ _ (i * 4 + 1) (.string r.code) ⟨h.own, h.keys⟩))
  refine ⟨?_, ?_⟩
  · intro p hp
    rcases List.mem_or_eq_of_mem_set hp with hp | rfl
    · exact h3.2 p hp
    · exact h3.2 ks[i] (List.getElem_mem hi)
  · rw [List.length_set, ← kcells_set ks i hi r]; exact h3.1
/-- What is known of the keys. -/
structure KOk (h : List UInt8 → Option Int) (ks : List KRow) : Prop where
  idx : ∀ t i, h t = some i → 0 ≤ i ∧ i < ks.length
  has : ∀ p ∈ ks, (h (runesBytes p.key).data.toList).isSome = true
  good : ∀ p ∈ ks, goodKey p.key ∧ 0 < p.row.code.size ∧ p.row.code.size ≤ 4
  nodup : (ks.map (·.key)).Nodup
theorem KOk.nil : KOk (fun _ => none) [] := ⟨(fun t i h => by cases h), fun p hp => by simp at hp, fun p hp => by simp at hp, List.nodup_nil⟩
theorem KOk.snoc {h : List UInt8 → Option Int} {ks : List KRow} (s : KOk h ks) (p : KRow) (hp : goodKey p.key) (hc : 0 < p.row.code.size ∧ p.row.code.size ≤ 4) (hn : (h (runesBytes p.key).data.toList).isSome = false) :
    KOk (fun t => if t = (runesBytes p.key).data.toList then some (ks.length : Int) else h t) (ks ++ [p]) := by
  refine ⟨?_, ?_, ?_, ?_⟩
  · intro t i hi
    rw [List.length_append]
    by_cases ht : t = (runesBytes p.key).data.toList
    · rw [if_pos ht] at hi
      injection hi with hi
      simp only [List.length_cons, List.length_nil]
      omega
    · rw [if_neg ht] at hi
      have := s.idx t i hi
      simp only [List.length_cons, List.length_nil]
      omega
  · intro q hq
    by_cases ht : (runesBytes q.key).data.toList = (runesBytes p.key).data.toList
    · rw [if_pos ht]; rfl
    · rw [if_neg ht]
      rcases List.mem_append.1 hq with hq | hq
      · exact s.has q hq
      · obtain rfl : q = p := by simpa using hq
        exact absurd rfl ht
  · intro q hq
    rcases List.mem_append.1 hq with hq | hq
    · exact s.good q hq
    · obtain rfl : q = p := by simpa using hq
      exact ⟨hp, hc⟩
  · rw [List.map_append, List.nodup_append]
    refine ⟨s.nodup, by simp, ?_⟩
    intro a ha b hb he
    simp at hb
    subst hb he
    obtain ⟨q, hq, he⟩ := List.mem_map.1 ha
    have := s.has q hq
    rw [he, hn] at this
    cases this
theorem KOk.put {h : List UInt8 → Option Int} {ks : List KRow} (s : KOk h ks) (i : Nat) (hi : i < ks.length) (r : RowV) (hr : 0 < r.code.size ∧ r.code.size ≤ 4) : KOk h (ks.set i ⟨ks[i].v, ks[i].key, r⟩) := by
  have hk : (ks.set i ⟨ks[i].v, ks[i].key, r⟩).map (·.key) = ks.map (·.key) := by
    rw [List.map_set]
    have : (ks.map (·.key))[i]'(by simpa using hi) = ks[i].key := by simp
    show (ks.map (·.key)).set i ks[i].key = _
    rw [← this, List.set_getElem_self]
  refine ⟨fun t j hj => by rw [List.length_set]; exact s.idx t j hj, ?_, ?_, by rw [hk]; exact s.nodup⟩
  · intro p hp
    rcases List.mem_or_eq_of_mem_set hp with hp | rfl
    · exact s.has p hp
    · exact s.has ks[i] (List.getElem_mem hi)
  · intro p hp
    rcases List.mem_or_eq_of_mem_set hp with hp | rfl
    · exact s.good p hp
    · exact ⟨(s.good ks[i] (List.getElem_mem hi)).1, hr⟩
/-- What row answers is what the reference says. -/
theorem rowE_eq (pre : List RowV) (r : RowV) (hp : ∀ q ∈ pre, wrong13 (plainR q) = 0) : rowE (textsF pre) (headsF pre) r = rowErr (pre.map plainR) (plainR r) := by
  unfold rowE
  by_cases h : wrong13 (plainR r) = 0
  · rw [if_neg (by simpa using h), rowErr_eq pre r hp h]
  · rw [if_pos h]
    have h1 : rowErr1 (plainR r) = wrong13 (plainR r) := by unfold rowErr1; rw [if_neg (fun h2 => h h2.1)]
    unfold rowErr
    rw [h1, if_pos h]
theorem rowE_zero {f : List UInt8 → Option ByteArray} {g : List UInt8 → Option Bool} {r : RowV} (h : rowE f g r = 0) : wrong13 (plainR r) = 0 ∧ (nfd (runesL r.text.data.toList)).length ≤ 18 ∧ (r.flag ≠ 1 → (f r.code.data.toList).isSome = false) := by
  unfold rowE at h
  by_cases h1 : wrong13 (plainR r) = 0
  · rw [if_neg (fun h2 => h2 h1)] at h
    by_cases h2 : 18 < (nfd (runesL r.text.data.toList)).length
    · rw [if_pos h2] at h; cases h
    · rw [if_neg h2] at h
      refine ⟨h1, by omega, fun hf => ?_⟩
      rw [if_neg hf] at h
      unfold errD at h
      cases hs : (f r.code.data.toList).isSome
      · rfl
      · rw [hs, if_pos rfl] at h; cases h
  · rw [if_pos h1] at h
    exact absurd h h1
theorem took_texts (pre : List RowV) (r : RowV) (h : rowE (textsF pre) (headsF pre) r = 0) : (if r.flag = 1 then textsF pre else fun t => if t = r.code.data.toList then some r.text else textsF pre t) = textsF (pre ++ [r]) := by
  by_cases hf : r.flag = 1
  · rw [if_pos hf, textsF_skip pre r hf]
  · rw [if_neg hf]; exact textsF_snoc pre r hf ((rowE_zero h).2.2 hf)
theorem took_heads (pre : List RowV) (r : RowV) : (if r.flag = 1 then headsF pre else headsK r.code.data.toList r.code.data.toList.length (headsF pre)) = headsF (pre ++ [r]) := by
  by_cases hf : r.flag = 1
  · rw [if_pos hf, headsF_skip pre r hf]
  · rw [if_neg hf]; exact headsF_snoc pre r hf
theorem wlen_le (r : Nat) : wlen r ≤ 4 := by
  unfold wlen
  split
  · decide
  split
  · decide
  split
  · decide
  · decide
theorem textB_le : ∀ (l : List Int), scal l → (textB l).length ≤ 4 * l.length := by
  intro l
  induction l with
  | nil => intro _; simp [textB]
  | cons a l ih =>
    intro h
    have h1 := h a (by simp)
    have ih := ih (fun x hx => h x (by simp [hx]))
    have h2 : (encodeRune a).length ≤ 4 := by
      obtain ⟨n, rfl⟩ : ∃ n : Nat, a = n := ⟨a.toNat, by omega⟩
      rw [encZ_len n (by omega)]; exact wlen_le n
    have e : textB (a :: l) = encodeRune a ++ textB l := by simp [textB]
    rw [e, List.length_append, List.length_cons]
    omega
theorem runesBytes_le (l : List Int) (h : scal l) : (runesBytes l).size ≤ 4 * l.length := by
  have h1 := textB_le l h
  rw [← runesBytes_eq l h, Array.length_toList] at h1
  exact h1
theorem headsF_true (pre : List RowV) : TrueOnly (headsF pre) := by
  intro t
  unfold headsF
  cases pre.any (hasHead t)
  · exact .inl rfl
  · exact .inr rfl
end Go.Proofs.YtkfjmcidcnpijaaGreatDoor.Sg
