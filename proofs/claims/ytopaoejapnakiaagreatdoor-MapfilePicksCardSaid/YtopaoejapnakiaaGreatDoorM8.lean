/- Words: rows of the reference in memory; walk: inkhornref13.Wrong. -/
import Derived.Test.YtopaoejapnakiaaGreatDoorM7
import Derived.Laws.AppendOwn
namespace Go.Proofs.YtopaoejapnakiaaGreatDoor.Mf
open Go.RowKit

abbrev RuneT : TypeId := 21
theorem i32s_append (l m : List Int) : i32s (l ++ m) = i32s l ++ i32s m := by simp [i32s]
theorem infoRune : (Tryz.prog.info? RuneT).map (fun i => (i.zero, i.size, i.bytes)) = some (some (.int .i32 0), 1, 4) := by kernel_rfl
/-- Two rows of different element types, or a row and a block, lie apart. -/
theorem own_blk_ne {w : World} {g base size n : Nat} {t e : TypeId} {cs : Array Value} {v : Value} {xs : List Value} (h : w.ownsRow base e size v n xs) (hg : Blk w g t cs) (hne : t ≠ e) : v.ownBlock ≠ some g := by
  rcases h.2 with ⟨rfl, _⟩ | ⟨g', cap, cur, rfl, _, hh, _⟩
  · simp [Value.ownBlock]
  · intro he
    have : g' = g := by simpa [Value.ownBlock] using he
    subst this
    unfold Blk at hg
    rw [hg] at hh
    injection hh with hh
    injection hh with _ ht
    exact hne ht
theorem own_own_ne {w : World} {b1 s1 n1 b2 s2 n2 : Nat} {e1 e2 : TypeId} {v1 v2 : Value} {x1 x2 : List Value} (h1 : w.ownsRow b1 e1 s1 v1 n1 x1) (h2 : w.ownsRow b2 e2 s2 v2 n2 x2) (hne : e1 ≠ e2) :
    v1.ownBlock = none ∨ v1.ownBlock ≠ v2.ownBlock := by
  rcases h1.2 with ⟨rfl, _⟩ | ⟨g, cap, cur, rfl, _, hh, _⟩
  · exact .inl rfl
  · exact .inr fun he => own_blk_ne h2 (g := g) (cs := cur) hh hne he.symm
abbrev RefT : TypeId := 49
/-- A slice of characters in a block of its own. -/
def TextAt (w : World) (v : Value) (t : List Int) : Prop := (v = .slice none 0 0 ∧ t = []) ∨ ∃ g c cur, v = .slice (some ⟨g, 0, none⟩) t.length c ∧ w.heap[g]? = some (.cells cur RuneT (0, 0)) ∧ cur.toList.take t.length = i32s t
theorem TextAt.keep {w w' : World} {v : Value} {t : List Int} (h : TextAt w v t) (hb : Below w.heap.size w w') : TextAt w' v t := by
  rcases h with h | ⟨g, c, cur, e, hg, ht⟩
  · exact .inl h
  · exact .inr ⟨g, c, cur, e, (hb.block g (Array.getElem?_eq_some_iff.1 hg).1).trans hg, ht⟩
theorem TextAt.grown {w w' : World} {v v' : Value} {t : List Int} {B e sz n : Nat} {xs : List Value} (h : TextAt w v t) (ho : w.ownsRow B e sz v' n xs) (hg : w.grownBy w' v'.ownBlock) (hne : RuneT ≠ e) : TextAt w' v t := by
  rcases h with h | ⟨g, c, cur, e', hb, ht⟩
  · exact .inl h
  · exact .inr ⟨g, c, cur, e', (hg.block g (Array.getElem?_eq_some_iff.1 hb).1 (fun he => own_blk_ne ho (g := g) (cs := cur) hb hne he.symm)).trans hb, ht⟩
theorem TextAt.rd {w : World} {v : Value} {t : List Int} (h : TextAt w v t) : ∃ A c, v = .slice A t.length c ∧ Rd w A t.length (i32s t) := by
  rcases h with ⟨rfl, rfl⟩ | ⟨g, c, cur, rfl, hb, ht⟩
  · exact ⟨none, 0, rfl, rfl, fun h => absurd h (by simp)⟩
  · refine ⟨some ⟨g, 0, none⟩, c, rfl, by simp [i32s], fun _ => ⟨g, 0, rfl, (Array.getElem?_eq_some_iff.1 hb).1, fun i x hx => ?_⟩⟩
    rw [Nat.zero_add, cell_of_row w g i cur RuneT (0, 0) hb]
    rw [← ht, List.getElem?_take] at hx
    split at hx
    · simpa using hx
    · cases hx
theorem Blk.frz {w : World} {g : Nat} {t : TypeId} {cs : Array Value} (h : Blk w g t cs) (i : Nat) : w.frozen? ⟨g, i, none⟩ = false := frozen_of_row w g i cs t h
theorem TextAt.set {w : World} {v x : Value} {t : List Int} {b i : Nat} {T : TypeId} {cs : Array Value} (h : TextAt w v t) (hb : Blk w b T cs) (hne : T ≠ RuneT) : TextAt (w.setCell ⟨b, i, none⟩ x) v t := by
  rcases h with h | ⟨g, c, cur, e, hg, ht⟩
  · exact .inl h
  · refine .inr ⟨g, c, cur, e, (heap_setCell_other w ⟨b, i, none⟩ g x (fun he => ?_)).trans hg, ht⟩
    unfold Blk at hb
    have he' : g = b := he
    rw [← he', hg] at hb
    injection hb with hb
    injection hb with _ h2
    exact hne h2.symm
theorem Blk.set {w : World} {g : Nat} {t : TypeId} {cs : Array Value} (h : Blk w g t cs) (i : Nat) (v : Value) : Blk (w.setCell ⟨g, i, none⟩ v) g t (cs.setIfInBounds i v) := heap_setCell_same w g i cs t v h
theorem below_set {B : Nat} {a w : World} (h : Below B a w) (b i : Nat) (v : Value) (hb : B ≤ b) : Below B a (w.setCell ⟨b, i, none⟩ v) :=
  ⟨h.os, h.tape, h.output, by simpa using h.size, fun k hk => (heap_setCell_other w ⟨b, i, none⟩ k v (by show k ≠ b; omega)).trans (h.block k hk)⟩
/-- Rows of the reference, as cells. -/
def refcells (ps : List (Value × LRow)) : List Value := ps.flatMap fun p => [.string ⟨p.2.code.toArray⟩, p.1, .int .i64 p.2.flag]
theorem refcells_length (ps : List (Value × LRow)) : (refcells ps).length = ps.length * 3 := by
  unfold refcells
  induction ps with
  | nil => rfl
  | cons a l ih => simp [ih]; omega
theorem refcells_append (a b : List (Value × LRow)) : refcells (a ++ b) = refcells a ++ refcells b := by simp [refcells]
theorem infoRef : (Tryz.prog.info? RefT).map (fun i => (i.zero, i.size, i.bytes)) = some (some (.agg #[.string ⟨#[]⟩, .slice none 0 0, .int .i64 0]), 3, 48) := by kernel_rfl
/-- An own slice of rows of the reference. -/
def Refs (B : Nat) (w : World) (v : Value) (l : List LRow) : Prop := ∃ ps : List (Value × LRow), ps.map (·.2) = l ∧ (∀ p ∈ ps, TextAt w p.1 p.2.text) ∧ w.ownsRow B RefT 3 v l.length (refcells ps)
def RefsPost (w : World) (l : List LRow) (e : Ending) (w' : World) : Prop := ∃ v, e = .returned v ∧ Refs w.heap.size w' v l ∧ Below w.heap.size w w'
section
variable {ops : Array Oper} {rest : List Oper} {oo : Oper} {a : Act} {Q : Exit → Act → World → Prop}
/-- 'out = append(out, row)'. -/
theorem wpList_ref (w : World) (hgd : oo.guard = none) (s x : Operand) (ho : oo.op = .call { callee := .builtin .append, args := #[s, x], argTypes := #[27, 27] })
    (B : Nat) (v : Value) (l : List LRow) (hs : a.eval s = v) (hst : Refs B w v l) (hB : B ≤ w.heap.size) (code : List UInt8) (At : Option Addr) (n ct : Nat) (text : List Int) (flag : Int) (htx : TextAt w (.slice At n ct) text)
    (c : Nat) (hx : a.eval x = .slice (some ⟨w.heap.size, 0, none⟩) 1 c) (hsm : l.length ≤ 1048576)
    (h : ∀ v' w', Refs B w' v' (l ++ [⟨code, text, flag⟩]) → Below B w w' → wpList Tryz.prog ops Q rest (a.put oo.dst v') w') : wpList Tryz.prog ops Q (oo :: rest) a (w.alloc (.cells #[.string ⟨code.toArray⟩, .slice At n ct, .int .i64 flag] RefT)) := by
  obtain ⟨i0, hi, hz0, hz1, hz2⟩ := info_parts infoRef
  obtain ⟨ps, hps, htp, hown⟩ := hst
  have hown' := hown.alloc (.cells #[.string ⟨code.toArray⟩, .slice At n ct, .int .i64 flag] RefT)
  have hba : Below w.heap.size w (w.alloc (.cells #[.string ⟨code.toArray⟩, .slice At n ct, .int .i64 flag] RefT)) := (Below.refl _ _).alloc (Nat.le_refl _) _
  refine wpList_append_own _ hgd s x 27 ho B RefT i0 (.agg #[.string ⟨#[]⟩, .slice none 0 0, .int .i64 0]) 3 48 Tryz.underlying27 hi hz0 hz1 hz2 rfl (by decide) v l.length (refcells ps) hs hown' ⟨w.heap.size, 0, none⟩ 1 c [.string ⟨code.toArray⟩, .slice At n ct, .int .i64 flag] hx rfl ?_ ?_ ?_ ?_ ?_ ?_
  · intro j u hj
    match j, hj with
    | 0, hj => simp at hj; subst hj; simp [Addr.add]
    | 1, hj => simp at hj; subst hj; simp [Addr.add]
    | 2, hj => simp at hj; subst hj; simp [Addr.add]
  · intro u hu; simp at hu; rcases hu with rfl | rfl | rfl <;> rfl
  · unfold maxLen; omega
  · omega
  · simp; omega
  · intro v' w1 hown1 hgrow _
    refine h v' w1 ⟨ps ++ [(.slice At n ct, ⟨code, text, flag⟩)], by rw [List.map_append, hps]; rfl, ?_, ?_⟩ ?_
    · intro p hp
      rcases List.mem_append.1 hp with hp | hp
      · exact (htp p hp).keep hba |>.grown hown' hgrow (by decide)
      · obtain rfl : p = (.slice At n ct, ⟨code, text, flag⟩) := by simpa using hp
        exact (htx.keep hba).grown hown' hgrow (by decide)
    · rw [refcells_append, List.length_append]; exact hown1
    · exact ((Below.refl B w).alloc hB _).grown hgrow (by simp; omega) (fun k hk => (hown.lt k hk).1)
end
/-- A row of the reference as a value. -/
def okR (r : Int) : Bool := decide (0 ≤ r ∧ (r < 55296 ∨ 57343 < r) ∧ r ≤ 1114111)
def lenOk (x : LRow) : Prop := 1 ≤ x.code.length ∧ x.code.length ≤ 4 ∧ 1 ≤ x.text.length ∧ x.text.length ≤ 18
theorem wrongL_eq (x : LRow) : wrongL x = if 1 ≤ x.code.length ∧ x.code.length ≤ 4 ∧ 1 ≤ x.text.length ∧ x.text.length ≤ 18 then (if x.text.all okR = true then (if x.flag = 0 ∨ x.flag = 1 ∨ x.flag = 3 then 0 else 16) else 11) else 11 := by
  unfold wrongL
  by_cases h : 1 ≤ x.code.length ∧ x.code.length ≤ 4 ∧ 1 ≤ x.text.length ∧ x.text.length ≤ 18
  · rw [if_pos h]
    by_cases h2 : x.text.all okR = true
    · rw [if_pos h2, if_pos ⟨h.1, h.2.1, h.2.2.1, h.2.2.2, h2⟩]
    · rw [if_neg h2, if_neg (fun h3 => h2 h3.2.2.2.2)]
  · rw [if_neg h, if_neg (fun h3 => h ⟨h3.1, h3.2.1, h3.2.2.1, h3.2.2.2.1⟩)]
set_option maxRecDepth 100000 in
set_option maxHeartbeats 1600000 in
theorem wrong13_any (cl : List UInt8) (v : Value) (text : List Int) (flag : Int) (w : World) (hT : TextAt w v text) (hc : cl.length ≤ 1048576) (hl : text.length ≤ 1048576) :
    Calls Tryz.prog 23 #[.agg #[.string ⟨cl.toArray⟩, v, .int .i64 flag]] w fun e w' => e = .returned (.int .i64 (wrongL ⟨cl, text, flag⟩)) ∧ Below w.heap.size w w' := by
  obtain ⟨A, c, rfl, hr⟩ := hT.rd
  rw [wrongL_eq]
  obtain ⟨code, hcode⟩ : ∃ code : ByteArray, code = ⟨cl.toArray⟩ := ⟨_, rfl⟩
  have hcl : cl.length = code.size := by rw [hcode]; show _ = cl.toArray.size; simp
  show Calls _ _ _ _ fun e w' => e = .returned (.int .i64 (if 1 ≤ cl.length ∧ cl.length ≤ 4 ∧ 1 ≤ text.length ∧ text.length ≤ 18 then (if text.all okR = true then (if flag = 0 ∨ flag = 1 ∨ flag = 3 then 0 else 16) else 11) else 11)) ∧ _
  rw [← hcode]
  rw [hcl] at hc ⊢
  clear hcode hcl
  obtain ⟨W, hW⟩ : ∃ W, w.alloc (.cells #[.string code, .slice A text.length c, .int .i64 flag] RefT) = W := ⟨_, rfl⟩
  have hb : Below w.heap.size w W := hW ▸ (Below.refl _ _).alloc (Nat.le_refl _) _
  have hk : Blk W w.heap.size RefT #[.string code, .slice A text.length c, .int .i64 flag] := hW ▸ Blk.new _ _ _
  have HR := Lib.hid (hr.keep hb)
  have HB := Lib.hid hb
  have k0 : W.cell? ⟨w.heap.size, 0, none⟩ = some (.string code) := by rw [hk.cell]; rfl
  have k1 : W.cell? ⟨w.heap.size, 1, none⟩ = some (.slice A text.length c) := by rw [hk.cell]; rfl
  have k2 : W.cell? ⟨w.heap.size, 2, none⟩ = some (.int .i64 flag) := by rw [hk.cell]; rfl
  clear hT hr hb hk
  by_cases hz : 1 ≤ code.size ∧ code.size ≤ 4 ∧ 1 ≤ text.length ∧ text.length ≤ 18
  · have a1 : decide ((code.size : Int) < 1) = false := decide_eq_false (by omega)
    have a2 : decide ((4 : Int) < (code.size : Int)) = false := decide_eq_false (by omega)
    have a3 : decide ((text.length : Int) < 1) = false := decide_eq_false (by omega)
    have a4 : decide ((18 : Int) < (text.length : Int)) = false := decide_eq_false (by omega)
    rw [if_pos hz]
    clear hz
    obtain ⟨F, hF⟩ : ∃ F : Int, (if text.all okR = true then (if flag = 0 ∨ flag = 1 ∨ flag = 3 then 0 else 16) else 11) = F := ⟨_, rfl⟩
    rw [hF]
    have HF := Lib.hid hF
    clear hF
    go_enter Tryz.func23, Tryz.ntmps23
    go_wp2_with fail
    go_loopw [3] (fun i wr => ∃ j : Nat, j ≤ text.length ∧ i = .int .i64 j ∧ wr = W ∧ (text.take j).all okR = true) (fun i _ => text.length - (intOf i).toNat)
    case atStart => exact ⟨0, Nat.zero_le _, rfl, rfl, rfl⟩
    case round =>
      obtain ⟨j, hj, rfl, rfl, hal⟩ := hrel
      have HAL := Lib.hid hal
      clear hal
      by_cases hlt : j < text.length
      · obtain ⟨bk, o, rfl, hbk, c0⟩ := HR.out.i32_at hlt
        have htk : (text.take (j + 1)).all okR = okR text[j] := by rw [List.take_succ_eq_append_getElem hlt, List.all_append, HAL.out]; simp
        have hbad : okR text[j] = false → F = 11 := fun h => by
          rw [← HF.out, if_neg]
          intro h2
          rw [List.all_eq_true.1 h2 _ (List.getElem_mem hlt)] at h
          cases h
        have HTK := Lib.hid htk
        have HBAD := Lib.hid hbad
        clear htk hbad hbk
        generalize text[j] = r at *
        by_cases q1 : r < 0
        · have b1 : decide (r < 0) = true := decide_eq_true q1
          obtain rfl := HBAD.out (by unfold okR; exact decide_eq_false (by omega))
          clear q1
          go_wp2_with fail
          go_returns
          exact ⟨rfl, HB.out⟩
        have b1 : decide (r < 0) = false := decide_eq_false q1
        by_cases q2 : 1114111 < r
        · have b2 : decide (1114111 < r) = true := decide_eq_true q2
          obtain rfl := HBAD.out (by unfold okR; exact decide_eq_false (by omega))
          clear q1 q2
          go_wp2_with fail
          go_returns
          exact ⟨rfl, HB.out⟩
        have b2 : decide (1114111 < r) = false := decide_eq_false q2
        by_cases q3 : 55296 ≤ r
        · have b3 : decide (55296 ≤ r) = true := decide_eq_true q3
          by_cases q4 : r ≤ 57343
          · have b4 : decide (r ≤ 57343) = true := decide_eq_true q4
            obtain rfl := HBAD.out (by unfold okR; exact decide_eq_false (by omega))
            clear q1 q2 q3 q4
            go_wp2_with fail
            go_returns
            exact ⟨rfl, HB.out⟩
          have b4 : decide (r ≤ 57343) = false := decide_eq_false q4
          have hok : okR r = true := by unfold okR; exact decide_eq_true ⟨by omega, by omega, by omega⟩
          have HOK := Lib.hid (HTK.out.trans hok)
          clear q1 q2 q3 q4 hok
          go_wp2_with fail
          go_roundw
          case rel => exact ⟨j + 1, by omega, by go_num, by trivial, HOK.out⟩
          case measure => simp [intOf]; omega
        · have b3 : decide (55296 ≤ r) = false := decide_eq_false q3
          have hok : okR r = true := by unfold okR; exact decide_eq_true ⟨by omega, by omega, by omega⟩
          have HOK := Lib.hid (HTK.out.trans hok)
          clear q1 q2 q3 hok
          go_wp2_with fail
          go_roundw
          case rel => exact ⟨j + 1, by omega, by go_num, by trivial, HOK.out⟩
          case measure => simp [intOf]; omega
      · obtain rfl : j = text.length := by omega
        have hal : text.all okR = true := by have := HAL.out; rwa [List.take_of_length_le (Nat.le_refl _)] at this
        have HF2 : Hid ((if flag = 0 ∨ flag = 1 ∨ flag = 3 then 0 else 16) = F) := Lib.hid (by rw [← HF.out, if_pos hal])
        clear hal
        by_cases h0 : flag = 0
        · have f0 : (flag != 0) = false := by simp [h0]
          have hF : F = 0 := by rw [← HF2.out, if_pos (.inl h0)]
          clear h0
          go_wp2_with fail
          go_returns
          exact ⟨by rw [hF]; rfl, HB.out⟩
        · have f0 : (flag != 0) = true := by simp [h0]
          by_cases h1 : flag = 1
          · have f1 : (flag != 1) = false := by simp [h1]
            have hF : F = 0 := by rw [← HF2.out, if_pos (.inr (.inl h1))]
            clear h0 h1
            go_wp2_with fail
            go_returns
            exact ⟨by rw [hF]; rfl, HB.out⟩
          · have f1 : (flag != 1) = true := by simp [h1]
            by_cases h3 : flag = 3
            · have f3 : (flag != 3) = false := by simp [h3]
              have hF : F = 0 := by rw [← HF2.out, if_pos (.inr (.inr h3))]
              clear h0 h1 h3
              go_wp2_with fail
              go_returns
              exact ⟨by rw [hF]; rfl, HB.out⟩
            · have f3 : (flag != 3) = true := by simp [h3]
              have hF : F = 16 := by rw [← HF2.out, if_neg (by omega)]
              clear h0 h1 h3
              go_wp2_with fail
              go_returns
              exact ⟨by rw [hF]; rfl, HB.out⟩
  · rw [if_neg hz]
    have hcs : (code.size < 1) ∨ (1 ≤ code.size ∧ 4 < code.size) ∨ (1 ≤ code.size ∧ code.size ≤ 4 ∧ text.length < 1) ∨ (1 ≤ code.size ∧ code.size ≤ 4 ∧ 1 ≤ text.length ∧ 18 < text.length) := by omega
    clear hz
    rcases hcs with z1 | ⟨z1, z2⟩ | ⟨z1, z2, z3⟩ | ⟨z1, z2, z3, z4⟩
    · have a1 : decide ((code.size : Int) < 1) = true := decide_eq_true (by omega)
      clear z1
      go_enter Tryz.func23, Tryz.ntmps23
      go_wp2_with fail
      go_returns
      exact ⟨rfl, HB.out⟩
    · have a1 : decide ((code.size : Int) < 1) = false := decide_eq_false (by omega)
      have a2 : decide ((4 : Int) < (code.size : Int)) = true := decide_eq_true (by omega)
      clear z1 z2
      go_enter Tryz.func23, Tryz.ntmps23
      go_wp2_with fail
      go_returns
      exact ⟨rfl, HB.out⟩
    · have a1 : decide ((code.size : Int) < 1) = false := decide_eq_false (by omega)
      have a2 : decide ((4 : Int) < (code.size : Int)) = false := decide_eq_false (by omega)
      have a3 : decide ((text.length : Int) < 1) = true := decide_eq_true (by omega)
      clear z1 z2 z3
      go_enter Tryz.func23, Tryz.ntmps23
      go_wp2_with fail
      go_returns
      exact ⟨rfl, HB.out⟩
    · have a1 : decide ((code.size : Int) < 1) = false := decide_eq_false (by omega)
      have a2 : decide ((4 : Int) < (code.size : Int)) = false := decide_eq_false (by omega)
      have a3 : decide ((text.length : Int) < 1) = false := decide_eq_false (by omega)
      have a4 : decide ((18 : Int) < (text.length : Int)) = true := decide_eq_true (by omega)
      clear z1 z2 z3 z4
      go_enter Tryz.func23, Tryz.ntmps23
      go_wp2_with fail
      go_returns
      exact ⟨rfl, HB.out⟩
end Go.Proofs.YtopaoejapnakiaaGreatDoor.Mf
