/- Words for memory: the reference's rows; walks: inkhornlaw13.Plain, inkhornlaw17.Plain. -/
import Derived.Test.YtkfjmcidcnpijaaGreatDoorG3
import Derived.Laws.AppendOwn
import Derived.OwnWalk
namespace Go.Proofs.YtkfjmcidcnpijaaGreatDoor.Sg
open Go.RowKit Pl Go.Lib

abbrev RefT : TypeId := 84
/-- A slice of characters in a block of its own. -/
def TextAt (w : World) (v : Value) (t : List Int) : Prop := (v = .slice none 0 0 ∧ t = []) ∨ ∃ g c cur, v = .slice (some ⟨g, 0, none⟩) t.length c ∧ w.heap[g]? = some (.cells cur RuneT (0, 0)) ∧ cur.toList.take t.length = i32s t
theorem TextAt.keep {w w' : World} {v : Value} {t : List Int} (h : TextAt w v t) (hb : Below w.heap.size w w') : TextAt w' v t := by
  rcases h with h | ⟨g, c, cur, e, hg, ht⟩
  · exact .inl h
  · exact .inr ⟨g, c, cur, e, (hb.block g (Array.getElem?_eq_some_iff.1 hg).1).trans hg, ht⟩
theorem TextAt.grown {w w' : World} {v v' : Value} {t : List Int} {B e sz n : Nat} {xs : List Value} (h : TextAt w v t) (ho : w.ownsRow B e sz v' n xs) (hg : w.grownBy w' v'.ownBlock) (hne : RuneT ≠ e) : TextAt w' v t := by
  rcases h with h | ⟨g, c, cur, e', hb, ht⟩
  · exact .inl h
  · exact .inr ⟨g, c, cur, e', (hg.block g (Array.getElem?_eq_some_iff.1 hb).1 (fun he => own_blk_ne ho (g := g) (cs := cur) hb hne he.symm)).trans hb, ht⟩
theorem TextAt.rd {w : World} {v : Value} {t : List Int} (h : TextAt w v t) : ∃ A c, v = .slice A t.length c ∧ Rd w A t.length (i32s t) := by
  rcases h with ⟨rfl, rfl⟩ | ⟨g, c, cur, rfl, hb, ht⟩
  · exact ⟨none, 0, rfl, rfl, fun h => absurd h (by simp)⟩
  · refine ⟨some ⟨g, 0, none⟩, c, rfl, by simp [i32s], fun _ => ⟨g, 0, rfl, (Array.getElem?_eq_some_iff.1 hb).1, fun i x hx => ?_⟩⟩
    rw [Nat.zero_add, cell_of_row w g i cur RuneT (0, 0) hb]
    rw [← ht, List.getElem?_take] at hx
    split at hx
    · simpa using hx
    · cases hx
/-- A row of the reference. -/
structure RRow where
  code : ByteArray
  text : List Int
  flag : Int
def plainR (r : RowV) : RRow := if validD r.text.data.toList = true then ⟨r.code, runesL r.text.data.toList, r.flag⟩ else ⟨⟨#[]⟩, [], 0⟩
def PlainPost (w : World) (x : RRow) (e : Ending) (w' : World) : Prop := ∃ v, e = .returned (.agg #[.string x.code, v, .int .i64 x.flag]) ∧ TextAt w' v x.text ∧ Below w.heap.size w w'
theorem conv_text (s : ByteArray) (hs : s.size ≤ 1048576) (w : World) : ∃ v w', (convert 9 72 (.string s)).run Tryz.prog w = .ok v w' ∧ Below w.heap.size w w' ∧ TextAt w' v (runesL s.data.toList) := by
  have hl := runesL_le s.data.toList
  rw [show s.data.toList.length = s.size from by simp] at hl
  have h := run_runes_of_string (P := Tryz.prog) w 9 72 21 s Tryz.underlying9 Tryz.underlying72 Tryz.underlying21 (by rw [runes_conv]; simp; omega)
  rw [runes_conv] at h
  simp only [List.size_toArray, List.length_map] at h
  refine ⟨_, _, h, (Below.refl _ _).drew.alloc (Nat.le_refl _) _, .inr ⟨_, _, _, rfl, Blk.new w.drew _ _, ?_⟩⟩
  simp [i32s]
theorem Blk.frz {w : World} {g : Nat} {t : TypeId} {cs : Array Value} (h : Blk w g t cs) (i : Nat) : w.frozen? ⟨g, i, none⟩ = false := frozen_of_row w g i cs t h
theorem TextAt.set {w : World} {v x : Value} {t : List Int} {b i : Nat} {T : TypeId} {cs : Array Value} (h : TextAt w v t) (hb : Blk w b T cs) (hne : T ≠ RuneT) : TextAt (w.setCell ⟨b, i, none⟩ x) v t := by
  rcases h with h | ⟨g, c, cur, e, hg, ht⟩
  · exact .inl h
  · refine .inr ⟨g, c, cur, e, (heap_setCell_other w ⟨b, i, none⟩ g x (fun he => ?_)).trans hg, ht⟩
    unfold Blk at hb
    have he' : g = b := he
    rw [← he', hg] at hb
    injection hb with hb
    injection hb with _ h2
    exact hne h2.symm
theorem Blk.set {w : World} {g : Nat} {t : TypeId} {cs : Array Value} (h : Blk w g t cs) (i : Nat) (v : Value) : Blk (w.setCell ⟨g, i, none⟩ v) g t (cs.setIfInBounds i v) := heap_setCell_same w g i cs t v h
theorem below_set {B : Nat} {a w : World} (h : Below B a w) (b i : Nat) (v : Value) (hb : B ≤ b) : Below B a (w.setCell ⟨b, i, none⟩ v) :=
  ⟨h.os, h.tape, h.output, by simpa using h.size, fun k hk => (heap_setCell_other w ⟨b, i, none⟩ k v (by show k ≠ b; omega)).trans (h.block k hk)⟩
set_option maxRecDepth 100000 in
theorem plain13_any (r : RowV) (h1 : r.code.size ≤ 1048576) (h2 : r.text.size ≤ 1048576) (w : World) :
    Calls Tryz.prog 34 #[.agg #[.string r.code, .string r.text, .int .i64 r.flag]] w (PlainPost w (plainR r)) := by
  have HV := Lib.hid (valid_any r.text (by omega))
  obtain ⟨code, text, flag⟩ := r
  unfold plainR
  have HC := Lib.hid (conv_text text h2)
  obtain ⟨W, hW⟩ : ∃ W, w.alloc (.cells #[.string code, .string text, .int .i64 flag] 50) = W := ⟨_, rfl⟩
  have hbw : Below w.heap.size w W := hW ▸ (Below.refl _ _).alloc (Nat.le_refl _) _
  have hk : Blk W w.heap.size 50 #[.string code, .string text, .int .i64 flag] := hW ▸ Blk.new _ _ _
  have hsz : w.heap.size < W.heap.size := hk.lt
  obtain ⟨V, hV⟩ : ∃ V, W.alloc (.cells #[.string ⟨#[]⟩, .slice none 0 0, .int .i64 0] RefT) = V := ⟨_, rfl⟩
  have hbv : Below W.heap.size W V := hV ▸ (Below.refl _ _).alloc (Nat.le_refl _) _
  have hr : Blk V W.heap.size RefT #[.string ⟨#[]⟩, .slice none 0 0, .int .i64 0] := hV ▸ Blk.new _ _ _
  have hkv : Blk V w.heap.size 50 #[.string code, .string text, .int .i64 flag] := hk.below hbv hk.lt
  have HK := Lib.hid hkv
  have HR := Lib.hid hr
  have HB := Lib.hid (hbw.trans (hbv.mono hbw.size))
  have c1 : V.cell? ⟨w.heap.size, 1, none⟩ = some (.string text) := by rw [hkv.cell]; rfl
  clear hbw hk h1 h2 hbv hr hkv
  cases hv : validD text.data.toList
  · rw [hv] at HV
    simp only [Bool.false_eq_true, if_false]
    clear hv
    go_enter Tryz.func34, Tryz.ntmps34
    go_wp2_with fail
    refine (HV.out V).mono ?_
    rintro _ w1 ⟨rfl, hb1⟩
    have hr1 := HR.out.below hb1 HR.out.lt
    have HR1 := Lib.hid hr1
    have r0 : w1.cell? ⟨W.heap.size, 0, none⟩ = some (.string ⟨#[]⟩) := by rw [hr1.cell]; rfl
    have r1 : w1.cell? ⟨W.heap.size, 1, none⟩ = some (.slice none 0 0) := by rw [hr1.cell]; rfl
    have r2 : w1.cell? ⟨W.heap.size, 2, none⟩ = some (.int .i64 0) := by rw [hr1.cell]; rfl
    have f0 := Blk.frz hr1 0
    have f1 := Blk.frz hr1 1
    have f2 := Blk.frz hr1 2
    have HB1 := Lib.hid (HB.out.trans (hb1.mono HB.out.size))
    clear hb1 hr1 c1
    go_wp2_with fail
    have hf := Blk.set (Blk.set (Blk.set HR1.out 0 (.string ⟨#[]⟩)) 1 (.slice none 0 0)) 2 (.int .i64 0)
    have hbf := below_set (below_set (below_set HB1.out W.heap.size 0 (.string ⟨#[]⟩) (by omega)) W.heap.size 1 (.slice none 0 0) (by omega)) W.heap.size 2 (.int .i64 0) (by omega)
    obtain ⟨Wf, hWf⟩ : ∃ Wf, (((w1.setCell ⟨W.heap.size, 0, none⟩ (.string ⟨#[]⟩)).setCell ⟨W.heap.size, 1, none⟩ (.slice none 0 0)).setCell ⟨W.heap.size, 2, none⟩ (.int .i64 0)) = Wf := ⟨_, rfl⟩
    rw [hWf] at hf hbf ⊢
    have e0 : Wf.cell? ⟨W.heap.size, 0, none⟩ = some (.string ⟨#[]⟩) := by rw [hf.cell]; rfl
    have e1 : Wf.cell? ⟨W.heap.size, 1, none⟩ = some (.slice none 0 0) := by rw [hf.cell]; rfl
    have e2 : Wf.cell? ⟨W.heap.size, 2, none⟩ = some (.int .i64 0) := by rw [hf.cell]; rfl
    have HBF := Lib.hid hbf
    clear hf hbf hWf r0 r1 r2 f0 f1 f2
    refine bodyPost_ret (by simp [results, Tryz.results34, go_sem, e0, e1, e2]; try rfl) rfl ?_
    exact ⟨.slice none 0 0, rfl, .inl ⟨rfl, rfl⟩, HBF.out⟩
  · rw [hv] at HV
    simp only [if_true]
    clear hv
    go_enter Tryz.func34, Tryz.ntmps34
    go_wp2_with fail
    refine (HV.out V).mono ?_
    rintro _ w1 ⟨rfl, hb1⟩
    have hr1 := HR.out.below hb1 HR.out.lt
    have hk1 := HK.out.below hb1 HK.out.lt
    have HR1 := Lib.hid hr1
    have k0 : w1.cell? ⟨w.heap.size, 0, none⟩ = some (.string code) := by rw [hk1.cell]; rfl
    have k1 : w1.cell? ⟨w.heap.size, 1, none⟩ = some (.string text) := by rw [hk1.cell]; rfl
    have k2 : w1.cell? ⟨w.heap.size, 2, none⟩ = some (.int .i64 flag) := by rw [hk1.cell]; rfl
    obtain ⟨vt, w2, hcv, hb2, htx⟩ := HC.out w1
    obtain ⟨At, ct, rfl, _⟩ := htx.rd
    generalize runesL text.data.toList = tx at *
    have k3 := (hb2.cell (p := ⟨w.heap.size, 2, none⟩) hk1.lt).trans k2
    have hr2 := hr1.below hb2 hr1.lt
    have r0 : w2.cell? ⟨W.heap.size, 0, none⟩ = some (.string ⟨#[]⟩) := by rw [hr2.cell]; rfl
    have r1 : w2.cell? ⟨W.heap.size, 1, none⟩ = some (.slice none 0 0) := by rw [hr2.cell]; rfl
    have r2 : w2.cell? ⟨W.heap.size, 2, none⟩ = some (.int .i64 0) := by rw [hr2.cell]; rfl
    have f0 := Blk.frz hr2 0
    have f1 := Blk.frz hr2 1
    have f2 := Blk.frz hr2 2
    have HB1 := Lib.hid (HB.out.trans (hb1.mono HB.out.size))
    have HB2 := Lib.hid (HB1.out.trans (hb2.mono HB1.out.size))
    have HTX := Lib.hid htx
    have HR2 := Lib.hid hr2
    clear hb1 hr1 hk1 c1 hb2 htx hr2 HC HR1
    go_wp2_with fail
    have hf := Blk.set (Blk.set (Blk.set HR2.out 0 (.string code)) 1 (.slice At tx.length ct)) 2 (.int .i64 flag)
    have hbf := below_set (below_set (below_set HB2.out W.heap.size 0 (.string code) (by omega)) W.heap.size 1 (.slice At tx.length ct) (by omega)) W.heap.size 2 (.int .i64 flag) (by omega)
    have htf := TextAt.set (x := .int .i64 flag) (i := 2) (TextAt.set (x := .slice At tx.length ct) (i := 1) (TextAt.set (x := .string code) (i := 0) HTX.out HR2.out (by decide)) (Blk.set HR2.out 0 _) (by decide)) (Blk.set (Blk.set HR2.out 0 _) 1 _) (by decide)
    obtain ⟨Wf, hWf⟩ : ∃ Wf, (((w2.setCell ⟨W.heap.size, 0, none⟩ (.string code)).setCell ⟨W.heap.size, 1, none⟩ (.slice At tx.length ct)).setCell ⟨W.heap.size, 2, none⟩ (.int .i64 flag)) = Wf := ⟨_, rfl⟩
    rw [hWf] at hf hbf htf ⊢
    have e0 : Wf.cell? ⟨W.heap.size, 0, none⟩ = some (.string code) := by rw [hf.cell]; rfl
    have e1 : Wf.cell? ⟨W.heap.size, 1, none⟩ = some (.slice At tx.length ct) := by rw [hf.cell]; rfl
    have e2 : Wf.cell? ⟨W.heap.size, 2, none⟩ = some (.int .i64 flag) := by rw [hf.cell]; rfl
    have HBF := Lib.hid hbf
    clear hf hbf hWf r0 r1 r2 f0 f1 f2
    have HTF := Lib.hid htf
    clear htf
    refine bodyPost_ret (by simp [results, Tryz.results34, go_sem, e0, e1, e2]; try rfl) rfl ?_
    exact ⟨_, rfl, HTF.out, HBF.out⟩
/-- Rows of the reference, as cells. -/
def refcells (ps : List (Value × RRow)) : List Value := ps.flatMap fun p => [.string p.2.code, p.1, .int .i64 p.2.flag]
theorem refcells_length (ps : List (Value × RRow)) : (refcells ps).length = ps.length * 3 := by
  unfold refcells
  induction ps with
  | nil => rfl
  | cons a l ih => simp [ih]; omega
theorem refcells_append (a b : List (Value × RRow)) : refcells (a ++ b) = refcells a ++ refcells b := by simp [refcells]
theorem infoRef : (Tryz.prog.info? RefT).map (fun i => (i.zero, i.size, i.bytes)) = some (some (.agg #[.string ⟨#[]⟩, .slice none 0 0, .int .i64 0]), 3, 48) := by kernel_rfl
/-- An own slice of rows of the reference. -/
def Refs (B : Nat) (w : World) (v : Value) (l : List RRow) : Prop := ∃ ps : List (Value × RRow), ps.map (·.2) = l ∧ (∀ p ∈ ps, TextAt w p.1 p.2.text) ∧ w.ownsRow B RefT 3 v l.length (refcells ps)
def RefsPost (w : World) (l : List RRow) (e : Ending) (w' : World) : Prop := ∃ v, e = .returned v ∧ Refs w.heap.size w' v l ∧ Below w.heap.size w w'
section
variable {ops : Array Oper} {rest : List Oper} {oo : Oper} {a : Act} {Q : Exit → Act → World → Prop}
/-- 'out = append(out, row)'. -/
theorem wpList_ref (w : World) (hgd : oo.guard = none) (s x : Operand) (ho : oo.op = .call { callee := .builtin .append, args := #[s, x], argTypes := #[44, 44] })
    (B : Nat) (v : Value) (l : List RRow) (hs : a.eval s = v) (hst : Refs B w v l) (hB : B ≤ w.heap.size) (code : ByteArray) (At : Option Addr) (n ct : Nat) (text : List Int) (flag : Int) (htx : TextAt w (.slice At n ct) text)
    (c : Nat) (hx : a.eval x = .slice (some ⟨w.heap.size, 0, none⟩) 1 c) (hsm : l.length ≤ 1048576)
    (h : ∀ v' w', Refs B w' v' (l ++ [⟨code, text, flag⟩]) → Below B w w' → wpList Tryz.prog ops Q rest (a.put oo.dst v') w') : wpList Tryz.prog ops Q (oo :: rest) a (w.alloc (.cells #[.string code, .slice At n ct, .int .i64 flag] RefT)) := by
  obtain ⟨i0, hi, hz0, hz1, hz2⟩ := info_parts infoRef
  obtain ⟨ps, hps, htp, hown⟩ := hst
  have hown' := hown.alloc (.cells #[.string code, .slice At n ct, .int .i64 flag] RefT)
  have hba : Below w.heap.size w (w.alloc (.cells #[.string code, .slice At n ct, .int .i64 flag] RefT)) := (Below.refl _ _).alloc (Nat.le_refl _) _
  refine wpList_append_own _ hgd s x 44 ho B RefT i0 (.agg #[.string ⟨#[]⟩, .slice none 0 0, .int .i64 0]) 3 48 Tryz.underlying44 hi hz0 hz1 hz2 rfl (by decide) v l.length (refcells ps) hs hown' ⟨w.heap.size, 0, none⟩ 1 c [.string code, .slice At n ct, .int .i64 flag] hx rfl ?_ ?_ ?_ ?_ ?_ ?_
  · intro j u hj
    match j, hj with
    | 0, hj => simp at hj; subst hj; simp [Addr.add]
    | 1, hj => simp at hj; subst hj; simp [Addr.add]
    | 2, hj => simp at hj; subst hj; simp [Addr.add]
  · intro u hu; simp at hu; rcases hu with rfl | rfl | rfl <;> rfl
  · unfold maxLen; omega
  · omega
  · simp; omega
  · intro v' w1 hown1 hgrow _
    refine h v' w1 ⟨ps ++ [(.slice At n ct, ⟨code, text, flag⟩)], by rw [List.map_append, hps]; rfl, ?_, ?_⟩ ?_
    · intro p hp
      rcases List.mem_append.1 hp with hp | hp
      · exact (htp p hp).keep hba |>.grown hown' hgrow (by decide)
      · obtain rfl : p = (.slice At n ct, ⟨code, text, flag⟩) := by simpa using hp
        exact (htx.keep hba).grown hown' hgrow (by decide)
    · rw [refcells_append, List.length_append]; exact hown1
    · exact ((Below.refl B w).alloc hB _).grown hgrow (by simp; omega) (fun k hk => (hown.lt k hk).1)
end
set_option maxRecDepth 100000 in
set_option maxHeartbeats 800000 in
theorem plain17_any (A : Option Addr) (c : Nat) (l : List RowV) (w : World) (hR : RowsAt w A l) (hn : l.length ≤ 1048576) (hS : ∀ r ∈ l, r.code.size ≤ 1048576 ∧ r.text.size ≤ 1048576) :
    Calls Tryz.prog 16 #[.slice A l.length c] w (RefsPost w (l.map plainR)) := by
  have HR := Lib.hid hR
  have HS := Lib.hid hS
  clear hR hS
  go_enter Tryz.func16, Tryz.ntmps16
  go_wp2
  go_loopw [3, 4] (fun v i wr => ∃ j : Nat, j ≤ l.length ∧ i = .int .i64 j ∧ Refs w.heap.size wr v ((l.take j).map plainR) ∧ Below w.heap.size w wr) (fun _ i _ => l.length - (intOf i).toNat)
  case atStart => exact ⟨0, Nat.zero_le _, rfl, ⟨[], rfl, by simp, World.ownsRow_nil _ _ _ _⟩, Below.refl _ _⟩
  case round =>
    obtain ⟨j, hj, rfl, hrf, hb⟩ := hrel
    have HB := Lib.hid hb
    have HRF := Lib.hid hrf
    clear hrf
    by_cases hlt : j < l.length
    · obtain ⟨bk, o, rfl, hbk, c0, c1, c2⟩ := (HR.out.keep hb).at_ hlt
      have hsz := HS.out l[j] (List.getElem_mem hlt)
      have htk : (l.take (j + 1)).map plainR = (l.take j).map plainR ++ [plainR l[j]] := by rw [List.take_succ_eq_append_getElem hlt, List.map_append]; rfl
      generalize l[j] = r at *
      have HTK := Lib.hid htk
      have HP := Lib.hid (plain13_any r hsz.1 hsz.2 wr)
      obtain ⟨code, text, flag⟩ := r
      clear htk hsz hb hbk
      have hjl : ((l.take j).map plainR).length ≤ 1048576 := by simp; omega
      generalize plainR ⟨code, text, flag⟩ = x at *
      generalize (l.take j).map plainR = L at *
      obtain ⟨xc, xt, xf⟩ := x
      go_wp2_with fail
      refine HP.out.mono ?_
      rintro _ w1 ⟨vt, rfl, htx, hb1⟩
      obtain ⟨At, ct, rfl, _⟩ := htx.rd
      have HB1 := Lib.hid (HB.out.trans (hb1.mono HB.out.size))
      have HTX := Lib.hid htx
      have HRF1 : Hid (Refs w.heap.size w1 u3 L) := by
        obtain ⟨ps, h1, h2, h3⟩ := HRF.out
        exact Lib.hid ⟨ps, h1, fun p hp => (h2 p hp).keep hb1, own_below h3 hb1⟩
      clear hb1 htx HRF HP
      go_wp2_with (at_builtin; refine wpList_ref w1 rfl _ _ rfl w.heap.size u3 L rfl HRF1.out HB1.out.size _ _ _ _ xt _ HTX.out _ rfl hjl ?_; intro v' w2 hrf2 hb2)
      go_roundw
      case rel => exact ⟨j + 1, by omega, by go_num, by rw [HTK.out]; exact hrf2, HB1.out.trans hb2⟩
      case measure => simp [intOf]; omega
    · obtain rfl : j = l.length := by omega
      rw [List.take_of_length_le (Nat.le_refl _)] at HRF
      clear hb
      go_wp2_with fail
      go_returns
      exact ⟨_, rfl, HRF.out, HB.out⟩
end Go.Proofs.YtkfjmcidcnpijaaGreatDoor.Sg
