/- Words for memory: faults appended to a decoder's own, in a loop. -/
import Derived.Test.YtlfhmkjomogkiaaDoorSc
import Derived.Test.YtlfhmkjomogkiaaDoorPlain4
import Derived.Deep.RegionHeld3
import Derived.Deep.RegionLaw
namespace Go.Proofs.YtlfhmkjomogkiaaDoor.Str
open Go.RowKit Pl

/-- Faults of another list as they stand in a decoder: shifted. -/
def withBad (s : SSt) (y : List (Nat × Nat)) : SSt := { s with bad := y }
def Moved (w0 : World) (v0 v : Value) : Prop := v.ownBlock = v0.ownBlock ∨ ∃ g, v.ownBlock = some g ∧ w0.heap.size ≤ g
theorem Moved.next {w0 w : World} {v0 v v' : Value} (h : Moved w0 v0 v) (hw : w0.heap.size ≤ w.heap.size) (hat : v'.ownBlock = v.ownBlock ∨ v'.ownBlock = some w.heap.size) : Moved w0 v0 v' := by
  rcases hat with e | e
  · unfold Moved; rw [e]; exact h
  · exact .inr ⟨_, e, hw⟩
/-- A decoder, the row that is added, and a row besides. -/
def TSt (B b : Nat) (w0 : World) (v0 : Value) (w : World) (s : SSt) (v vb : Value) (z : List (Nat × Nat)) (vo : Value) (o : List Int) : Prop :=
  DecAt B b w s v ∧ b < w0.heap.size ∧ Kept b v0 w0 w ∧ Moved w0 v0 v ∧ (w.ownsRow w0.heap.size FaultT 2 vb z.length (fcells z) ∧ ∀ g, vb.ownBlock = some g → v.ownBlock ≠ some g) ∧ w.ownsRow w0.heap.size RuneT 1 vo o.length (i32s o)
/-- The same, the row's new value not yet stored. -/
def TMid (B b : Nat) (w0 : World) (v0 : Value) (w : World) (s : SSt) (v' : Value) (y : List (Nat × Nat)) (vb : Value) (z : List (Nat × Nat)) (vo : Value) (o : List Int) : Prop :=
  (∃ v, Blk w b DecT (dcells s v)) ∧ B ≤ b ∧ w.ownsRow B FaultT 2 v' y.length (fcells y) ∧ b < w0.heap.size ∧ Kept b v0 w0 w ∧ Moved w0 v0 v' ∧ (w.ownsRow w0.heap.size FaultT 2 vb z.length (fcells z) ∧ ∀ g, vb.ownBlock = some g → v'.ownBlock ≠ some g) ∧ w.ownsRow w0.heap.size RuneT 1 vo o.length (i32s o)
theorem Kept.alloc {b : Nat} {v : Value} {w w' : World} (h : Kept b v w w') (o : Obj) : Kept b v w (w'.alloc o) :=
  h.trans (v' := v) (Kept.of_below ((Below.refl _ _).alloc (Nat.le_refl _) o)) (.inl rfl)
theorem Kept.drew {b : Nat} {v : Value} {w w' : World} (h : Kept b v w w') : Kept b v w w'.drew := ⟨h.os, h.tape, h.output, h.size, h.block⟩
variable {B b : Nat} {w0 w : World} {v0 v vb vo : Value} {s : SSt} {z y : List (Nat × Nat)} {o : List Int}
theorem TSt.alloc (h : TSt B b w0 v0 w s v vb z vo o) (x : Obj) : TSt B b w0 v0 (w.alloc x) s v vb z vo o :=
  ⟨h.1.below ((Below.refl _ _).alloc (Nat.le_refl _) x), h.2.1, h.2.2.1.alloc x, h.2.2.2.1, ⟨h.2.2.2.2.1.1.alloc x, h.2.2.2.2.1.2⟩, h.2.2.2.2.2.alloc x⟩
theorem TSt.drew (h : TSt B b w0 v0 w s v vb z vo o) : TSt B b w0 v0 w.drew s v vb z vo o := ⟨h.1, h.2.1, h.2.2.1.drew, h.2.2.2.1, h.2.2.2.2.1, h.2.2.2.2.2⟩
theorem TSt.cell6 (h : TSt B b w0 v0 w s v vb z vo o) : w.cell? ⟨b, 6, none⟩ = some v := by rw [h.1.1.cell]; rfl
theorem TSt.z_at (h : TSt B b w0 v0 w s v vb z vo o) {bk : Nat} {n c : Nat} (hv : vb = .slice (some ⟨bk, 0, none⟩) n c) {j e1 e2 : Nat} (hj : ∃ hlt : j < z.length, z[j] = (e1, e2)) :
    w.cell? ⟨bk, j * 2, none⟩ = some (.int .i64 e1) ∧ w.cell? ⟨bk, j * 2 + 1, none⟩ = some (.int .i64 e2) := by
  obtain ⟨hlt, hz⟩ := hj
  obtain ⟨A2, c2, hv2, hr2⟩ := rd2_of_own h.2.2.2.2.1.1
  obtain ⟨b', o', he, _, h0, h1⟩ := hr2.at_ hlt
  rw [hv] at hv2
  injection hv2 with e1 e2 e3
  subst e1
  injection he with he
  injection he with e3 e4
  subst e3 e4
  rw [hz] at h0 h1
  rw [Nat.zero_add] at h0 h1
  exact ⟨h0, h1⟩
theorem TMid.frozen (h : TMid B b w0 v0 w s v y vb z vo o) (i : Nat) : w.frozen? ⟨b, i, none⟩ = false := by
  obtain ⟨⟨v1, hb⟩, _⟩ := h
  exact Blk.frozen hb i
theorem TMid.there (h : TMid B b w0 v0 w s v y vb z vo o) : ∃ x, w.cell? ⟨b, 6, none⟩ = some x := by
  obtain ⟨⟨v1, hb⟩, _⟩ := h
  exact ⟨v1, by rw [hb.cell]; rfl⟩
theorem TMid.store (h : TMid B b w0 v0 w s v y vb z vo o) : TSt B b w0 v0 (w.setCell ⟨b, 6, none⟩ v) (withBad s y) v vb z vo o := by
  obtain ⟨⟨v1, hb⟩, h1, h2, h3, h4, h5, ⟨h6, h7⟩, h8⟩ := h
  refine ⟨⟨Blk.set hb 6 v, h1, ?_⟩, h3, ?_, h5, ⟨?_, h7⟩, ?_⟩
  · exact own_set h2 (own_blk_ne h2 hb (by decide))
  · exact ⟨h4.os, h4.tape, h4.output, by simpa using h4.size, fun g hg hb hn => (heap_setCell_other w ⟨b, 6, none⟩ g v hb).trans (h4.block g hg hb hn)⟩
  · exact own_set h6 (own_blk_ne h6 hb (by decide))
  · exact own_set h8 (own_blk_ne h8 hb (by decide))
theorem TSt.rest (h : TSt B b w0 v0 w s v vb z vo o) (r : List UInt8) : TSt B b w0 v0 (w.setCell ⟨b, 0, none⟩ (.string ⟨r.toArray⟩)) { s with rest := r } v vb z vo o := by
  obtain ⟨⟨hb, h1, h2⟩, h3, h4, h5, ⟨h6, h7⟩, h8⟩ := h
  refine ⟨⟨Blk.set hb 0 _, h1, ?_⟩, h3, ?_, h5, ⟨?_, h7⟩, ?_⟩
  · exact own_set h2 (own_blk_ne h2 hb (by decide))
  · exact ⟨h4.os, h4.tape, h4.output, by simpa using h4.size, fun g hg hb hn => (heap_setCell_other w ⟨b, 0, none⟩ g _ hb).trans (h4.block g hg hb hn)⟩
  · exact own_set h6 (own_blk_ne h6 hb (by decide))
  · exact own_set h8 (own_blk_ne h8 hb (by decide))
theorem TSt.shut (h : TSt B b w0 v0 w s v vb z vo o) : TSt B b w0 v0 (w.setCell ⟨b, 5, none⟩ (.bool true)) { s with over := true } v vb z vo o := by
  obtain ⟨⟨hb, h1, h2⟩, h3, h4, h5, ⟨h6, h7⟩, h8⟩ := h
  refine ⟨⟨Blk.set hb 5 _, h1, ?_⟩, h3, ?_, h5, ⟨?_, h7⟩, ?_⟩
  · exact own_set h2 (own_blk_ne h2 hb (by decide))
  · exact ⟨h4.os, h4.tape, h4.output, by simpa using h4.size, fun g hg hb hn => (heap_setCell_other w ⟨b, 5, none⟩ g _ hb).trans (h4.block g hg hb hn)⟩
  · exact own_set h6 (own_blk_ne h6 hb (by decide))
  · exact own_set h8 (own_blk_ne h8 hb (by decide))
theorem TSt.frozen (h : TSt B b w0 v0 w s v vb z vo o) (i : Nat) : w.frozen? ⟨b, i, none⟩ = false := Blk.frozen h.1.1 i
theorem TSt.has0 (h : TSt B b w0 v0 w s v vb z vo o) : w.cell? ⟨b, 0, none⟩ = some (.string ⟨s.rest.toArray⟩) := by rw [h.1.1.cell]; rfl
theorem TSt.has5 (h : TSt B b w0 v0 w s v vb z vo o) : w.cell? ⟨b, 5, none⟩ = some (.bool s.over) := by rw [h.1.1.cell]; rfl
section
variable {ops : Array Oper} {oo : Oper} {a : Act} {Q : Exit → Act → World → Prop}
theorem step_tbad {K : Act → World → Prop} {E : Prop} (W : World) (hgd : oo.guard = none) (sl x : Operand) (ho : oo.op = .call { callee := .builtin .append, args := #[sl, x], argTypes := #[34, 34] })
    (hs : a.eval sl = v) (hst : TSt B b w0 v0 W s v vb z vo o) (p n : Nat) (H c : Nat) (hx : a.eval x = .slice (some ⟨H, 0, none⟩) 1 c) (hH : Blk W H FaultT #[.int .i64 p, .int .i64 n])
    (hsm : s.bad.length ≤ 3000000)
    (h : ∀ A' m' c' w', TMid B b w0 v0 w' s (.slice A' m' c') (s.bad ++ [(p, n)]) vb z vo o → (∀ g, g < W.heap.size → v.ownBlock ≠ some g → w'.heap[g]? = W.heap[g]?) → K (a.put oo.dst (.slice A' m' c')) w') : if Region.wanted oo (yielded ops a.tmps) = true then Oper.wp Tryd.prog oo a W K Q else E := by
  rw [if_pos (by simp [Region.wanted, hgd])]
  obtain ⟨i0, hi, hz0, hz1, hz2⟩ := info_parts infoFault
  obtain ⟨⟨hd, hB, h1⟩, h3, h4, h5, ⟨h6, h7⟩, h8⟩ := hst
  obtain ⟨v', w1, hr, hown, hgrow, _, hat⟩ := run_append_own_at (P := Tryd.prog) W B 34 oo.type FaultT i0 (.agg #[.int .i64 0, .int .i64 0]) 2 16 Tryd.underlying34 hi hz0 hz1 hz2 rfl (by decide) v s.bad.length (fcells s.bad) h1 ⟨H, 0, none⟩ 1 c [.int .i64 p, .int .i64 n] rfl
    (by
      intro j u hj
      match j, hj with
      | 0, hj => simp at hj; subst hj; simp [Addr.add, hH.cell]
      | 1, hj => simp at hj; subst hj; simp [Addr.add, hH.cell])
    (by intro u hu; simp at hu; rcases hu with rfl | rfl <;> rfl) (by unfold maxLen; omega) (by omega) (by have := hd.lt; omega)
  unfold Oper.wp execOp
  simp only [ho, resolve, invoke, builtin, Sem.run_bind, Sem.run_pure, Result.andThen_ok, List.map_toArray, List.map_cons, List.map_nil, hs, hx, hr]
  have hvb : vb.ownBlock = none ∨ vb.ownBlock ≠ v.ownBlock := by
    cases hv : vb.ownBlock with
    | none => exact .inl rfl
    | some g => exact .inr fun e => h7 g hv e.symm
  obtain ⟨A', m', c', rfl⟩ : ∃ A' m' c', v' = .slice A' m' c' := by
    rcases hown.2 with ⟨e, _⟩ | ⟨g, cap, cur, e, _⟩
    · exact ⟨_, _, _, e⟩
    · exact ⟨_, _, _, e⟩
  refine h A' m' c' w1 ⟨⟨v, (hgrow.block b hd.lt (fun e => own_blk_ne h1 hd (by decide) e.symm)).trans hd⟩, hB, by rw [fcells_append, List.length_append]; exact hown, h3, ?_, h5.next h4.size hat, ⟨h6.kept hgrow hvb, ?_⟩, h8.kept hgrow (own_own_ne h8 h1 (by decide))⟩ (fun g hg hn => hgrow.block g hg (fun e => hn e.symm))
  · refine ⟨hgrow.os.trans h4.os, hgrow.tape.trans h4.tape, hgrow.output.trans h4.output, Nat.le_trans h4.size hgrow.size, fun g hg hb hn => ?_⟩
    rw [hgrow.block g (Nat.lt_of_lt_of_le hg h4.size) ?_, h4.block g hg hb hn]
    intro e
    rcases h5 with h5 | ⟨g', e', hle⟩
    · exact hn (by rw [← h5, ← e])
    · rw [← e] at e'; injection e' with e'; omega
  · intro g hg
    rcases hat with e | e
    · rw [e]; exact h7 g hg
    · rw [e]
      have := (h6.lt g hg).2
      intro he; injection he with he; omega
end
theorem DecAt.still (h : DecAt B b w s v) : DecAt B b (w.setCell ⟨b, 4, none⟩ (.bool false)) { s with guess := false } v :=
  ⟨Blk.set h.1 4 _, h.2.1, own_set h.2.2 h.own_ne⟩
theorem DecAt.kinded (h : DecAt B b w s v) (k : Int) (r : List UInt8) : DecAt B b ((w.setCell ⟨b, 2, none⟩ (.int .i64 k)).setCell ⟨b, 0, none⟩ (.string ⟨r.toArray⟩)) { s with kind := k, rest := r } v :=
  ⟨Blk.set (Blk.set h.1 2 _) 0 _, h.2.1, own_set (own_set h.2.2 h.own_ne) h.own_ne⟩
/-- What take answers, and what it leaves. -/
def TakePost (B b : Nat) (w0 : World) (v0 : Value) (x : SSt × List Int × Int) (e : Ending) (w' : World) : Prop :=
  ∃ vo v', e = .returned (.tuple #[vo, .int .i64 x.2.2]) ∧ w'.ownsRow w0.heap.size RuneT 1 vo x.2.1.length (i32s x.2.1) ∧ DecAt B b w' x.1 v' ∧ Kept b v0 w0 w' ∧ Moved w0 v0 v'
theorem drop_str (l : List UInt8) (n : Nat) : (⟨l.toArray⟩ : ByteArray).extract n l.length = ⟨(l.drop n).toArray⟩ := by
  apply ByteArray.ext
  rw [ByteArray.data_extract]
  simp
  exact List.take_of_length_le (by simp)
theorem keep6 (h : TSt B b w0 v0 w s v vb z vo o) {e1 e2 : Int} {y : Obj} {w6 : World}
    (hk : ∀ g, g < ((w.alloc (.cells #[.int .i64 e1, .int .i64 e2] FaultT)).alloc y).drew.heap.size → v.ownBlock ≠ some g → w6.heap[g]? = ((w.alloc (.cells #[.int .i64 e1, .int .i64 e2] FaultT)).alloc y).drew.heap[g]?) :
    w6.cell? ⟨b, 6, none⟩ = some v ∧ w6.cell? ⟨w.heap.size, 0, none⟩ = some (.int .i64 e1) ∧ w6.cell? ⟨w.heap.size, 1, none⟩ = some (.int .i64 e2) := by
  have hs : ((w.alloc (.cells #[.int .i64 e1, .int .i64 e2] FaultT)).alloc y).drew.heap.size = w.heap.size + 2 := by simp [World.drew]
  rw [hs] at hk
  have h1 := hk b (by have := h.1.1.lt; omega) h.1.own_ne
  have h2 := hk w.heap.size (by omega) (fun e => by have := (h.1.2.2.lt _ e).2; omega)
  refine ⟨(World.cell?_of_block (a := ⟨b, 6, none⟩) h1).trans (((h.alloc _).alloc _).drew).cell6, ?_, ?_⟩
  · rw [World.cell?_of_block (a := ⟨w.heap.size, 0, none⟩) h2]; simp
  · rw [World.cell?_of_block (a := ⟨w.heap.size, 1, none⟩) h2]; simp
theorem blk_two (w : World) (x : Obj) (cs : Array Value) (T : TypeId) : Blk ((w.alloc x).alloc (.cells cs T)).drew (w.heap.size + 1) T cs := by
  have h := Blk.new (w.alloc x) T cs
  rw [show (w.alloc x).heap.size = w.heap.size + 1 from by simp] at h
  exact h
theorem withBad_length (s : SSt) (y : List (Nat × Nat)) : (withBad s y).bad.length = y.length := rfl
theorem shiftF_length (k : Nat) (y : List (Nat × Nat)) : (shiftF k y).length = y.length := by simp [shiftF]
theorem sdec_at (e : Bool) (s : SSt) : ∀ x ∈ (sdec e s).2.1, x.1 ≤ s.rest.length := by
  unfold sdec
  intro x hx
  have h := dec_at (snx s.kind) s.pol (fun t h => (snx_pos s.kind t h).2) (s.rest.take (slen e s)) x hx
  rw [List.length_take] at h
  omega
theorem all_any (t : ByteArray) (w : World) : Calls Tryd.prog 61 #[.string t] w fun e w' => e = .returned (.int .i64 t.size) ∧ w = w' := by
  go_enter Tryd.func61, Tryd.ntmps61
  go_wp2
  go_ret
  exact ⟨rfl, rfl⟩
end Go.Proofs.YtlfhmkjomogkiaaDoor.Str
