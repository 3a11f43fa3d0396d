/- Words for memory: appends to one of several lists, the others far from it. -/
import Derived.Test.YtlfhmkjomogkiaaDoorJoin
import Derived.Test.YtlfhmkjomogkiaaDoorPlain4
import Derived.Laws.AppendOwnNone
import Derived.Maps.AppendAt
namespace Go.Proofs.YtlfhmkjomogkiaaDoor
open Go.RowKit Pl

/-- A slice's block is not the row's. -/
def Far (A : Option Addr) (n : Nat) (v : Value) : Prop := 0 < n → ∀ p, A = some p → v.ownBlock ≠ some p.block
theorem Rd.grown {w w' : World} {A : Option Addr} {n : Nat} {xs : List Value} {v : Value} (h : Rd w A n xs) (hg : w.grownBy w' v.ownBlock) (hf : Far A n v) : Rd w' A n xs := by
  refine ⟨h.1, fun hn => ?_⟩
  obtain ⟨b, o, e, hlt, hc⟩ := h.2 hn
  refine ⟨b, o, e, Nat.lt_of_lt_of_le hlt hg.size, fun i x hx => ?_⟩
  exact hg.cell (hc i x hx) (fun he => hf hn _ e he.symm)
theorem Rd2.grown {w w' : World} {A : Option Addr} {n : Nat} {xs : List Value} {v : Value} (h : Rd2 w A n xs) (hg : w.grownBy w' v.ownBlock) (hf : Far A n v) : Rd2 w' A n xs := by
  refine ⟨h.1, fun hn => ?_⟩
  obtain ⟨b, o, e, hlt, hc⟩ := h.2 hn
  refine ⟨b, o, e, Nat.lt_of_lt_of_le hlt hg.size, fun i x hx => ?_⟩
  exact hg.cell (hc i x hx) (fun he => hf hn _ e he.symm)
theorem Far.next {w : World} {A : Option Addr} {n : Nat} {v v' : Value} (hf : Far A n v) (hA : 0 < n → ∃ b o, A = some ⟨b, o, none⟩ ∧ b < w.heap.size) (h : v'.ownBlock = v.ownBlock ∨ v'.ownBlock = some w.heap.size) : Far A n v' := by
  intro hn p hp
  rcases h with h | h
  · rw [h]; exact hf hn p hp
  · obtain ⟨b, o, e, hlt⟩ := hA hn
    rw [e] at hp
    injection hp with hp
    subst hp
    rw [h]
    intro he
    injection he with he
    simp at he
    omega
theorem Rd.there {w : World} {A : Option Addr} {n : Nat} {xs : List Value} (h : Rd w A n xs) : 0 < n → ∃ b o, A = some ⟨b, o, none⟩ ∧ b < w.heap.size := fun hn => by
  obtain ⟨b, o, e, hlt, _⟩ := h.2 hn
  exact ⟨b, o, e, hlt⟩
theorem Rd2.there {w : World} {A : Option Addr} {n : Nat} {xs : List Value} (h : Rd2 w A n xs) : 0 < n → ∃ b o, A = some ⟨b, o, none⟩ ∧ b < w.heap.size := fun hn => by
  obtain ⟨b, o, e, hlt, _⟩ := h.2 hn
  exact ⟨b, o, e, hlt⟩
/-- A row that is newer than a slice's block. -/
theorem Far.newer {w w' : World} {A : Option Addr} {n : Nat} {v : Value} {B e sz m : Nat} {xs : List Value} (hA : 0 < n → ∃ b o, A = some ⟨b, o, none⟩ ∧ b < w.heap.size) (h : w'.ownsRow B e sz v m xs) (hB : w.heap.size ≤ B) : Far A n v := by
  intro hn p hp hv
  obtain ⟨b, o, hb, hlt⟩ := hA hn
  rw [hb] at hp
  injection hp with hp
  subst hp
  have := (h.lt _ hv).1
  simp at this
  omega
/-- A row that is older than a slice's own row. -/
theorem Far.older {w w' : World} {A : Option Addr} {n c : Nat} {v : Value} {B e sz m B' e' sz' : Nat} {xs ys : List Value} (h : w.ownsRow B e sz v m xs) (h' : w'.ownsRow B' e' sz' (.slice A n c) n ys) (hB : w.heap.size ≤ B') : Far A n v := by
  intro hn p hp hv
  subst hp
  have h1 := (h.lt _ hv).2
  have h2 := (h'.lt p.block rfl).1
  omega
theorem own_there {w : World} {B e sz n : Nat} {v : Value} {xs : List Value} (h : w.ownsRow B e sz v n xs) (g : Nat) (hg : v.ownBlock = some g) : g < w.heap.size := (h.lt g hg).2
section
variable {ops : Array Oper} {rest : List Oper} {oo : Oper} {a : Act} {Q : Exit → Act → World → Prop}
/-- 'b = append(b, c...)' of two rows of characters. -/
theorem wpList_outs (w : World) (hgd : oo.guard = none) (s x : Operand) (ho : oo.op = .call { callee := .builtin .append, args := #[s, x], argTypes := #[27, 27] })
    (B : Nat) (v : Value) (o : List Int) (hs : a.eval s = v) (h1 : w.ownsRow B RuneT 1 v o.length (i32s o)) (hB : B ≤ w.heap.size) (B2 : Nat) (vc : Value) (c : List Int) (hx : a.eval x = vc) (h2 : w.ownsRow B2 RuneT 1 vc c.length (i32s c))
    (hsm : o.length + c.length ≤ 1000000)
    (h : ∀ v' w', w'.ownsRow B RuneT 1 v' (o ++ c).length (i32s (o ++ c)) → w.grownBy w' v.ownBlock → (v'.ownBlock = v.ownBlock ∨ v'.ownBlock = some w.heap.size) → wpList Tryd.prog ops Q rest (a.put oo.dst v') w') : wpList Tryd.prog ops Q (oo :: rest) a w := by
  obtain ⟨i0, hi, hz0, hz1, hz2⟩ := info_parts infoRune
  rcases h2.2 with ⟨rfl, hc0⟩ | ⟨g, cap, cur, rfl, hg, hh, _⟩
  · have : c = [] := List.eq_nil_of_length_eq_zero hc0
    subst this
    rw [List.append_nil] at h
    exact wpList_append_own_none hgd s x 27 ho B RuneT i0 1 Tryd.underlying27 hi v o.length (i32s o) hs h1 hx (h v w h1 ⟨rfl, rfl, rfl, Nat.le_refl _, fun _ _ _ => rfl⟩ (.inl rfl))
  · refine wpList_append_own_at _ hgd s x 27 ho B RuneT i0 (.int .i32 0) 1 4 Tryd.underlying27 hi hz0 hz1 hz2 rfl (by decide) v o.length (i32s o) hs h1 ⟨g, 0, none⟩ c.length cap (i32s c) hx (by rw [i32s_length, Nat.mul_one]) ?_ ?_ ?_ ?_ hB ?_
    · exact fun j u hu => h2.cells (g := g) rfl j u hu
    · intro u hu
      obtain ⟨r, _, rfl⟩ := List.mem_map.1 hu
      rfl
    · unfold maxLen; omega
    · omega
    · intro v' w1 hown hgrow _ hat
      exact h v' w1 (by rw [i32s_append, List.length_append]; exact hown) hgrow hat
/-- Two own rows, and what is read besides. -/
def JSt (B : Nat) (w0 w : World) (vb : Value) (b : List Int) (vy : Value) (y : List (Nat × Nat)) (A1 : Option Addr) (p : List Int) (A2 : Option Addr) (x : List (Nat × Nat)) (A6 : Option Addr) (z : List (Nat × Nat)) : Prop :=
  (w.ownsRow B RuneT 1 vb b.length (i32s b) ∧ w.ownsRow B FaultT 2 vy y.length (fcells y)) ∧ (Rd w A1 p.length (i32s p) ∧ Far A1 p.length vy) ∧ (Rd2 w A2 x.length (fcells x) ∧ Far A2 x.length vy) ∧ (Rd2 w A6 z.length (fcells z) ∧ Far A6 z.length vy) ∧
    Below w0.heap.size w0 w ∧ w0.heap.size ≤ B ∧ B ≤ w.heap.size
theorem JSt.alloc {B : Nat} {w0 w : World} {vb : Value} {b : List Int} {vy : Value} {y : List (Nat × Nat)} {A1 : Option Addr} {p : List Int} {A2 : Option Addr} {x : List (Nat × Nat)} {A6 : Option Addr} {z : List (Nat × Nat)}
    (h : JSt B w0 w vb b vy y A1 p A2 x A6 z) (o : Obj) : JSt B w0 (w.alloc o) vb b vy y A1 p A2 x A6 z := by
  obtain ⟨⟨h1, h2⟩, ⟨r1, f1⟩, ⟨r2, f2⟩, ⟨r6, f6⟩, hb, hB, hB2⟩ := h
  have hba : Below w.heap.size w (w.alloc o) := (Below.refl _ _).alloc (Nat.le_refl _) _
  exact ⟨⟨h1.alloc _, h2.alloc _⟩, ⟨r1.keep hba, f1⟩, ⟨r2.keep hba, f2⟩, ⟨r6.keep hba, f6⟩, hb.trans (hba.mono hb.size), hB, Nat.le_trans hB2 hba.size⟩
theorem JSt.drew {B : Nat} {w0 w : World} {vb : Value} {b : List Int} {vy : Value} {y : List (Nat × Nat)} {A1 : Option Addr} {p : List Int} {A2 : Option Addr} {x : List (Nat × Nat)} {A6 : Option Addr} {z : List (Nat × Nat)}
    (h : JSt B w0 w vb b vy y A1 p A2 x A6 z) : JSt B w0 w.drew vb b vy y A1 p A2 x A6 z := ⟨h.1, h.2.1, h.2.2.1, h.2.2.2.1, h.2.2.2.2.1.drew, h.2.2.2.2.2⟩
/-- 'y = append(y, api.Fault(p, n))' at a step of a region that draws. -/
theorem step_jbad {K : Act → World → Prop} {E : Prop} (w0 W : World) (hgd : oo.guard = none) (s x : Operand) (ho : oo.op = .call { callee := .builtin .append, args := #[s, x], argTypes := #[34, 34] })
    (B : Nat) (vb : Value) (b : List Int) (vy : Value) (y : List (Nat × Nat)) (A1 : Option Addr) (pl : List Int) (A2 : Option Addr) (xl : List (Nat × Nat)) (A6 : Option Addr) (zl : List (Nat × Nat))
    (hs : a.eval s = vy) (hst : JSt B w0 W vb b vy y A1 pl A2 xl A6 zl) (p n : Nat) (H c : Nat) (hx : a.eval x = .slice (some ⟨H, 0, none⟩) 1 c) (hH : Blk W H FaultT #[.int .i64 p, .int .i64 n])
    (hsm : y.length ≤ 1000000)
    (h : ∀ v' w', JSt B w0 w' vb b v' (y ++ [(p, n)]) A1 pl A2 xl A6 zl → K (a.put oo.dst v') w') : if Region.wanted oo (yielded ops a.tmps) = true then Oper.wp Tryd.prog oo a W K Q else E := by
  rw [if_pos (by simp [Region.wanted, hgd])]
  obtain ⟨i0, hi, hz0, hz1, hz2⟩ := info_parts infoFault
  obtain ⟨⟨h1, h2⟩, ⟨r1, f1⟩, ⟨r2, f2⟩, ⟨r6, f6⟩, hb, hB, hB2⟩ := hst
  obtain ⟨v', w1, hr, hown, hgrow, _, hat⟩ := run_append_own_at (P := Tryd.prog) W B 34 oo.type FaultT i0 (.agg #[.int .i64 0, .int .i64 0]) 2 16 Tryd.underlying34 hi hz0 hz1 hz2 rfl (by decide) vy y.length (fcells y) h2 ⟨H, 0, none⟩ 1 c [.int .i64 p, .int .i64 n] rfl
    (by
      intro j u hj
      match j, hj with
      | 0, hj => simp at hj; subst hj; simp [Addr.add, hH.cell]
      | 1, hj => simp at hj; subst hj; simp [Addr.add, hH.cell])
    (by intro u hu; simp at hu; rcases hu with rfl | rfl <;> rfl) (by unfold maxLen; omega) (by omega) hB2
  unfold Oper.wp execOp
  simp only [ho, resolve, invoke, builtin, Sem.run_bind, Sem.run_pure, Result.andThen_ok, List.map_toArray, List.map_cons, List.map_nil, hs, hx, hr]
  refine h v' w1 ⟨⟨?_, by rw [fcells_append, List.length_append]; exact hown⟩, ⟨r1.grown hgrow f1, f1.next r1.there hat⟩, ⟨r2.grown hgrow f2, f2.next r2.there hat⟩, ⟨r6.grown hgrow f6, f6.next r6.there hat⟩, ?_, hB, ?_⟩
  · exact h1.kept hgrow (own_own_ne h1 h2 (by decide))
  · exact hb.grown hgrow hb.size (fun k hk => Nat.le_trans hB (h2.lt k hk).1)
  · exact Nat.le_trans hB2 hgrow.size
end
theorem shiftF_take (k : Nat) (z : List (Nat × Nat)) (j : Nat) (h : j < z.length) : shiftF k (z.take (j + 1)) = shiftF k (z.take j) ++ [(k + z[j].1, z[j].2)] := by
  unfold shiftF; rw [List.take_succ_eq_append_getElem h, List.map_append]; rfl

theorem JSt.outs {B : Nat} {w0 w w' : World} {vb v' : Value} {b b' : List Int} {vy : Value} {y : List (Nat × Nat)} {A1 : Option Addr} {p : List Int} {A2 : Option Addr} {x : List (Nat × Nat)} {A6 : Option Addr} {z : List (Nat × Nat)}
    (h : JSt B w0 w vb b vy y A1 p A2 x A6 z) (g1 : Far A1 p.length vb) (g2 : Far A2 x.length vb) (g6 : Far A6 z.length vb) (ho : w'.ownsRow B RuneT 1 v' b'.length (i32s b')) (hg : w.grownBy w' vb.ownBlock) : JSt B w0 w' v' b' vy y A1 p A2 x A6 z := by
  obtain ⟨⟨h1, h2⟩, ⟨r1, f1⟩, ⟨r2, f2⟩, ⟨r6, f6⟩, hb, hB, hB2⟩ := h
  exact ⟨⟨ho, h2.kept hg (own_own_ne h2 h1 (by decide))⟩, ⟨r1.grown hg g1, f1⟩, ⟨r2.grown hg g2, f2⟩, ⟨r6.grown hg g6, f6⟩, hb.grown hg hb.size (fun k hk => Nat.le_trans hB (h1.lt k hk).1), hB, Nat.le_trans hB2 hg.size⟩
theorem JSt.z_at {B : Nat} {w0 w : World} {vb : Value} {b : List Int} {vy : Value} {y : List (Nat × Nat)} {A1 : Option Addr} {p : List Int} {A2 : Option Addr} {x : List (Nat × Nat)} {bk o : Nat} {z : List (Nat × Nat)}
    (h : JSt B w0 w vb b vy y A1 p A2 x (some ⟨bk, o, none⟩) z) {j e1 e2 : Nat} (hj : ∃ hlt : j < z.length, z[j] = (e1, e2)) : w.cell? ⟨bk, o + j * 2, none⟩ = some (.int .i64 e1) ∧ w.cell? ⟨bk, o + j * 2 + 1, none⟩ = some (.int .i64 e2) := by
  obtain ⟨hlt, hz⟩ := hj
  obtain ⟨b', o', he, _, h0, h1⟩ := h.2.2.2.1.1.at_ hlt
  injection he with he
  injection he with e3 e4
  subst e3 e4
  rw [hz] at h0 h1
  exact ⟨h0, h1⟩

end Go.Proofs.YtlfhmkjomogkiaaDoor
