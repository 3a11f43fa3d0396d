/- Walk: (*single.Table).Byte; words: a builder beside a row of faults. -/
import Derived.Test.YtkphecmdilefgaaDoorG30
import Derived.Lib.OthersKept
namespace Go.Proofs.YtkphecmdilefgaaDoor.Sg
open Go.RowKit Pl Go.Lib

theorem tx_eq (l : List RowV) (hv : ∀ q ∈ l, wrong13 (plainR q) = 0) (b : UInt8) : tx l b.toNat = byteS (l.map plainR) b := by
  unfold tx byteS
  rw [← text_eq ⟨#[b]⟩ l hv]
  simp
set_option maxRecDepth 100000 in
set_option maxHeartbeats 1600000 in
theorem byteT_any (tb : Nat) (l : List RowV) (b : UInt8) (w : World) (h : TabOk w tb l) :
    Calls Tryd.prog 15 #[.pointer (some ⟨tb, 0, none⟩), .int .u8 (b.toNat : Int)] w fun e w' => e = .returned (.tuple #[.string (tx l b.toNat), .bool (!(tx l b.toNat).toList.isEmpty)]) ∧ Drew w w' := by
  obtain ⟨cs, h1, h2, h3⟩ := h.mem
  have hb : b.toNat < 256 := b.toNat_lt
  have hc : w.cell? ⟨tb, 1 + b.toNat, none⟩ = some (.string (tx l b.toNat)) := by rw [h1.cell]; exact h3 _ hb
  have hq : ∀ w, (binOp .eql 30 (.pointer (some ⟨tb, 0, none⟩)) (.pointer none)).run Tryd.prog w = .ok (.bool false) w := fun _ => rfl
  generalize tx l b.toNat = t at *
  generalize b.toNat = n at *
  have j0 : (0 : Int) ≤ (n : Int) := by omega
  have j1 : (n : Int) < 256 := by omega
  clear h h1 h2 h3
  cases he : t.toList.isEmpty
  · go_enter Tryd.func15, Tryd.ntmps15
    go_wp2_with fail
    go_quiet (fail)
    go_wp2_with fail
    go_returns
    exact ⟨rfl, _, rfl⟩
  · go_enter Tryd.func15, Tryd.ntmps15
    go_wp2_with fail
    go_quiet (fail)
    go_wp2_with fail
    go_returns
    exact ⟨rfl, _, rfl⟩
abbrev FaultT : TypeId := 47
abbrev BuilT : TypeId := 75
theorem infoFault : (Tryd.prog.info? FaultT).map (fun i => (i.zero, i.size, i.bytes)) = some (some (.agg #[.int .i64 0, .int .i64 0]), 2, 16) := by kernel_rfl
/-- Faults as cells. -/
def flts (f : List Nat) : List Value := f.flatMap fun (n : Nat) => [Value.int .i64 (n : Int), .int .i64 1]
theorem flts_append (a b : List Nat) : flts (a ++ b) = flts a ++ flts b := by simp [flts]
theorem flts_length (f : List Nat) : (flts f).length = f.length * 2 := by
  unfold flts
  induction f with
  | nil => rfl
  | cons a l ih => simp [ih]; omega
theorem flts_at : ∀ (f : List Nat) (k : Nat) (hk : k < f.length), (flts f)[k * 2]? = some (.int .i64 (f[k] : Int)) ∧ (flts f)[k * 2 + 1]? = some (.int .i64 1) := by
  intro f
  induction f with
  | nil => intro k hk; simp at hk
  | cons a ps ih =>
    intro k hk
    cases k with
    | zero => exact ⟨rfl, rfl⟩
    | succ k =>
      have h := ih k (by simpa using hk)
      have e : flts (a :: ps) = .int .i64 (a : Int) :: .int .i64 1 :: flts ps := rfl
      rw [e, show (k + 1) * 2 = k * 2 + 2 from by omega]
      simpa using h
/-- Rows of other types are left. -/
theorem own_others {w w' : World} {B e sz n b : Nat} {v : Value} {xs : List Value} (h : w.ownsRow B e sz v n xs) (hk : Lib.OthersKept ByteT (some b) w w') (hne : e ≠ ByteT) (hb : ∀ cs t fz, w.heap[b]? = some (Obj.cells cs t fz) → t ≠ e) : w'.ownsRow B e sz v n xs := by
  refine ⟨h.1, ?_⟩
  rcases h.2 with h1 | ⟨g, cap, cur, e1, hg, hh, h4⟩
  · exact .inl h1
  · refine .inr ⟨g, cap, cur, e1, hg, hk g _ hh (fun he => ?_) (fun c fz he => ?_), h4⟩
    · injection he with he
      subst he
      exact hb _ _ _ hh rfl
    · injection he with _ h2
      exact hne h2
/-- A builder is left by what turns a row of another type. -/
theorem builder_turn {w w' : World} {B b e n sz : Nat} {bs : List Value} {v : Value} {xs : List Value} (h : Lib.IsBuilderF BuilT ByteT B b bs w) (hv : w.ownsRow 0 e sz v n xs) (hg : w.grownBy w' v.ownBlock) (h1 : e ≠ ByteT) (h2 : e ≠ BuilT) : Lib.IsBuilderF BuilT ByteT B b bs w' := by
  have keep : ∀ (g : Nat) (cs : Array Value) (t : TypeId) (fz : Nat × Nat), t ≠ e → w.heap[g]? = some (Obj.cells cs t fz) → w'.heap[g]? = some (Obj.cells cs t fz) := by
    intro g cs t fz ht hh
    refine (hg.block g (Array.getElem?_eq_some_iff.1 hh).1 (fun he => ?_)).trans hh
    rcases hv.2 with ⟨h3, _⟩ | ⟨g', cap, cur, e1, _, hh', _⟩
    · rw [h3] at he; cases he
    · rw [e1] at he
      have : g = g' := by simpa [Value.ownBlock] using he
      subst this
      rw [hh'] at hh
      injection hh with hh
      injection hh with _ h4
      exact ht h4.symm
  have one : ∀ p, Lib.BuilderAtF BuilT ByteT B b p bs w → Lib.BuilderAtF BuilT ByteT B b p bs w' := by
    rintro p ⟨hB, u, hb, ho, hne⟩
    refine ⟨hB, u, keep _ _ _ _ (Ne.symm h2) hb, ⟨ho.1, ?_⟩, hne⟩
    rcases ho.2 with h3 | ⟨g, cap, cur, fz, e1, hg1, hh, h4⟩
    · exact .inl h3
    · exact .inr ⟨g, cap, cur, fz, e1, hg1, keep _ _ _ _ (Ne.symm h1) hh, h4⟩
  exact h.imp (one _) (one _)
theorem builder_keep {w w' : World} {B b : Nat} {bs : List Value} (h : Lib.IsBuilderF BuilT ByteT B b bs w) (hb : Below w.heap.size w w') : Lib.IsBuilderF BuilT ByteT B b bs w' := by
  have keep : ∀ (g : Nat) (cs : Array Value) (t : TypeId) (fz : Nat × Nat), w.heap[g]? = some (Obj.cells cs t fz) → w'.heap[g]? = some (Obj.cells cs t fz) := fun g cs t fz hh => (hb.block g (Array.getElem?_eq_some_iff.1 hh).1).trans hh
  have one : ∀ p, Lib.BuilderAtF BuilT ByteT B b p bs w → Lib.BuilderAtF BuilT ByteT B b p bs w' := by
    rintro p ⟨hB, u, hb, ho, hne⟩
    refine ⟨hB, u, keep _ _ _ _ hb, ⟨ho.1, ?_⟩, hne⟩
    rcases ho.2 with h3 | ⟨g, cap, cur, fz, e1, hg1, hh, h4⟩
    · exact .inl h3
    · exact .inr ⟨g, cap, cur, fz, e1, hg1, keep _ _ _ _ hh, h4⟩
  exact h.imp (one _) (one _)
theorem builder_type {w : World} {B b : Nat} {bs : List Value} (h : Lib.IsBuilderF BuilT ByteT B b bs w) : ∀ cs t fz, w.heap[b]? = some (Obj.cells cs t fz) → t = BuilT := by
  intro cs t fz hh
  rcases h with ⟨_, u, hb, _⟩ | ⟨_, u, hb, _⟩
  · rw [hb] at hh; injection hh with hh; injection hh with _ h2; exact h2.symm
  · rw [hb] at hh; injection hh with hh; injection hh with _ h2; exact h2.symm
theorem fresh_builder (w : World) : Lib.IsBuilderF BuilT ByteT w.heap.size w.heap.size (Lib.byteCells []) (w.alloc (.cells #[.pointer none, .slice none 0 0] BuilT)) := by
  refine .inl ⟨Nat.le_refl _, .slice none 0 0, heap_alloc_new w _, ?_, by simp [Value.ownBlock]⟩
  exact World.ownsRowF_of (World.ownsRow_nil _ _ _ _)
theorem byteCells_append (a b : List UInt8) : Lib.byteCells a ++ Lib.byteCells b = Lib.byteCells (a ++ b) := by simp [Lib.byteCells]
theorem bad_cells : Lib.runeCells 65533 = Lib.byteCells [239, 191, 189] := by rfl
section
variable {ops : Array Oper} {rest : List Oper} {oo : Oper} {a : Act} {Q : Exit → Act → World → Prop}
/-- 'faults = append(faults, Fault{i, 1})', beside a builder. -/
theorem wpList_fault (w : World) (hgd : oo.guard = none) (s x : Operand) (ho : oo.op = .call { callee := .builtin .append, args := #[s, x], argTypes := #[36, 36] })
    (B b : Nat) (bs : List Value) (v : Value) (f : List Nat) (hs : a.eval s = v) (hst : w.ownsRow B FaultT 2 v f.length (flts f)) (hbl : Lib.IsBuilderF BuilT ByteT B b bs w) (hB : B ≤ w.heap.size) (n : Nat)
    (c : Nat) (hx : a.eval x = .slice (some ⟨w.heap.size, 0, none⟩) 1 c) (hsm : f.length ≤ 1048576)
    (h : ∀ v' w', w'.ownsRow B FaultT 2 v' (f ++ [n]).length (flts (f ++ [n])) → Lib.IsBuilderF BuilT ByteT B b bs w' → Below B w w' → wpList Tryd.prog ops Q rest (a.put oo.dst v') w') : wpList Tryd.prog ops Q (oo :: rest) a (w.alloc (.cells #[.int .i64 (n : Int), .int .i64 1] FaultT)) := by
  obtain ⟨i0, hi, hz0, hz1, hz2⟩ := info_parts infoFault
  have hown' := hst.alloc (.cells #[.int .i64 (n : Int), .int .i64 1] FaultT)
  have hba : Below w.heap.size w (w.alloc (.cells #[.int .i64 (n : Int), .int .i64 1] FaultT)) := (Below.refl _ _).alloc (Nat.le_refl _) _
  refine wpList_append_own _ hgd s x 36 ho B FaultT i0 (.agg #[.int .i64 0, .int .i64 0]) 2 16 Tryd.underlying36 hi hz0 hz1 hz2 rfl (by decide) v f.length (flts f) hs hown' ⟨w.heap.size, 0, none⟩ 1 c [.int .i64 (n : Int), .int .i64 1] hx rfl ?_ ?_ ?_ ?_ ?_ ?_
  · intro j u hj
    match j, hj with
    | 0, hj => simp at hj; subst hj; simp [Addr.add]
    | 1, hj => simp at hj; subst hj; simp [Addr.add]
  · intro u hu; simp at hu; rcases hu with rfl | rfl <;> rfl
  · unfold maxLen; omega
  · omega
  · simp; omega
  · intro v' w1 hown1 hgrow _
    refine h v' w1 ?_ ?_ ?_
    · rw [flts_append, List.length_append]; exact hown1
    · exact builder_turn (builder_keep hbl hba) (own_low hown' (Nat.zero_le _)) hgrow (by decide) (by decide)
    · exact ((Below.refl B w).alloc hB _).grown hgrow (by simp; omega) (fun k hk => (hst.lt k hk).1)
end
end Go.Proofs.YtkphecmdilefgaaDoor.Sg
