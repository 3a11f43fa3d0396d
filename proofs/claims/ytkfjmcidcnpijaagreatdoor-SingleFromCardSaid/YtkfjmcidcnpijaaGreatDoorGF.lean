/- Joined of: G31, G32, G33, G34. -/
import Derived.Test.YtkfjmcidcnpijaaGreatDoorGI
import Derived.Lib.OthersKept
/- Walk: (*single.Table).Byte; words: a builder beside a row of faults. -/
namespace Go.Proofs.YtkfjmcidcnpijaaGreatDoor.Sg
open Go.RowKit Pl Go.Lib

theorem tx_eq (l : List RowV) (hv : ∀ q ∈ l, wrong13 (plainR q) = 0) (b : UInt8) : tx l b.toNat = byteS (l.map plainR) b := by
  unfold tx byteS
  rw [← text_eq ⟨#[b]⟩ l hv]
  simp
set_option maxRecDepth 100000 in
set_option maxHeartbeats 1600000 in
theorem byteT_any (tb : Nat) (l : List RowV) (b : UInt8) (w : World) (h : TabOk w tb l) :
    Calls Tryz.prog 6 #[.pointer (some ⟨tb, 0, none⟩), .int .u8 (b.toNat : Int)] w fun e w' => e = .returned (.tuple #[.string (tx l b.toNat), .bool (!(tx l b.toNat).toList.isEmpty)]) ∧ Drew w w' := by
  obtain ⟨cs, h1, h2, h3⟩ := h.mem
  have hb : b.toNat < 256 := b.toNat_lt
  have hc : w.cell? ⟨tb, 1 + b.toNat, none⟩ = some (.string (tx l b.toNat)) := by rw [h1.cell]; exact h3 _ hb
  have hq : ∀ w, (binOp .eql 23 (.pointer (some ⟨tb, 0, none⟩)) (.pointer none)).run Tryz.prog w = .ok (.bool false) w := fun _ => rfl
  generalize tx l b.toNat = t at *
  generalize b.toNat = n at *
  have j0 : (0 : Int) ≤ (n : Int) := by omega
  have j1 : (n : Int) < 256 := by omega
  clear h h1 h2 h3
  cases he : t.toList.isEmpty
  · go_enter Tryz.func6, Tryz.ntmps6
    go_wp2_with fail
    go_quiet (fail)
    go_wp2_with fail
    go_returns
    exact ⟨rfl, _, rfl⟩
  · go_enter Tryz.func6, Tryz.ntmps6
    go_wp2_with fail
    go_quiet (fail)
    go_wp2_with fail
    go_returns
    exact ⟨rfl, _, rfl⟩
abbrev FaultT : TypeId := 52
abbrev BuilT : TypeId := 59
theorem infoFault : (Tryz.prog.info? FaultT).map (fun i => (i.zero, i.size, i.bytes)) = some (some (.agg #[.int .i64 0, .int .i64 0]), 2, 16) := by kernel_rfl
/-- Faults as cells. -/
def flts (f : List Nat) : List Value := f.flatMap fun (n : Nat) => [Value.int .i64 (n : Int), .int .i64 1]
theorem flts_append (a b : List Nat) : flts (a ++ b) = flts a ++ flts b := by simp [flts]
theorem flts_length (f : List Nat) : (flts f).length = f.length * 2 := by
  unfold flts
  induction f with
  | nil => rfl
  | cons a l ih => simp [ih]; omega
theorem flts_at : ∀ (f : List Nat) (k : Nat) (hk : k < f.length), (flts f)[k * 2]? = some (.int .i64 (f[k] : Int)) ∧ (flts f)[k * 2 + 1]? = some (.int .i64 1) := by
  intro f
  induction f with
  | nil => intro k hk; simp at hk
  | cons a ps ih =>
    intro k hk
    cases k with
    | zero => exact ⟨rfl, rfl⟩
    | succ k =>
      have h := ih k (by simpa using hk)
      have e : flts (a :: ps) = .int .i64 (a : Int) :: .int .i64 1 :: flts ps := rfl
      rw [e, show (k + 1) * 2 = k * 2 + 2 from by omega]
      simpa using h
/-- Rows of other types are left. -/
theorem own_others {w w' : World} {B e sz n b : Nat} {v : Value} {xs : List Value} (h : w.ownsRow B e sz v n xs) (hk : Lib.OthersKept ByteT (some b) w w') (hne : e ≠ ByteT) (hb : ∀ cs t fz, w.heap[b]? = some (Obj.cells cs t fz) → t ≠ e) : w'.ownsRow B e sz v n xs := by
  refine ⟨h.1, ?_⟩
  rcases h.2 with h1 | ⟨g, cap, cur, e1, hg, hh, h4⟩
  · exact .inl h1
  · refine .inr ⟨g, cap, cur, e1, hg, hk g _ hh (fun he => ?_) (fun c fz he => ?_), h4⟩
    · injection he with he
      subst he
      exact hb _ _ _ hh rfl
    · injection he with _ h2
      exact hne h2
/-- A builder is left by what turns a row of another type. -/
theorem builder_turn {w w' : World} {B b e n sz : Nat} {bs : List Value} {v : Value} {xs : List Value} (h : Lib.IsBuilderF BuilT ByteT B b bs w) (hv : w.ownsRow 0 e sz v n xs) (hg : w.grownBy w' v.ownBlock) (h1 : e ≠ ByteT) (h2 : e ≠ BuilT) : Lib.IsBuilderF BuilT ByteT B b bs w' := by
  have keep : ∀ (g : Nat) (cs : Array Value) (t : TypeId) (fz : Nat × Nat), t ≠ e → w.heap[g]? = some (Obj.cells cs t fz) → w'.heap[g]? = some (Obj.cells cs t fz) := by
    intro g cs t fz ht hh
    refine (hg.block g (Array.getElem?_eq_some_iff.1 hh).1 (fun he => ?_)).trans hh
    rcases hv.2 with ⟨h3, _⟩ | ⟨g', cap, cur, e1, _, hh', _⟩
    · rw [h3] at he; cases he
    · rw [e1] at he
      have : g = g' := by simpa [Value.ownBlock] using he
      subst this
      rw [hh'] at hh
      injection hh with hh
      injection hh with _ h4
      exact ht h4.symm
  have one : ∀ p, Lib.BuilderAtF BuilT ByteT B b p bs w → Lib.BuilderAtF BuilT ByteT B b p bs w' := by
    rintro p ⟨hB, u, hb, ho, hne⟩
    refine ⟨hB, u, keep _ _ _ _ (Ne.symm h2) hb, ⟨ho.1, ?_⟩, hne⟩
    rcases ho.2 with h3 | ⟨g, cap, cur, fz, e1, hg1, hh, h4⟩
    · exact .inl h3
    · exact .inr ⟨g, cap, cur, fz, e1, hg1, keep _ _ _ _ (Ne.symm h1) hh, h4⟩
  exact h.imp (one _) (one _)
theorem builder_keep {w w' : World} {B b : Nat} {bs : List Value} (h : Lib.IsBuilderF BuilT ByteT B b bs w) (hb : Below w.heap.size w w') : Lib.IsBuilderF BuilT ByteT B b bs w' := by
  have keep : ∀ (g : Nat) (cs : Array Value) (t : TypeId) (fz : Nat × Nat), w.heap[g]? = some (Obj.cells cs t fz) → w'.heap[g]? = some (Obj.cells cs t fz) := fun g cs t fz hh => (hb.block g (Array.getElem?_eq_some_iff.1 hh).1).trans hh
  have one : ∀ p, Lib.BuilderAtF BuilT ByteT B b p bs w → Lib.BuilderAtF BuilT ByteT B b p bs w' := by
    rintro p ⟨hB, u, hb, ho, hne⟩
    refine ⟨hB, u, keep _ _ _ _ hb, ⟨ho.1, ?_⟩, hne⟩
    rcases ho.2 with h3 | ⟨g, cap, cur, fz, e1, hg1, hh, h4⟩
    · exact .inl h3
    · exact .inr ⟨g, cap, cur, fz, e1, hg1, keep _ _ _ _ hh, h4⟩
  exact h.imp (one _) (one _)
theorem builder_type {w : World} {B b : Nat} {bs : List Value} (h : Lib.IsBuilderF BuilT ByteT B b bs w) : ∀ cs t fz, w.heap[b]? = some (Obj.cells cs t fz) → t = BuilT := by
  intro cs t fz hh
  rcases h with ⟨_, u, hb, _⟩ | ⟨_, u, hb, _⟩
  · rw [hb] at hh; injection hh with hh; injection hh with _ h2; exact h2.symm
  · rw [hb] at hh; injection hh with hh; injection hh with _ h2; exact h2.symm
theorem fresh_builder (w : World) : Lib.IsBuilderF BuilT ByteT w.heap.size w.heap.size (Lib.byteCells []) (w.alloc (.cells #[.pointer none, .slice none 0 0] BuilT)) := by
  refine .inl ⟨Nat.le_refl _, .slice none 0 0, heap_alloc_new w _, ?_, by simp [Value.ownBlock]⟩
  exact World.ownsRowF_of (World.ownsRow_nil _ _ _ _)
theorem byteCells_append (a b : List UInt8) : Lib.byteCells a ++ Lib.byteCells b = Lib.byteCells (a ++ b) := by simp [Lib.byteCells]
theorem bad_cells : Lib.runeCells 65533 = Lib.byteCells [239, 191, 189] := by rfl
section
variable {ops : Array Oper} {rest : List Oper} {oo : Oper} {a : Act} {Q : Exit → Act → World → Prop}
/-- 'faults = append(faults, Fault{i, 1})', beside a builder. -/
theorem wpList_fault (w : World) (hgd : oo.guard = none) (s x : Operand) (ho : oo.op = .call { callee := .builtin .append, args := #[s, x], argTypes := #[26, 26] })
    (B b : Nat) (bs : List Value) (v : Value) (f : List Nat) (hs : a.eval s = v) (hst : w.ownsRow B FaultT 2 v f.length (flts f)) (hbl : Lib.IsBuilderF BuilT ByteT B b bs w) (hB : B ≤ w.heap.size) (n : Nat)
    (c : Nat) (hx : a.eval x = .slice (some ⟨w.heap.size, 0, none⟩) 1 c) (hsm : f.length ≤ 1048576)
    (h : ∀ v' w', w'.ownsRow B FaultT 2 v' (f ++ [n]).length (flts (f ++ [n])) → Lib.IsBuilderF BuilT ByteT B b bs w' → Below B w w' → wpList Tryz.prog ops Q rest (a.put oo.dst v') w') : wpList Tryz.prog ops Q (oo :: rest) a (w.alloc (.cells #[.int .i64 (n : Int), .int .i64 1] FaultT)) := by
  obtain ⟨i0, hi, hz0, hz1, hz2⟩ := info_parts infoFault
  have hown' := hst.alloc (.cells #[.int .i64 (n : Int), .int .i64 1] FaultT)
  have hba : Below w.heap.size w (w.alloc (.cells #[.int .i64 (n : Int), .int .i64 1] FaultT)) := (Below.refl _ _).alloc (Nat.le_refl _) _
  refine wpList_append_own _ hgd s x 26 ho B FaultT i0 (.agg #[.int .i64 0, .int .i64 0]) 2 16 Tryz.underlying26 hi hz0 hz1 hz2 rfl (by decide) v f.length (flts f) hs hown' ⟨w.heap.size, 0, none⟩ 1 c [.int .i64 (n : Int), .int .i64 1] hx rfl ?_ ?_ ?_ ?_ ?_ ?_
  · intro j u hj
    match j, hj with
    | 0, hj => simp at hj; subst hj; simp [Addr.add]
    | 1, hj => simp at hj; subst hj; simp [Addr.add]
  · intro u hu; simp at hu; rcases hu with rfl | rfl <;> rfl
  · unfold maxLen; omega
  · omega
  · simp; omega
  · intro v' w1 hown1 hgrow _
    refine h v' w1 ?_ ?_ ?_
    · rw [flts_append, List.length_append]; exact hown1
    · exact builder_turn (builder_keep hbl hba) (own_low hown' (Nat.zero_le _)) hgrow (by decide) (by decide)
    · exact ((Below.refl B w).alloc hB _).grown hgrow (by simp; omega) (fun k hk => (hst.lt k hk).1)
end
end Go.Proofs.YtkfjmcidcnpijaaGreatDoor.Sg
/- Walk: (*single.Table).Decode. -/
namespace Go.Proofs.YtkfjmcidcnpijaaGreatDoor.Sg
open Go.RowKit Pl Go.Lib

def DecPostT (w : World) (x : List UInt8 × List Nat × Int) (e : Ending) (w' : World) : Prop :=
  ∃ v, e = .returned (.tuple #[.string ⟨x.1.toArray⟩, v, .int .i64 x.2.2]) ∧ w'.ownsRow w.heap.size FaultT 2 v x.2.1.length (flts x.2.1) ∧ Below w.heap.size w w'
set_option maxRecDepth 100000 in
theorem decodeT_kind (tb : Nat) (pol : Int) (hp : pol < 1 ∨ 3 < pol) (s : ByteArray) (w : World) :
    Calls Tryz.prog 7 #[.pointer (some ⟨tb, 0, none⟩), .int .i64 pol, .string s] w fun e w' => e = .returned (.tuple #[.string ⟨#[]⟩, .slice none 0 0, .int .i64 16]) ∧ w = w' := by
  have hq : ∀ w, (binOp .eql 23 (.pointer (some ⟨tb, 0, none⟩)) (.pointer none)).run Tryz.prog w = .ok (.bool false) w := fun _ => rfl
  by_cases h : pol < 1
  · have e1 : decide (pol < 1) = true := decide_eq_true h
    clear h hp
    go_enter Tryz.func7, Tryz.ntmps7
    go_wp2_with fail
    go_returns
    exact ⟨rfl, rfl⟩
  · have e1 : decide (pol < 1) = false := decide_eq_false h
    have e2 : decide (3 < pol) = true := decide_eq_true (by omega)
    clear h hp
    go_enter Tryz.func7, Tryz.ntmps7
    go_wp2_with fail
    go_returns
    exact ⟨rfl, rfl⟩
set_option maxRecDepth 100000 in
set_option maxHeartbeats 6400000 in
theorem decodeT_any (tb : Nat) (l : List RowV) (pol : Int) (hp1 : 1 ≤ pol) (hp3 : pol ≤ 3) (s : ByteArray) (w : World) (hT : TabOk w tb l) (hs : s.size ≤ 1000) (hB : ∀ b : UInt8, (tx l b.toNat).size ≤ 1000) :
    Calls Tryz.prog 7 #[.pointer (some ⟨tb, 0, none⟩), .int .i64 pol, .string s] w (DecPostT w (decGo (fun b => (tx l b.toNat).data.toList) pol 0 s.data.toList)) := by
  obtain ⟨Z, hZ⟩ : ∃ Z, decGo (fun b => (tx l b.toNat).data.toList) pol 0 s.data.toList = Z := ⟨_, rfl⟩
  rw [hZ]
  have hq : ∀ w, (binOp .eql 23 (.pointer (some ⟨tb, 0, none⟩)) (.pointer none)).run Tryz.prog w = .ok (.bool false) w := fun _ => rfl
  have e1 : decide (pol < 1) = false := decide_eq_false (by omega)
  have e2 : decide (3 < pol) = false := decide_eq_false (by omega)
  have HT := Lib.hid hT
  have HB := Lib.hid hB
  have HZ : Hid (decGo (fun b => (tx l b.toNat).data.toList) pol 0 (s.data.toList.drop 0) = Z) := Lib.hid hZ
  have hl : s.data.toList.length = s.size := by simp
  have HFB := Lib.hid (fresh_builder w)
  have HBW0 : Hid (Below w.heap.size w (w.alloc (.cells #[.pointer none, .slice none 0 0] BuilT))) := Lib.hid ((Below.refl _ _).alloc (Nat.le_refl _) _)
  clear hT hB hZ hp1 hp3
  go_enter Tryz.func7, Tryz.ntmps7
  go_wp2_with fail
  go_loopw [10, 26] (fun vf vi wr => ∃ (i : Nat) (o : List UInt8) (f : List Nat), i ≤ s.size ∧ vi = .int .i64 i ∧ Lib.IsBuilderF BuilT ByteT w.heap.size w.heap.size (Lib.byteCells o) wr ∧ o.length ≤ 2000 * i ∧ f.length ≤ i ∧ wr.ownsRow w.heap.size FaultT 2 vf f.length (flts f) ∧ Below w.heap.size w wr ∧
      (o ++ (decGo (fun b => (tx l b.toNat).data.toList) pol i (s.data.toList.drop i)).1, f ++ (decGo (fun b => (tx l b.toNat).data.toList) pol i (s.data.toList.drop i)).2.1, (decGo (fun b => (tx l b.toNat).data.toList) pol i (s.data.toList.drop i)).2.2) = Z) (fun _ vi _ => s.size - (RowKit.intOf vi).toNat)
  case atStart => exact ⟨0, [], [], Nat.zero_le _, rfl, HFB.out, by simp, by simp, World.ownsRow_nil _ _ _ _, HBW0.out, by rw [List.nil_append, List.nil_append]; exact HZ.out⟩
  case round =>
    obtain ⟨i, o, f, hi, rfl, hbl, hol, hfl, ho, hb, hz⟩ := hrel
    by_cases hlt : i < s.size
    · rw [decGo_at _ pol s.data.toList i (by rw [hl]; exact hlt)] at hz
      have hbt := byte_at s i hlt
      have hby := byteT_any tb l s.data.toList[i] wr (HT.out.keep hb)
      have hbs := HB.out s.data.toList[i]
      rw [hbt] at hby hz hbs
      obtain ⟨⟨r1, r2, r3⟩, hrq⟩ : ∃ R, decGo (fun b => (tx l b.toNat).data.toList) pol (i + 1) (s.data.toList.drop (i + 1)) = R := ⟨_, rfl⟩
      rw [hrq] at hz
      have HRQ := Lib.hid hrq
      have HBL := Lib.hid hbl
      have HO := Lib.hid ho
      have HBW := Lib.hid hb
      clear hrq hbt hbl ho hb
      obtain ⟨tt, htt⟩ : ∃ t, tx l s[i].toNat = t := ⟨_, rfl⟩
      rw [htt] at hby hz hbs
      clear htt
      have H15 := Lib.hid hby
      have hz1 : tt.data.toList.length = tt.size := by simp
      have j0 : (0 : Int) ≤ (i : Int) := by omega
      have j1 : (i : Int) < (s.size : Int) := by omega
      have hsz : w.heap.size ≤ wr.heap.size := HBW.out.size
      clear hby
      by_cases ht : tt.data.toList = []
      · rw [if_neg (by simp [ht])] at hz
        have hte : tt.toList.isEmpty = true := by rw [ByteArray.toList_eq, ht]; rfl
        rw [hte] at H15
        have HTE := Lib.hid ht
        have HZ2 := Lib.hid hz
        clear ht hz hte
        go_wp2_with fail
        refine H15.out.mono ?_
        rintro _ w1 ⟨rfl, m, rfl⟩
        have HWS := Lib.hid (writeString_k w.heap.size w.heap.size (Lib.byteCells o) tt (wr.drewN m) (builder_keep HBL.out (bdN (Below.refl _ _) m)) (by rw [Lib.byteCells_length]; omega) hsz)
        go_wp2_with fail
        refine HWS.out.mono ?_
        rintro _ w2 ⟨rfl, hb2, hbb, hot⟩
        have HO2 := Lib.hid (own_others (own_below HO.out (bdN (Below.refl _ _) m)) hot (by decide) (fun cs t fz hh => by have := builder_type (builder_keep HBL.out (bdN (Below.refl _ _) m)) cs t fz hh; subst this; decide))
        have HBL2 : Hid (Lib.IsBuilderF BuilT ByteT w.heap.size w.heap.size (Lib.byteCells o) w2) := Lib.hid (.inr (by rw [Lib.strCells_eq, HTE.out] at hb2; simpa [Lib.byteCells] using hb2))
        have HBW2 := Lib.hid ((bdN HBW.out m).trans hbb)
        clear hb2 hbb hot HWS H15 HBL HO HBW
        by_cases hp : pol = 1
        · have p1 : (pol == 1) = true := by simp [hp]
          have hz : (o ++ [], f ++ [i], (17 : Int)) = Z := by rw [← HZ2.out, if_pos hp]
          rw [List.append_nil] at hz
          subst hz
          have HBS := Lib.hid (fun (w3 : World) (h3 : Lib.IsBuilderF BuilT ByteT w.heap.size w.heap.size (Lib.byteCells o) w3) (hsz : w.heap.size ≤ w3.heap.size) => builderString_k w.heap.size w.heap.size o w3 h3 hsz)
          clear hp
          go_wp2_with (at_builtin; go_loud (refine wpList_fault w2 rfl _ _ rfl w.heap.size w.heap.size (Lib.byteCells o) u10 f rfl HO2.out HBL2.out HBW2.out.size i _ rfl (by omega) ?_); intro v3 w3 ho3 hbl3 hb3; have HO3 := Lib.hid ho3; have HBL3 := Lib.hid hbl3; have HBW3 := Lib.hid (HBW2.out.trans hb3); clear ho3 hbl3 hb3)
          refine (HBS.out _ HBL3.out HBW3.out.size).mono ?_
          rintro _ w4 ⟨rfl, hbl4, hb4, hot4⟩
          have HO4 := Lib.hid (own_others HO3.out hot4 (by decide) (fun cs t fz hh => by have := builder_type HBL3.out cs t fz hh; subst this; decide))
          have HBW4 := Lib.hid (HBW3.out.trans hb4)
          obtain ⟨A3, n3, c3, rfl⟩ := own_slice HO4.out
          clear hbl4 hb4 hot4
          go_wp2_with fail
          go_returns
          exact ⟨_, rfl, HO4.out, HBW4.out⟩
        · have p1 : (pol == 1) = false := by simp [hp]
          have hz := HZ2.out
          rw [if_neg hp] at hz
          by_cases hp2 : pol = 2
          · have p2 : (pol == 2) = true := by simp [hp2]
            rw [if_pos hp2] at hz
            have HZ3 := Lib.hid hz
            have HWR := Lib.hid (fun (w3 : World) (h3 : Lib.IsBuilderF BuilT ByteT w.heap.size w.heap.size (Lib.byteCells o) w3) (hsz : w.heap.size ≤ w3.heap.size) => writeRune_k w.heap.size w.heap.size (Lib.byteCells o) 65533 (by decide) (by decide) w3 h3 (by rw [Lib.byteCells_length]; omega) hsz)
            clear hp hp2 hz
            go_wp2_with (at_builtin; go_loud (refine wpList_fault w2 rfl _ _ rfl w.heap.size w.heap.size (Lib.byteCells o) u10 f rfl HO2.out HBL2.out HBW2.out.size i _ rfl (by omega) ?_); intro v3 w3 ho3 hbl3 hb3; have HO3 := Lib.hid ho3; have HBL3 := Lib.hid hbl3; have HBW3 := Lib.hid (HBW2.out.trans hb3); clear ho3 hbl3 hb3)
            refine (HWR.out _ HBL3.out HBW3.out.size).mono ?_
            rintro _ w4 ⟨rfl, hbl4, hb4, hot4⟩
            have HO4 := Lib.hid (own_others HO3.out hot4 (by decide) (fun cs t fz hh => by have := builder_type HBL3.out cs t fz hh; subst this; decide))
            have HBW4 := Lib.hid (HBW3.out.trans hb4)
            have HBL4 : Hid (Lib.IsBuilderF BuilT ByteT w.heap.size w.heap.size (Lib.byteCells (o ++ [239, 191, 189])) w4) := Lib.hid (.inr (by rw [bad_cells, byteCells_append] at hbl4; exact hbl4))
            clear hbl4 hb4 hot4
            go_wp2_with fail
            go_roundw
            case rel =>
              refine ⟨i + 1, o ++ [239, 191, 189], f ++ [i], by omega, by go_num, HBL4.out, by simp; omega, by simp; omega, HO4.out, HBW4.out, ?_⟩
              rw [HRQ.out, List.append_assoc, List.append_assoc]; exact HZ3.out
            case measure => simp [RowKit.intOf]; omega
          · have p2 : (pol == 2) = false := by simp [hp2]
            rw [if_neg hp2, List.nil_append] at hz
            have HZ3 := Lib.hid hz
            clear hp hp2 hz
            go_wp2_with (at_builtin; go_loud (refine wpList_fault w2 rfl _ _ rfl w.heap.size w.heap.size (Lib.byteCells o) u10 f rfl HO2.out HBL2.out HBW2.out.size i _ rfl (by omega) ?_); intro v3 w3 ho3 hbl3 hb3; have HO3 := Lib.hid ho3; have HBL3 := Lib.hid hbl3; have HBW3 := Lib.hid (HBW2.out.trans hb3); clear ho3 hbl3 hb3)
            go_roundw
            case rel => exact ⟨i + 1, o, f ++ [i], by omega, by go_num, HBL3.out, by omega, by simp; omega, HO3.out, HBW3.out, by rw [HRQ.out, List.append_assoc]; exact HZ3.out⟩
            case measure => simp [RowKit.intOf]; omega
      · rw [if_pos ht] at hz
        have HZ2 := Lib.hid hz
        have hte : tt.toList.isEmpty = false := by rw [ByteArray.toList_eq]; simpa using ht
        rw [hte] at H15
        clear hz ht hte
        go_wp2_with fail
        refine H15.out.mono ?_
        rintro _ w1 ⟨rfl, m, rfl⟩
        have HWS := Lib.hid (writeString_k w.heap.size w.heap.size (Lib.byteCells o) tt (wr.drewN m) (builder_keep HBL.out (bdN (Below.refl _ _) m)) (by rw [Lib.byteCells_length]; omega) hsz)
        go_wp2_with fail
        refine HWS.out.mono ?_
        rintro _ w2 ⟨rfl, hb2, hbb, hot⟩
        have HO2 := Lib.hid (own_others (own_below HO.out (bdN (Below.refl _ _) m)) hot (by decide) (fun cs t fz hh => by have := builder_type (builder_keep HBL.out (bdN (Below.refl _ _) m)) cs t fz hh; subst this; decide))
        have HBL2 : Hid (Lib.IsBuilderF BuilT ByteT w.heap.size w.heap.size (Lib.byteCells (o ++ tt.data.toList)) w2) := Lib.hid (.inr (by rw [Lib.strCells_eq, byteCells_append] at hb2; exact hb2))
        have HBW2 := Lib.hid ((bdN HBW.out m).trans hbb)
        clear hb2 hbb hot HWS H15 HBL HO HBW
        go_wp2_with fail
        go_roundw
        case rel => exact ⟨i + 1, o ++ tt.data.toList, f, by omega, by go_num, HBL2.out, by simp; omega, by omega, HO2.out, HBW2.out, by rw [HRQ.out, List.append_assoc]; exact HZ2.out⟩
        case measure => simp [RowKit.intOf]; omega
    · obtain rfl : i = s.size := by omega
      rw [List.drop_eq_nil_of_le (by rw [hl]; exact Nat.le_refl _)] at hz
      have hz : (o ++ [], f ++ [], (0 : Int)) = Z := hz
      rw [List.append_nil, List.append_nil] at hz
      subst hz
      have HBL := Lib.hid hbl
      have HO := Lib.hid ho
      have HBW := Lib.hid hb
      have HBS := Lib.hid (builderString_k w.heap.size w.heap.size o wr hbl hb.size)
      have jj : decide ((s.size : Int) < (s.size : Int)) = false := decide_eq_false (by omega)
      clear ho hb hbl
      obtain ⟨A3, n3, c3, rfl⟩ := own_slice HO.out
      go_wp2_with fail
      refine HBS.out.mono ?_
      rintro _ w4 ⟨rfl, hbl4, hb4, hot4⟩
      have HO4 := Lib.hid (own_others HO.out hot4 (by decide) (fun cs t fz hh => by have := builder_type HBL.out cs t fz hh; subst this; decide))
      have HBW4 := Lib.hid (HBW.out.trans hb4)
      clear hbl4 hb4 hot4
      go_wp2_with fail
      go_returns
      exact ⟨_, rfl, HO4.out, HBW4.out⟩
end Go.Proofs.YtkfjmcidcnpijaaGreatDoor.Sg
/- Walks: inkhornlaw17.Small, inkhornlaw18.faults, awake. -/
namespace Go.Proofs.YtkfjmcidcnpijaaGreatDoor.Sg
open Go.RowKit Pl Go.Lib

set_option maxRecDepth 100000 in
theorem small17_any (w : World) : Calls Tryz.prog 9 #[] w fun e w' => e = .returned smallI ∧ w = w' := by
  go_enter Tryz.func9, Tryz.ntmps9
  go_wp2_with fail
  go_returns
  exact ⟨rfl, rfl⟩



























































































end Go.Proofs.YtkfjmcidcnpijaaGreatDoor.Sg
/- Walk: inkhornlaw18.awake. -/
namespace Go.Proofs.YtkfjmcidcnpijaaGreatDoor.Sg
open Go.RowKit Pl Go.Lib

theorem tx_le (l : List RowV) (N : Nat) (h : ∀ r ∈ l, r.text.size ≤ N) (j : Nat) : (tx l j).size ≤ N := by
  unfold tx textsF
  cases hf : l.find? (hasCode [UInt8.ofNat j]) with
  | none => show (0 : Nat) ≤ N; omega
  | some r => exact h r (List.mem_of_find?_eq_some hf)
def rows2 : List RowV := [⟨⟨#[65]⟩, ⟨#[65]⟩, 0⟩, ⟨⟨#[128]⟩, ⟨#[226, 130, 172]⟩, 0⟩]
theorem rows2_ok : (wrong18 (rows2.map plainR)).2 = 0 := by decide +kernel
theorem rows2_dec (pol : Int) (x : List UInt8 × List Nat × Int) (h : decGo (fun b => (tx rows2 b.toNat).data.toList) pol 0 [65, 129, 128] = x) (tb : Nat) (hp1 : 1 ≤ pol) (hp3 : pol ≤ 3) (w : World) (hT : TabOk w tb rows2) :
    Calls Tryz.prog 7 #[.pointer (some ⟨tb, 0, none⟩), .int .i64 pol, .string ⟨#[65, 129, 128]⟩] w (DecPostT w x) := by
  subst h
  exact decodeT_any tb rows2 pol hp1 hp3 ⟨#[65, 129, 128]⟩ w hT (by show (3 : Nat) ≤ _; omega) (fun b => tx_le rows2 1000 (by decide) _)
set_option maxRecDepth 100000 in
set_option maxHeartbeats 3200000 in
theorem awake18_any (w : World) (hT : Tabs w) : Calls Tryz.prog 5 #[] w fun e w' => e = .returned (.bool true) ∧ Below w.heap.size w w' := by
  obtain ⟨W, hW⟩ : ∃ W, w.alloc (.cells #[.string ⟨#[65]⟩, .string ⟨#[65]⟩, .int .i64 0, .string ⟨#[128]⟩, .string ⟨#[226, 130, 172]⟩, .int .i64 0] 50) = W := ⟨_, rfl⟩
  have hb : Below w.heap.size w W := hW ▸ (Below.refl _ _).alloc (Nat.le_refl _) _
  have hk : Blk W w.heap.size 50 #[.string ⟨#[65]⟩, .string ⟨#[65]⟩, .int .i64 0, .string ⟨#[128]⟩, .string ⟨#[226, 130, 172]⟩, .int .i64 0] := hW ▸ Blk.new _ _ _
  have hR : RowsAt W (some ⟨w.heap.size, 0, none⟩) rows2 := by
    intro _
    refine ⟨_, _, rfl, hk.lt, fun i hi => ?_⟩
    match i, hi with
    | 0, _ => exact ⟨by rw [hk.cell]; rfl, by rw [hk.cell]; rfl, by rw [hk.cell]; rfl⟩
    | 1, _ => exact ⟨by rw [hk.cell]; rfl, by rw [hk.cell]; rfl, by rw [hk.cell]; rfl⟩
  have hN : Calls Tryz.prog 15 #[smallI, .slice (some ⟨w.heap.size, 0, none⟩) 2 2] W (SNewP W rows2) := singleNew_any _ 2 rows2 W hR (by decide) (by decide) (hT.keep hb)
  have HN := Lib.hid hN
  have HB := Lib.hid hb
  have HS := Lib.hid (fun w => small17_any w)
  have hq : ∀ (tb : Nat) w, (binOp .eql 23 (.pointer (some ⟨tb, 0, none⟩)) (.pointer none)).run Tryz.prog w = .ok (.bool false) w := fun _ _ => rfl
  have HD1 := Lib.hid (rows2_dec 1 ([65], [1], 17) (by decide +kernel))
  have HD2 := Lib.hid (rows2_dec 2 ([65, 239, 191, 189, 226, 130, 172], [1], 0) (by decide +kernel))
  have HD3 := Lib.hid (rows2_dec 3 ([65, 226, 130, 172], [1], 0) (by decide +kernel))
  clear hb hk hR hN hT
  go_enter Tryz.func5, Tryz.ntmps5
  go_wp2_with fail
  refine (HS.out _).mono ?_
  rintro _ _ ⟨rfl, rfl⟩
  go_wp2_with fail
  refine HN.out.mono ?_
  rintro e w1 ⟨hb1, _, h1⟩
  obtain ⟨tb, rfl, htab⟩ := h1 rows2_ok
  have HT1 := Lib.hid htab
  have HB1 := Lib.hid (HB.out.trans (hb1.mono HB.out.size))
  have hqt := hq tb
  clear hb1 h1 htab hq
  go_wp2_with fail
  refine (HD1.out tb (by decide) (by decide) w1 HT1.out).mono ?_
  rintro _ w2 ⟨v2, rfl, ho2, hb2⟩
  have HT2 := Lib.hid (HT1.out.keep hb2)
  have HB2 := Lib.hid (HB1.out.trans (hb2.mono HB1.out.size))
  have HO2 := Lib.hid ho2
  clear ho2 hb2
  go_wp2_with fail
  refine (HD2.out tb (by decide) (by decide) w2 HT2.out).mono ?_
  rintro _ w3 ⟨v3, rfl, ho3, hb3⟩
  have HT3 := Lib.hid (HT2.out.keep hb3)
  have HB3 := Lib.hid (HB2.out.trans (hb3.mono HB2.out.size))
  have HO23 := Lib.hid (own_below HO2.out hb3)
  have HO3 := Lib.hid ho3
  clear ho3 hb3
  go_wp2_with fail
  refine (HD3.out tb (by decide) (by decide) w3 HT3.out).mono ?_
  rintro _ w4 ⟨v4, rfl, ho4, hb4⟩
  have HB4 := Lib.hid (HB3.out.trans (hb4.mono HB3.out.size))
  have HO24 := Lib.hid (own_below HO23.out hb4)
  obtain ⟨g2, c2, rfl⟩ : ∃ g c, v2 = .slice (some ⟨g, 0, none⟩) 1 c := by
    rcases own_shapeS HO24.out with ⟨_, h⟩ | h
    · cases h
    · exact h
  obtain ⟨g3, c3, rfl⟩ : ∃ g c, v3 = .slice (some ⟨g, 0, none⟩) 1 c := by
    rcases own_shapeS HO3.out with ⟨_, h⟩ | h
    · cases h
    · exact h
  obtain ⟨g4, c4, rfl⟩ : ∃ g c, v4 = .slice (some ⟨g, 0, none⟩) 1 c := by
    rcases own_shapeS ho4 with ⟨_, h⟩ | h
    · cases h
    · exact h
  have p0 : w4.cell? ⟨g2, 0, none⟩ = some (.int .i64 1) := own_cellS HO24.out _ (by rfl)
  have p1 : w4.cell? ⟨g2, 1, none⟩ = some (.int .i64 1) := own_cellS HO24.out _ (by rfl)
  clear ho4 hb4
  go_wp2_with fail
  go_returns
  exact ⟨rfl, HB4.out⟩
end Go.Proofs.YtkfjmcidcnpijaaGreatDoor.Sg
