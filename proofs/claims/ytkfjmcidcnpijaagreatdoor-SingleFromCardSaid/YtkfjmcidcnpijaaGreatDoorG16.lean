/- Words for maps that the call makes, keyed by strings (elements: bools, strings, numbers), and by characters (bools): what a look-up gives, what a store leaves. -/
import Derived.Test.YtkfjmcidcnpijaaGreatDoorGC
import Derived.Maps.OwnSet
import Derived.Maps.StringElems
import Derived.Maps.GroupsBeside
namespace Go.Proofs.YtkfjmcidcnpijaaGreatDoor.Sg
open Go.RowKit Pl Go.Lib Go.Maps Go.WideMaps

abbrev StrT : TypeId := 9
/-- A kind of elements. -/
structure El (α : Type) where
  e : TypeId
  val : α → Value
  lit : α → Lit
  z : α
  ok : α → Prop
  okz : ok z
  rd : ∀ x, ok x → plainElem (H := Unit) Tryz.prog e (val x) = some (.lit (lit x), [])
  inv : ∀ v x ps, plainElem (H := Unit) Tryz.prog e v = some (.lit (lit x), ps) → v = val x
  zero : ∀ w, (zeroValue e).run Tryz.prog w = .ok (val z) w
set_option maxRecDepth 100000 in
def elB : El Bool where
  e := 4
  val := .bool
  lit := .bool
  z := false
  ok := fun _ => True
  okz := trivial
  rd := fun x _ => plainElem_bool Tryz.underlying4 x
  inv := fun v x ps h => by
    unfold plainElem at h
    rw [Tryz.underlying4] at h
    cases v <;> simp at h
    rw [h.1]
  zero := fun w => by kernel_rfl
set_option maxRecDepth 100000 in
def elS : El ByteArray where
  e := StrT
  val := .string
  lit := fun s => .string s.data.toList
  z := ⟨#[]⟩
  ok := fun s => s.size ≤ maxLen
  okz := by unfold maxLen; show (0 : Nat) ≤ _; omega
  rd := fun x hx => plainElem_string Tryz.underlying9 hx
  inv := fun v x ps h => by
    obtain ⟨s, rfl, h2, _⟩ := plainElem_string_inv Tryz.underlying9 h
    injection h2 with h2 _
    injection h2 with h2
    injection h2 with h2
    rw [ByteArray.ext (Array.toList_inj.1 h2.symm)]
  zero := fun w => by kernel_rfl
set_option maxRecDepth 100000 in
def elI : El Int where
  e := 3
  val := .int .i64
  lit := .int .i64
  z := 0
  ok := fun x => 0 ≤ x ∧ x ≤ 1000000000
  okz := by omega
  rd := fun x hx => plainElem_int Tryz.underlying3 (WalkArith.wf_i64 (by omega))
  inv := fun v x ps h => by
    obtain ⟨a, rfl, h2, _⟩ := plainElem_int_inv Tryz.underlying3 h
    injection h2 with h2 _
    injection h2 with h2
    injection h2 with _ h2
    rw [h2]
  zero := fun w => by kernel_rfl
theorem lawS : Keyed Tryz.prog StrT := string_keyed Tryz.underlying9
theorem lawR : Keyed Tryz.prog RuneT := int_keyed Tryz.underlying21
/-- A map whose keys are strings: f tells what it has. -/
def SMap {α : Type} (E : El α) (w : World) (b n : Nat) (f : List UInt8 → Option α) : Prop :=
  ∃ D : DataW Unit, w.ownsMap Tryz.prog StrT (plainElem Tryz.prog E.e) b n D ∧ ∀ s, has D (.string s) = (f s).isSome ∧ D.atKey (.string s) (.lit (E.lit E.z)) = .lit (E.lit ((f s).getD E.z))
section
variable {α : Type} {E : El α} {w w' : World} {b n : Nat} {f : List UInt8 → Option α}
theorem SMap.made (E : El α) (w : World) : SMap E (w.alloc (.map #[] 0)) w.heap.size 0 (fun _ => none) :=
  ⟨.map [], World.ownsMap_made _ _ _ _, fun _ => ⟨rfl, rfl⟩⟩
theorem SMap.lt (h : SMap E w b n f) : b < w.heap.size := by obtain ⟨D, h, _⟩ := h; exact h.lt
theorem SMap.kept {row : Option Nat} (h : SMap E w b n f) (hg : w.grownBy w' row) (hne : some b ≠ row) : SMap E w' b n f := by
  obtain ⟨D, h1, h2⟩ := h
  exact ⟨D, h1.kept hg hne, h2⟩
theorem map_block {D : DataW Unit} {k : TypeId} {R} (h : w.ownsMap Tryz.prog k R b n D) (hb : w'.heap[b]? = w.heap[b]?) : w'.ownsMap Tryz.prog k R b n D := by
  obtain ⟨es, clock, h1, r⟩ := h
  exact ⟨es, clock, hb.trans h1, r⟩
theorem SMap.block (h : SMap E w b n f) (hb : w'.heap[b]? = w.heap[b]?) : SMap E w' b n f := by
  obtain ⟨D, h1, h2⟩ := h
  exact ⟨D, map_block h1 hb, h2⟩
theorem SMap.below (h : SMap E w b n f) (hb : Below w.heap.size w w') : SMap E w' b n f := h.block (hb.block b h.lt)
/-- What is there is no row of cells. -/
theorem SMap.isMap (h : SMap E w b n f) : ∃ es clock, w.heap[b]? = some (.map es clock) := by
  obtain ⟨D, ⟨es, clock, h1, _⟩, _⟩ := h
  exact ⟨es, clock, h1⟩
theorem keyS (s : ByteArray) (hs : s.size ≤ maxLen) : keyOf Tryz.prog StrT (.string s) = some (.string s.data.toList) := keyOf_string_mk Tryz.underlying9 hs
theorem SMap.look (h : SMap E w b n f) (T : TypeId) (hT : Tryz.prog.underlying T = some (.map StrT E.e)) (s : ByteArray) (hs : s.size ≤ maxLen) :
    (Instr.lookup T (.map (some b)) (.string s) false).run Tryz.prog w = .ok (E.val ((f s.data.toList).getD E.z)) w := by
  obtain ⟨D, h1, h2⟩ := h
  obtain ⟨v, ps, hrun, hv⟩ := h1.lookup lawS hT (E.zero w) (E.rd _ E.okz) (keyS s hs)
  rw [(h2 s.data.toList).2] at hv
  rw [hrun, E.inv v _ ps hv]
theorem SMap.lookOk (h : SMap E w b n f) (T : TypeId) (hT : Tryz.prog.underlying T = some (.map StrT E.e)) (s : ByteArray) (hs : s.size ≤ maxLen) :
    (Instr.lookup T (.map (some b)) (.string s) true).run Tryz.prog w = .ok (.tuple #[E.val ((f s.data.toList).getD E.z), .bool (f s.data.toList).isSome]) w := by
  obtain ⟨D, h1, h2⟩ := h
  obtain ⟨v, ps, hrun, hv⟩ := h1.look_ok lawS hT (E.zero w) (E.rd _ E.okz) (keyS s hs)
  rw [(h2 s.data.toList).2] at hv
  rw [hrun, E.inv v _ ps hv, (h2 s.data.toList).1]
theorem SMap.store (h : SMap E w b n f) (T : TypeId) (hT : Tryz.prog.underlying T = some (.map StrT E.e)) (s : ByteArray) (hs : s.size ≤ maxLen) (x : α) (hx : E.ok x) (hn : n < maxLen) :
    ∃ w', (Instr.mapUpdate T (.map (some b)) (.string s) (E.val x)).run Tryz.prog w = .ok () w' ∧ SMap E w' b (n + 1) (fun t => if t = s.data.toList then some x else f t) ∧ w.grownBy w' (some b) := by
  obtain ⟨D, h1, h2⟩ := h
  obtain ⟨w', hrun, ho, hg⟩ := h1.update lawS hT hn (keyS s hs) (E.rd x hx)
  refine ⟨w', hrun, ⟨_, ho, fun t => ?_⟩, hg⟩
  have hk : WideAt.IsKeyLit (.string s.data.toList) := trivial
  show has (D.put (Lit.string s.data.toList) (DataW.lit (E.lit x))) (Lit.string t) = (if t = s.data.toList then some x else f t).isSome ∧ (D.put (Lit.string s.data.toList) (DataW.lit (E.lit x))).atKey (Lit.string t) (DataW.lit (E.lit E.z)) = DataW.lit (E.lit ((if t = s.data.toList then some x else f t).getD E.z))
  by_cases ht : t = s.data.toList
  · subst ht
    rw [if_pos rfl]
    exact ⟨has_put_same h1.isMap hk _, by rw [atKey_put_same h1.isMap hk]; rfl⟩
  · rw [if_neg ht]
    have hne : (Lit.string t) ≠ .string s.data.toList := fun h => ht (by injection h)
    exact ⟨by rw [has_put_other hne]; exact (h2 t).1, by rw [atKey_put_other hne]; exact (h2 t).2⟩
end
/-- A map of characters to bools, whatever it has. -/
def RMap (w : World) (b n : Nat) : Prop := ∃ D : DataW Unit, w.ownsMap Tryz.prog RuneT (plainElem Tryz.prog 4) b n D
section
variable {w w' : World} {b n : Nat}
theorem RMap.made (w : World) : RMap (w.alloc (.map #[] 0)) w.heap.size 0 := ⟨.map [], World.ownsMap_made _ _ _ _⟩
theorem RMap.lt (h : RMap w b n) : b < w.heap.size := by obtain ⟨D, h⟩ := h; exact h.lt
theorem RMap.block (h : RMap w b n) (hb : w'.heap[b]? = w.heap[b]?) : RMap w' b n := by
  obtain ⟨D, h1⟩ := h
  exact ⟨D, map_block h1 hb⟩
theorem RMap.mono {m : Nat} (h : RMap w b n) (hm : n ≤ m) : RMap w b m := by obtain ⟨D, h⟩ := h; exact ⟨D, h.mono hm⟩
theorem RMap.isMap (h : RMap w b n) : ∃ es clock, w.heap[b]? = some (.map es clock) := by
  obtain ⟨D, es, clock, h1, _⟩ := h
  exact ⟨es, clock, h1⟩
theorem keyR (r : Int) (hr : 0 ≤ r ∧ r ≤ 1114111) : keyOf Tryz.prog RuneT (.int .i32 r) = some (.int .i32 r) := keyOf_int_mk Tryz.underlying21 (WalkArith.wf_i32 (by omega))
set_option maxRecDepth 100000 in
theorem RMap.look (h : RMap w b n) (T : TypeId) (hT : Tryz.prog.underlying T = some (.map RuneT 4)) (r : Int) (hr : 0 ≤ r ∧ r ≤ 1114111) :
    ∃ x : Bool, (Instr.lookup T (.map (some b)) (.int .i32 r) false).run Tryz.prog w = .ok (.bool x) w := by
  obtain ⟨D, h1⟩ := h
  obtain ⟨v, ps, hrun, hv⟩ := h1.lookup lawR hT (elB.zero w) (elB.rd _ trivial) (keyR r hr)
  unfold plainElem at hv
  rw [Tryz.underlying4] at hv
  cases v <;> simp at hv
  exact ⟨_, hrun⟩
theorem RMap.store (h : RMap w b n) (T : TypeId) (hT : Tryz.prog.underlying T = some (.map RuneT 4)) (r : Int) (hr : 0 ≤ r ∧ r ≤ 1114111) (x : Bool) (hn : n < maxLen) :
    ∃ w', (Instr.mapUpdate T (.map (some b)) (.int .i32 r) (.bool x)).run Tryz.prog w = .ok () w' ∧ RMap w' b (n + 1) ∧ w.grownBy w' (some b) := by
  obtain ⟨D, h1⟩ := h
  obtain ⟨w', hrun, ho, hg⟩ := h1.update lawR hT hn (keyR r hr) (elB.rd x trivial)
  exact ⟨w', hrun, ⟨_, ho⟩, hg⟩
end
end Go.Proofs.YtkfjmcidcnpijaaGreatDoor.Sg
