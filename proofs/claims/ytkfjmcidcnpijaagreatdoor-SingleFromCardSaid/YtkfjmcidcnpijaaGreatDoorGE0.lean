/- Words for memory. -/
import Derived.Test.YtkfjmcidcnpijaaGreatDoorG16
import Derived.Deep.AppendLies
/- The memory of cover.New while it runs: the struct, the row of keys, the three maps; what each step leaves of it. -/
namespace Go.Proofs.YtkfjmcidcnpijaaGreatDoor.Sg
open Go.RowKit Pl Go.Lib Go.Maps Go.WideMaps

abbrev KeyT : TypeId := 72
abbrev IntE : TypeId := 3
theorem infoKey : (Tryz.prog.info? KeyT).map (fun i => (i.zero, i.size, i.bytes)) = some (some (.slice none 0 0), 1, 24) := by kernel_rfl
theorem infoIntE : (Tryz.prog.info? IntE).map (fun i => (i.zero, i.size, i.bytes)) = some (some (.int .i64 0), 1, 8) := by kernel_rfl
/-- What turns is no row of cells of the type e. -/
def NoRow (w : World) (row : Option Nat) (e : TypeId) : Prop := ∀ r, row = some r → ∀ cur fz, w.heap[r]? ≠ some (.cells cur e fz)
theorem noRow_none (w : World) (e : TypeId) : NoRow w none e := fun r h => by cases h
theorem noRow_map {w : World} {r : Nat} {es clock} (h : w.heap[r]? = some (.map es clock)) (e : TypeId) : NoRow w (some r) e := fun r' hr cur fz hc => by
  injection hr with hr; subst hr; rw [h] at hc; cases hc
theorem noRow_cells {w : World} {r : Nat} {cs t fz} (h : w.heap[r]? = some (.cells cs t fz)) {e : TypeId} (hne : t ≠ e) : NoRow w (some r) e := fun r' hr cur fz hc => by
  injection hr with hr; subst hr; rw [h] at hc; injection hc with hc; injection hc with _ h2; exact hne h2
theorem noRow_own {w : World} {B e sz n : Nat} {v : Value} {xs : List Value} (h : w.ownsRow B e sz v n xs) {e' : TypeId} (hne : e ≠ e') : NoRow w v.ownBlock e' := fun r hr cur fz hc => by
  rcases h.2 with ⟨rfl, _⟩ | ⟨g, cap, c, rfl, hg, hh, _⟩
  · cases hr
  · have : g = r := by simpa [Value.ownBlock] using hr
    subst this
    rw [hh] at hc; injection hc with hc; injection hc with _ h2; exact hne h2
theorem own_turn {w w' : World} {row : Option Nat} {B e sz n : Nat} {v : Value} {xs : List Value} (h : w.ownsRow B e sz v n xs) (hg : w.grownBy w' row) (hk : NoRow w row e) : w'.ownsRow B e sz v n xs := by
  refine h.kept hg ?_
  rcases h.2 with ⟨rfl, _⟩ | ⟨g, cap, c, rfl, _, hh, _⟩
  · exact .inl rfl
  · exact .inr fun he => hk g he.symm _ _ hh
theorem Blk.turn {w w' : World} {row : Option Nat} {g : Nat} {t : TypeId} {cs : Array Value} (h : Blk w g t cs) (hg : w.grownBy w' row) (hk : NoRow w row t) : Blk w' g t cs :=
  (hg.block g h.lt (fun he => hk g he.symm _ _ h)).trans h
theorem grown_set (w : World) (a : Addr) (u : Value) : w.grownBy (w.setCell a u) (some a.block) :=
  ⟨rfl, rfl, rfl, by simp, fun i _ hi => Below.heap_setCell w a u i (fun e => hi (by rw [e]))⟩
theorem grown_below {w w' : World} (h : Below w.heap.size w w') : w.grownBy w' none := ⟨h.os, h.tape, h.output, h.size, fun i hi _ => h.block i hi⟩
theorem below_grown {B : Nat} {w0 w w' : World} {row : Option Nat} (h : Below B w0 w) (hg : w.grownBy w' row) (hB : B ≤ w.heap.size) (hr : ∀ k, row = some k → B ≤ k) : Below B w0 w' := h.grown hg hB hr
/-- A slice of slices of characters. -/
def KeysV (B : Nat) (w : World) (v : Value) (ps : List (Value × List Int)) : Prop := (∀ p ∈ ps, w.ownsRow 0 RuneT 1 p.1 p.2.length (i32s p.2)) ∧ w.ownsRow B KeyT 1 v ps.length (ps.map (·.1))
theorem KeysV.turn {B : Nat} {w w' : World} {v : Value} {ps : List (Value × List Int)} {row : Option Nat} (h : KeysV B w v ps) (hg : w.grownBy w' row) (h1 : NoRow w row RuneT) (h2 : NoRow w row KeyT) : KeysV B w' v ps :=
  ⟨fun p hp => own_turn (h.1 p hp) hg h1, own_turn h.2 hg h2⟩
theorem SMap.turn {α : Type} {E : El α} {w w' : World} {b n : Nat} {f : List UInt8 → Option α} {row : Option Nat} (h : SMap E w b n f) (hg : w.grownBy w' row) (hne : ∀ r, row = some r → r ≠ b) : SMap E w' b n f :=
  h.kept hg (fun he => hne b he.symm rfl)
theorem SMap.mono {α : Type} {E : El α} {w : World} {b n m : Nat} {f : List UInt8 → Option α} (h : SMap E w b n f) (hm : n ≤ m) : SMap E w b m f := by
  obtain ⟨D, h1, h2⟩ := h
  exact ⟨D, h1.mono hm, h2⟩
theorem RMap.turn {w w' : World} {b n : Nat} {row : Option Nat} (h : RMap w b n) (hg : w.grownBy w' row) (hne : ∀ r, row = some r → r ≠ b) : RMap w' b n :=
  h.block (hg.block b h.lt (fun he => hne b he.symm rfl))
/-- The map of characters to rows of numbers. -/
def GMap (w : World) (base b n : Nat) : Prop := ∃ D : DataW Unit, w.ownsGroups Tryz.prog RuneT base IntE .i64 b n D
theorem GMap.made (w : World) : ∀ base, w.heap.size < base → GMap (w.alloc (.map #[] 0)) base w.heap.size 0 := fun base hb =>
  ⟨.map [], #[], 0, (MapKept.heap_alloc w _).1, ⟨by simp, MapKept.stamped_empty 0, by simp⟩, Nat.le_refl _, rfl, hb, by simp, by simp⟩
theorem GMap.lt {w : World} {base b n : Nat} (h : GMap w base b n) : b < w.heap.size := by
  obtain ⟨D, es, clock, hb, _⟩ := h
  exact (Array.getElem?_eq_some_iff.1 hb).1
theorem GMap.isMap {w : World} {base b n : Nat} (h : GMap w base b n) : ∃ es clock, w.heap[b]? = some (.map es clock) := by
  obtain ⟨D, es, clock, h1, _⟩ := h
  exact ⟨es, clock, h1⟩
theorem GMap.mono {w : World} {base b n m : Nat} (h : GMap w base b n) (hm : n ≤ m) : GMap w base b m := by
  obtain ⟨D, es, clock, hb, F, hs, hD, hbb, hlen, hap⟩ := h
  exact ⟨D, es, clock, hb, F, Nat.le_trans hs hm, hD, hbb, fun x hx zs h => Nat.le_trans (hlen x hx zs h) hm, hap⟩
theorem GMap.turn {w w' : World} {base b n : Nat} {row : Option Nat} (h : GMap w base b n) (hg : w.grownBy w' row) (hne : ∀ r, row = some r → r ≠ b) (hk : NoRow w row IntE) : GMap w' base b n := by
  obtain ⟨D, h1⟩ := h
  refine ⟨D, h1.kept hg (fun he => hne b he.symm rfl) ?_⟩
  intro es clock hb x hx
  obtain ⟨es', clock', hb', F, _⟩ := h1
  obtain ⟨rfl, rfl⟩ : es' = es ∧ clock' = clock := by rw [hb'] at hb; simpa using hb
  obtain ⟨y, hy⟩ := F.reads x hx
  obtain ⟨z, hz, _⟩ := WideElems.rd_val hy
  obtain ⟨zs, hoi, _⟩ := rowElem_inv hz
  rcases hoi.1.2 with ⟨hn, _⟩ | ⟨g, cap, c, hv, _, hh, _⟩
  · rw [hn]; exact .inl rfl
  · rw [hv]; exact .inr fun he => hk g he.symm _ _ hh
theorem zeroKI (w : World) : (zeroValue 169).run Tryz.prog w = .ok (.slice none 0 0) w := by kernel_rfl
/-- 'm[r]': what is found, and the way back. -/
theorem GMap.look {w : World} {base b n : Nat} (h : GMap w base b n) (hn : n < maxLen) (r : Int) (hr : 0 ≤ r ∧ r ≤ 1114111) :
    ∃ v zs, (Instr.lookup 170 (.map (some b)) (.int .i32 r) false).run Tryz.prog w = .ok v w ∧ w.ownsInts base IntE .i64 v zs ∧ zs.length ≤ n ∧
      ∀ (w1 : World) (v' : Value) (zs' : List Int), w.grownBy w1 v.ownBlock → w1.ownsInts base IntE .i64 v' zs' → zs'.length ≤ n + 1 → (v'.ownBlock = v.ownBlock ∨ ∃ g, v'.ownBlock = some g ∧ w.heap.size ≤ g) →
        ∃ w2, (Instr.mapUpdate 170 (.map (some b)) (.int .i32 r) v').run Tryz.prog w1 = .ok () w2 ∧ GMap w2 base b (n + 1) ∧ w1.grownBy w2 (some b) := by
  obtain ⟨D, h⟩ := h
  obtain ⟨v, zs, hrun, _, ho, hl, hback⟩ := h.at lawR Tryz.underlying170 (zeroKI w) hn (keyR r hr)
  refine ⟨v, zs, hrun, ho, hl, fun w1 v' zs' h1 h2 h3 h4 => ?_⟩
  obtain ⟨w2, hr2, h5, h6⟩ := hback w1 v' zs' h1 h2 h3 h4
  exact ⟨w2, hr2, ⟨_, h5⟩, h6⟩
end Go.Proofs.YtkfjmcidcnpijaaGreatDoor.Sg
