/- Joined of: G17, G18. -/
import Derived.Test.YtkfjmcidcnpijaaGreatDoorG16
import Derived.Deep.AppendLies
/- The memory of cover.New while it runs: the struct, the row of keys, the three maps; what each step leaves of it. -/
namespace Go.Proofs.YtkfjmcidcnpijaaGreatDoor.Sg
open Go.RowKit Pl Go.Lib Go.Maps Go.WideMaps

abbrev KeyT : TypeId := 72
abbrev IntE : TypeId := 3
theorem infoKey : (Tryz.prog.info? KeyT).map (fun i => (i.zero, i.size, i.bytes)) = some (some (.slice none 0 0), 1, 24) := by kernel_rfl
theorem infoIntE : (Tryz.prog.info? IntE).map (fun i => (i.zero, i.size, i.bytes)) = some (some (.int .i64 0), 1, 8) := by kernel_rfl
/-- What turns is no row of cells of the type e. -/
def NoRow (w : World) (row : Option Nat) (e : TypeId) : Prop := ∀ r, row = some r → ∀ cur fz, w.heap[r]? ≠ some (.cells cur e fz)
theorem noRow_none (w : World) (e : TypeId) : NoRow w none e := fun r h => by cases h
theorem noRow_map {w : World} {r : Nat} {es clock} (h : w.heap[r]? = some (.map es clock)) (e : TypeId) : NoRow w (some r) e := fun r' hr cur fz hc => by
  injection hr with hr; subst hr; rw [h] at hc; cases hc
theorem noRow_cells {w : World} {r : Nat} {cs t fz} (h : w.heap[r]? = some (.cells cs t fz)) {e : TypeId} (hne : t ≠ e) : NoRow w (some r) e := fun r' hr cur fz hc => by
  injection hr with hr; subst hr; rw [h] at hc; injection hc with hc; injection hc with _ h2; exact hne h2
theorem noRow_own {w : World} {B e sz n : Nat} {v : Value} {xs : List Value} (h : w.ownsRow B e sz v n xs) {e' : TypeId} (hne : e ≠ e') : NoRow w v.ownBlock e' := fun r hr cur fz hc => by
  rcases h.2 with ⟨rfl, _⟩ | ⟨g, cap, c, rfl, hg, hh, _⟩
  · cases hr
  · have : g = r := by simpa [Value.ownBlock] using hr
    subst this
    rw [hh] at hc; injection hc with hc; injection hc with _ h2; exact hne h2
theorem own_turn {w w' : World} {row : Option Nat} {B e sz n : Nat} {v : Value} {xs : List Value} (h : w.ownsRow B e sz v n xs) (hg : w.grownBy w' row) (hk : NoRow w row e) : w'.ownsRow B e sz v n xs := by
  refine h.kept hg ?_
  rcases h.2 with ⟨rfl, _⟩ | ⟨g, cap, c, rfl, _, hh, _⟩
  · exact .inl rfl
  · exact .inr fun he => hk g he.symm _ _ hh
theorem Blk.turn {w w' : World} {row : Option Nat} {g : Nat} {t : TypeId} {cs : Array Value} (h : Blk w g t cs) (hg : w.grownBy w' row) (hk : NoRow w row t) : Blk w' g t cs :=
  (hg.block g h.lt (fun he => hk g he.symm _ _ h)).trans h
theorem grown_set (w : World) (a : Addr) (u : Value) : w.grownBy (w.setCell a u) (some a.block) :=
  ⟨rfl, rfl, rfl, by simp, fun i _ hi => Below.heap_setCell w a u i (fun e => hi (by rw [e]))⟩
theorem grown_below {w w' : World} (h : Below w.heap.size w w') : w.grownBy w' none := ⟨h.os, h.tape, h.output, h.size, fun i hi _ => h.block i hi⟩
theorem below_grown {B : Nat} {w0 w w' : World} {row : Option Nat} (h : Below B w0 w) (hg : w.grownBy w' row) (hB : B ≤ w.heap.size) (hr : ∀ k, row = some k → B ≤ k) : Below B w0 w' := h.grown hg hB hr
/-- A slice of slices of characters. -/
def KeysV (B : Nat) (w : World) (v : Value) (ps : List (Value × List Int)) : Prop := (∀ p ∈ ps, w.ownsRow 0 RuneT 1 p.1 p.2.length (i32s p.2)) ∧ w.ownsRow B KeyT 1 v ps.length (ps.map (·.1))
theorem KeysV.turn {B : Nat} {w w' : World} {v : Value} {ps : List (Value × List Int)} {row : Option Nat} (h : KeysV B w v ps) (hg : w.grownBy w' row) (h1 : NoRow w row RuneT) (h2 : NoRow w row KeyT) : KeysV B w' v ps :=
  ⟨fun p hp => own_turn (h.1 p hp) hg h1, own_turn h.2 hg h2⟩
theorem SMap.turn {α : Type} {E : El α} {w w' : World} {b n : Nat} {f : List UInt8 → Option α} {row : Option Nat} (h : SMap E w b n f) (hg : w.grownBy w' row) (hne : ∀ r, row = some r → r ≠ b) : SMap E w' b n f :=
  h.kept hg (fun he => hne b he.symm rfl)
theorem SMap.mono {α : Type} {E : El α} {w : World} {b n m : Nat} {f : List UInt8 → Option α} (h : SMap E w b n f) (hm : n ≤ m) : SMap E w b m f := by
  obtain ⟨D, h1, h2⟩ := h
  exact ⟨D, h1.mono hm, h2⟩
theorem RMap.turn {w w' : World} {b n : Nat} {row : Option Nat} (h : RMap w b n) (hg : w.grownBy w' row) (hne : ∀ r, row = some r → r ≠ b) : RMap w' b n :=
  h.block (hg.block b h.lt (fun he => hne b he.symm rfl))
/-- The map of characters to rows of numbers. -/
def GMap (w : World) (base b n : Nat) : Prop := ∃ D : DataW Unit, w.ownsGroups Tryz.prog RuneT base IntE .i64 b n D
theorem GMap.made (w : World) : ∀ base, w.heap.size < base → GMap (w.alloc (.map #[] 0)) base w.heap.size 0 := fun base hb =>
  ⟨.map [], #[], 0, (MapKept.heap_alloc w _).1, ⟨by simp, MapKept.stamped_empty 0, by simp⟩, Nat.le_refl _, rfl, hb, by simp, by simp⟩
theorem GMap.lt {w : World} {base b n : Nat} (h : GMap w base b n) : b < w.heap.size := by
  obtain ⟨D, es, clock, hb, _⟩ := h
  exact (Array.getElem?_eq_some_iff.1 hb).1
theorem GMap.isMap {w : World} {base b n : Nat} (h : GMap w base b n) : ∃ es clock, w.heap[b]? = some (.map es clock) := by
  obtain ⟨D, es, clock, h1, _⟩ := h
  exact ⟨es, clock, h1⟩
theorem GMap.mono {w : World} {base b n m : Nat} (h : GMap w base b n) (hm : n ≤ m) : GMap w base b m := by
  obtain ⟨D, es, clock, hb, F, hs, hD, hbb, hlen, hap⟩ := h
  exact ⟨D, es, clock, hb, F, Nat.le_trans hs hm, hD, hbb, fun x hx zs h => Nat.le_trans (hlen x hx zs h) hm, hap⟩
theorem GMap.turn {w w' : World} {base b n : Nat} {row : Option Nat} (h : GMap w base b n) (hg : w.grownBy w' row) (hne : ∀ r, row = some r → r ≠ b) (hk : NoRow w row IntE) : GMap w' base b n := by
  obtain ⟨D, h1⟩ := h
  refine ⟨D, h1.kept hg (fun he => hne b he.symm rfl) ?_⟩
  intro es clock hb x hx
  obtain ⟨es', clock', hb', F, _⟩ := h1
  obtain ⟨rfl, rfl⟩ : es' = es ∧ clock' = clock := by rw [hb'] at hb; simpa using hb
  obtain ⟨y, hy⟩ := F.reads x hx
  obtain ⟨z, hz, _⟩ := WideElems.rd_val hy
  obtain ⟨zs, hoi, _⟩ := rowElem_inv hz
  rcases hoi.1.2 with ⟨hn, _⟩ | ⟨g, cap, c, hv, _, hh, _⟩
  · rw [hn]; exact .inl rfl
  · rw [hv]; exact .inr fun he => hk g he.symm _ _ hh
theorem zeroKI (w : World) : (zeroValue 169).run Tryz.prog w = .ok (.slice none 0 0) w := by kernel_rfl
/-- 'm[r]': what is found, and the way back. -/
theorem GMap.look {w : World} {base b n : Nat} (h : GMap w base b n) (hn : n < maxLen) (r : Int) (hr : 0 ≤ r ∧ r ≤ 1114111) :
    ∃ v zs, (Instr.lookup 170 (.map (some b)) (.int .i32 r) false).run Tryz.prog w = .ok v w ∧ w.ownsInts base IntE .i64 v zs ∧ zs.length ≤ n ∧
      ∀ (w1 : World) (v' : Value) (zs' : List Int), w.grownBy w1 v.ownBlock → w1.ownsInts base IntE .i64 v' zs' → zs'.length ≤ n + 1 → (v'.ownBlock = v.ownBlock ∨ ∃ g, v'.ownBlock = some g ∧ w.heap.size ≤ g) →
        ∃ w2, (Instr.mapUpdate 170 (.map (some b)) (.int .i32 r) v').run Tryz.prog w1 = .ok () w2 ∧ GMap w2 base b (n + 1) ∧ w1.grownBy w2 (some b) := by
  obtain ⟨D, h⟩ := h
  obtain ⟨v, zs, hrun, _, ho, hl, hback⟩ := h.at lawR Tryz.underlying170 (zeroKI w) hn (keyR r hr)
  refine ⟨v, zs, hrun, ho, hl, fun w1 v' zs' h1 h2 h3 h4 => ?_⟩
  obtain ⟨w2, hr2, h5, h6⟩ := hback w1 v' zs' h1 h2 h3 h4
  exact ⟨w2, hr2, ⟨_, h5⟩, h6⟩
end Go.Proofs.YtkfjmcidcnpijaaGreatDoor.Sg
/- The state of cover.New between its steps. -/
namespace Go.Proofs.YtkfjmcidcnpijaaGreatDoor.Sg
open Go.RowKit Pl Go.Lib Go.Maps Go.WideMaps

abbrev CovT : TypeId := 173
def cov (H : Nat) (vk : Value) : Array Value := #[smallI, vk, .map (some H), .map (some (H + 1))]
structure CS (H : Nat) (w0 w : World) (n : Nat) (f : List UInt8 → Option Bool) (vk : Value) (ps : List (Value × List Int)) : Prop where
  blk : Blk w (H + 2) CovT (cov H vk)
  keys : KeysV (H + 4) w vk ps
  len : ps.length ≤ n
  seen : SMap elB w (H + 3) n f
  first : GMap w (H + 4) H n
  within : RMap w (H + 1) n
  below : Below H w0 w
  size : H + 4 ≤ w.heap.size
section
variable {H : Nat} {w0 w w' : World} {n : Nat} {f : List UInt8 → Option Bool} {vk : Value} {ps : List (Value × List Int)}
theorem CS.keep (h : CS H w0 w n f vk ps) (hb : Below w.heap.size w w') : CS H w0 w' n f vk ps := by
  have hg := grown_below hb
  exact ⟨Blk.turn h.blk hg (noRow_none _ _), h.keys.turn hg (noRow_none _ _) (noRow_none _ _), h.len, h.seen.turn hg (fun r e => by cases e), h.first.turn hg (fun r e => by cases e) (noRow_none _ _), h.within.turn hg (fun r e => by cases e),
    h.below.trans (hb.mono (Nat.le_trans (by omega) h.size)), Nat.le_trans h.size hb.size⟩
theorem CS.mono {m : Nat} (h : CS H w0 w n f vk ps) (hm : n ≤ m) : CS H w0 w m f vk ps :=
  ⟨h.blk, h.keys, Nat.le_trans h.len hm, h.seen.mono hm, h.first.mono hm, h.within.mono hm, h.below, h.size⟩
/-- 'seen[text] = true'. -/
theorem CS.putSeen (h : CS H w0 w n f vk ps) (hn : n < maxLen) (s : ByteArray) (hs : s.size ≤ maxLen) :
    ∃ w', (Instr.mapUpdate 98 (.map (some (H + 3))) (.string s) (.bool true)).run Tryz.prog w = .ok () w' ∧ CS H w0 w' (n + 1) (fun t => if t = s.data.toList then some true else f t) vk ps := by
  obtain ⟨w', hrun, hm, hg⟩ := h.seen.store 98 Tryz.underlying98 s hs true trivial hn
  obtain ⟨es, clock, hh⟩ := h.seen.isMap
  have hN := fun e => noRow_map hh e
  exact ⟨w', hrun, ⟨Blk.turn h.blk hg (hN _), h.keys.turn hg (hN _) (hN _), Nat.le_succ_of_le h.len, hm, (h.first.turn hg (fun r e => by injection e with e; omega) (hN _)).mono (Nat.le_succ _), (h.within.turn hg (fun r e => by injection e with e; omega)).mono (Nat.le_succ _),
    below_grown h.below hg (Nat.le_trans (by omega) h.size) (fun k e => by injection e with e; omega), Nat.le_trans h.size hg.size⟩⟩
/-- 'within[r] = x'. -/
theorem CS.putWithin (h : CS H w0 w n f vk ps) (hn : n < maxLen) (r : Int) (hr : 0 ≤ r ∧ r ≤ 1114111) (x : Bool) :
    ∃ w', (Instr.mapUpdate 171 (.map (some (H + 1))) (.int .i32 r) (.bool x)).run Tryz.prog w = .ok () w' ∧ CS H w0 w' (n + 1) f vk ps := by
  obtain ⟨w', hrun, hm, hg⟩ := h.within.store 171 Tryz.underlying171 r hr x hn
  obtain ⟨es, clock, hh⟩ := h.within.isMap
  have hN := fun e => noRow_map hh e
  exact ⟨w', hrun, ⟨Blk.turn h.blk hg (hN _), h.keys.turn hg (hN _) (hN _), Nat.le_succ_of_le h.len, (h.seen.turn hg (fun r e => by injection e with e; omega)).mono (Nat.le_succ _), (h.first.turn hg (fun r e => by injection e with e; omega) (hN _)).mono (Nat.le_succ _), hm,
    below_grown h.below hg (Nat.le_trans (by omega) h.size) (fun k e => by injection e with e; omega), Nat.le_trans h.size hg.size⟩⟩
/-- 'keys = append(keys, key)', behind the append: the store. -/
theorem CS.putKey {w1 w3 : World} {B1 : Nat} {vc vn : Value} {l : List Int} (h : CS H w0 w1 n f vk ps) (ho : w1.ownsRow B1 RuneT 1 vc l.length (i32s l)) (hg : w1.grownBy w3 vk.ownBlock)
    (h3 : w3.ownsRow (H + 4) KeyT 1 vn (ps.length + 1) (ps.map (·.1) ++ [vc])) : CS H w0 (w3.setCell ⟨H + 2, 1, none⟩ vn) (n + 1) f vn (ps ++ [(vc, l)]) := by
  have hN : ∀ e, KeyT ≠ e → NoRow w1 vk.ownBlock e := fun e he => noRow_own h.keys.2 he
  have hlow : ∀ r, vk.ownBlock = some r → H + 4 ≤ r := fun r hr => (h.keys.2.lt r hr).1
  have b3 : Blk w3 (H + 2) CovT (cov H vk) := Blk.turn h.blk hg (hN _ (by decide))
  have hg2 : w3.grownBy (w3.setCell ⟨H + 2, 1, none⟩ vn) (some (H + 2)) := grown_set w3 ⟨H + 2, 1, none⟩ vn
  have hN2 : ∀ e, CovT ≠ e → NoRow w3 (some (H + 2)) e := fun e he => noRow_cells b3 he
  refine ⟨Blk.set b3 1 vn, ⟨?_, ?_⟩, by rw [List.length_append]; exact Nat.succ_le_succ h.len, ?_, ?_, ?_, ?_, ?_⟩
  · intro p hp
    rcases List.mem_append.1 hp with hp | hp
    · exact own_turn (own_turn (h.keys.1 p hp) hg (hN _ (by decide))) hg2 (hN2 _ (by decide))
    · obtain rfl : p = (vc, l) := by simpa using hp
      exact own_turn (own_turn (own_low ho (Nat.zero_le _)) hg (hN _ (by decide))) hg2 (hN2 _ (by decide))
  · rw [List.length_append, List.map_append]
    exact own_turn h3 hg2 (hN2 _ (by decide))
  · exact ((h.seen.turn hg (fun r e => by have := hlow r e; omega)).turn hg2 (fun r e => by injection e with e; omega)).mono (Nat.le_succ _)
  · exact ((h.first.turn hg (fun r e => by have := hlow r e; omega) (hN _ (by decide))).turn hg2 (fun r e => by injection e with e; omega) (hN2 _ (by decide))).mono (Nat.le_succ _)
  · exact ((h.within.turn hg (fun r e => by have := hlow r e; omega)).turn hg2 (fun r e => by injection e with e; omega)).mono (Nat.le_succ _)
  · exact below_grown (below_grown h.below hg (Nat.le_trans (by omega) h.size) (fun r e => Nat.le_trans (by omega) (hlow r e))) hg2 (Nat.le_trans (by omega) (Nat.le_trans h.size hg.size)) (fun r e => by injection e with e; omega)
  · exact Nat.le_trans (Nat.le_trans h.size hg.size) hg2.size
/-- Behind the append to a row of numbers, and the store into the map. -/
theorem CS.putFirst {w3 w4 : World} {v : Value} {zs : List Int} (h : CS H w0 w n f vk ps) (hv : w.ownsInts (H + 4) IntE .i64 v zs) (hg : w.grownBy w3 v.ownBlock) (hm : GMap w4 (H + 4) H (n + 1)) (hg2 : w3.grownBy w4 (some H)) :
    CS H w0 w4 (n + 1) f vk ps := by
  have hN : ∀ e, IntE ≠ e → NoRow w v.ownBlock e := fun e he => noRow_own hv.1 he
  have hlow : ∀ r, v.ownBlock = some r → H + 4 ≤ r := fun r hr => (hv.1.lt r hr).1
  obtain ⟨es, clock, hh⟩ := h.first.isMap
  have hh3 : w3.heap[H]? = some (.map es clock) := (hg.block H h.first.lt (fun e => by have := hlow H e.symm; omega)).trans hh
  have hN2 := fun e => noRow_map hh3 e
  refine ⟨Blk.turn (Blk.turn h.blk hg (hN _ (by decide))) hg2 (hN2 _), (h.keys.turn hg (hN _ (by decide)) (hN _ (by decide))).turn hg2 (hN2 _) (hN2 _), Nat.le_succ_of_le h.len,
    ((h.seen.turn hg (fun r e => by have := hlow r e; omega)).turn hg2 (fun r e => by injection e with e; omega)).mono (Nat.le_succ _), hm,
    ((h.within.turn hg (fun r e => by have := hlow r e; omega)).turn hg2 (fun r e => by injection e with e; omega)).mono (Nat.le_succ _), ?_, ?_⟩
  · exact below_grown (below_grown h.below hg (Nat.le_trans (by omega) h.size) (fun r e => Nat.le_trans (by omega) (hlow r e))) hg2 (Nat.le_trans (by omega) (Nat.le_trans h.size hg.size)) (fun r e => by injection e with e; omega)
  · exact Nat.le_trans (Nat.le_trans h.size hg.size) hg2.size
end
/-- What has been seen of keys. -/
def seenF (l : List (List Int)) : List UInt8 → Option Bool := fun t => if l.any (fun k => t == (plain4 k).data.toList) then some true else none
theorem seenF_snoc (l : List (List Int)) (k : List Int) : (fun t => if t = (plain4 k).data.toList then some true else seenF l t) = seenF (l ++ [k]) := by
  funext t
  unfold seenF
  by_cases h : t = (plain4 k).data.toList
  · simp [h]
  · simp [h]
theorem seenF_new (l : List (List Int)) (k : List Int) (hl : ∀ x ∈ l, scal x) (hk : scal k) (hn : k ∉ l) : seenF l (plain4 k).data.toList = none := by
  unfold seenF
  rw [if_neg]
  intro h
  rw [List.any_eq_true] at h
  obtain ⟨x, hx, he⟩ := h
  have : plain4 k = plain4 x := ByteArray.ext (Array.toList_inj.1 (by simpa using he))
  exact hn (plain4_inj k x hk (hl x hx) this ▸ hx)
end Go.Proofs.YtkfjmcidcnpijaaGreatDoor.Sg
