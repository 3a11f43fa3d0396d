/- The state of cover.New between its steps. -/
import Derived.Test.YtkfjmcidcnpijaaGreatDoorGE0
namespace Go.Proofs.YtkfjmcidcnpijaaGreatDoor.Sg
open Go.RowKit Pl Go.Lib Go.Maps Go.WideMaps

abbrev CovT : TypeId := 173
def cov (H : Nat) (vk : Value) : Array Value := #[smallI, vk, .map (some H), .map (some (H + 1))]
structure CS (H : Nat) (w0 w : World) (n : Nat) (f : List UInt8 → Option Bool) (vk : Value) (ps : List (Value × List Int)) : Prop where
  blk : Blk w (H + 2) CovT (cov H vk)
  keys : KeysV (H + 4) w vk ps
  len : ps.length ≤ n
  seen : SMap elB w (H + 3) n f
  first : GMap w (H + 4) H n
  within : RMap w (H + 1) n
  below : Below H w0 w
  size : H + 4 ≤ w.heap.size
section
variable {H : Nat} {w0 w w' : World} {n : Nat} {f : List UInt8 → Option Bool} {vk : Value} {ps : List (Value × List Int)}
theorem CS.keep (h : CS H w0 w n f vk ps) (hb : Below w.heap.size w w') : CS H w0 w' n f vk ps := by
  have hg := grown_below hb
  exact ⟨Blk.turn h.blk hg (noRow_none _ _), h.keys.turn hg (noRow_none _ _) (noRow_none _ _), h.len, h.seen.turn hg (fun r e => by cases e), h.first.turn hg (fun r e => by cases e) (noRow_none _ _), h.within.turn hg (fun r e => by cases e),
    h.below.trans (hb.mono (Nat.le_trans (by omega) h.size)), Nat.le_trans h.size hb.size⟩
theorem CS.mono {m : Nat} (h : CS H w0 w n f vk ps) (hm : n ≤ m) : CS H w0 w m f vk ps :=
  ⟨h.blk, h.keys, Nat.le_trans h.len hm, h.seen.mono hm, h.first.mono hm, h.within.mono hm, h.below, h.size⟩
/-- 'seen[text] = true'. -/
theorem CS.putSeen (h : CS H w0 w n f vk ps) (hn : n < maxLen) (s : ByteArray) (hs : s.size ≤ maxLen) :
    ∃ w', (Instr.mapUpdate 98 (.map (some (H + 3))) (.string s) (.bool true)).run Tryz.prog w = .ok () w' ∧ CS H w0 w' (n + 1) (fun t => if t = s.data.toList then some true else f t) vk ps := by
  obtain ⟨w', hrun, hm, hg⟩ := h.seen.store 98 Tryz.underlying98 s hs true trivial hn
  obtain ⟨es, clock, hh⟩ := h.seen.isMap
  have hN := fun e => noRow_map hh e
  exact ⟨w', hrun, ⟨Blk.turn h.blk hg (hN _), h.keys.turn hg (hN _) (hN _), Nat.le_succ_of_le h.len, hm, (h.first.turn hg (fun r e => by injection e with e; omega) (hN _)).mono (Nat.le_succ _), (h.within.turn hg (fun r e => by injection e with e; omega)).mono (Nat.le_succ _),
    below_grown h.below hg (Nat.le_trans (by omega) h.size) (fun k e => by injection e with e; omega), Nat.le_trans h.size hg.size⟩⟩
/-- 'within[r] = x'. -/
theorem CS.putWithin (h : CS H w0 w n f vk ps) (hn : n < maxLen) (r : Int) (hr : 0 ≤ r ∧ r ≤ 1114111) (x : Bool) :
    ∃ w', (Instr.mapUpdate 171 (.map (some (H + 1))) (.int .i32 r) (.bool x)).run Tryz.prog w = .ok () w' ∧ CS H w0 w' (n + 1) f vk ps := by
  obtain ⟨w', hrun, hm, hg⟩ := h.within.store 171 Tryz.underlying171 r hr x hn
  obtain ⟨es, clock, hh⟩ := h.within.isMap
  have hN := fun e => noRow_map hh e
  exact ⟨w', hrun, ⟨Blk.turn h.blk hg (hN _), h.keys.turn hg (hN _) (hN _), Nat.le_succ_of_le h.len, (h.seen.turn hg (fun r e => by injection e with e; omega)).mono (Nat.le_succ _), (h.first.turn hg (fun r e => by injection e with e; omega) (hN _)).mono (Nat.le_succ _), hm,
    below_grown h.below hg (Nat.le_trans (by omega) h.size) (fun k e => by injection e with e; omega), Nat.le_trans h.size hg.size⟩⟩
/-- 'keys = append(keys, key)', behind the append: the store. -/
theorem CS.putKey {w1 w3 : World} {B1 : Nat} {vc vn : Value} {l : List Int} (h : CS H w0 w1 n f vk ps) (ho : w1.ownsRow B1 RuneT 1 vc l.length (i32s l)) (hg : w1.grownBy w3 vk.ownBlock)
    (h3 : w3.ownsRow (H + 4) KeyT 1 vn (ps.length + 1) (ps.map (·.1) ++ [vc])) : CS H w0 (w3.setCell ⟨H + 2, 1, none⟩ vn) (n + 1) f vn (ps ++ [(vc, l)]) := by
  have hN : ∀ e, KeyT ≠ e → NoRow w1 vk.ownBlock e := fun e he => noRow_own h.keys.2 he
  have hlow : ∀ r, vk.ownBlock = some r → H + 4 ≤ r := fun r hr => (h.keys.2.lt r hr).1
  have b3 : Blk w3 (H + 2) CovT (cov H vk) := Blk.turn h.blk hg (hN _ (by decide))
  have hg2 : w3.grownBy (w3.setCell ⟨H + 2, 1, none⟩ vn) (some (H + 2)) := grown_set w3 ⟨H + 2, 1, none⟩ vn
  have hN2 : ∀ e, CovT ≠ e → NoRow w3 (some (H + 2)) e := fun e he => noRow_cells b3 he
  refine ⟨Blk.set b3 1 vn, ⟨?_, ?_⟩, by rw [List.length_append]; exact Nat.succ_le_succ h.len, ?_, ?_, ?_, ?_, ?_⟩
  · intro p hp
    rcases List.mem_append.1 hp with hp | hp
    · exact own_turn (own_turn (h.keys.1 p hp) hg (hN _ (by decide))) hg2 (hN2 _ (by decide))
    · obtain rfl : p = (vc, l) := by simpa using hp
      exact own_turn (own_turn (own_low ho (Nat.zero_le _)) hg (hN _ (by decide))) hg2 (hN2 _ (by decide))
  · rw [List.length_append, List.map_append]
    exact own_turn h3 hg2 (hN2 _ (by decide))
  · exact ((h.seen.turn hg (fun r e => by have := hlow r e; omega)).turn hg2 (fun r e => by injection e with e; omega)).mono (Nat.le_succ _)
  · exact ((h.first.turn hg (fun r e => by have := hlow r e; omega) (hN _ (by decide))).turn hg2 (fun r e => by injection e with e; omega) (hN2 _ (by decide))).mono (Nat.le_succ _)
  · exact ((h.within.turn hg (fun r e => by have := hlow r e; omega)).turn hg2 (fun r e => by injection e with e; omega)).mono (Nat.le_succ _)
  · exact below_grown (below_grown h.below hg (Nat.le_trans (by omega) h.size) (fun r e => Nat.le_trans (by omega) (hlow r e))) hg2 (Nat.le_trans (by omega) (Nat.le_trans h.size hg.size)) (fun r e => by injection e with e; omega)
  · exact Nat.le_trans (Nat.le_trans h.size hg.size) hg2.size
/-- Behind the append to a row of numbers, and the store into the map. -/
theorem CS.putFirst {w3 w4 : World} {v : Value} {zs : List Int} (h : CS H w0 w n f vk ps) (hv : w.ownsInts (H + 4) IntE .i64 v zs) (hg : w.grownBy w3 v.ownBlock) (hm : GMap w4 (H + 4) H (n + 1)) (hg2 : w3.grownBy w4 (some H)) :
    CS H w0 w4 (n + 1) f vk ps := by
  have hN : ∀ e, IntE ≠ e → NoRow w v.ownBlock e := fun e he => noRow_own hv.1 he
  have hlow : ∀ r, v.ownBlock = some r → H + 4 ≤ r := fun r hr => (hv.1.lt r hr).1
  obtain ⟨es, clock, hh⟩ := h.first.isMap
  have hh3 : w3.heap[H]? = some (.map es clock) := (hg.block H h.first.lt (fun e => by have := hlow H e.symm; omega)).trans hh
  have hN2 := fun e => noRow_map hh3 e
  refine ⟨Blk.turn (Blk.turn h.blk hg (hN _ (by decide))) hg2 (hN2 _), (h.keys.turn hg (hN _ (by decide)) (hN _ (by decide))).turn hg2 (hN2 _) (hN2 _), Nat.le_succ_of_le h.len,
    ((h.seen.turn hg (fun r e => by have := hlow r e; omega)).turn hg2 (fun r e => by injection e with e; omega)).mono (Nat.le_succ _), hm,
    ((h.within.turn hg (fun r e => by have := hlow r e; omega)).turn hg2 (fun r e => by injection e with e; omega)).mono (Nat.le_succ _), ?_, ?_⟩
  · exact below_grown (below_grown h.below hg (Nat.le_trans (by omega) h.size) (fun r e => Nat.le_trans (by omega) (hlow r e))) hg2 (Nat.le_trans (by omega) (Nat.le_trans h.size hg.size)) (fun r e => by injection e with e; omega)
  · exact Nat.le_trans (Nat.le_trans h.size hg.size) hg2.size
end
/-- What has been seen of keys. -/
def seenF (l : List (List Int)) : List UInt8 → Option Bool := fun t => if l.any (fun k => t == (plain4 k).data.toList) then some true else none
theorem seenF_snoc (l : List (List Int)) (k : List Int) : (fun t => if t = (plain4 k).data.toList then some true else seenF l t) = seenF (l ++ [k]) := by
  funext t
  unfold seenF
  by_cases h : t = (plain4 k).data.toList
  · simp [h]
  · simp [h]
theorem seenF_new (l : List (List Int)) (k : List Int) (hl : ∀ x ∈ l, scal x) (hk : scal k) (hn : k ∉ l) : seenF l (plain4 k).data.toList = none := by
  unfold seenF
  rw [if_neg]
  intro h
  rw [List.any_eq_true] at h
  obtain ⟨x, hx, he⟩ := h
  have : plain4 k = plain4 x := ByteArray.ext (Array.toList_inj.1 (by simpa using he))
  exact hn (plain4_inj k x hk (hl x hx) this ▸ hx)
end Go.Proofs.YtkfjmcidcnpijaaGreatDoor.Sg
