/- The memory of charset.New in its second loop: the rows of keys and of codes grow. -/
import Derived.Test.YtkfjmcidcnpijaaGreatDoorGG
import Derived.Deep.RegionLaw
import Derived.Deep.AppendLies
namespace Go.Proofs.YtkfjmcidcnpijaaGreatDoor.Sg
open Go.RowKit Pl Go.Lib Go.Maps Go.WideMaps

structure LI (H : Nat) (w0 w : World) (N : Nat) (cs : Array Value) (f : List UInt8 → Option ByteArray) (g : List UInt8 → Option Bool) (h : List UInt8 → Option Int) (va : Value) (ks : List KRow) (vk : Value) (ps : List (Value × List Int)) (vc : Value) (codes : List ByteArray) : Prop where
  hs : HS H w0 w N cs f g h
  ka : KAll (H + 4) w va ks
  kv : KeysV (H + 4) w vk ps
  cv : w.ownsRow (H + 4) StrT 1 vc codes.length (strs codes)
section
variable {H : Nat} {w0 w w' : World} {N : Nat} {cs : Array Value} {f : List UInt8 → Option ByteArray} {g : List UInt8 → Option Bool} {h : List UInt8 → Option Int} {va : Value} {ks : List KRow} {vk : Value} {ps : List (Value × List Int)} {vc : Value} {codes : List ByteArray}
theorem LI.keep (L : LI H w0 w N cs f g h va ks vk ps vc codes) (hb : Below w.heap.size w w') : LI H w0 w' N cs f g h va ks vk ps vc codes :=
  ⟨L.hs.keep hb, L.ka.keep hb, L.kv.turn (grown_below hb) (noRow_none _ _) (noRow_none _ _), own_below L.cv hb⟩
theorem below_of_grown {B : Nat} {row : Option Nat} (hg : w.grownBy w' row) (hB : B ≤ w.heap.size) (hr : ∀ k, row = some k → B ≤ k) : Below B w w' := (Below.refl B w).grown hg hB hr
theorem LI.key (L : LI H w0 w N cs f g h va ks vk ps vc codes) {A : Option Addr} {n c : Nat} {key : List Int} {v' : Value} (hk : w.ownsRow 0 RuneT 1 (.slice A n c) key.length (i32s key)) (hg : w.grownBy w' vk.ownBlock)
    (hn : w'.ownsRow (H + 4) KeyT 1 v' (ps.length + 1) (ps.map (·.1) ++ [.slice A n c])) : LI H w0 w' N cs f g h va ks v' (ps ++ [(.slice A n c, key)]) vc codes := by
  have hN : ∀ e, KeyT ≠ e → NoRow w vk.ownBlock e := fun e he => noRow_own L.kv.2 he
  refine ⟨L.hs.low (below_of_grown hg L.hs.size (fun k hk => (L.kv.2.lt k hk).1)), ⟨fun p hp => own_turn (L.ka.keys p hp) hg (hN _ (by decide)), own_turn L.ka.own hg (hN _ (by decide))⟩, ⟨?_, ?_⟩, own_turn L.cv hg (hN _ (by decide))⟩
  · intro p hp
    rcases List.mem_append.1 hp with hp | hp
    · exact own_turn (L.kv.1 p hp) hg (hN _ (by decide))
    · obtain rfl : p = (.slice A n c, key) := by simpa using hp
      exact own_turn hk hg (hN _ (by decide))
  · rw [List.length_append, List.map_append]; exact hn
theorem LI.code (L : LI H w0 w N cs f g h va ks vk ps vc codes) {s : ByteArray} {v' : Value} (hg : w.grownBy w' vc.ownBlock)
    (hn : w'.ownsRow (H + 4) StrT 1 v' (codes.length + 1) (strs codes ++ [.string s])) : LI H w0 w' N cs f g h va ks vk ps v' (codes ++ [s]) := by
  have hN : ∀ e, StrT ≠ e → NoRow w vc.ownBlock e := fun e he => noRow_own L.cv he
  refine ⟨L.hs.low (below_of_grown hg L.hs.size (fun k hk => (L.cv.lt k hk).1)), ⟨fun p hp => own_turn (L.ka.keys p hp) hg (hN _ (by decide)), own_turn L.ka.own hg (hN _ (by decide))⟩, L.kv.turn hg (hN _ (by decide)) (hN _ (by decide)), ?_⟩
  rw [List.length_append, strs_append]; exact hn
theorem LI.set (L : LI H w0 w N cs f g h va ks vk ps vc codes) (i : Nat) (u : Value) : LI H w0 (w.setCell ⟨H + 2, i, none⟩ u) N (cs.setIfInBounds i u) f g h va ks vk ps vc codes := by
  have hg : w.grownBy (w.setCell ⟨H + 2, i, none⟩ u) (some (H + 2)) := grown_set w ⟨H + 2, i, none⟩ u
  have hN : ∀ e, ChT ≠ e → NoRow w (some (H + 2)) e := fun e he => noRow_cells L.hs.blk he
  have hs := L.hs
  refine ⟨⟨Blk.set hs.blk i u, hs.texts.turn hg (fun r e => by injection e with e; omega), hs.heads.turn hg (fun r e => by injection e with e; omega), hs.at_.turn hg (fun r e => by injection e with e; omega), below_set hs.below (H + 2) i u (by omega), Nat.le_trans hs.size hg.size⟩,
    ⟨fun p hp => own_turn (L.ka.keys p hp) hg (hN _ (by decide)), own_turn L.ka.own hg (hN _ (by decide))⟩, L.kv.turn hg (hN _ (by decide)) (hN _ (by decide)), own_turn L.cv hg (hN _ (by decide))⟩
theorem Blk.set_far {w : World} {g b i : Nat} {t : TypeId} {cs : Array Value} {u : Value} (h : Blk w g t cs) (hne : g ≠ b) : Blk (w.setCell ⟨b, i, none⟩ u) g t cs := (heap_setCell_other w ⟨b, i, none⟩ g u hne).trans h
theorem one_news {b : Nat} {T : TypeId} {x : Value} (hb : Blk w b T #[x]) : ∀ j u, [x][j]? = some u → w.cell? ((⟨b, 0, none⟩ : Addr).add j) = some u := by
  intro j u hj
  match j, hj with
  | 0, hj => simp at hj; subst hj; rw [Addr.add_lit, hb.cell]; rfl
variable {ops : Array Oper} {o : Oper} {a : Act} {K : Act → World → Prop} {Q : Exit → Act → World → Prop} {E : Prop}
theorem step_key (hgd : o.guard = none) (s x : Operand) (ho : o.op = .call { callee := .builtin .append, args := #[s, x], argTypes := #[100, 100] })
    (L : LI H w0 w N cs f g h va ks vk ps vc codes) (hs : a.eval s = vk) (b : Nat) (A : Option Addr) (n c : Nat) (hb : Blk w b KeyT #[.slice A n c]) (c2 : Nat) (hx : a.eval x = .slice (some ⟨b, 0, none⟩) 1 c2) (key : List Int) (hk : w.ownsRow 0 RuneT 1 (.slice A n c) key.length (i32s key)) (hl : ps.length ≤ 1000)
    (hK : ∀ gg cap w', LI H w0 w' N cs f g h va ks (.slice (some ⟨gg, 0, none⟩) (ps.length + 1) cap) (ps ++ [(.slice A n c, key)]) vc codes → w.grownBy w' vk.ownBlock → K (a.put o.dst (.slice (some ⟨gg, 0, none⟩) (ps.length + 1) cap)) w') :
    if Region.wanted o (yielded ops a.tmps) = true then Oper.wp Tryz.prog o a w K Q else E := by
  obtain ⟨i0, hi, hz0, hz1, hz2⟩ := info_parts infoKey
  refine step_append_lies _ hgd s x 100 ho (H + 4) KeyT i0 (.slice none 0 0) 1 24 Tryz.underlying100 hi hz0 hz1 hz2 rfl (by decide) vk ps.length (ps.map (·.1)) hs L.kv.2 ⟨b, 0, none⟩ 1 c2 [.slice A n c] hx rfl (one_news hb) (by simp [Value.oneCell']) (by decide) (by unfold maxLen; omega) (by omega) L.hs.size _ rfl ?_
  intro gg cap w' hown hgrow _ _
  exact hK gg cap w' (L.key hk hgrow hown) hgrow
theorem step_code (hgd : o.guard = none) (s x : Operand) (ho : o.op = .call { callee := .builtin .append, args := #[s, x], argTypes := #[71, 71] })
    (L : LI H w0 w N cs f g h va ks vk ps vc codes) (hs : a.eval s = vc) (b : Nat) (t : ByteArray) (hb : Blk w b StrT #[.string t]) (c2 : Nat) (hx : a.eval x = .slice (some ⟨b, 0, none⟩) 1 c2) (hl : codes.length ≤ 1000)
    (hK : ∀ gg cap w', LI H w0 w' N cs f g h va ks vk ps (.slice (some ⟨gg, 0, none⟩) (codes.length + 1) cap) (codes ++ [t]) → w.grownBy w' vc.ownBlock → K (a.put o.dst (.slice (some ⟨gg, 0, none⟩) (codes.length + 1) cap)) w') :
    if Region.wanted o (yielded ops a.tmps) = true then Oper.wp Tryz.prog o a w K Q else E := by
  obtain ⟨i0, hi, hz0, hz1, hz2⟩ := info_parts infoStr
  refine step_append_lies _ hgd s x 71 ho (H + 4) StrT i0 (.string ⟨#[]⟩) 1 16 Tryz.underlying71 hi hz0 hz1 hz2 rfl (by decide) vc codes.length (strs codes) hs L.cv ⟨b, 0, none⟩ 1 c2 [.string t] hx rfl (one_news hb) (by simp [Value.oneCell']) (by decide) (by unfold maxLen; omega) (by omega) L.hs.size _ rfl ?_
  intro gg cap w' hown hgrow _ _
  exact hK gg cap w' (L.code hgrow hown) hgrow
end
end Go.Proofs.YtkfjmcidcnpijaaGreatDoor.Sg
