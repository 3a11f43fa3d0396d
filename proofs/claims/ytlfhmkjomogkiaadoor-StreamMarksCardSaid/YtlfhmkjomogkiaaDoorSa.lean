/- Words for memory: a decoder, behind a pointer; walks: stream.right, New, come.add, from. -/
import Derived.Test.YtlfhmkjomogkiaaDoorS1
import Derived.Test.YtlfhmkjomogkiaaDoorJoin
import Derived.Test.YtlfhmkjomogkiaaDoorWn
namespace Go.Proofs.YtlfhmkjomogkiaaDoor.Str
open Go.RowKit Pl

abbrev DecT : TypeId := 90
/-- All but one block, and one row, is as it was. -/
structure Kept (b : Nat) (v : Value) (w w' : World) : Prop where
  os : w'.os = w.os
  tape : w'.tape = w.tape
  output : w'.output = w.output
  size : w.heap.size ≤ w'.heap.size
  block : ∀ g, g < w.heap.size → g ≠ b → v.ownBlock ≠ some g → w'.heap[g]? = w.heap[g]?
abbrev nilV : Value := .slice none 0 0
theorem nil_own (g : Nat) : nilV.ownBlock ≠ some g := by simp [Value.ownBlock]
theorem Kept.of_below {b : Nat} {v : Value} {w w' : World} (h : Below w.heap.size w w') : Kept b v w w' := ⟨h.os, h.tape, h.output, h.size, fun g hg _ _ => h.block g hg⟩
theorem Kept.refl (b : Nat) (v : Value) (w : World) : Kept b v w w := ⟨rfl, rfl, rfl, Nat.le_refl _, fun _ _ _ _ => rfl⟩
theorem Kept.below {B b : Nat} {v : Value} {w w' : World} (h : Kept b v w w') (hB : B ≤ b) (hv : ∀ g, v.ownBlock = some g → B ≤ g) (hs : B ≤ w.heap.size) : Below B w w' :=
  ⟨h.os, h.tape, h.output, h.size, fun g hg => h.block g (by omega) (by omega) (fun e => by have := hv g e; omega)⟩
/-- Behind one another; the row may have moved to a new block. -/
theorem Kept.trans {b : Nat} {v v' : Value} {w w1 w2 : World} (h : Kept b v w w1) (k : Kept b v' w1 w2) (hv : v'.ownBlock = v.ownBlock ∨ ∃ g, v'.ownBlock = some g ∧ w.heap.size ≤ g) : Kept b v w w2 :=
  ⟨k.os.trans h.os, k.tape.trans h.tape, k.output.trans h.output, Nat.le_trans h.size k.size, fun g hg hb hn => by
    rw [k.block g (Nat.lt_of_lt_of_le hg h.size) hb ?_, h.block g hg hb hn]
    rcases hv with e | ⟨g', e, hle⟩
    · rw [e]; exact hn
    · rw [e]; intro he; injection he with he; omega⟩
theorem Kept.wide {b : Nat} {v : Value} {w w' : World} (h : Kept b nilV w w') : Kept b v w w' := ⟨h.os, h.tape, h.output, h.size, fun g hg hb _ => h.block g hg hb (nil_own g)⟩
theorem Kept.set {w : World} {b i : Nat} {v : Value} : Kept b nilV w (w.setCell ⟨b, i, none⟩ v) :=
  ⟨rfl, rfl, rfl, by simp, fun g _ hb _ => heap_setCell_other w ⟨b, i, none⟩ g v hb⟩
theorem Kept.blk {b : Nat} {v : Value} {w w' : World} (h : Kept b v w w') {g : Nat} {t : TypeId} {cs : Array Value} (hg : Blk w g t cs) (hb : g ≠ b) (hv : v.ownBlock ≠ some g) : Blk w' g t cs := (h.block g hg.lt hb hv).trans hg
theorem Blk.set {w : World} {g : Nat} {t : TypeId} {cs : Array Value} (h : Blk w g t cs) (i : Nat) (v : Value) : Blk (w.setCell ⟨g, i, none⟩ v) g t (cs.setIfInBounds i v) := heap_setCell_same w g i cs t v h
theorem Blk.frozen {w : World} {g : Nat} {t : TypeId} {cs : Array Value} (h : Blk w g t cs) (i : Nat) : w.frozen? ⟨g, i, none⟩ = false := frozen_of_row w g i cs t h
theorem own_mono {w : World} {B B' e sz n : Nat} {v : Value} {xs : List Value} (h : w.ownsRow B' e sz v n xs) (hB : B ≤ B') : w.ownsRow B e sz v n xs := by
  refine ⟨h.1, ?_⟩
  rcases h.2 with h1 | ⟨g, cap, cur, e1, hg, hh, h4⟩
  · exact .inl h1
  · exact .inr ⟨g, cap, cur, e1, Nat.le_trans hB hg, hh, h4⟩
theorem own_kept {w w' : World} {B e sz n : Nat} {v : Value} {xs : List Value} (h : w.ownsRow B e sz v n xs) (he : ∀ g, v.ownBlock = some g → w'.heap[g]? = w.heap[g]?) : w'.ownsRow B e sz v n xs := by
  refine ⟨h.1, ?_⟩
  rcases h.2 with h1 | ⟨g, cap, cur, e1, hg, hh, h4⟩
  · exact .inl h1
  · exact .inr ⟨g, cap, cur, e1, hg, (he g (by rw [e1]; rfl)).trans hh, h4⟩
theorem own_set {w : World} {B e sz n b i : Nat} {v x : Value} {xs : List Value} (h : w.ownsRow B e sz v n xs) (hb : v.ownBlock ≠ some b) : (w.setCell ⟨b, i, none⟩ x).ownsRow B e sz v n xs :=
  own_kept (w := w) h fun g hg => heap_setCell_other w ⟨b, i, none⟩ g x (fun e => hb (by rw [hg, e]))
/-- The cells of a decoder. -/
def dcells (s : SSt) (v : Value) : Array Value := #[.string ⟨s.rest.toArray⟩, .int .i64 s.all, .int .i64 s.kind, .int .i64 s.pol, .bool s.guess, .bool s.over, v]
/-- A decoder in its block, its faults in a row. -/
def DecAt (B b : Nat) (w : World) (s : SSt) (v : Value) : Prop := Blk w b DecT (dcells s v) ∧ B ≤ b ∧ w.ownsRow B FaultT 2 v s.bad.length (fcells s.bad)
theorem DecAt.own_ne {B b : Nat} {w : World} {s : SSt} {v : Value} (h : DecAt B b w s v) : v.ownBlock ≠ some b := own_blk_ne h.2.2 h.1 (by decide)
theorem DecAt.below {B b : Nat} {w w' : World} {s : SSt} {v : Value} (h : DecAt B b w s v) (hb : Below w.heap.size w w') : DecAt B b w' s v := ⟨h.1.below hb h.1.lt, h.2.1, own_below h.2.2 hb⟩
theorem DecAt.frame {B b : Nat} {w : World} {s : SSt} {v : Value} (h : DecAt B b w s v) {w' : World} (hk : Kept b v w w') : Below B w w' :=
  hk.below h.2.1 (fun g hg => (h.2.2.lt g hg).1) (by have := h.1.lt; have := h.2.1; omega)

theorem DecPost.up {w w' : World} {o : Obj} {x : List Int × List (Nat × Nat) × Int} {e : Ending} (h : DecPost (w.alloc o) x e w') : DecPost w x e w' := by
  obtain ⟨vo, vb, rfl, h1, h2, h3, h4⟩ := h
  have hz : w.heap.size ≤ (w.alloc o).heap.size := by simp
  exact ⟨vo, vb, rfl, own_mono h1 hz, own_mono h2 hz, Below.since_alloc h3, Nat.le_trans hz h4⟩
theorem DecPost.up_drew {w w' : World} {o : Obj} {x : List Int × List (Nat × Nat) × Int} {e : Ending} (h : DecPost (w.alloc o).drew x e w') : DecPost w x e w' := by
  obtain ⟨vo, vb, rfl, h1, h2, h3, h4⟩ := h
  have hz : w.heap.size ≤ (w.alloc o).drew.heap.size := by simp [World.drew]
  exact ⟨vo, vb, rfl, own_mono h1 hz, own_mono h2 hz, (((Below.refl w.heap.size w).alloc (Nat.le_refl _) o).drew).trans (h3.mono hz), Nat.le_trans hz h4⟩
theorem right_any (k p : Int) (w : World) :
    Calls Tryd.prog 53 #[.int .i64 k, .int .i64 p] w fun e w' => e = .returned (.bool (decide (1 ≤ k ∧ k ≤ 5 ∧ 1 ≤ p ∧ p ≤ 3))) ∧ w = w' := by
  by_cases h1 : 1 ≤ k
  · by_cases h2 : k ≤ 5
    · by_cases h3 : 1 ≤ p
      · go_enter Tryd.func53, Tryd.ntmps53
        go_wp2
        go_ret
        exact ⟨by simp [h1, h2, h3], rfl⟩
      · go_enter Tryd.func53, Tryd.ntmps53
        go_wp2
        go_ret
        exact ⟨by rw [decide_eq_false (by omega)]; rfl, rfl⟩
    · go_enter Tryd.func53, Tryd.ntmps53
      go_wp2
      go_ret
      exact ⟨by rw [decide_eq_false (by omega)]; rfl, rfl⟩
  · go_enter Tryd.func53, Tryd.ntmps53
    go_wp2
    go_ret
    exact ⟨by rw [decide_eq_false (by omega)]; rfl, rfl⟩
/-- What New answers. -/
def NewPost (w : World) (k p : Int) (g : Bool) (e : Ending) (w' : World) : Prop :=
  Below w.heap.size w w' ∧ ((¬ (1 ≤ k ∧ k ≤ 5 ∧ 1 ≤ p ∧ p ≤ 3) ∧ e = .returned (.tuple #[.pointer none, .int .i64 16])) ∨
    ((1 ≤ k ∧ k ≤ 5 ∧ 1 ≤ p ∧ p ≤ 3) ∧ ∃ b, e = .returned (.tuple #[.pointer (some ⟨b, 0, none⟩), .int .i64 0]) ∧ DecAt w.heap.size b w' (snew k p g) nilV))
theorem new_any (k p : Int) (g : Bool) (w : World) :
    Calls Tryd.prog 33 #[.int .i64 k, .int .i64 p, .bool g] w (NewPost w k p g) := by
  have HR := Lib.hid (right_any k p)
  by_cases h : 1 ≤ k ∧ k ≤ 5 ∧ 1 ≤ p ∧ p ≤ 3
  · rw [decide_eq_true h] at HR
    have H := Lib.hid h
    clear h
    go_enter Tryd.func33, Tryd.ntmps33
    go_wp2_with (go_at_call 53; refine (HR.out _).mono ?_; rintro e w' ⟨rfl, rfl⟩)
    go_returns
    refine ⟨by go_grown, .inr ⟨H.out, _, rfl, ?_⟩⟩
    refine ⟨Blk.new _ _ _, Nat.le_refl _, ?_⟩
    exact World.ownsRow_nil _ _ _ _
  · rw [decide_eq_false h] at HR
    have H := Lib.hid h
    clear h
    go_enter Tryd.func33, Tryd.ntmps33
    go_wp2_with (go_at_call 53; refine (HR.out _).mono ?_; rintro e w' ⟨rfl, rfl⟩)
    go_returns
    exact ⟨Below.refl _ _, .inl ⟨H.out, rfl⟩⟩

/-- What add leaves. -/
def AddPost (B b : Nat) (w : World) (s : SSt) (v : Value) (e : Ending) (w' : World) : Prop := e = .returned (.tuple #[]) ∧ DecAt B b w' s v ∧ Kept b nilV w w'
theorem add_any (B b : Nat) (s : SSt) (v : Value) (A : Option Addr) (n c : Nat) (ls : List ByteArray) (w : World) (h : DecAt B b w s v) (hR : Rd w A n (strv ls)) (hcap : n ≤ c) (hn : n ≤ 1000000)
    (hlen : (allB ls).length ≤ 1000000) (ha : s.all ≤ 1000000) (hr : s.rest.length ≤ 1000000) :
    Calls Tryd.prog 48 #[.pointer (some ⟨b, 0, none⟩), .slice A n c] w (AddPost B b w (sadd (allB ls) s) v) := by
  have HJ := Lib.hid (join_any A n c ls w hR hcap hn (by omega))
  have HD := Lib.hid h
  obtain ⟨t, ht⟩ : ∃ t, allB ls = t := ⟨_, rfl⟩
  rw [ht] at HJ hlen ⊢
  have hz1 : (⟨t.toArray⟩ : ByteArray).size = t.length := ba_size t
  have hz2 : (⟨s.rest.toArray⟩ : ByteArray).size = s.rest.length := ba_size _
  clear ht h hR
  go_enter Tryd.func48, Tryd.ntmps48
  go_wp2_with fail
  refine HJ.out.mono ?_
  rintro e w1 ⟨rfl, hb1⟩
  have hD := HD.out.below hb1
  have c0 : w1.cell? ⟨b, 0, none⟩ = some (.string ⟨s.rest.toArray⟩) := by rw [hD.1.cell]; rfl
  have c1 : w1.cell? ⟨b, 1, none⟩ = some (.int .i64 s.all) := by rw [hD.1.cell]; rfl
  have f0 : w1.frozen? ⟨b, 0, none⟩ = false := Blk.frozen hD.1 0
  have f1 : w1.frozen? ⟨b, 1, none⟩ = false := Blk.frozen hD.1 1
  have HD1 := Lib.hid hD
  have HB1 := Lib.hid hb1
  clear hD hb1 HJ
  go_wp2
  go_returns
  refine ⟨rfl, ⟨?_, HD1.out.2.1, ?_⟩, ?_⟩
  · have h2 := Blk.set (Blk.set HD1.out.1 0 (.string (⟨s.rest.toArray⟩ ++ ⟨t.toArray⟩))) 1 (.int .i64 ((s.all : Int) + t.length))
    rw [ba_append] at h2 ⊢
    exact h2
  · exact own_set (own_set HD1.out.2.2 HD1.out.own_ne) HD1.out.own_ne
  · exact ((Kept.of_below HB1.out).trans Kept.set (.inl rfl)).trans Kept.set (.inl rfl)
theorem from_any (B b : Nat) (s : SSt) (v : Value) (w : World) (h : DecAt B b w s v) (hr : s.rest.length ≤ s.all) (ha : s.all ≤ 1000000) :
    Calls Tryd.prog 62 #[.pointer (some ⟨b, 0, none⟩)] w fun e w' => e = .returned (.int .i64 ((s.all - s.rest.length : Nat) : Int)) ∧ Drew w w' := by
  have c0 : w.cell? ⟨b, 0, none⟩ = some (.string ⟨s.rest.toArray⟩) := by rw [h.1.cell]; rfl
  have c1 : w.cell? ⟨b, 1, none⟩ = some (.int .i64 s.all) := by rw [h.1.cell]; rfl
  have hz2 : (⟨s.rest.toArray⟩ : ByteArray).size = s.rest.length := ba_size _
  have hw : IntKind.i64.wrap ((s.all : Int) - (s.rest.length : Int)) = ((s.all - s.rest.length : Nat) : Int) := by
    rw [IntWalk.i64_in _ (by omega)]; omega
  clear h
  go_enter Tryd.func62, Tryd.ntmps62
  go_wp2_with fail
  go_quiet (fail)
  go_wp2
  go_returns
  exact ⟨rfl, _, rfl⟩
end Go.Proofs.YtlfhmkjomogkiaaDoor.Str
