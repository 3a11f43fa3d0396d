/- Words for memory: blocks that are known whole, slices that read as lists. -/
import Derived.WalkKit
import Derived.WalkSpells
import Derived.WalkLawsBesides
import Derived.Lib.Hide
import Derived.Handy
import Derived.BigQuiet
import Derived.Deep.QuietTactic
import Derived.StillTailTactics
import Derived.Lib.OthersKept
import Derived.Lib.IndexBytes
namespace Go.Proofs.YtkfjmcidcnpijaaGreatDoor
open Go.RowKit

theorem below_via {B : Nat} {a W w1 : World} (hb : Below W.heap.size W w1) (h : Below B a W) (hB : B ≤ W.heap.size) : Below B a w1 := h.trans (hb.mono hB)
theorem bdN {B : Nat} {a w : World} (h : Below B a w) (n : Nat) : Below B a (w.drewN n) := ⟨h.os, h.tape, h.output, h.size, h.block⟩
/-- A block that is known whole. -/
def Blk (w : World) (g : Nat) (t : TypeId) (cs : Array Value) : Prop := w.heap[g]? = some (.cells cs t (0, 0))
theorem Blk.lt {w : World} {g : Nat} {t : TypeId} {cs : Array Value} (h : Blk w g t cs) : g < w.heap.size := by
  unfold Blk at h
  exact (Array.getElem?_eq_some_iff.1 h).1
theorem Blk.cell {w : World} {g : Nat} {t : TypeId} {cs : Array Value} (h : Blk w g t cs) (i : Nat) : w.cell? ⟨g, i, none⟩ = cs[i]? := cell_of_row w g i cs t (0, 0) h
theorem Blk.new (w : World) (t : TypeId) (cs : Array Value) : Blk (w.alloc (.cells cs t)) w.heap.size t cs := heap_alloc_new w _
theorem Blk.drew {w : World} {g : Nat} {t : TypeId} {cs : Array Value} (h : Blk w g t cs) : Blk w.drew g t cs := h
theorem Blk.alloc {w : World} {g : Nat} {t : TypeId} {cs : Array Value} (h : Blk w g t cs) (o : Obj) : Blk (w.alloc o) g t cs := (Below.heap_alloc w o g h.lt).trans h
theorem Blk.below {w w' : World} {g : Nat} {t : TypeId} {cs : Array Value} {B : Nat} (h : Blk w g t cs) (hb : Below B w w') (hg : g < B) : Blk w' g t cs := (hb.block g hg).trans h
theorem Blk.others {w w' : World} {g : Nat} {t e : TypeId} {b : Nat} {cs : Array Value} (h : Blk w g t cs) (hk : Lib.OthersKept e (some b) w w') (hg : g ≠ b) (ht : t ≠ e) : Blk w' g t cs :=
  hk g _ h (fun he => hg (Option.some.inj he)) (fun c fz he => by injection he with _ h2; exact ht h2)

/-- A slice value that reads as a list of one-cell elements, in blocks that are there. -/
def Rd (w : World) (A : Option Addr) (n : Nat) (xs : List Value) : Prop :=
  xs.length = n ∧ (0 < n → ∃ b o, A = some ⟨b, o, none⟩ ∧ b < w.heap.size ∧ ∀ i x, xs[i]? = some x → w.cell? ⟨b, o + i, none⟩ = some x)
theorem Rd.keep {w w' : World} {A : Option Addr} {n : Nat} {xs : List Value} (h : Rd w A n xs) (hb : Below w.heap.size w w') : Rd w' A n xs :=
  ⟨h.1, fun hn => by
    obtain ⟨b, o, e, hlt, hc⟩ := h.2 hn
    exact ⟨b, o, e, Nat.lt_of_lt_of_le hlt hb.size, fun i x hx => (hb.cell (p := ⟨b, o + i, none⟩) hlt).trans (hc i x hx)⟩⟩
theorem Rd.below {w w' : World} {A : Option Addr} {n : Nat} {xs : List Value} {B : Nat} (h : Rd w A n xs) (hb : Below B w w') (hB : w.heap.size ≤ B) : Rd w' A n xs := h.keep (hb.mono hB)
theorem Rd.of_new (w : World) (T : TypeId) (xs : List Value) (n : Nat) (h : xs.length = n) : Rd (w.alloc (.cells xs.toArray T)) (some ⟨w.heap.size, 0, none⟩) n xs :=
  ⟨h, fun _ => ⟨w.heap.size, 0, rfl, by simp, fun i x hx => by rw [Nat.zero_add, (Blk.new w T xs.toArray).cell]; simpa using hx⟩⟩
/-- Runes as cells. -/
def i32s (l : List Int) : List Value := l.map (Value.int .i32)
theorem i32s_length (l : List Int) : (i32s l).length = l.length := by simp [i32s]
theorem Rd.i32_at {w : World} {A : Option Addr} {n : Nat} {l : List Int} (h : Rd w A n (i32s l)) {k : Nat} (hk : k < l.length) :
    ∃ b o, A = some ⟨b, o, none⟩ ∧ b < w.heap.size ∧ w.cell? ⟨b, o + k, none⟩ = some (.int .i32 l[k]) := by
  obtain ⟨b, o, e, hlt, hc⟩ := h.2 (by rw [← h.1, i32s_length]; omega)
  exact ⟨b, o, e, hlt, hc k _ (by simp [i32s, hk])⟩
theorem Rd.i32_len {w : World} {A : Option Addr} {n : Nat} {l : List Int} (h : Rd w A n (i32s l)) : l.length = n := by rw [← h.1, i32s_length]

end Go.Proofs.YtkfjmcidcnpijaaGreatDoor
