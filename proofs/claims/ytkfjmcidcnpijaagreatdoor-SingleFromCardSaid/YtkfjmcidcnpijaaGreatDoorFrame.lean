/- Arguments opened: slices of runes and of strings as lists. -/
import Derived.Test.YtkfjmcidcnpijaaGreatDoorRd
import Derived.ProofKit
import Derived.OpenShut
import Derived.SliceStrings
namespace Go.Proofs.YtkfjmcidcnpijaaGreatDoor
open Go.RowKit

theorem Rd.none_ {w : World} : Rd w none 0 [] := ⟨rfl, fun h => absurd h (by omega)⟩
theorem rd_gen {w : World} {x : Addr} {len N : Nat} {xs : List Value} (hx : xs.length = len) (hl : len ≤ N) (g : Nat → Value) (hg : ∀ i v, xs[i]? = some v → v = g i)
    (hc : ∀ i, i < N → w.cell? (x.add i) = some (g i)) : Rd w (some x) len xs := by
  refine ⟨hx, fun h0 => ?_⟩
  obtain ⟨b, o, spot⟩ := x
  have h := hc 0 (by omega)
  have hspot : spot = none := by simpa [Addr.add] using World.cell?_spot h
  subst hspot
  refine ⟨b, o, rfl, ?_, fun i v hv => ?_⟩
  · rcases Nat.lt_or_ge b w.heap.size with hb | hb
    · exact hb
    · simp [Addr.add, World.cell?, Array.getElem?_eq_none hb] at h
  · have hi : i < xs.length := (List.getElem?_eq_some_iff.1 hv).1
    have h2 := hc i (by omega)
    rw [hg i v hv, ← h2]
    congr 1
    unfold Addr.add
    split <;> simp_all
theorem rd_i32 {w : World} {x : Addr} {len : Nat} {zs : List Int} (hl : len ≤ zs.length) (hc : ∀ i, i < zs.length → w.cell? (x.add i) = some (.int .i32 (zs.getD i 0))) : Rd w (some x) len (i32s (zs.take len)) := by
  refine rd_gen (N := zs.length) (by simp [i32s]; omega) hl (fun i => .int .i32 (zs.getD i 0)) ?_ hc
  intro i v hv
  simp only [i32s, List.getElem?_map, List.getElem?_take] at hv
  split at hv
  · rw [List.getD_eq_getElem?_getD]
    cases h : zs[i]? with
    | none => simp [h] at hv
    | some y => simp [h] at hv; simp [hv]
  · simp at hv
/-- Strings as cells. -/
def strv (l : List ByteArray) : List Value := l.map Value.string
theorem strv_length (l : List ByteArray) : (strv l).length = l.length := by simp [strv]
theorem rd_str {w : World} {x : Addr} {len : Nat} {zs : List ByteArray} (hl : len ≤ zs.length) (hc : ∀ i, i < zs.length → w.cell? (x.add i) = some (.string (zs.getD i ByteArray.empty))) : Rd w (some x) len (strv (zs.take len)) := by
  refine rd_gen (N := zs.length) (by simp [strv]; omega) hl (fun i => .string (zs.getD i ByteArray.empty)) ?_ hc
  intro i v hv
  simp only [strv, List.getElem?_map, List.getElem?_take] at hv
  split at hv
  · rw [List.getD_eq_getElem?_getD]
    cases h : zs[i]? with
    | none => simp [h] at hv
    | some y => simp [h] at hv; simp [hv]
  · simp at hv
theorem wf32 {n : Int} (h : (Lit.int .i32 n).wf = true) : -2147483648 ≤ n ∧ n ≤ 2147483647 := by
  simp [Lit.wf, IntKind.min, IntKind.max, IntKind.signed, IntKind.bits] at h
  omega
end Go.Proofs.YtkfjmcidcnpijaaGreatDoor
