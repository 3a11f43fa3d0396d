/- Words: a row of strings that the call makes; walk: inkhornref13.Lines. -/
import Derived.Test.YtkfjmcidcnpijaaGreatDoorMB
import Derived.Laws.OwnMore
import Derived.OwnWalk
namespace Go.Proofs.YtkfjmcidcnpijaaGreatDoor.Mf
open Go.RowKit

abbrev StrT : TypeId := 9
theorem infoStr : (Tryz.prog.info? StrT).map (fun i => (i.zero, i.size, i.bytes)) = some (some (.string ⟨#[]⟩), 1, 16) := by kernel_rfl
def strsL (l : List (List UInt8)) : List Value := l.map fun b => Value.string ⟨b.toArray⟩
theorem strsL_append (a b : List (List UInt8)) : strsL (a ++ b) = strsL a ++ strsL b := by simp [strsL]
theorem own_keep {w w' : World} {B e sz n : Nat} {v : Value} {xs : List Value} (h : w.ownsRow B e sz v n xs) (hb : Below w.heap.size w w') : w'.ownsRow B e sz v n xs := by
  refine ⟨h.1, ?_⟩
  rcases h.2 with h1 | ⟨g, cap, cur, e1, hg, hh, h4⟩
  · exact .inl h1
  · exact .inr ⟨g, cap, cur, e1, hg, (hb.block g (Array.getElem?_eq_some_iff.1 hh).1).trans hh, h4⟩
theorem own_shapeN {w : World} {B n sz : Nat} {e : TypeId} {v : Value} {xs : List Value} (h : w.ownsRow B e sz v n xs) : ∃ A c, v = .slice A n c := by
  rcases h.2 with ⟨rfl, h0⟩ | ⟨g, cap, _, e1, _⟩
  · exact ⟨none, 0, by rw [h0]⟩
  · exact ⟨_, _, e1⟩
section
variable {ops : Array Oper} {rest : List Oper} {oo : Oper} {a : Act} {Q : Exit → Act → World → Prop}
/-- 'out = append(out, line)'. -/
theorem wpList_line (w : World) (hgd : oo.guard = none) (s x : Operand) (ho : oo.op = .call { callee := .builtin .append, args := #[s, x], argTypes := #[71, 71] })
    (B : Nat) (v : Value) (l : List (List UInt8)) (hs : a.eval s = v) (hst : w.ownsRow B StrT 1 v l.length (strsL l)) (hB : B ≤ w.heap.size) (b : ByteArray)
    (c : Nat) (hx : a.eval x = .slice (some ⟨w.heap.size, 0, none⟩) 1 c) (hsm : l.length ≤ 1048576)
    (h : ∀ v' w', w'.ownsRow B StrT 1 v' (l ++ [b.data.toList]).length (strsL (l ++ [b.data.toList])) → Below B w w' → wpList Tryz.prog ops Q rest (a.put oo.dst v') w') : wpList Tryz.prog ops Q (oo :: rest) a (w.alloc (.cells #[.string b] StrT)) := by
  obtain ⟨i0, hi, hz0, hz1, hz2⟩ := info_parts infoStr
  have hown' := hst.alloc (.cells #[.string b] StrT)
  refine wpList_append_own _ hgd s x 71 ho B StrT i0 (.string ⟨#[]⟩) 1 16 Tryz.underlying71 hi hz0 hz1 hz2 rfl (by decide) v l.length (strsL l) hs hown' ⟨w.heap.size, 0, none⟩ 1 c [.string b] hx rfl ?_ ?_ ?_ ?_ ?_ ?_
  · intro j u hj
    match j, hj with
    | 0, hj => simp at hj; subst hj; simp [Addr.add]
  · intro u hu; simp at hu; subst hu; rfl
  · unfold maxLen; omega
  · omega
  · simp; omega
  · intro v' w1 hown1 hgrow _
    refine h v' w1 ?_ (((Below.refl B w).alloc hB _).grown hgrow (by simp; omega) (fun k hk => (hst.lt k hk).1))
    rw [strsL_append, List.length_append]
    exact hown1
end
theorem lines_push (line t : List UInt8) (h : line.all (· != 10) = true) : linesOf (line ++ 10 :: t) = line :: linesOf t := by
  have hne : line ++ 10 :: t ≠ [] := by simp
  have hw : (line ++ 10 :: t).takeWhile (· != 10) = line := by
    rw [List.takeWhile_append_of_pos (fun a ha => List.all_eq_true.1 h a ha), List.takeWhile_cons]
    simp
  rw [linesOf_cons _ hne, hw]
  have h2 : (line ++ 10 :: t).drop (line.length + 1) = t := by
    rw [← List.drop_drop, List.drop_left]
    rfl
  rw [h2]
theorem lines_last (line : List UInt8) (h : line.all (· != 10) = true) (hn : line ≠ []) : linesOf line = [line] := by
  rw [linesOf_cons _ hn, while_all _ _ h, List.drop_eq_nil_of_le (by omega), linesOf_nil]
theorem fits_no1 (s : List UInt8) (out rest : List (List UInt8)) (line : List UInt8) (h : linesOf s = out ++ line :: rest) (hl : 512 < line.length) : fits s = false := by
  unfold fits
  rw [h, List.all_append, List.all_cons]
  have : decide (line.length ≤ 512) = false := decide_eq_false (by omega)
  rw [this]
  simp
theorem fits_no2 (s : List UInt8) (out rest : List (List UInt8)) (line : List UInt8) (h : linesOf s = out ++ line :: rest) (hl : out.length = 4096) : fits s = false := by
  unfold fits
  rw [h]
  have : decide ((out ++ line :: rest).length ≤ 4096) = false := decide_eq_false (by rw [List.length_append, List.length_cons]; omega)
  rw [this, Bool.and_false]
theorem ext_any (s : ByteArray) (i j : Nat) : (s.extract i j).data.toList = (s.data.toList.take j).drop i := by
  rw [ByteArray.data_extract, Array.toList_extract, List.extract_eq_take_drop, List.drop_take]
def LinesPost (w : World) (s : List UInt8) (e : Ending) (w' : World) : Prop :=
  (fits s = true → ∃ v, e = .returned (.tuple #[v, .bool true]) ∧ w'.ownsRow w.heap.size StrT 1 v (linesOf s).length (strsL (linesOf s))) ∧ (fits s = false → e = .returned (.tuple #[.slice none 0 0, .bool false])) ∧ Below w.heap.size w w'





















































































































































end Go.Proofs.YtkfjmcidcnpijaaGreatDoor.Mf
