/- Walks: (*single.Table).Whole, inkhornlaw18.bytes. -/
import Derived.Test.YtkphecmdilefgaaDoorG36
namespace Go.Proofs.YtkphecmdilefgaaDoor.Sg
open Go.RowKit Pl Go.Lib

/-- Have all of the first k bytes texts? -/
def wholeB (l : List RowV) (k : Nat) : Bool := (List.range k).all fun n => !(tx l n).toList.isEmpty
theorem whole_has (l : List RowV) : hasS ⟨#[]⟩ ((List.range 256).map (tx l)) = !wholeB l 256 := by
  unfold hasS wholeB
  rw [List.any_map, List.not_all_eq_any_not]
  congr 1
  funext n
  show ((⟨#[]⟩ : ByteArray).toList == (tx l n).toList) = !(!(tx l n).toList.isEmpty)
  rw [Bool.not_not, show (⟨#[]⟩ : ByteArray).toList = [] from by rw [ba_toList]]
  cases (tx l n).toList <;> rfl
theorem whole_succ (l : List RowV) (k : Nat) : wholeB l (k + 1) = (wholeB l k && !(tx l k).toList.isEmpty) := by
  unfold wholeB
  rw [List.range_succ, List.all_append]
  simp
set_option maxRecDepth 100000 in
set_option maxHeartbeats 1600000 in
theorem whole_any (tb : Nat) (l : List RowV) (w : World) (h : TabOk w tb l) :
    Calls Tryd.prog 19 #[.pointer (some ⟨tb, 0, none⟩)] w fun e w' => e = .returned (.bool (wholeB l 256)) ∧ w = w' := by
  obtain ⟨cs, h1, h2, h3⟩ := h.mem
  have hrd : Rd w (some ⟨tb, 1, none⟩) 256 (strs ((List.range 256).map (tx l))) := by
    refine ⟨by rw [strs_length, List.length_map, List.length_range], fun _ => ⟨tb, 1, rfl, h1.lt, fun i x hx => ?_⟩⟩
    unfold strs at hx
    rw [List.getElem?_map, List.getElem?_map] at hx
    by_cases hi : i < 256
    · rw [List.getElem?_range hi] at hx
      rw [h1.cell, h3 i hi]
      exact hx
    · rw [List.getElem?_eq_none (by rw [List.length_range]; omega)] at hx
      cases hx
  have hc := containsS_any (some ⟨tb, 1, none⟩) 256 256 ((List.range 256).map (tx l)) ⟨#[]⟩ w hrd (by omega)
  rw [whole_has] at hc
  have HC := Lib.hid hc
  have hq : ∀ w, (binOp .neq 30 (.pointer (some ⟨tb, 0, none⟩)) (.pointer none)).run Tryd.prog w = .ok (.bool true) w := fun _ => rfl
  generalize wholeB l 256 = W at *
  clear h h1 h2 h3 hrd hc
  go_enter Tryd.func19, Tryd.ntmps19
  go_wp2_with fail
  refine HC.out.mono ?_
  rintro _ _ ⟨rfl, rfl⟩
  cases W
  · go_wp2_with fail
    go_returns
    exact ⟨rfl, rfl⟩
  · go_wp2_with fail
    go_returns
    exact ⟨rfl, rfl⟩
set_option maxRecDepth 100000 in
theorem bytesEq_any (B1 B2 : Nat) (v1 v2 : Value) (L : List Nat) (w : World) (h1 : w.ownsRow B1 ByteT 1 v1 L.length (u8s L)) (h2 : w.ownsRow B2 ByteT 1 v2 L.length (u8s L)) (hl : ∀ n ∈ L, n < 256) :
    Calls Tryd.prog 20 #[v1, v2] w fun e w' => e = .returned (.bool true) ∧ w = w' := by
  have c1 := bytes_conv h1 hl
  have c2 := bytes_conv h2 hl
  obtain ⟨A1, n1, k1, rfl⟩ := own_slice h1
  obtain ⟨A2, n2, k2, rfl⟩ := own_slice h2
  generalize (⟨(L.map UInt8.ofNat).toArray⟩ : ByteArray) = t at *
  clear h1 h2 hl
  go_enter Tryd.func20, Tryd.ntmps20
  go_wp2_with fail
  go_returns
  exact ⟨by simp, rfl⟩
theorem bytesOf_lt (l : List RowV) (cs : List Int) : ∀ n ∈ bytesOf l cs, n < 256 := fun n hn => List.mem_range.1 (List.mem_filter.1 hn).1
end Go.Proofs.YtkphecmdilefgaaDoor.Sg
