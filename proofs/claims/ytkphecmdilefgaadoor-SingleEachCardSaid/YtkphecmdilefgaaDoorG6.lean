/- Walks: inkhornref14's Class, inkhornref17's one. -/
import Derived.Test.YtkphecmdilefgaaDoorG4
import Derived.Test.YtkphecmdilefgaaDoorG5
namespace Go.Proofs.YtkphecmdilefgaaDoor.Sg
open Go.RowKit Pl Go.Lib

theorem class_any (v : Value) (hv : v = .agg #[]) (r : Int) (w : World) :
    Calls Tryd.prog 65 #[v, .int .i32 r] w fun e w' => e = .returned (.int .i64 (cls r)) ∧ Below w.heap.size w w' := by
  subst hv
  by_cases h768 : r = 768
  · subst h768
    go_enter Tryd.func65, Tryd.ntmps65
    go_wp2
    go_returns
    exact ⟨rfl, (Below.refl _ _).alloc (Nat.le_refl _) _⟩
  by_cases h769 : r = 769
  · subst h769
    go_enter Tryd.func65, Tryd.ntmps65
    go_wp2
    go_returns
    exact ⟨rfl, (Below.refl _ _).alloc (Nat.le_refl _) _⟩
  by_cases h770 : r = 770
  · subst h770
    go_enter Tryd.func65, Tryd.ntmps65
    go_wp2
    go_returns
    exact ⟨rfl, (Below.refl _ _).alloc (Nat.le_refl _) _⟩
  by_cases h771 : r = 771
  · subst h771
    go_enter Tryd.func65, Tryd.ntmps65
    go_wp2
    go_returns
    exact ⟨rfl, (Below.refl _ _).alloc (Nat.le_refl _) _⟩
  by_cases h772 : r = 772
  · subst h772
    go_enter Tryd.func65, Tryd.ntmps65
    go_wp2
    go_returns
    exact ⟨rfl, (Below.refl _ _).alloc (Nat.le_refl _) _⟩
  by_cases h776 : r = 776
  · subst h776
    go_enter Tryd.func65, Tryd.ntmps65
    go_wp2
    go_returns
    exact ⟨rfl, (Below.refl _ _).alloc (Nat.le_refl _) _⟩
  by_cases h778 : r = 778
  · subst h778
    go_enter Tryd.func65, Tryd.ntmps65
    go_wp2
    go_returns
    exact ⟨rfl, (Below.refl _ _).alloc (Nat.le_refl _) _⟩
  by_cases h803 : r = 803
  · subst h803
    go_enter Tryd.func65, Tryd.ntmps65
    go_wp2
    go_returns
    exact ⟨rfl, (Below.refl _ _).alloc (Nat.le_refl _) _⟩
  by_cases h804 : r = 804
  · subst h804
    go_enter Tryd.func65, Tryd.ntmps65
    go_wp2
    go_returns
    exact ⟨rfl, (Below.refl _ _).alloc (Nat.le_refl _) _⟩
  by_cases h817 : r = 817
  · subst h817
    go_enter Tryd.func65, Tryd.ntmps65
    go_wp2
    go_returns
    exact ⟨rfl, (Below.refl _ _).alloc (Nat.le_refl _) _⟩
  by_cases h807 : r = 807
  · subst h807
    go_enter Tryd.func65, Tryd.ntmps65
    go_wp2
    go_returns
    exact ⟨rfl, (Below.refl _ _).alloc (Nat.le_refl _) _⟩
  by_cases h808 : r = 808
  · subst h808
    go_enter Tryd.func65, Tryd.ntmps65
    go_wp2
    go_returns
    exact ⟨rfl, (Below.refl _ _).alloc (Nat.le_refl _) _⟩
  by_cases h824 : r = 824
  · subst h824
    go_enter Tryd.func65, Tryd.ntmps65
    go_wp2
    go_returns
    exact ⟨rfl, (Below.refl _ _).alloc (Nat.le_refl _) _⟩
  by_cases h837 : r = 837
  · subst h837
    go_enter Tryd.func65, Tryd.ntmps65
    go_wp2
    go_returns
    exact ⟨rfl, (Below.refl _ _).alloc (Nat.le_refl _) _⟩
  have e768 : (r == 768) = false := by simp [h768]
  have e769 : (r == 769) = false := by simp [h769]
  have e770 : (r == 770) = false := by simp [h770]
  have e771 : (r == 771) = false := by simp [h771]
  have e772 : (r == 772) = false := by simp [h772]
  have e776 : (r == 776) = false := by simp [h776]
  have e778 : (r == 778) = false := by simp [h778]
  have e803 : (r == 803) = false := by simp [h803]
  have e804 : (r == 804) = false := by simp [h804]
  have e817 : (r == 817) = false := by simp [h817]
  have e807 : (r == 807) = false := by simp [h807]
  have e808 : (r == 808) = false := by simp [h808]
  have e824 : (r == 824) = false := by simp [h824]
  have e837 : (r == 837) = false := by simp [h837]
  have hc : cls r = 0 := by simp [cls, h768, h769, h770, h771, h772, h776, h778, h803, h804, h817, h807, h808, h824, h837]
  rw [hc]
  clear hc h768 h769 h770 h771 h772 h776 h778 h803 h804 h817 h807 h808 h824 h837
  go_enter Tryd.func65, Tryd.ntmps65
  go_wp2
  go_returns
  exact ⟨rfl, (Below.refl _ _).alloc (Nat.le_refl _) _⟩
/-- What 'one' answers. -/
def OnePost (w : World) (t : List Int) (e : Ending) (w' : World) : Prop := ∃ v, e = .returned v ∧ w'.ownsRow w.heap.size RuneT 1 v t.length (i32s t) ∧ Below w.heap.size w w'
theorem own_lit (w : World) (t : List Int) (hl : t.length ≤ 1000000) : (w.alloc (.cells (i32s t).toArray RuneT)).ownsRow w.heap.size RuneT 1 (.slice (some ⟨w.heap.size, 0, none⟩) t.length t.length) t.length (i32s t) := by
  refine ⟨by simp [i32s], .inr ⟨_, _, _, rfl, Nat.le_refl _, Blk.new _ _ _, Nat.le_refl _, by unfold maxLen; omega, by simp [i32s], ?_⟩⟩
  rw [Nat.mul_one]
  exact List.take_of_length_le (by simp [i32s])
theorem one_any (r : Int) (w : World) :
    Calls Tryd.prog 56 #[.int .i32 r] w (OnePost w (oneR r)) := by
  by_cases h196 : r = 196
  · subst h196
    go_enter Tryd.func56, Tryd.ntmps56
    go_wp2
    go_returns
    exact ⟨_, rfl, own_lit w [65, 776] (by decide), (Below.refl _ _).alloc (Nat.le_refl _) _⟩
  by_cases h228 : r = 228
  · subst h228
    go_enter Tryd.func56, Tryd.ntmps56
    go_wp2
    go_returns
    exact ⟨_, rfl, own_lit w [97, 776] (by decide), (Below.refl _ _).alloc (Nat.le_refl _) _⟩
  by_cases h225 : r = 225
  · subst h225
    go_enter Tryd.func56, Tryd.ntmps56
    go_wp2
    go_returns
    exact ⟨_, rfl, own_lit w [97, 769] (by decide), (Below.refl _ _).alloc (Nat.le_refl _) _⟩
  by_cases h7841 : r = 7841
  · subst h7841
    go_enter Tryd.func56, Tryd.ntmps56
    go_wp2
    go_returns
    exact ⟨_, rfl, own_lit w [97, 803] (by decide), (Below.refl _ _).alloc (Nat.le_refl _) _⟩
  by_cases h7853 : r = 7853
  · subst h7853
    go_enter Tryd.func56, Tryd.ntmps56
    go_wp2
    go_returns
    exact ⟨_, rfl, own_lit w [97, 803, 770] (by decide), (Below.refl _ _).alloc (Nat.le_refl _) _⟩
  by_cases h197 : r = 197
  · subst h197
    go_enter Tryd.func56, Tryd.ntmps56
    go_wp2
    go_returns
    exact ⟨_, rfl, own_lit w [65, 778] (by decide), (Below.refl _ _).alloc (Nat.le_refl _) _⟩
  by_cases h8491 : r = 8491
  · subst h8491
    go_enter Tryd.func56, Tryd.ntmps56
    go_wp2
    go_returns
    exact ⟨_, rfl, own_lit w [65, 778] (by decide), (Below.refl _ _).alloc (Nat.le_refl _) _⟩
  by_cases h836 : r = 836
  · subst h836
    go_enter Tryd.func56, Tryd.ntmps56
    go_wp2
    go_returns
    exact ⟨_, rfl, own_lit w [776, 769] (by decide), (Below.refl _ _).alloc (Nat.le_refl _) _⟩
  have e196 : (r == 196) = false := by simp [h196]
  have e228 : (r == 228) = false := by simp [h228]
  have e225 : (r == 225) = false := by simp [h225]
  have e7841 : (r == 7841) = false := by simp [h7841]
  have e7853 : (r == 7853) = false := by simp [h7853]
  have e197 : (r == 197) = false := by simp [h197]
  have e8491 : (r == 8491) = false := by simp [h8491]
  have e836 : (r == 836) = false := by simp [h836]
  have hc : oneR r = [r] := by simp [oneR, h196, h228, h225, h7841, h7853, h197, h8491, h836]
  rw [hc]
  clear hc h196 h228 h225 h7841 h7853 h197 h8491 h836
  go_enter Tryd.func56, Tryd.ntmps56
  go_wp2
  go_returns
  exact ⟨_, rfl, own_lit w [r] (by simp), (Below.refl _ _).alloc (Nat.le_refl _) _⟩
end Go.Proofs.YtkphecmdilefgaaDoor.Sg
