/- Walks: slices.Clone of characters, insertionSortCmpFunc, stableCmpFunc, SortStableFunc and marks.Sort on rows that are sorted already. -/
import Derived.Test.YtkphecmdilefgaaDoorG13
namespace Go.Proofs.YtkphecmdilefgaaDoor.Sg
open Go.RowKit Pl Go.Lib

set_option maxRecDepth 100000 in
theorem cloneR_any (B2 : Nat) (vc : Value) (l : List Int) (w : World) (hc : w.ownsRow B2 RuneT 1 vc l.length (i32s l)) (h0 : l ≠ []) (hl : l.length ≤ 1000000) :
    Calls Tryd.prog 64 #[vc] w (OnePost w l) := by
  rcases own_shape hc with ⟨_, h1⟩ | ⟨g, c, rfl⟩
  · exact absurd (List.eq_nil_of_length_eq_zero h1) h0
  have HC := Lib.hid hc
  have hn : 0 < l.length := List.length_pos_iff.2 h0
  have HO : Hid ((w.alloc (.cells #[] RuneT)).ownsRow w.heap.size RuneT 1 (.slice (some ⟨w.heap.size, 0, none⟩) 0 0) ([] : List Int).length (i32s [])) := World.ownsRow_made w #[] 0 (Nat.le_refl _) (by decide) rfl
  have hq : ∀ w, (binOp .eql 50 (.slice (some ⟨g, 0, none⟩) l.length c) (.slice none 0 0)).run Tryd.prog w = .ok (.bool false) w := fun _ => rfl
  clear hc
  go_enter Tryd.func64, Tryd.ntmps64
  go_wp2_with (at_builtin; go_loud (refine wpList_outs _ rfl _ _ rfl w.heap.size (.slice (some ⟨w.heap.size, 0, none⟩) 0 0) [] rfl HO.out (by simp) B2 (.slice (some ⟨g, 0, none⟩) l.length c) l rfl (HC.out.alloc _) (by simp; omega) ?_); intro v w1 ho hgr _)
  have hb1 : Below w.heap.size w w1 := ((Below.refl w.heap.size w).alloc (Nat.le_refl _) _).grown hgr (by simp) (fun k hk => by simp [Value.ownBlock] at hk; omega)
  rw [List.nil_append] at ho
  go_returns
  exact ⟨_, rfl, ho, hb1⟩

/-- The classes do not fall. -/
def Sorted (l : List Int) : Prop := ∀ j (h : j + 1 < l.length), cls l[j] ≤ cls l[j + 1]
set_option maxRecDepth 100000 in
set_option maxHeartbeats 800000 in
theorem ins_any (A : Option Addr) (c : Nat) (l : List Int) (k : Nat) (w : World) (hR : Rd w A l.length (i32s l)) (hl : l.length ≤ 1000) (hs : Sorted l) (hk : w.cell? ⟨k, 0, none⟩ = some smallI) (hkl : k < w.heap.size) :
    Calls Tryd.prog 72 #[.slice A l.length c, .int .i64 0, .int .i64 l.length, .func (.func 70) #[] #[.pointer (some ⟨k, 0, none⟩)]] w fun e w' => e = .returned (.tuple #[]) ∧ Below w.heap.size w w' := by
  have HR := Lib.hid hR
  have HS := Lib.hid hs
  have HK := Lib.hid hk
  clear hR hs hk
  go_enter Tryd.func72, Tryd.ntmps72
  go_wp2
  go_loopw [8] (fun i wr => ∃ n : Nat, 1 ≤ n ∧ (n ≤ l.length ∨ n = 1) ∧ i = .int .i64 n ∧ Below w.heap.size w wr) (fun i _ => 1001 - (intOf i).toNat)
  case atStart => exact ⟨1, by omega, .inr rfl, rfl, Below.refl _ _⟩
  case round =>
    obtain ⟨n, h1, hn, rfl, hb⟩ := hrel
    by_cases hlt : n < l.length
    · obtain ⟨m, rfl⟩ : ∃ m, n = m + 1 := ⟨n - 1, by omega⟩
      have hr := HR.out.keep hb
      obtain ⟨b1, o1, rfl, hk1, c1⟩ := hr.i32_at hlt
      obtain ⟨b2, o2, he, _, c2⟩ := hr.i32_at (k := m) (by omega)
      injection he with he
      injection he with he1 he2 _
      subst he1
      subst he2
      have hcls := HS.out m hlt
      have hkw : wr.cell? ⟨k, 0, none⟩ = some smallI := (hb.cell (p := ⟨k, 0, none⟩) hkl).trans HK.out
      have HC := Lib.hid (fun (W : World) (h : Below wr.heap.size wr W) => cmp_any k l[m + 1] l[m] W ((h.cell (p := ⟨k, 0, none⟩) (Nat.lt_of_lt_of_le hkl hb.size)).trans hkw) (Nat.lt_of_lt_of_le hkl (Nat.le_trans hb.size h.size)))
      have HB := Lib.hid hb
      have h3 : decide (cls l[m + 1] - cls l[m] < 0) = false := decide_eq_false (by omega)
      generalize l[m + 1] = x at *
      generalize l[m] = y at *
      have g1 : decide ((m : Int) + 1 > 0) = true := decide_eq_true (by omega)
      have g2 : decide ((0 : Int) < (m : Int) + 1) = true := decide_eq_true (by omega)
      have i1 : (0 : Int) ≤ (m : Int) := by omega
      have i2 : (0 : Int) ≤ (m : Int) + 1 := by omega
      have i3 : (m : Int) + 1 < (l.length : Int) := by omega
      have i4 : (m : Int) < (l.length : Int) := by omega
      have i5 : IntKind.i64.wrap ((m : Int) + 1 - 1) = (m : Int) := by rw [IntWalk.i64_in _ (by omega)]; omega
      have i6 : IntKind.i64.wrap (m : Int) = (m : Int) := IntWalk.i64_in _ (by omega)
      clear hb hr hkw hcls HK HR HS
      go_wp2_with fail
      refine wp_loop_rounds 1 ?_
      rw [rounds_succ]
      go_wp2_with fail
      go_region_held3 (fun w' => w'.cell? ⟨b1, o1 + (m + 1), none⟩ = some (.int .i32 x) ∧ w'.cell? ⟨b1, o1 + m, none⟩ = some (.int .i32 y)) (first | exact ⟨c1, c2⟩ | exact ⟨(hb1.cell (p := ⟨b1, o1 + (m + 1), none⟩) hk1).trans c1, (hb1.cell (p := ⟨b1, o1 + m, none⟩) hk1).trans c2⟩) (first | (go_at_call 70; refine (HC.out _ (Below.refl _ _).drew).mono ?_; rintro _ w1 ⟨rfl, hb1⟩))
      go_wp2_with fail
      go_roundw
      case rel => exact ⟨m + 2, by omega, by omega, by go_num, HB.out.trans (((Below.refl _ _).drew.trans hb1).mono HB.out.size)⟩
      case measure => simp [intOf]; omega
    · have e1 : decide ((n : Int) < (l.length : Int)) = false := decide_eq_false (by omega)
      go_wp2_with fail
      go_returns
      exact ⟨rfl, hb⟩
set_option maxRecDepth 100000 in
theorem stable_any (A : Option Addr) (c : Nat) (l : List Int) (k : Nat) (w : World) (hR : Rd w A l.length (i32s l)) (hl : l.length < 20) (hs : Sorted l) (hk : w.cell? ⟨k, 0, none⟩ = some smallI) (hkl : k < w.heap.size) :
    Calls Tryd.prog 71 #[.slice A l.length c, .int .i64 l.length, .func (.func 70) #[] #[.pointer (some ⟨k, 0, none⟩)]] w fun e w' => e = .returned (.tuple #[]) ∧ Below w.heap.size w w' := by
  have HC := Lib.hid (ins_any A c l k w hR (by omega) hs hk hkl)
  have e1 : decide ((20 : Int) ≤ (l.length : Int)) = false := decide_eq_false (by omega)
  have e2 : decide ((20 : Int) < (l.length : Int)) = false := decide_eq_false (by omega)
  clear hR hs hk
  go_enter Tryd.func71, Tryd.ntmps71
  go_wp2_with fail
  refine wp_loop_rounds 1 ?_
  rw [rounds_succ]
  go_wp2_with fail
  refine HC.out.mono ?_
  rintro _ w1 ⟨rfl, hb1⟩
  go_wp2_with fail
  refine wp_loop_rounds 1 ?_
  rw [rounds_succ]
  go_wp2_with fail
  go_returns
  exact ⟨rfl, hb1⟩
theorem sortS_any (A : Option Addr) (c : Nat) (l : List Int) (k : Nat) (w : World) (hR : Rd w A l.length (i32s l)) (hl : l.length < 20) (hs : Sorted l) (hk : w.cell? ⟨k, 0, none⟩ = some smallI) (hkl : k < w.heap.size) :
    Calls Tryd.prog 69 #[.slice A l.length c, .func (.func 70) #[] #[.pointer (some ⟨k, 0, none⟩)]] w fun e w' => e = .returned (.tuple #[]) ∧ Below w.heap.size w w' := by
  have HC := Lib.hid (stable_any A c l k w hR hl hs hk hkl)
  clear hR hs hk
  go_enter Tryd.func69, Tryd.ntmps69
  go_wp2_with fail
  refine HC.out.mono ?_
  rintro _ w1 ⟨rfl, hb1⟩
  go_wp2_with fail
  go_returns
  exact ⟨rfl, hb1⟩
theorem rising_at : ∀ (l : List Int), Rising l → ∀ j (h : j + 1 < l.length), cls l[j + 1] = 0 ∨ cls l[j] ≤ cls l[j + 1]
  | [], _, j, h => by simp at h
  | [_], _, j, h => by simp at h
  | a :: b :: t, hr, 0, _ => hr.1
  | a :: b :: t, hr, j + 1, h => rising_at (b :: t) hr.2 j (by simpa using h)
theorem seg_len (l : List Int) (f i : Nat) (hi : i ≤ l.length) : ((l.drop f).take (i - f)).length = i - f := by simp; omega
theorem seg_sorted (l : List Int) (f i : Nat) (hi : i ≤ l.length) (hr : Rising l) (hz : ∀ j, f ≤ j → j < i → (h : j < l.length) → cls l[j] ≠ 0) : Sorted ((l.drop f).take (i - f)) := by
  intro j hj
  rw [seg_len l f i hi] at hj
  simp only [List.getElem_take, List.getElem_drop]
  rcases rising_at l hr (f + j) (by omega) with h | h
  · exact absurd h (hz (f + j + 1) (by omega) (by omega) (by omega))
  · exact h
theorem seg_rd {w : World} {B g c : Nat} {l : List Int} (h : w.ownsRow B RuneT 1 (.slice (some ⟨g, 0, none⟩) l.length c) l.length (i32s l)) (f i : Nat) (hi : i ≤ l.length) :
    Rd w (some ⟨g, f, none⟩) ((l.drop f).take (i - f)).length (i32s ((l.drop f).take (i - f))) := by
  refine ⟨i32s_length _, fun _ => ⟨g, f, rfl, (h.lt g rfl).2, fun j x hx => ?_⟩⟩
  refine own_cell h x ?_
  unfold i32s at hx ⊢
  rw [List.getElem?_map] at hx ⊢
  rw [← hx]
  by_cases hj : j < i - f
  · rw [List.getElem?_take_of_lt hj, List.getElem?_drop]
  · rw [List.getElem?_eq_none (l := (l.drop f).take (i - f)) (by rw [seg_len l f i hi]; omega)] at hx
    simp at hx
theorem own_cap {w : World} {B g n c : Nat} {e : TypeId} {xs : List Value} (h : w.ownsRow B e 1 (.slice (some ⟨g, 0, none⟩) n c) n xs) : n ≤ c ∧ c ≤ maxLen := by
  rcases h.2 with ⟨h1, _⟩ | ⟨g', cap, cur, e1, hg, hh, h2, h3, h4, h5⟩
  · cases h1
  · injection e1 with _ _ e3
    subst e3
    exact ⟨h2, h3⟩
def MsortPost (w : World) (l : List Int) (e : Ending) (w' : World) : Prop := ∃ v, e = .returned (.tuple #[v, .int .i64 0]) ∧ w'.ownsRow w.heap.size RuneT 1 v l.length (i32s l) ∧ Below w.heap.size w w'
set_option maxRecDepth 100000 in
set_option maxHeartbeats 1600000 in
theorem msort_any (B2 : Nat) (vc : Value) (l : List Int) (w : World) (hc : w.ownsRow B2 RuneT 1 vc l.length (i32s l)) (h0 : l ≠ []) (hl : l.length < 20) (hs : Rising l) :
    Calls Tryd.prog 68 #[smallI, vc] w (MsortPost w l) := by
  have hb0 : Below w.heap.size w (w.alloc (.cells #[smallI] 118)) := (Below.refl _ _).alloc (Nat.le_refl _) _
  have hk0 : (w.alloc (.cells #[smallI] 118)).cell? ⟨w.heap.size, 0, none⟩ = some smallI := by rw [World.cell?_alloc_at _ _ _ _ rfl]; rfl
  have HC := Lib.hid (cloneR_any B2 vc l _ (hc.alloc (.cells #[smallI] 118)) h0 (by omega))
  have HS := Lib.hid hs
  have HB0 := Lib.hid hb0
  have HK0 := Lib.hid hk0
  have hq : ∀ w, (binOp .eql 118 smallI .nilIface).run Tryd.prog w = .ok (.bool false) w := fun _ => rfl
  have hmf : ∀ (fn : Fn) (first cap : Array Value) (w : World), (Instr.makeFunc fn first cap).run Tryd.prog w = .ok (.func fn first cap) w := fun _ _ _ _ => rfl
  have hna : ∀ w, (nilAhead 266 72 (.agg #[]) "Class").run Tryd.prog w = .ok (some false) w := fun _ => rfl
  clear hc hs hb0 hk0
  go_enter Tryd.func68, Tryd.ntmps68
  go_wp2_with fail
  refine HC.out.mono ?_
  rintro _ w1 ⟨v1, rfl, ho1, hb1⟩
  rcases own_shape ho1 with ⟨_, h1⟩ | ⟨g, c, rfl⟩
  · exact absurd (List.eq_nil_of_length_eq_zero h1) h0
  have hcap := own_cap ho1
  have HO1 := Lib.hid ho1
  have HB1 := Lib.hid (HB0.out.trans (hb1.mono HB0.out.size))
  have HK1 := Lib.hid ((hb1.cell (p := ⟨w.heap.size, 0, none⟩) (by simp)).trans HK0.out)
  have HKL : Hid (w.heap.size < w1.heap.size) := Lib.hid (Nat.lt_of_lt_of_le (by simp) hb1.size)
  unfold maxLen at hcap
  clear ho1 hb1
  go_wp2_with fail
  go_loopw [7, 8] (fun vf vi wr => ∃ f i : Nat, f ≤ i ∧ i ≤ l.length + 1 ∧ vf = .int .i64 f ∧ vi = .int .i64 i ∧ (∀ j, f ≤ j → j < i → (h : j < l.length) → cls l[j] ≠ 0) ∧ Below w1.heap.size w1 wr) (fun _ vi _ => l.length + 1 - (intOf vi).toNat)
  case atStart => exact ⟨0, 0, by omega, by omega, rfl, rfl, fun j _ h => absurd h (by omega), Below.refl _ _⟩
  case round =>
    obtain ⟨f, i, hfi, hi, rfl, rfl, hz, hb⟩ := hrel
    have HZ := Lib.hid hz
    have HB := Lib.hid hb
    have HKR := Lib.hid ((hb.cell (p := ⟨w.heap.size, 0, none⟩) HKL.out).trans HK1.out)
    have HOR := Lib.hid (own_below HO1.out hb)
    have HKLR : Hid (w.heap.size < wr.heap.size) := Lib.hid (Nat.lt_of_lt_of_le HKL.out hb.size)
    clear hz hb
    by_cases hlt : i < l.length
    · have c0 := own_cell HOR.out (i := i) (.int .i32 l[i]) (by unfold i32s; rw [List.getElem?_map, List.getElem?_eq_getElem hlt]; rfl)
      have hk := HKR.out
      have e1 : decide ((i : Int) ≤ (l.length : Int)) = true := decide_eq_true (by omega)
      have e2 : ((i : Int) == (l.length : Int)) = false := by simp; omega
      have i1 : (0 : Int) ≤ (i : Int) := by omega
      have i2 : (i : Int) < (l.length : Int) := by omega
      have i3 : (i : Int) ≤ (c : Int) := by omega
      have i4 : (f : Int) ≤ (i : Int) := by omega
      have i5 : (0 : Int) ≤ (f : Int) := by omega
      have HCL := Lib.hid (class17_any l[i] wr.drew)
      go_wp2_with fail
      go_region_held3 (fun w' => w'.cell? ⟨w.heap.size, 0, none⟩ = some smallI ∧ w'.cell? ⟨g, i, none⟩ = some (.int .i32 l[i])) (first | exact ⟨hk, c0⟩ | exact ⟨(hb2.cell (p := ⟨w.heap.size, 0, none⟩) HKLR.out).trans hk, (hb2.cell (p := ⟨g, i, none⟩) (HOR.out.lt g rfl).2).trans c0⟩) (first | (go_at_call 94; refine HCL.out.mono ?_; rintro _ w2 ⟨rfl, hb2⟩))
      have HB2 := Lib.hid (HB.out.trans (((Below.refl _ _).drew.trans hb2).mono HB.out.size))
      have HO2 := Lib.hid (own_below HO1.out HB2.out)
      have hk2 := (hb2.cell (p := ⟨w.heap.size, 0, none⟩) HKLR.out).trans hk
      have HKL2 : Hid (w.heap.size < w2.heap.size) := Lib.hid (Nat.lt_of_lt_of_le HKL.out HB2.out.size)
      clear c0 hk hb2
      by_cases hcz : cls l[i] = 0
      · have e3 : (cls l[i] == 0) = true := by simp [hcz]
        have HSO := Lib.hid (sortS_any (some ⟨g, f, none⟩) (c - f) ((l.drop f).take (i - f)) w.heap.size w2 (seg_rd HO2.out f i (by omega)) (by rw [seg_len l f i (by omega)]; omega) (seg_sorted l f i (by omega) HS.out HZ.out) hk2 HKL2.out)
        rw [seg_len l f i (by omega)] at HSO
        clear hk2 hcz
        go_wp2_with fail
        refine HSO.out.mono ?_
        rintro _ w3 ⟨rfl, hb3⟩
        go_wp2_with fail
        go_roundw
        case rel => exact ⟨i + 1, i + 1, by omega, by omega, by go_num, by go_num, fun j h1 h2 _ => absurd h1 (by omega), HB2.out.trans (hb3.mono HB2.out.size)⟩
        case measure => simp [intOf]; omega
      · have e3 : (cls l[i] == 0) = false := by simp [hcz]
        go_wp2_with fail
        go_roundw
        case rel =>
          refine ⟨f, i + 1, by omega, by omega, rfl, by go_num, fun j h1 h2 h => ?_, HB2.out⟩
          by_cases hj : j < i
          · exact HZ.out j h1 hj h
          · obtain rfl : j = i := by omega
            exact hcz
        case measure => simp [intOf]; omega
    · by_cases hn : i = l.length
      · subst hn
        have e1 : decide ((l.length : Int) ≤ (l.length : Int)) = true := decide_eq_true (by omega)
        have e2 : ((l.length : Int) == (l.length : Int)) = true := by simp
        have i3 : (l.length : Int) ≤ (c : Int) := by omega
        have i4 : (f : Int) ≤ (l.length : Int) := by omega
        have i5 : (0 : Int) ≤ (f : Int) := by omega
        have i6 : (0 : Int) ≤ (l.length : Int) := by omega
        have hk := HKR.out
        have HSO := Lib.hid (fun (A : Option Addr) (cc : Nat) (W : World) (hA : A = some ⟨g, f, none⟩ ∨ l.length - f = 0) (h : Below wr.heap.size wr W) => sortS_any A cc ((l.drop f).take (l.length - f)) w.heap.size W (by
          rcases hA with rfl | h1
          · exact seg_rd (own_below HOR.out h) f l.length (by omega)
          · exact ⟨i32s_length _, fun h2 => absurd h2 (by rw [seg_len l f l.length (by omega)]; omega)⟩) (by rw [seg_len l f l.length (by omega)]; omega) (seg_sorted l f l.length (by omega) HS.out HZ.out) ((h.cell (p := ⟨w.heap.size, 0, none⟩) HKLR.out).trans hk) (Nat.lt_of_lt_of_le HKLR.out h.size))
        rw [seg_len l f l.length (by omega)] at HSO
        clear hk
        by_cases hcf : f = c
        · obtain rfl : c = f := hcf.symm
          have hz0 : l.length - c = 0 := by omega
          rw [hz0] at HSO
          clear hz0
          go_wp2_with fail
          go_quiet (fail)
          go_wp2_with fail
          refine (HSO.out (some ⟨g, 0, none⟩) 0 _ (.inr (by trivial)) (bdN (Below.refl _ _) _)).mono ?_
          rintro _ w3 ⟨rfl, hb3⟩
          go_wp2_with fail
          go_roundw
          case rel => exact ⟨l.length + 1, l.length + 1, by omega, by omega, by go_num, by go_num, fun j h1 h2 _ => absurd h1 (by omega), HB.out.trans ((bdN (Below.refl _ _) _).trans (hb3.mono HB.out.size))⟩
          case measure => simp [intOf]
        · have i7 : f < c := by omega
          have i8 : (f : Int) < (c : Int) := by omega
          go_wp2_with fail
          go_quiet (fail)
          go_wp2_with fail
          refine (HSO.out (some ⟨g, f, none⟩) (c - f) _ (.inl rfl) (bdN (Below.refl _ _) _)).mono ?_
          rintro _ w3 ⟨rfl, hb3⟩
          go_wp2_with fail
          go_roundw
          case rel => exact ⟨l.length + 1, l.length + 1, by omega, by omega, by go_num, by go_num, fun j h1 h2 _ => absurd h1 (by omega), HB.out.trans ((bdN (Below.refl _ _) _).trans (hb3.mono HB.out.size))⟩
          case measure => simp [intOf]
      · obtain rfl : i = l.length + 1 := by omega
        have e1 : decide (((l.length + 1 : Nat) : Int) ≤ (l.length : Int)) = false := decide_eq_false (by omega)
        have e2 : decide ((l.length : Int) + 1 ≤ (l.length : Int)) = false := decide_eq_false (by omega)
        go_wp2_with fail
        go_returns
        exact ⟨_, rfl, own_low HOR.out (by simp), HB1.out.trans (HB.out.mono HB1.out.size)⟩
end Go.Proofs.YtkphecmdilefgaaDoor.Sg
