/- Joined of: G13, G14, G15. -/
import Derived.Test.YtkfjmcidcnpijaaGreatDoorGA
import Derived.BigRegion
import Derived.Deep.RegionHeld3
/- Walks: the closure of marks.Sort, slices.insertionSortCmpFunc, stableCmpFunc, SortStableFunc, on rows that are sorted already. -/
namespace Go.Proofs.YtkfjmcidcnpijaaGreatDoor.Sg
open Go.RowKit Pl Go.Lib

/-- The classer of the small database, in an interface. -/
abbrev smallI : Value := .iface 69 (.agg #[])
set_option maxRecDepth 1000000 in
theorem class17_any (r : Int) (w : World) :
    Calls Tryz.prog 174 #[.agg #[], .int .i32 r] w fun e w' => e = .returned (.int .i64 (cls r)) ∧ Below w.heap.size w w' := by
  have HC := Lib.hid (fun w => class_any (.agg #[]) rfl r w)
  have hb : Below w.heap.size w (w.alloc (.cells #[] 69)) := (Below.refl _ _).alloc (Nat.le_refl _) _
  go_enter Tryz.func174, Tryz.ntmps174
  go_wp2_with fail
  refine (HC.out _).mono ?_
  rintro _ w1 ⟨rfl, hb1⟩
  go_wp2_with fail
  go_returns
  exact ⟨rfl, hb.trans (hb1.mono hb.size)⟩
theorem ahead_small (n : Nat) (W : World) : (nilAhead (n + 1) 69 (.agg #[]) "Class").run Tryz.prog W = .ok (some false) W := by kernel_rfl
set_option maxRecDepth 1000000 in
theorem cmp_any (k : Nat) (a b : Int) (w : World) (hk : w.cell? ⟨k, 0, none⟩ = some smallI) (hkl : k < w.heap.size) :
    Calls Tryz.prog 141 #[.int .i32 a, .int .i32 b, .pointer (some ⟨k, 0, none⟩)] w fun e w' => e = .returned (.int .i64 (cls a - cls b)) ∧ Below w.heap.size w w' := by
  have HC := Lib.hid (fun r w => class17_any r w)
  have hna := cls_nonneg a; have hnb := cls_nonneg b
  have hla := cls_le a; have hlb := cls_le b
  go_enter Tryz.func141, Tryz.ntmps141
  go_wp2_with fail
  go_region_held3 (fun w' => w'.cell? ⟨k, 0, none⟩ = some smallI) (first | exact hk | exact (hb2.cell (p := ⟨k, 0, none⟩) (Nat.lt_of_lt_of_le hkl hb1.size)).trans ((hb1.cell (p := ⟨k, 0, none⟩) hkl).trans hk) | exact (hb1.cell (p := ⟨k, 0, none⟩) hkl).trans hk) (first | (go_at_call 174; refine (HC.out a w.drew).mono ?_; rintro _ w1 ⟨rfl, hb1⟩) | (go_at_call 174; refine (HC.out b w1).mono ?_; rintro _ w2 ⟨rfl, hb2⟩))
  have hw : IntKind.i64.wrap (cls a - cls b) = cls a - cls b := IntWalk.i64_in _ (by omega)
  go_wp2_with fail
  go_returns
  exact ⟨congrArg (fun x => Ending.returned (.int .i64 x)) hw, ((Below.refl w.heap.size w).drew.trans hb1).trans (hb2.mono hb1.size)⟩
end Go.Proofs.YtkfjmcidcnpijaaGreatDoor.Sg
/- Walks: slices.Clone of characters, insertionSortCmpFunc, stableCmpFunc, SortStableFunc and marks.Sort on rows that are sorted already. -/
namespace Go.Proofs.YtkfjmcidcnpijaaGreatDoor.Sg
open Go.RowKit Pl Go.Lib

set_option maxRecDepth 1000000 in
theorem cloneR_any (B2 : Nat) (vc : Value) (l : List Int) (w : World) (hc : w.ownsRow B2 RuneT 1 vc l.length (i32s l)) (h0 : l ≠ []) (hl : l.length ≤ 1000000) :
    Calls Tryz.prog 92 #[vc] w (OnePost w l) := by
  rcases own_shape hc with ⟨_, h1⟩ | ⟨g, c, rfl⟩
  · exact absurd (List.eq_nil_of_length_eq_zero h1) h0
  have HC := Lib.hid hc
  have hn : 0 < l.length := List.length_pos_iff.2 h0
  have HO : Hid ((w.alloc (.cells #[] RuneT)).ownsRow w.heap.size RuneT 1 (.slice (some ⟨w.heap.size, 0, none⟩) 0 0) ([] : List Int).length (i32s [])) := World.ownsRow_made w #[] 0 (Nat.le_refl _) (by decide) rfl
  have hq : ∀ w, (binOp .eql 72 (.slice (some ⟨g, 0, none⟩) l.length c) (.slice none 0 0)).run Tryz.prog w = .ok (.bool false) w := fun _ => rfl
  clear hc
  go_enter Tryz.func92, Tryz.ntmps92
  go_wp2_with (at_builtin; go_loud (refine wpList_outs _ rfl _ _ rfl w.heap.size (.slice (some ⟨w.heap.size, 0, none⟩) 0 0) [] rfl HO.out (by simp) B2 (.slice (some ⟨g, 0, none⟩) l.length c) l rfl (HC.out.alloc _) (by simp; omega) ?_); intro v w1 ho hgr _)
  have hb1 : Below w.heap.size w w1 := ((Below.refl w.heap.size w).alloc (Nat.le_refl _) _).grown hgr (by simp) (fun k hk => by simp [Value.ownBlock] at hk; omega)
  rw [List.nil_append] at ho
  go_returns
  exact ⟨_, rfl, ho, hb1⟩

/-- The classes do not fall. -/
def Sorted (l : List Int) : Prop := ∀ j (h : j + 1 < l.length), cls l[j] ≤ cls l[j + 1]
set_option maxRecDepth 1000000 in
set_option maxHeartbeats 800000 in
theorem ins_any (A : Option Addr) (c : Nat) (l : List Int) (k : Nat) (w : World) (hR : Rd w A l.length (i32s l)) (hl : l.length ≤ 1000) (hs : Sorted l) (hk : w.cell? ⟨k, 0, none⟩ = some smallI) (hkl : k < w.heap.size) :
    Calls Tryz.prog 151 #[.slice A l.length c, .int .i64 0, .int .i64 l.length, .func (.func 141) #[] #[.pointer (some ⟨k, 0, none⟩)]] w fun e w' => e = .returned (.tuple #[]) ∧ Below w.heap.size w w' := by
  have HR := Lib.hid hR
  have HS := Lib.hid hs
  have HK := Lib.hid hk
  clear hR hs hk
  go_enter Tryz.func151, Tryz.ntmps151
  go_wp2
  go_loopw [8] (fun i wr => ∃ n : Nat, 1 ≤ n ∧ (n ≤ l.length ∨ n = 1) ∧ i = .int .i64 n ∧ Below w.heap.size w wr) (fun i _ => 1001 - (intOf i).toNat)
  case atStart => exact ⟨1, by omega, .inr rfl, rfl, Below.refl _ _⟩
  case round =>
    obtain ⟨n, h1, hn, rfl, hb⟩ := hrel
    by_cases hlt : n < l.length
    · obtain ⟨m, rfl⟩ : ∃ m, n = m + 1 := ⟨n - 1, by omega⟩
      have hr := HR.out.keep hb
      obtain ⟨b1, o1, rfl, hk1, c1⟩ := hr.i32_at hlt
      obtain ⟨b2, o2, he, _, c2⟩ := hr.i32_at (k := m) (by omega)
      injection he with he
      injection he with he1 he2 _
      subst he1
      subst he2
      have hcls := HS.out m hlt
      have hkw : wr.cell? ⟨k, 0, none⟩ = some smallI := (hb.cell (p := ⟨k, 0, none⟩) hkl).trans HK.out
      have HC := Lib.hid (fun (W : World) (h : Below wr.heap.size wr W) => cmp_any k l[m + 1] l[m] W ((h.cell (p := ⟨k, 0, none⟩) (Nat.lt_of_lt_of_le hkl hb.size)).trans hkw) (Nat.lt_of_lt_of_le hkl (Nat.le_trans hb.size h.size)))
      have HB := Lib.hid hb
      have h3 : decide (cls l[m + 1] - cls l[m] < 0) = false := decide_eq_false (by omega)
      generalize l[m + 1] = x at *
      generalize l[m] = y at *
      have g1 : decide ((m : Int) + 1 > 0) = true := decide_eq_true (by omega)
      have g2 : decide ((0 : Int) < (m : Int) + 1) = true := decide_eq_true (by omega)
      have i1 : (0 : Int) ≤ (m : Int) := by omega
      have i2 : (0 : Int) ≤ (m : Int) + 1 := by omega
      have i3 : (m : Int) + 1 < (l.length : Int) := by omega
      have i4 : (m : Int) < (l.length : Int) := by omega
      have i5 : IntKind.i64.wrap ((m : Int) + 1 - 1) = (m : Int) := by rw [IntWalk.i64_in _ (by omega)]; omega
      have i6 : IntKind.i64.wrap (m : Int) = (m : Int) := IntWalk.i64_in _ (by omega)
      clear hb hr hkw hcls HK HR HS
      go_wp2_with fail
      refine wp_loop_rounds 1 ?_
      rw [rounds_succ]
      go_wp2_with fail
      go_region_held3 (fun w' => w'.cell? ⟨b1, o1 + (m + 1), none⟩ = some (.int .i32 x) ∧ w'.cell? ⟨b1, o1 + m, none⟩ = some (.int .i32 y)) (first | exact ⟨c1, c2⟩ | exact ⟨(hb1.cell (p := ⟨b1, o1 + (m + 1), none⟩) hk1).trans c1, (hb1.cell (p := ⟨b1, o1 + m, none⟩) hk1).trans c2⟩) (first | (go_at_call 141; refine (HC.out _ (Below.refl _ _).drew).mono ?_; rintro _ w1 ⟨rfl, hb1⟩))
      go_wp2_with fail
      go_roundw
      case rel => exact ⟨m + 2, by omega, by omega, by go_num, HB.out.trans (((Below.refl _ _).drew.trans hb1).mono HB.out.size)⟩
      case measure => simp [intOf]; omega
    · have e1 : decide ((n : Int) < (l.length : Int)) = false := decide_eq_false (by omega)
      go_wp2_with fail
      go_returns
      exact ⟨rfl, hb⟩
set_option maxRecDepth 1000000 in
theorem stable_any (A : Option Addr) (c : Nat) (l : List Int) (k : Nat) (w : World) (hR : Rd w A l.length (i32s l)) (hl : l.length < 20) (hs : Sorted l) (hk : w.cell? ⟨k, 0, none⟩ = some smallI) (hkl : k < w.heap.size) :
    Calls Tryz.prog 149 #[.slice A l.length c, .int .i64 l.length, .func (.func 141) #[] #[.pointer (some ⟨k, 0, none⟩)]] w fun e w' => e = .returned (.tuple #[]) ∧ Below w.heap.size w w' := by
  have HC := Lib.hid (ins_any A c l k w hR (by omega) hs hk hkl)
  have e1 : decide ((20 : Int) ≤ (l.length : Int)) = false := decide_eq_false (by omega)
  have e2 : decide ((20 : Int) < (l.length : Int)) = false := decide_eq_false (by omega)
  clear hR hs hk
  go_enter Tryz.func149, Tryz.ntmps149
  go_wp2_with fail
  refine wp_loop_rounds 1 ?_
  rw [rounds_succ]
  go_wp2_with fail
  refine HC.out.mono ?_
  rintro _ w1 ⟨rfl, hb1⟩
  go_wp2_with fail
  refine wp_loop_rounds 1 ?_
  rw [rounds_succ]
  go_wp2_with fail
  go_returns
  exact ⟨rfl, hb1⟩
set_option maxRecDepth 1000000 in
theorem sortS_any (A : Option Addr) (c : Nat) (l : List Int) (k : Nat) (w : World) (hR : Rd w A l.length (i32s l)) (hl : l.length < 20) (hs : Sorted l) (hk : w.cell? ⟨k, 0, none⟩ = some smallI) (hkl : k < w.heap.size) :
    Calls Tryz.prog 140 #[.slice A l.length c, .func (.func 141) #[] #[.pointer (some ⟨k, 0, none⟩)]] w fun e w' => e = .returned (.tuple #[]) ∧ Below w.heap.size w w' := by
  have HC := Lib.hid (stable_any A c l k w hR hl hs hk hkl)
  clear hR hs hk
  go_enter Tryz.func140, Tryz.ntmps140
  go_wp2_with fail
  refine HC.out.mono ?_
  rintro _ w1 ⟨rfl, hb1⟩
  go_wp2_with fail
  go_returns
  exact ⟨rfl, hb1⟩
theorem rising_at : ∀ (l : List Int), Rising l → ∀ j (h : j + 1 < l.length), cls l[j + 1] = 0 ∨ cls l[j] ≤ cls l[j + 1]
  | [], _, j, h => by simp at h
  | [_], _, j, h => by simp at h
  | a :: b :: t, hr, 0, _ => hr.1
  | a :: b :: t, hr, j + 1, h => rising_at (b :: t) hr.2 j (by simpa using h)
theorem seg_len (l : List Int) (f i : Nat) (hi : i ≤ l.length) : ((l.drop f).take (i - f)).length = i - f := by simp; omega
theorem seg_sorted (l : List Int) (f i : Nat) (hi : i ≤ l.length) (hr : Rising l) (hz : ∀ j, f ≤ j → j < i → (h : j < l.length) → cls l[j] ≠ 0) : Sorted ((l.drop f).take (i - f)) := by
  intro j hj
  rw [seg_len l f i hi] at hj
  simp only [List.getElem_take, List.getElem_drop]
  rcases rising_at l hr (f + j) (by omega) with h | h
  · exact absurd h (hz (f + j + 1) (by omega) (by omega) (by omega))
  · exact h
theorem seg_rd {w : World} {B g c : Nat} {l : List Int} (h : w.ownsRow B RuneT 1 (.slice (some ⟨g, 0, none⟩) l.length c) l.length (i32s l)) (f i : Nat) (hi : i ≤ l.length) :
    Rd w (some ⟨g, f, none⟩) ((l.drop f).take (i - f)).length (i32s ((l.drop f).take (i - f))) := by
  refine ⟨i32s_length _, fun _ => ⟨g, f, rfl, (h.lt g rfl).2, fun j x hx => ?_⟩⟩
  refine own_cell h x ?_
  unfold i32s at hx ⊢
  rw [List.getElem?_map] at hx ⊢
  rw [← hx]
  by_cases hj : j < i - f
  · rw [List.getElem?_take_of_lt hj, List.getElem?_drop]
  · rw [List.getElem?_eq_none (l := (l.drop f).take (i - f)) (by rw [seg_len l f i hi]; omega)] at hx
    simp at hx
theorem own_cap {w : World} {B g n c : Nat} {e : TypeId} {xs : List Value} (h : w.ownsRow B e 1 (.slice (some ⟨g, 0, none⟩) n c) n xs) : n ≤ c ∧ c ≤ maxLen := by
  rcases h.2 with ⟨h1, _⟩ | ⟨g', cap, cur, e1, hg, hh, h2, h3, h4, h5⟩
  · cases h1
  · injection e1 with _ _ e3
    subst e3
    exact ⟨h2, h3⟩
def MsortPost (w : World) (l : List Int) (e : Ending) (w' : World) : Prop := ∃ v, e = .returned (.tuple #[v, .int .i64 0]) ∧ w'.ownsRow w.heap.size RuneT 1 v l.length (i32s l) ∧ Below w.heap.size w w'
set_option maxRecDepth 1000000 in
set_option maxHeartbeats 1600000 in
theorem msort_any (B2 : Nat) (vc : Value) (l : List Int) (w : World) (hc : w.ownsRow B2 RuneT 1 vc l.length (i32s l)) (h0 : l ≠ []) (hl : l.length < 20) (hs : Rising l) :
    Calls Tryz.prog 122 #[smallI, vc] w (MsortPost w l) := by
  have hahead := ahead_small
  have hb0 : Below w.heap.size w (w.alloc (.cells #[smallI] 142)) := (Below.refl _ _).alloc (Nat.le_refl _) _
  have hk0 : (w.alloc (.cells #[smallI] 142)).cell? ⟨w.heap.size, 0, none⟩ = some smallI := by rw [World.cell?_alloc_at _ _ _ _ rfl]; rfl
  have HC := Lib.hid (cloneR_any B2 vc l _ (hc.alloc (.cells #[smallI] 142)) h0 (by omega))
  have HS := Lib.hid hs
  have HB0 := Lib.hid hb0
  have HK0 := Lib.hid hk0
  have hq : ∀ w, (binOp .eql 142 smallI .nilIface).run Tryz.prog w = .ok (.bool false) w := fun _ => rfl
  have hmf : ∀ (fn : Fn) (first cap : Array Value) (w : World), (Instr.makeFunc fn first cap).run Tryz.prog w = .ok (.func fn first cap) w := fun _ _ _ _ => rfl
  have hna : ∀ w, (nilAhead 266 69 (.agg #[]) "Class").run Tryz.prog w = .ok (some false) w := fun _ => rfl
  clear hc hs hb0 hk0
  go_enter Tryz.func122, Tryz.ntmps122
  go_wp2_with fail
  refine HC.out.mono ?_
  rintro _ w1 ⟨v1, rfl, ho1, hb1⟩
  rcases own_shape ho1 with ⟨_, h1⟩ | ⟨g, c, rfl⟩
  · exact absurd (List.eq_nil_of_length_eq_zero h1) h0
  have hcap := own_cap ho1
  have HO1 := Lib.hid ho1
  have HB1 := Lib.hid (HB0.out.trans (hb1.mono HB0.out.size))
  have HK1 := Lib.hid ((hb1.cell (p := ⟨w.heap.size, 0, none⟩) (by simp)).trans HK0.out)
  have HKL : Hid (w.heap.size < w1.heap.size) := Lib.hid (Nat.lt_of_lt_of_le (by simp) hb1.size)
  unfold maxLen at hcap
  clear ho1 hb1
  go_wp2_with fail
  go_loopw [7, 8] (fun vf vi wr => ∃ f i : Nat, f ≤ i ∧ i ≤ l.length + 1 ∧ vf = .int .i64 f ∧ vi = .int .i64 i ∧ (∀ j, f ≤ j → j < i → (h : j < l.length) → cls l[j] ≠ 0) ∧ Below w1.heap.size w1 wr) (fun _ vi _ => l.length + 1 - (intOf vi).toNat)
  case atStart => exact ⟨0, 0, by omega, by omega, rfl, rfl, fun j _ h => absurd h (by omega), Below.refl _ _⟩
  case round =>
    obtain ⟨f, i, hfi, hi, rfl, rfl, hz, hb⟩ := hrel
    have HZ := Lib.hid hz
    have HB := Lib.hid hb
    have HKR := Lib.hid ((hb.cell (p := ⟨w.heap.size, 0, none⟩) HKL.out).trans HK1.out)
    have HOR := Lib.hid (own_below HO1.out hb)
    have HKLR : Hid (w.heap.size < wr.heap.size) := Lib.hid (Nat.lt_of_lt_of_le HKL.out hb.size)
    clear hz hb
    by_cases hlt : i < l.length
    · have c0 := own_cell HOR.out (i := i) (.int .i32 l[i]) (by unfold i32s; rw [List.getElem?_map, List.getElem?_eq_getElem hlt]; rfl)
      have hk := HKR.out
      have e1 : decide ((i : Int) ≤ (l.length : Int)) = true := decide_eq_true (by omega)
      have e2 : ((i : Int) == (l.length : Int)) = false := by simp; omega
      have i1 : (0 : Int) ≤ (i : Int) := by omega
      have i2 : (i : Int) < (l.length : Int) := by omega
      have i3 : (i : Int) ≤ (c : Int) := by omega
      have i4 : (f : Int) ≤ (i : Int) := by omega
      have i5 : (0 : Int) ≤ (f : Int) := by omega
      have HCL := Lib.hid (class17_any l[i] wr.drew)
      go_wp2_with fail
      go_region_held3 (fun w' => w'.cell? ⟨w.heap.size, 0, none⟩ = some smallI ∧ w'.cell? ⟨g, i, none⟩ = some (.int .i32 l[i])) (first | exact ⟨hk, c0⟩ | exact ⟨(hb2.cell (p := ⟨w.heap.size, 0, none⟩) HKLR.out).trans hk, (hb2.cell (p := ⟨g, i, none⟩) (HOR.out.lt g rfl).2).trans c0⟩) (first | (go_at_call 174; refine HCL.out.mono ?_; rintro _ w2 ⟨rfl, hb2⟩))
      have HB2 := Lib.hid (HB.out.trans (((Below.refl _ _).drew.trans hb2).mono HB.out.size))
      have HO2 := Lib.hid (own_below HO1.out HB2.out)
      have hk2 := (hb2.cell (p := ⟨w.heap.size, 0, none⟩) HKLR.out).trans hk
      have HKL2 : Hid (w.heap.size < w2.heap.size) := Lib.hid (Nat.lt_of_lt_of_le HKL.out HB2.out.size)
      clear c0 hk hb2
      by_cases hcz : cls l[i] = 0
      · have e3 : (cls l[i] == 0) = true := by simp [hcz]
        have HSO := Lib.hid (sortS_any (some ⟨g, f, none⟩) (c - f) ((l.drop f).take (i - f)) w.heap.size w2 (seg_rd HO2.out f i (by omega)) (by rw [seg_len l f i (by omega)]; omega) (seg_sorted l f i (by omega) HS.out HZ.out) hk2 HKL2.out)
        rw [seg_len l f i (by omega)] at HSO
        clear hk2 hcz
        go_wp2_with fail
        refine HSO.out.mono ?_
        rintro _ w3 ⟨rfl, hb3⟩
        go_wp2_with fail
        go_roundw
        case rel => exact ⟨i + 1, i + 1, by omega, by omega, by go_num, by go_num, fun j h1 h2 _ => absurd h1 (by omega), HB2.out.trans (hb3.mono HB2.out.size)⟩
        case measure => simp [intOf]; omega
      · have e3 : (cls l[i] == 0) = false := by simp [hcz]
        go_wp2_with fail
        go_roundw
        case rel =>
          refine ⟨f, i + 1, by omega, by omega, rfl, by go_num, fun j h1 h2 h => ?_, HB2.out⟩
          by_cases hj : j < i
          · exact HZ.out j h1 hj h
          · obtain rfl : j = i := by omega
            exact hcz
        case measure => simp [intOf]; omega
    · by_cases hn : i = l.length
      · subst hn
        have e1 : decide ((l.length : Int) ≤ (l.length : Int)) = true := decide_eq_true (by omega)
        have e2 : ((l.length : Int) == (l.length : Int)) = true := by simp
        have i3 : (l.length : Int) ≤ (c : Int) := by omega
        have i4 : (f : Int) ≤ (l.length : Int) := by omega
        have i5 : (0 : Int) ≤ (f : Int) := by omega
        have i6 : (0 : Int) ≤ (l.length : Int) := by omega
        have hk := HKR.out
        have HSO := Lib.hid (fun (A : Option Addr) (cc : Nat) (W : World) (hA : A = some ⟨g, f, none⟩ ∨ l.length - f = 0) (h : Below wr.heap.size wr W) => sortS_any A cc ((l.drop f).take (l.length - f)) w.heap.size W (by
          rcases hA with rfl | h1
          · exact seg_rd (own_below HOR.out h) f l.length (by omega)
          · exact ⟨i32s_length _, fun h2 => absurd h2 (by rw [seg_len l f l.length (by omega)]; omega)⟩) (by rw [seg_len l f l.length (by omega)]; omega) (seg_sorted l f l.length (by omega) HS.out HZ.out) ((h.cell (p := ⟨w.heap.size, 0, none⟩) HKLR.out).trans hk) (Nat.lt_of_lt_of_le HKLR.out h.size))
        rw [seg_len l f l.length (by omega)] at HSO
        clear hk
        by_cases hcf : f = c
        · obtain rfl : c = f := hcf.symm
          have hz0 : l.length - c = 0 := by omega
          rw [hz0] at HSO
          clear hz0
          go_wp2_with fail
          go_quiet (fail)
          go_wp2_with fail
          refine (HSO.out (some ⟨g, 0, none⟩) 0 _ (.inr (by trivial)) (bdN (Below.refl _ _) _)).mono ?_
          rintro _ w3 ⟨rfl, hb3⟩
          go_wp2_with fail
          go_roundw
          case rel => exact ⟨l.length + 1, l.length + 1, by omega, by omega, by go_num, by go_num, fun j h1 h2 _ => absurd h1 (by omega), HB.out.trans ((bdN (Below.refl _ _) _).trans (hb3.mono HB.out.size))⟩
          case measure => simp [intOf]
        · have i7 : f < c := by omega
          have i8 : (f : Int) < (c : Int) := by omega
          go_wp2_with fail
          go_quiet (fail)
          go_wp2_with fail
          refine (HSO.out (some ⟨g, f, none⟩) (c - f) _ (.inl rfl) (bdN (Below.refl _ _) _)).mono ?_
          rintro _ w3 ⟨rfl, hb3⟩
          go_wp2_with fail
          go_roundw
          case rel => exact ⟨l.length + 1, l.length + 1, by omega, by omega, by go_num, by go_num, fun j h1 h2 _ => absurd h1 (by omega), HB.out.trans ((bdN (Below.refl _ _) _).trans (hb3.mono HB.out.size))⟩
          case measure => simp [intOf]
      · obtain rfl : i = l.length + 1 := by omega
        have e1 : decide (((l.length + 1 : Nat) : Int) ≤ (l.length : Int)) = false := decide_eq_false (by omega)
        have e2 : decide ((l.length : Int) + 1 ≤ (l.length : Int)) = false := decide_eq_false (by omega)
        go_wp2_with fail
        go_returns
        exact ⟨_, rfl, own_low HOR.out (by simp), HB1.out.trans (HB.out.mono HB1.out.size)⟩
end Go.Proofs.YtkfjmcidcnpijaaGreatDoor.Sg
/- Walks: slices.Equal of characters, cover.plain, cover.wrong. -/
namespace Go.Proofs.YtkfjmcidcnpijaaGreatDoor.Sg
open Go.RowKit Pl Go.Lib

set_option maxRecDepth 1000000 in
set_option maxHeartbeats 800000 in
theorem equal_any (A1 : Option Addr) (n1 c1 : Nat) (l1 : List Int) (A2 : Option Addr) (n2 c2 : Nat) (l2 : List Int) (w : World) (h1 : Rd w A1 n1 (i32s l1)) (h2 : Rd w A2 n2 (i32s l2)) (hsm : n1 ≤ 1000000000) :
    Calls Tryz.prog 26 #[.slice A1 n1 c1, .slice A2 n2 c2] w fun e w' => e = .returned (.bool (decide (l1 = l2))) ∧ Drew w w' := by
  obtain rfl := h1.i32_len
  obtain rfl := h2.i32_len
  by_cases hl : l1.length = l2.length
  · have e1 : ((l1.length : Int) == (l2.length : Int)) = true := by simp [hl]
    have e2 : ((l1.length : Int) != (l2.length : Int)) = false := by simp [hl]
    have HL := Lib.hid hl
    have H1 := Lib.hid h1; have H2 := Lib.hid h2
    clear hl h1 h2
    go_enter Tryz.func26, Tryz.ntmps26
    go_wp2
    go_loopw [13] (fun i wr => ∃ k : Nat, k ≤ l1.length ∧ i = .int .i64 k ∧ l1.take k = l2.take k ∧ Drew w wr) (fun i _ => l1.length - (intOf i).toNat)
    case atStart => exact ⟨0, Nat.zero_le _, rfl, rfl, 0, rfl⟩
    case round =>
      obtain ⟨k, hk, rfl, htk, m, rfl⟩ := hrel
      have HT := Lib.hid htk
      clear htk
      by_cases hlt : k < l1.length
      · have hlt2 : k < l2.length := by have := HL.out; omega
        obtain ⟨b1, o1, rfl, hb1, hc1⟩ := H1.out.i32_at hlt
        obtain ⟨b2, o2, rfl, hb2, hc2⟩ := H2.out.i32_at hlt2
        have j0 : (0 : Int) ≤ (k : Int) := by omega
        have j1 : (k : Int) < (l1.length : Int) := by omega
        have j2 : (k : Int) < (l2.length : Int) := by omega
        have HQ : Hid (l1[k] = l2[k] → l1.take (k + 1) = l2.take (k + 1)) := fun he => take_eq_step l1 l2 k hlt hlt2 HT.out he
        have HQ2 : Hid (l1[k] ≠ l2[k] → decide (l1 = l2) = false) := fun he => decide_eq_false (fun h => he (by subst h; rfl))
        generalize l1[k] = x at *
        generalize l2[k] = y at *
        clear hb1 hb2
        by_cases hxy : x = y
        · have e3 : (x == y) = true := by simp [hxy]
          have e4 : (x != y) = false := by simp [hxy]
          have HXY := Lib.hid hxy
          clear hxy
          go_wp2
          go_quiet (fail)
          go_wp2
          go_roundw
          case rel => exact ⟨k + 1, by omega, by go_num, HQ.out HXY.out, _, by first | rfl | exact World.drewN_drewN _ _ _⟩
          case measure => simp [intOf]; omega
        · have e3 : (x == y) = false := by simp [hxy]
          have e4 : (x != y) = true := by simp [hxy]
          have HF := Lib.hid (HQ2.out hxy)
          clear hxy
          go_wp2
          go_quiet (fail)
          go_wp2
          go_returns
          exact ⟨by rw [HF.out]; rfl, _, by first | exact World.drewN_drewN _ _ _ | rfl⟩
      · have hall : l1 = l2 := by
          have h := HT.out
          have hL := HL.out
          rw [List.take_of_length_le (by omega), List.take_of_length_le (by omega)] at h
          exact h
        have HF : Hid (decide (l1 = l2) = true) := decide_eq_true hall
        clear hall
        go_wp2
        go_returns
        exact ⟨by rw [HF.out]; rfl, _, rfl⟩
  · have e1 : ((l1.length : Int) == (l2.length : Int)) = false := by simp; omega
    have e2 : ((l1.length : Int) != (l2.length : Int)) = true := by simp; omega
    have HF : Hid (decide (l1 = l2) = false) := decide_eq_false (fun h => hl (by rw [h]))
    clear hl h1 h2
    go_enter Tryz.func26, Tryz.ntmps26
    go_wp2
    go_returns
    exact ⟨by rw [HF.out]; rfl, 0, rfl⟩



abbrev ByteT : TypeId := 5
theorem infoByte : (Tryz.prog.info? ByteT).map (fun i => (i.zero, i.size, i.bytes)) = some (some (.int .u8 0), 1, 1) := by kernel_rfl
/-- Bytes as cells. -/
def u8s (l : List Nat) : List Value := l.map fun n : Nat => Value.int .u8 (n : Int)
theorem u8s_length (l : List Nat) : (u8s l).length = l.length := by simp [u8s]
theorem u8s_append (a b : List Nat) : u8s (a ++ b) = u8s a ++ u8s b := by simp [u8s]
/-- The four bytes of a character. -/
def four (r : Int) : List Nat := [0, r.toNat / 65536, r.toNat / 256 % 256, r.toNat % 256]
def fourL (l : List Int) : List Nat := l.flatMap four
theorem fourL_len (l : List Int) : (fourL l).length = 4 * l.length := by
  unfold fourL
  induction l with
  | nil => rfl
  | cons a l ih => simp only [List.flatMap_cons, List.length_append, ih, List.length_cons, four, List.length_nil]; omega
def scal (l : List Int) : Prop := ∀ r ∈ l, 0 ≤ r ∧ r ≤ 1114111
theorem four_inj (a b : Int) (ha : 0 ≤ a) (hb : 0 ≤ b) (h : four a = four b) : a = b := by
  unfold four at h
  injection h with _ h
  injection h with h1 h
  injection h with h2 h
  injection h with h3 _
  omega
theorem fourL_inj : ∀ (l m : List Int), scal l → scal m → fourL l = fourL m → l = m := by
  intro l
  induction l with
  | nil =>
    intro m _ _ h
    have := congrArg List.length h
    rw [fourL_len, fourL_len] at this
    exact (List.eq_nil_of_length_eq_zero (by simp at this; omega)).symm
  | cons a l ih =>
    intro m hl hm h
    cases m with
    | nil =>
      have := congrArg List.length h
      rw [fourL_len, fourL_len] at this
      simp at this
    | cons b m =>
      have h' : four a ++ fourL l = four b ++ fourL m := h
      obtain ⟨h1, h2⟩ := List.append_inj h' rfl
      rw [four_inj a b (hl a (by simp)).1 (hm b (by simp)).1 h1, ih m (fun r hr => hl r (by simp [hr])) (fun r hr => hm r (by simp [hr])) h2]
def plain4 (l : List Int) : ByteArray := ⟨((fourL l).map UInt8.ofNat).toArray⟩
theorem fourL_lt (l : List Int) (h : scal l) : ∀ n ∈ fourL l, n < 256 := by
  intro n hn
  unfold fourL at hn
  rw [List.mem_flatMap] at hn
  obtain ⟨r, hr, hn⟩ := hn
  have := h r hr
  simp [four] at hn
  omega
theorem map_u8_inj : ∀ (a b : List Nat), (∀ n ∈ a, n < 256) → (∀ n ∈ b, n < 256) → a.map UInt8.ofNat = b.map UInt8.ofNat → a = b := by
  intro a
  induction a with
  | nil => intro b _ _ h; cases b <;> simp at h ⊢
  | cons x a ih =>
    intro b ha hb h
    cases b with
    | nil => simp at h
    | cons y b =>
      simp only [List.map_cons, List.cons.injEq] at h
      have h1 := congrArg UInt8.toNat h.1
      have hx := ha x (by simp)
      have hy := hb y (by simp)
      simp only [UInt8.toNat_ofNat'] at h1
      rw [Nat.mod_eq_of_lt (by omega), Nat.mod_eq_of_lt (by omega)] at h1
      rw [h1, ih b (fun n hn => ha n (by simp [hn])) (fun n hn => hb n (by simp [hn])) h.2]
theorem plain4_inj (l m : List Int) (hl : scal l) (hm : scal m) (h : plain4 l = plain4 m) : l = m := by
  unfold plain4 at h
  injection h with h
  have h := congrArg Array.toList h
  simp only at h
  exact fourL_inj l m hl hm (map_u8_inj _ _ (fourL_lt l hl) (fourL_lt m hm) h)
theorem plain4_size (l : List Int) : (plain4 l).size = 4 * l.length := by
  show (((fourL l).map UInt8.ofNat).toArray).size = _
  simp [fourL_len]
theorem fourC (r : Int) (h : 0 ≤ r ∧ r ≤ 1114111) : #[Value.int .u8 (r / 16777216), .int .u8 (r / 65536), .int .u8 (r / 256 % 256), .int .u8 (r % 256)] = (u8s (four r)).toArray := by
  obtain ⟨n, rfl⟩ : ∃ n : Nat, r = n := ⟨r.toNat, by omega⟩
  have h0 : (n : Int) / 16777216 = 0 := by omega
  have h1 : four (n : Int) = [0, n / 65536, n / 256 % 256, n % 256] := rfl
  rw [h1, h0]
  rfl
theorem bytes_conv {w : World} {B : Nat} {v : Value} {l : List Nat} (h : w.ownsRow B ByteT 1 v l.length (u8s l)) (hl : ∀ n ∈ l, n < 256) :
    (convert 35 9 v).run Tryz.prog w = .ok (.string ⟨(l.map UInt8.ofNat).toArray⟩) w := by
  rcases own_shape h with ⟨rfl, h0⟩ | ⟨g, c, rfl⟩
  · rw [List.eq_nil_of_length_eq_zero h0]
    exact run_convert_bytes_nil _ _ _ Tryz.underlying35 Tryz.underlying5 0 0 _ Tryz.underlying9
  · have h := run_convert_bytes_back (P := Tryz.prog) w 35 9 ByteT ⟨g, 0, none⟩ c (l.map UInt8.ofNat) Tryz.underlying35 Tryz.underlying5 Tryz.underlying9 (by
      intro i hi
      rw [List.length_map] at hi
      rw [Addr.add_lit, Nat.zero_add]
      have := hl l[i] (List.getElem_mem hi)
      refine own_cell h _ ?_
      simp [u8s, hi]
      omega)
    rw [List.length_map] at h
    exact h
theorem own_rd {w : World} {B g c : Nat} {l : List Int} (h : w.ownsRow B RuneT 1 (.slice (some ⟨g, 0, none⟩) l.length c) l.length (i32s l)) : Rd w (some ⟨g, 0, none⟩) l.length (i32s l) :=
  ⟨i32s_length _, fun _ => ⟨g, 0, rfl, (h.lt g rfl).2, fun j x hx => by rw [Nat.zero_add]; exact own_cell h x hx⟩⟩
section
variable {ops : Array Oper} {rest : List Oper} {oo : Oper} {a : Act} {Q : Exit → Act → World → Prop}
/-- 'b = append(b, x, y, ..)' of bytes. -/
theorem wpList_u8 (w : World) (hgd : oo.guard = none) (s x : Operand) (ho : oo.op = .call { callee := .builtin .append, args := #[s, x], argTypes := #[35, 35] })
    (B : Nat) (v : Value) (l : List Nat) (hs : a.eval s = v) (hst : w.ownsRow B ByteT 1 v l.length (u8s l)) (hB : B ≤ w.heap.size) (m : List Nat) (cs : Array Value) (hcs : cs = (u8s m).toArray) (n : Nat) (hn : n = m.length)
    (c : Nat) (hx : a.eval x = .slice (some ⟨w.heap.size, 0, none⟩) n c) (hsm : l.length + m.length ≤ 1048576)
    (h : ∀ v' w', w'.ownsRow B ByteT 1 v' (l ++ m).length (u8s (l ++ m)) → Below B w w' → wpList Tryz.prog ops Q rest (a.put oo.dst v') w') : wpList Tryz.prog ops Q (oo :: rest) a (w.alloc (.cells cs ByteT)) := by
  obtain ⟨i0, hi, hz0, hz1, hz2⟩ := info_parts infoByte
  subst hcs hn
  have hown' := hst.alloc (.cells (u8s m).toArray ByteT)
  refine wpList_append_own _ hgd s x 35 ho B ByteT i0 (.int .u8 0) 1 1 Tryz.underlying35 hi hz0 hz1 hz2 rfl (by decide) v l.length (u8s l) hs hown' ⟨w.heap.size, 0, none⟩ m.length c (u8s m) hx (by rw [u8s_length, Nat.mul_one]) ?_ ?_ ?_ ?_ ?_ ?_
  · intro j u hj
    rw [Addr.add_lit, Nat.zero_add, (Blk.new w ByteT (u8s m).toArray).cell]
    simpa using hj
  · intro u hu
    obtain ⟨r, _, rfl⟩ := List.mem_map.1 hu
    rfl
  · unfold maxLen; omega
  · omega
  · simp; omega
  · intro v' w1 hown1 hgrow _
    refine h v' w1 (by rw [u8s_append, List.length_append]; exact hown1) (((Below.refl B w).alloc hB _).grown hgrow (by simp; omega) (fun k hk => (hst.lt k hk).1))
end
set_option maxRecDepth 1000000 in
set_option maxHeartbeats 800000 in
theorem plainC_any (A : Option Addr) (c : Nat) (l : List Int) (w : World) (hR : Rd w A l.length (i32s l)) (hl : l.length ≤ 1000) (hs : scal l) :
    Calls Tryz.prog 91 #[.slice A l.length c] w fun e w' => e = .returned (.string (plain4 l)) ∧ Below w.heap.size w w' := by
  have HR := Lib.hid hR
  have HS := Lib.hid hs
  clear hR hs
  go_enter Tryz.func91, Tryz.ntmps91
  go_wp2
  go_loopw [3, 8] (fun v i wr => ∃ k : Nat, k ≤ l.length ∧ i = .int .i64 k ∧ wr.ownsRow w.heap.size ByteT 1 v (fourL (l.take k)).length (u8s (fourL (l.take k))) ∧ Below w.heap.size w wr) (fun _ i _ => l.length - (intOf i).toNat)
  case atStart => exact ⟨0, Nat.zero_le _, rfl, World.ownsRow_nil _ _ _ _, Below.refl _ _⟩
  case round =>
    obtain ⟨k, hk, rfl, ho, hb⟩ := hrel
    have HO := Lib.hid ho
    have HB := Lib.hid hb
    have hL := fourL_len (l.take k)
    rw [List.length_take] at hL
    by_cases hlt : k < l.length
    · obtain ⟨b1, o1, rfl, hb1, c1⟩ := (HR.out.keep hb).i32_at hlt
      have hr := HS.out l[k] (List.getElem_mem hlt)
      have htk : fourL (l.take (k + 1)) = fourL (l.take k) ++ four l[k] := by unfold fourL; rw [List.take_succ_eq_append_getElem hlt, List.flatMap_append]; simp
      generalize l[k] = r at *
      generalize fourL (l.take k) = F at *
      have HTK := Lib.hid htk
      have j0 : (0 : Int) ≤ (k : Int) := by omega
      have j1 : (k : Int) < (l.length : Int) := by omega
      clear htk hb ho hb1
      go_wp2_with (at_builtin; go_loud (refine wpList_u8 wr rfl _ _ rfl w.heap.size u3 F rfl HO.out HB.out.size (four r) _ (fourC r hr) 4 rfl 4 rfl (by rw [show (four r).length = 4 from rfl]; omega) ?_); intro v1 w1 ho1 hb1)
      go_roundw
      case rel => exact ⟨k + 1, by omega, by go_num, by rw [HTK.out]; exact ho1, HB.out.trans hb1⟩
      case measure => simp [intOf]; omega
    · obtain rfl : k = l.length := by omega
      rw [List.take_of_length_le (Nat.le_refl _)] at HO
      have hcv := bytes_conv HO.out (fourL_lt l HS.out)
      clear hb ho
      go_wp2_with fail
      go_returns
      exact ⟨rfl, HB.out⟩
set_option maxRecDepth 1000000 in
theorem wrongC_any (B2 : Nat) (vc : Value) (l : List Int) (w : World) (hc : w.ownsRow B2 RuneT 1 vc l.length (i32s l)) (h0 : l ≠ []) (hl : l.length ≤ 18) (hs : Rising l) :
    Calls Tryz.prog 90 #[smallI, vc] w fun e w' => e = .returned (.int .i64 0) ∧ Below w.heap.size w w' := by
  have HS := Lib.hid (msort_any B2 vc l w hc h0 (by omega) hs)
  rcases own_shape hc with ⟨_, h1⟩ | ⟨g, c, rfl⟩
  · exact absurd (List.eq_nil_of_length_eq_zero h1) h0
  have hn : 0 < l.length := List.length_pos_iff.2 h0
  have HE := Lib.hid (fun (W : World) (hb : Below w.heap.size w W) (g1 c1 : Nat) (h : W.ownsRow w.heap.size RuneT 1 (.slice (some ⟨g1, 0, none⟩) l.length c1) l.length (i32s l)) => equal_any (some ⟨g1, 0, none⟩) l.length c1 l (some ⟨g, 0, none⟩) l.length c l W (own_rd h) (own_rd (own_below hc hb)) (by omega))
  have e1 : decide ((l.length : Int) < 1) = false := decide_eq_false (by omega)
  have e2 : decide ((18 : Int) < (l.length : Int)) = false := decide_eq_false (by omega)
  clear hc
  go_enter Tryz.func90, Tryz.ntmps90
  go_wp2_with fail
  refine HS.out.mono ?_
  rintro _ w1 ⟨v1, rfl, ho1, hb1⟩
  rcases own_shape ho1 with ⟨_, h1⟩ | ⟨g1, c1, rfl⟩
  · omega
  have HE1 := Lib.hid (HE.out w1 hb1 g1 c1 ho1)
  clear ho1
  go_wp2_with fail
  refine HE1.out.mono ?_
  rintro _ w2 ⟨rfl, m, rfl⟩
  have e3 : decide (l = l) = true := by simp
  go_wp2_with fail
  go_returns
  exact ⟨rfl, bdN hb1 _⟩
end Go.Proofs.YtkfjmcidcnpijaaGreatDoor.Sg
