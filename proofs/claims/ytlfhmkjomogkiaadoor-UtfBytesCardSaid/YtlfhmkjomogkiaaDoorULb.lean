/- The statement UtfBytes: its walk. -/
import Derived.Test.YtlfhmkjomogkiaaDoorUk
import Derived.Test.YtlfhmkjomogkiaaDoorUh
namespace Go.Proofs.YtlfhmkjomogkiaaDoor.Utf
open Go.RowKit Pl

/-- The bytes of the characters among numbers. -/
def wantB (l : List Int) : List UInt8 := (l.filter scal).flatMap uch
theorem wantB_le (l : List Int) : (wantB l).length ≤ 4 * l.length := by
  unfold wantB
  have h1 := flat_uch_le (l.filter scal)
  have h2 := List.length_filter_le scal l
  omega
theorem wantB_yes (l : List Int) (k : Nat) (h : k < l.length) (hs : scal l[k] = true) : wantB (l.take (k + 1)) = wantB (l.take k) ++ uch l[k] := by
  unfold wantB
  rw [take_snoc_l l k h, List.filter_append, List.flatMap_append]
  simp [hs]
theorem wantB_no (l : List Int) (k : Nat) (h : k < l.length) (hs : scal l[k] = false) : wantB (l.take (k + 1)) = wantB (l.take k) ∧ (l.take (k + 1)).all scal = false := by
  unfold wantB
  rw [take_snoc_l l k h, List.filter_append, List.flatMap_append, List.all_append]
  simp [hs]
theorem all_yes (l : List Int) (k : Nat) (h : k < l.length) (hs : scal l[k] = true) : (l.take (k + 1)).all scal = (l.take k).all scal := by
  rw [take_snoc_l l k h, List.all_append]; simp [hs]
theorem uenc_all (l : List Int) (h : l.all scal = true) : uenc l = (wantB l, 0) := by
  unfold uenc wantB
  rw [if_pos h]
  have : l.filter scal = l := List.filter_eq_self.2 (fun a ha => List.all_eq_true.1 h a ha)
  rw [this]
theorem uenc_not (l : List Int) (h : l.all scal = false) : uenc l = ([], 11) := by
  unfold uenc
  rw [h]; rfl
set_option maxRecDepth 100000 in
set_option maxHeartbeats 3200000 in
theorem utfBytes_law (A : Option Addr) (len cap : Nat) (l : List Int) (w : World) (hR : Rd w A len (i32s l)) (_hl : ∀ r ∈ l, -2147483648 ≤ r ∧ r ≤ 2147483647) (hRL : RL w) :
    Calls Tryd.prog 4 #[.slice A len cap] w fun e w' => e = .returned (.bool true) ∧ Below w.heap.size w w' := by
  have HA := Lib.hid awake_any
  have HRL := Lib.hid hRL
  obtain rfl := hR.i32_len
  by_cases h2 : 200 < l.length
  · have i1 : (200 : Int) < l.length := by omega
    clear hR h2 hRL
    go_enter Tryd.func4, Tryd.ntmps4
    go_wp2_with (go_at_call 16; refine (HA.out _ HRL.out).mono ?_; rintro e w3 ⟨rfl, hb3⟩)
    go_returns
    exact ⟨rfl, hb3⟩
  · have i1 : decide ((200 : Int) < l.length) = false := by simp; omega
    have HE := Lib.hid (encode_any A l.length cap l (by omega) w hRL hR)
    have HLL := Lib.hid (show l.length ≤ 200 by omega)
    have HR := Lib.hid hR
    obtain ⟨X, hX⟩ : ∃ X, uenc l = X := ⟨_, rfl⟩
    rw [hX] at HE
    have HX := Lib.hid hX
    clear hR hRL h2 hX
    go_enter Tryd.func4, Tryd.ntmps4
    go_wp2_with fail
    refine HE.out.mono ?_
    rintro e w1 ⟨he, hb1⟩
    rw [encEnd] at he
    subst he
    have HB1 := Lib.hid hb1
    clear hb1 HE
    go_wp2_with fail
    go_loopw [5, 6, 7] (fun s b i wr => ∃ j : Nat, j ≤ l.length ∧ i = .int .i64 j ∧ s = .string ⟨(wantB (l.take j)).toArray⟩ ∧ b = .bool ((l.take j).all scal) ∧ Below w.heap.size w wr) (fun _ _ i _ => l.length - (intOf i).toNat)
    case atStart => exact ⟨0, Nat.zero_le _, rfl, rfl, rfl, HB1.out⟩
    case round =>
      obtain ⟨j, hj, rfl, rfl, rfl, hb⟩ := hrel
      have HB := Lib.hid hb
      have hll := HLL.out
      clear hb
      by_cases hlt : j < l.length
      · obtain ⟨bA, oA, rfl, hbA, hcA⟩ := HR.out.i32_at hlt
        have hcA' : wr.cell? ⟨bA, oA + j, none⟩ = some (.int .i32 l[j]) := by
          rw [HB.out.cell (p := ⟨bA, oA + j, none⟩) hbA]; exact hcA
        have HR1 := Lib.hid (HRL.out.since HB.out)
        have HSc := Lib.hid (scalar_any l[j])
        have HLen := Lib.hid (fun w h => len_any l[j] w h)
        clear hcA
        cases hsc : scal l[j]
        · have HW := Lib.hid (wantB_no l j hlt hsc)
          rw [hsc] at HSc
          rw [show ulen l[j] = 0 from by simp [ulen, hsc]] at HLen
          clear hsc
          generalize l[j] = r at *
          generalize wantB (l.take j) = v at *
          generalize (l.take j).all scal = bb at *
          go_wp2_with fail
          go_at_call 20
          refine (HSc.out _).mono ?_
          rintro e w' ⟨rfl, rfl⟩
          go_wp2_with fail
          go_at_call 22
          refine (HLen.out _ HR1.out).mono ?_
          rintro e w2 ⟨rfl, hb2⟩
          go_wp2
          go_roundw
          case rel => exact ⟨j + 1, by omega, by go_num, by rw [HW.out.1], by rw [HW.out.2], HB.out.trans (hb2.mono HB.out.size)⟩
          case measure => simp [intOf]; omega
        · have HW := Lib.hid (wantB_yes l j hlt hsc)
          have HAL := Lib.hid (all_yes l j hlt hsc)
          have HBy := Lib.hid (bytes_any l[j] hsc)
          have hvl := wantB_le (l.take j)
          have hv2 : (wantB (l.take j)).length ≤ 800 := by rw [List.length_take] at hvl; omega
          have hu := uch_le l[j]
          rw [hsc] at HSc
          rw [show ulen l[j] = (uch l[j]).length from by unfold ulen; rw [if_pos hsc]] at HLen
          clear hsc hvl
          generalize l[j] = r at *
          generalize uch r = u at *
          generalize wantB (l.take j) = v at *
          generalize (l.take j).all scal = bb at *
          have hz1 : (⟨u.toArray⟩ : ByteArray).size = u.length := ba_size u
          have hz2 : (⟨v.toArray⟩ : ByteArray).size = v.length := ba_size v
          go_wp2_with fail
          go_at_call 20
          refine (HSc.out _).mono ?_
          rintro e w' ⟨rfl, rfl⟩
          go_wp2_with fail
          go_at_call 21
          refine (HBy.out _).mono ?_
          rintro e w2 ⟨rfl, hb2⟩
          have HB2 := Lib.hid (HB.out.trans (hb2.mono HB.out.size))
          have hc2 : w2.cell? ⟨bA, oA + j, none⟩ = some (.int .i32 r) := by
            rw [hb2.cell (p := ⟨bA, oA + j, none⟩) (by show bA < _; have := HB.out.size; omega)]; exact hcA'
          have HR2 := Lib.hid (HR1.out.since hb2)
          have hzz := hb2.size
          clear hb2
          go_wp2_with fail
          go_at_call 21
          refine (HBy.out _).mono ?_
          rintro e w3 ⟨rfl, hb3⟩
          have HB3 := Lib.hid (HB2.out.trans (hb3.mono HB2.out.size))
          have hc3 : w3.cell? ⟨bA, oA + j, none⟩ = some (.int .i32 r) := by
            rw [hb3.cell (p := ⟨bA, oA + j, none⟩) (by show bA < _; have := HB2.out.size; omega)]; exact hc2
          have HR3 := Lib.hid (HR2.out.since hb3)
          clear hb3
          go_wp2_with fail
          go_at_call 22
          refine (HLen.out _ HR3.out).mono ?_
          rintro e w4 ⟨rfl, hb4⟩
          have HB4 := Lib.hid (HB3.out.trans (hb4.mono HB3.out.size))
          clear hb4
          go_wp2
          go_roundw
          case rel => exact ⟨j + 1, by omega, by go_num, by rw [HW.out, ← ba_append], by rw [HAL.out], HB4.out⟩
          case measure => simp [intOf]; omega
      · rw [List.take_of_length_le (by omega)]
        have HRw := Lib.hid (HRL.out.since HB.out)
        cases hall : l.all scal
        · have hu := uenc_not l hall
          rw [HX.out] at hu
          subst hu
          clear HX
          generalize wantB l = v at *
          clear hall
          go_wp2_with (go_at_call 16; refine (HA.out _ HRw.out).mono ?_; rintro e w3 ⟨rfl, hb3⟩)
          go_returns
          exact ⟨rfl, HB.out.trans (hb3.mono HB.out.size)⟩
        · have hu := uenc_all l hall
          rw [HX.out] at hu
          subst hu
          clear HX
          generalize wantB l = v at *
          clear hall
          go_wp2_with (go_at_call 16; refine (HA.out _ HRw.out).mono ?_; rintro e w3 ⟨rfl, hb3⟩)
          go_returns
          exact ⟨rfl, HB.out.trans (hb3.mono HB.out.size)⟩
end Go.Proofs.YtlfhmkjomogkiaaDoor.Utf
