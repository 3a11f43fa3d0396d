/- Walk: inkhornlaw18.SingleTables returns true. -/
import Derived.Test.YtkphecmdilefgaaDoorG37
import Derived.Test.YtkphecmdilefgaaDoorSd1
namespace Go.Proofs.YtkphecmdilefgaaDoor.Sg
open Go.RowKit Pl Go.Lib

set_option maxRecDepth 100000 in
set_option maxHeartbeats 12800000 in
theorem singleTables_law {w : World} (hT : Tabs w) (A : Option Addr) (c : Nat) (l : List RowV) (hR : RowsAt w A l) (hn : l.length ≤ 1000000000000000) (hS : ∀ r ∈ l, r.code.size ≤ maxLen ∧ r.text.size ≤ maxLen) (A2 : Option Addr) (n2 c2 : Nat) (cs : List Int) (hR2 : Rd w A2 n2 (i32s cs)) (_ : ∀ r ∈ cs, -2147483648 ≤ r ∧ r ≤ 2147483647) :
    Calls Tryd.prog 5 #[.slice A l.length c, .slice A2 n2 c2] w fun e w' => e = .returned (.bool true) ∧ Below w.heap.size w w' := by
  obtain rfl := hR2.i32_len
  have HT := Lib.hid hT
  have HR := Lib.hid hR
  have HR2 := Lib.hid hR2
  have HF := Lib.hid (few_any A c l w hR hn hS)
  have HAW := Lib.hid (fun (w' : World) (hb : Below w.heap.size w w') => awake18_any w' (hT.keep hb))
  have HSM := Lib.hid (fun w => small17_any w)
  have hml : (l.map plainR).length = l.length := List.length_map _
  clear hT hR hS hn hR2
  go_enter Tryd.func5, Tryd.ntmps5
  have HAW0 := Lib.hid (HAW.out w (Below.refl _ _))
  cases hf : fewR l
  · rw [hf] at HF
    clear hf
    go_wp2_with fail
    refine HF.out.mono ?_
    rintro _ _ ⟨rfl, rfl⟩
    go_wp2_with fail
    refine HAW0.out.mono ?_
    rintro _ w3 ⟨rfl, hb3⟩
    have HB3 := Lib.hid hb3
    clear hb3
    go_wp2_with fail
    go_returns
    exact ⟨rfl, HB3.out⟩
  rw [hf] at HF
  obtain ⟨hfn, hfs⟩ := few_facts hf
  have HFS := Lib.hid hfs
  clear hf
  by_cases hsz : 5 < cs.length
  · have x2 : decide ((5 : Int) < (cs.length : Int)) = true := decide_eq_true (by omega)
    clear hsz hfs
    go_wp2_with fail
    refine HF.out.mono ?_
    rintro _ _ ⟨rfl, rfl⟩
    go_wp2_with fail
    refine HAW0.out.mono ?_
    rintro _ w3 ⟨rfl, hb3⟩
    have HB3 := Lib.hid hb3
    clear hb3
    go_wp2_with fail
    go_returns
    exact ⟨rfl, HB3.out⟩
  have x2 : decide ((5 : Int) < (cs.length : Int)) = false := decide_eq_false (by omega)
  have HS4 : Hid (∀ r ∈ l, r.code.size ≤ 1048576 ∧ r.text.size ≤ 1048576) := Lib.hid (fun r hr => by have := hfs r hr; omega)
  have HFIT := Lib.hid (plain_fit l HS4.out)
  have HP := Lib.hid (plain17_any A c l w HR.out (by omega) HS4.out)
  clear hfs
  go_wp2_with fail
  refine HF.out.mono ?_
  rintro _ _ ⟨rfl, rfl⟩
  go_wp2_with fail
  refine HP.out.mono ?_
  rintro _ w1 ⟨vx, rfl, hrf, hb1⟩
  obtain ⟨Ax, cx, rfl, hra⟩ := hrf.read
  have HRA := Lib.hid hra
  have HB1 := Lib.hid hb1
  have HNEW := Lib.hid (singleNew_any A c l w1 (HR.out.keep hb1) (by omega) HS4.out (HT.out.keep hb1))
  clear hrf hra hb1 HP HF
  go_wp2_with fail
  refine (HSM.out _).mono ?_
  rintro _ _ ⟨rfl, rfl⟩
  go_wp2_with fail
  refine HNEW.out.mono ?_
  rintro e w2 ⟨hb2, h0, h1⟩
  have HB2 := Lib.hid (HB1.out.trans (hb2.mono HB1.out.size))
  have HRA2 := Lib.hid (HRA.out.keep hb2)
  have HW := Lib.hid (wrong18_any Ax cx (l.map plainR) w2 (HRA.out.keep hb2) HFIT.out (by omega))
  rw [hml] at HW
  obtain ⟨⟨Yn, Ye⟩, hY⟩ : ∃ Y, wrong18 (l.map plainR) = Y := ⟨_, rfl⟩
  rw [hY] at HW h0 h1
  have HW : Hid (Calls Tryd.prog 7 #[.slice Ax l.length cx] w2 fun e w' => e = .returned (.tuple #[.int .i64 Yn, .int .i64 Ye]) ∧ Below w2.heap.size w2 w') := HW
  clear hY hb2 HRA HNEW HFIT
  by_cases hy : Ye = 0
  rotate_left
  · obtain rfl := h0 hy
    have hqn : ∀ w, (binOp .eql 30 (.pointer none) (.pointer none)).run Tryd.prog w = .ok (.bool true) w := fun _ => rfl
    have x3 : (Ye != 0) = true := by simp [hy]
    clear h0 h1 hy
    go_wp2_with fail
    refine HW.out.mono ?_
    rintro _ w3 ⟨rfl, hb3⟩
    have HB3 := Lib.hid (HB2.out.trans (hb3.mono HB2.out.size))
    have HAW3 := Lib.hid (HAW.out w3 HB3.out)
    clear hb3
    go_wp2_with fail
    refine HAW3.out.mono ?_
    rintro _ w4 ⟨rfl, hb4⟩
    have HB4 := Lib.hid (HB3.out.trans (hb4.mono HB3.out.size))
    clear hb4
    go_wp2_with fail
    go_returns
    exact ⟨rfl, HB4.out⟩
  obtain ⟨tb, rfl, htab⟩ := h1 hy
  subst hy
  have hq : ∀ w, (binOp .eql 30 (.pointer (some ⟨tb, 0, none⟩)) (.pointer none)).run Tryd.prog w = .ok (.bool false) w := fun _ => rfl
  have htx : ∀ b : UInt8, (tx l b.toNat).size ≤ 1000 := fun b => tx_le l 1000 (fun r hr => by have := (HFS.out r hr).2; omega) _
  have HTX := Lib.hid htx
  have HBX : Hid (∀ b : UInt8, byteS (l.map plainR) b = tx l b.toNat) := Lib.hid (fun b => (tx_eq l htab.valid b).symm)
  have HTAB := Lib.hid htab
  clear h0 h1 htab htx
  go_wp2_with fail
  refine HW.out.mono ?_
  rintro _ w3 ⟨rfl, hb3⟩
  have HB3 := Lib.hid (HB2.out.trans (hb3.mono HB2.out.size))
  have HTAB3 := Lib.hid (HTAB.out.keep hb3)
  have HRA3 := Lib.hid (HRA2.out.keep hb3)
  have HR23 := Lib.hid (HR2.out.keep HB3.out)
  clear hb3 HW HTAB HRA2 HR2
  go_wp2_with fail
  go_loopw [11, 12, 13] (fun vw vo vi wr => ∃ k : Nat, k ≤ 256 ∧ vi = .int .i64 k ∧ vw = .bool (wholeB l k) ∧ wr.ownsRow w3.heap.size ByteT 1 vo ((List.range k).filter (isB l cs)).length (u8s ((List.range k).filter (isB l cs))) ∧ Below w3.heap.size w3 wr) (fun _ _ vi _ => 256 - (RowKit.intOf vi).toNat)
  case atStart => exact ⟨0, by omega, rfl, by simp [wholeB], World.ownsRow_nil _ _ _ _, Below.refl _ _⟩
  case round =>
    obtain ⟨k, hk, rfl, rfl, ho, hb⟩ := hrel
    have HO := Lib.hid ho
    have HB := Lib.hid hb
    by_cases hlt : k < 256
    · have hu : IntKind.u8.wrap (k : Int) = (k : Int) := IntWalk.u8_in _ (by omega)
      have j1 : (k : Int) < 256 := by omega
      have hkt : (UInt8.ofNat k).toNat = k := UInt8.toNat_ofNat_of_lt' (by show k < 256; exact hlt)
      have hby := byteT_any tb l (UInt8.ofNat k) wr (HTAB3.out.keep hb)
      have href := fun (w' : World) (hb' : Below w3.heap.size w3 w') => byte18_any Ax cx (l.map plainR) (UInt8.ofNat k) w' (HRA3.out.keep hb') (by omega)
      have hbs := HTX.out (UInt8.ofNat k)
      rw [hkt] at hby hbs
      simp only [HBX.out, hkt, hml] at href
      have hws := whole_succ l k
      have hrs := range_snoc (isB l cs) k
      have hib : isB l cs k = (!(tx l k).toList.isEmpty && decide (runesL (tx l k).data.toList = cs)) := rfl
      have hfl : ((List.range k).filter (isB l cs)).length ≤ 256 := by
        have := List.length_filter_le (isB l cs) (List.range k)
        rw [List.length_range] at this
        omega
      rw [hib] at hrs
      generalize tx l k = t at *
      generalize (List.range k).filter (isB l cs) = F at *
      generalize hwk : wholeB l k = wk at *
      have H15 := Lib.hid hby
      have H17 := Lib.hid href
      have HWS := Lib.hid hws
      clear ho hb hby href hws hib hkt hwk
      cases he : t.toList.isEmpty
      · rw [he] at H15 HWS hrs
        have hws := HWS.out
        simp only [Bool.not_false, Bool.and_true] at hws
        have HWS2 := Lib.hid hws
        have hrl := runesL_le t.data.toList
        rw [code_len] at hrl
        have hte : t.toList.isEmpty = false := he
        rw [Bool.not_false, Bool.true_and] at hrs
        have HSAME := Lib.hid (fun (W : World) (A1 : Option Addr) (c1 : Nat) (hrd : Rd W A1 (runesL t.data.toList).length (i32s (runesL t.data.toList))) (hb : Below w3.heap.size w3 W) => same_any A1 (runesL t.data.toList).length c1 (runesL t.data.toList) A2 cs.length c2 cs W hrd (HR23.out.keep hb) (by omega))
        have HCV := Lib.hid (fun W => conv_text t (by omega) W)
        generalize runesL t.data.toList = K at *
        clear hws he hrl
        by_cases hkc : K = cs
        · have hdk : decide (K = cs) = true := decide_eq_true hkc
          rw [hdk] at HSAME
          rw [hdk, if_pos rfl] at hrs
          have HRS := Lib.hid hrs
          clear hkc hdk hrs
          cases wk
          all_goals
            go_wp2_with fail
            refine H15.out.mono ?_
            rintro _ w4 ⟨rfl, m, rfl⟩
            have HB4 := Lib.hid (bdN HB.out m)
            have HO4 := Lib.hid (own_below HO.out (bdN (Below.refl _ _) m))
            have H17k := Lib.hid (H17.out _ HB4.out)
            go_wp2_with fail
            refine H17k.out.mono ?_
            rintro _ w5 ⟨rfl, hb5⟩
            have HB5 := Lib.hid (HB4.out.trans (hb5.mono HB4.out.size))
            have HO5 := Lib.hid (own_below HO4.out hb5)
            obtain ⟨v, w6, hcv, hb6, htxt⟩ := HCV.out w5
            obtain ⟨Ac, cc, rfl, hrd⟩ := htxt.rd
            have HB6 := Lib.hid (HB5.out.trans (hb6.mono HB5.out.size))
            have HO6 := Lib.hid (own_below HO5.out hb6)
            have HSM6 := Lib.hid (HSAME.out w6 Ac cc hrd HB6.out)
            clear hb5 hb6 htxt hrd
            go_wp2_with fail
            refine HSM6.out.mono ?_
            rintro _ w7 ⟨rfl, m7, rfl⟩
            have HB7 := Lib.hid (bdN HB6.out m7)
            have HO7 := Lib.hid (own_below HO6.out (bdN (Below.refl _ _) m7))
            go_wp2_with (at_builtin; go_loud (refine wpList_u8 (w6.drewN m7) rfl _ _ rfl w3.heap.size u12 F rfl HO7.out HB7.out.size [k] _ rfl 1 rfl 1 rfl (by rw [show [k].length = 1 from rfl]; omega) ?_); intro v8 w8 ho8 hb8)
            go_roundw
            case rel => exact ⟨k + 1, by omega, by go_num, by rw [HWS2.out], by rw [HRS.out]; exact ho8, HB7.out.trans hb8⟩
            case measure => simp [RowKit.intOf]; omega
        · have hdk : decide (K = cs) = false := decide_eq_false hkc
          rw [hdk] at HSAME
          rw [hdk, if_neg (by decide), List.append_nil] at hrs
          have HRS := Lib.hid hrs
          clear hkc hdk hrs
          cases wk
          all_goals
            go_wp2_with fail
            refine H15.out.mono ?_
            rintro _ w4 ⟨rfl, m, rfl⟩
            have HB4 := Lib.hid (bdN HB.out m)
            have HO4 := Lib.hid (own_below HO.out (bdN (Below.refl _ _) m))
            have H17k := Lib.hid (H17.out _ HB4.out)
            go_wp2_with fail
            refine H17k.out.mono ?_
            rintro _ w5 ⟨rfl, hb5⟩
            have HB5 := Lib.hid (HB4.out.trans (hb5.mono HB4.out.size))
            have HO5 := Lib.hid (own_below HO4.out hb5)
            obtain ⟨v, w6, hcv, hb6, htxt⟩ := HCV.out w5
            obtain ⟨Ac, cc, rfl, hrd⟩ := htxt.rd
            have HB6 := Lib.hid (HB5.out.trans (hb6.mono HB5.out.size))
            have HO6 := Lib.hid (own_below HO5.out hb6)
            have HSM6 := Lib.hid (HSAME.out w6 Ac cc hrd HB6.out)
            clear hb5 hb6 htxt hrd
            go_wp2_with fail
            refine HSM6.out.mono ?_
            rintro _ w7 ⟨rfl, m7, rfl⟩
            have HB7 := Lib.hid (bdN HB6.out m7)
            have HO7 := Lib.hid (own_below HO6.out (bdN (Below.refl _ _) m7))
            go_wp2_with fail
            go_roundw
            case rel => exact ⟨k + 1, by omega, by go_num, by rw [HWS2.out], by rw [HRS.out]; exact HO7.out, HB7.out⟩
            case measure => simp [RowKit.intOf]; omega
      · rw [he] at H15 HWS hrs
        have hws := HWS.out
        simp only [Bool.not_true, Bool.and_false] at hws
        have HWS2 := Lib.hid hws
        have hte : t.toList.isEmpty = true := he
        rw [Bool.not_true, Bool.false_and, if_neg (by decide), List.append_nil] at hrs
        have HRS := Lib.hid hrs
        clear hws he hrs
        cases wk
        all_goals
          go_wp2_with fail
          refine H15.out.mono ?_
          rintro _ w4 ⟨rfl, m, rfl⟩
          have HB4 := Lib.hid (bdN HB.out m)
          have HO4 := Lib.hid (own_below HO.out (bdN (Below.refl _ _) m))
          have H17k := Lib.hid (H17.out _ HB4.out)
          go_wp2_with fail
          refine H17k.out.mono ?_
          rintro _ w5 ⟨rfl, hb5⟩
          have HB5 := Lib.hid (HB4.out.trans (hb5.mono HB4.out.size))
          have HO5 := Lib.hid (own_below HO4.out hb5)
          clear hb5
          go_wp2_with fail
          go_roundw
          case rel => exact ⟨k + 1, by omega, by go_num, by rw [HWS2.out], by rw [HRS.out]; exact HO5.out, HB5.out⟩
          case measure => simp [RowKit.intOf]; omega
    · obtain rfl : k = 256 := by omega
      have HTABr := Lib.hid (HTAB3.out.keep hb)
      have HR2r := Lib.hid (HR23.out.keep hb)
      have HWH := Lib.hid (whole_any tb l wr HTABr.out)
      have HBT := Lib.hid (bytesT_any tb l A2 c2 cs wr HTABr.out HTX.out HR2r.out (by omega))
      have HLT := Lib.hid (bytesOf_lt l cs)
      unfold bytesOf BytesPost at *
      generalize (List.range 256).filter (isB l cs) = L at *
      generalize wholeB l 256 = WB at *
      obtain ⟨A7, n7, c7, rfl⟩ := own_slice HO.out
      have HBw := Lib.hid (HB3.out.trans (hb.mono HB3.out.size))
      have x9 : (WB == WB) = true := by simp
      clear ho hb
      go_wp2_with fail
      refine HWH.out.mono ?_
      rintro _ _ ⟨rfl, rfl⟩
      go_wp2_with fail
      refine HBT.out.mono ?_
      rintro _ w8 ⟨v8, rfl, ho8, hb8⟩
      have HBE := Lib.hid (bytesEq_any _ _ v8 _ L w8 ho8 (own_below HO.out hb8) HLT.out)
      have HB8 := Lib.hid (HBw.out.trans (hb8.mono HBw.out.size))
      have HAW8 := Lib.hid (HAW.out w8 HB8.out)
      obtain ⟨A8, n8, c8, rfl⟩ := own_slice ho8
      clear ho8 hb8
      go_wp2_with fail
      refine HBE.out.mono ?_
      rintro _ _ ⟨rfl, rfl⟩
      go_wp2_with fail
      refine HAW8.out.mono ?_
      rintro _ w9 ⟨rfl, hb9⟩
      have HB9 := Lib.hid (HB8.out.trans (hb9.mono HB8.out.size))
      clear hb9
      go_wp2_with fail
      go_returns
      exact ⟨rfl, HB9.out⟩
end Go.Proofs.YtkphecmdilefgaaDoor.Sg
