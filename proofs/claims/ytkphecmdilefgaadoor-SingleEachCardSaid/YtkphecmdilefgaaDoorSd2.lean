/- Walk: inkhornlaw18.SingleEach returns true. -/
import Derived.Test.YtkphecmdilefgaaDoorG36
import Derived.Test.YtkphecmdilefgaaDoorSd1
namespace Go.Proofs.YtkphecmdilefgaaDoor.Sg
open Go.RowKit Pl Go.Lib

theorem mem_bytesOf (l : List RowV) (b : UInt8) (h : (tx l b.toNat).toList.isEmpty = false) : (bytesOf l (runesL (tx l b.toNat).data.toList)).any (· == b.toNat) = true := by
  rw [List.any_eq_true]
  refine ⟨b.toNat, List.mem_filter.2 ⟨List.mem_range.2 b.toNat_lt, ?_⟩, by simp⟩
  unfold isB
  rw [h]
  simp
theorem bytesOf_len (l : List RowV) (cs : List Int) : (bytesOf l cs).length ≤ 256 := by
  have := List.length_filter_le (isB l cs) (List.range 256)
  rw [List.length_range] at this
  exact this
set_option maxRecDepth 100000 in
set_option maxHeartbeats 12800000 in
theorem singleEach_law {w : World} (hT : Tabs w) (A : Option Addr) (c : Nat) (l : List RowV) (hR : RowsAt w A l) (hn : l.length ≤ 1000000000000000) (hS : ∀ r ∈ l, r.code.size ≤ maxLen ∧ r.text.size ≤ maxLen) (s : ByteArray) (hs : s.size ≤ maxLen) :
    Calls Tryd.prog 4 #[.slice A l.length c, .string s] w fun e w' => e = .returned (.bool true) ∧ Below w.heap.size w w' := by
  have HT := Lib.hid hT
  have HR := Lib.hid hR
  have HF := Lib.hid (few_any A c l w hR hn hS)
  have HAW := Lib.hid (fun (w' : World) (hb : Below w.heap.size w w') => awake18_any w' (hT.keep hb))
  have HSM := Lib.hid (fun w => small17_any w)
  unfold maxLen at hs
  have hs : s.size ≤ 2 ^ 63 - 1 := hs
  clear hT hR hS hn
  go_enter Tryd.func4, Tryd.ntmps4
  cases hf : fewR l
  · rw [hf] at HF
    clear hf
    have HAW0 := Lib.hid (HAW.out w (Below.refl _ _))
    go_wp2_with fail
    refine HF.out.mono ?_
    rintro _ _ ⟨rfl, rfl⟩
    go_wp2_with fail
    refine HAW0.out.mono ?_
    rintro _ w3 ⟨rfl, hb3⟩
    have HB3 := Lib.hid hb3
    clear hb3
    go_wp2_with fail
    go_returns
    exact ⟨rfl, HB3.out⟩
  rw [hf] at HF
  obtain ⟨hfn, hfs⟩ := few_facts hf
  have HFS := Lib.hid hfs
  clear hf
  by_cases hsz : 300 < s.size
  · have x2 : decide ((300 : Int) < (s.size : Int)) = true := decide_eq_true (by omega)
    have HAW0 := Lib.hid (HAW.out w (Below.refl _ _))
    clear hsz hfs
    go_wp2_with fail
    refine HF.out.mono ?_
    rintro _ _ ⟨rfl, rfl⟩
    go_wp2_with fail
    refine HAW0.out.mono ?_
    rintro _ w3 ⟨rfl, hb3⟩
    have HB3 := Lib.hid hb3
    clear hb3
    go_wp2_with fail
    go_returns
    exact ⟨rfl, HB3.out⟩
  have x2 : decide ((300 : Int) < (s.size : Int)) = false := decide_eq_false (by omega)
  have HNEW := Lib.hid (singleNew_any A c l w HR.out (by omega) (fun r hr => by have := hfs r hr; omega) HT.out)
  have hqn : ∀ w, (binOp .eql 30 (.pointer none) (.pointer none)).run Tryd.prog w = .ok (.bool true) w := fun _ => rfl
  clear hfs
  go_wp2_with fail
  refine HF.out.mono ?_
  rintro _ _ ⟨rfl, rfl⟩
  go_wp2_with fail
  refine (HSM.out _).mono ?_
  rintro _ _ ⟨rfl, rfl⟩
  go_wp2_with fail
  refine HNEW.out.mono ?_
  rintro e w3 ⟨hb3, h0, h1⟩
  have HB3 := Lib.hid hb3
  have HAW3 := Lib.hid (HAW.out w3 hb3)
  generalize wrong18 (l.map plainR) = Y at *
  by_cases hy : Y.2 = 0
  rotate_left
  · obtain rfl := h0 hy
    have x3 : (Y.2 != 0) = true := by simp [hy]
    clear h0 h1 hy hb3
    go_wp2_with fail
    refine HAW3.out.mono ?_
    rintro _ w4 ⟨rfl, hb4⟩
    have HB4 := Lib.hid (HB3.out.trans (hb4.mono HB3.out.size))
    clear hb4
    go_wp2_with fail
    go_returns
    exact ⟨rfl, HB4.out⟩
  obtain ⟨tb, rfl, htab⟩ := h1 hy
  have hq : ∀ w, (binOp .eql 30 (.pointer (some ⟨tb, 0, none⟩)) (.pointer none)).run Tryd.prog w = .ok (.bool false) w := fun _ => rfl
  have htx : ∀ b : UInt8, (tx l b.toNat).size ≤ 1000 := fun b => tx_le l 1000 (fun r hr => by have := (HFS.out r hr).2; omega) _
  have HTX := Lib.hid htx
  have HTAB := Lib.hid htab
  have HD := Lib.hid (decodeT_any tb l 3 (by decide) (by decide) s w3 htab (by omega) htx)
  have hdl := decGo_len (fun b : UInt8 => (tx l b.toNat).data.toList) 3 s.data.toList 0
  rw [code_len] at hdl
  obtain ⟨⟨Ds, Df, De⟩, hD⟩ : ∃ D, decGo (fun b : UInt8 => (tx l b.toNat).data.toList) 3 0 s.data.toList = D := ⟨_, rfl⟩
  rw [hD] at HD hdl
  have hdl : Df.length ≤ s.size := hdl
  have HZ : Hid (decGo (fun b : UInt8 => (tx l b.toNat).data.toList) 3 0 (s.data.toList.drop 0) = (Ds, Df, De)) := Lib.hid hD
  have hl : s.data.toList.length = s.size := code_len s
  clear h0 h1 hy hb3 htab htx hD HNEW HF
  go_wp2_with fail
  refine HD.out.mono ?_
  rintro _ w4 ⟨v4, rfl, ho4, hb4⟩
  obtain ⟨A4, c4, rfl⟩ : ∃ A c, v4 = .slice A Df.length c := by
    rcases own_shapeS ho4 with ⟨rfl, h⟩ | ⟨g, c, rfl⟩
    · exact ⟨none, 0, by have h : Df.length = 0 := h; rw [h]⟩
    · exact ⟨_, _, rfl⟩
  have HO4 := Lib.hid ho4
  have HB4 := Lib.hid (HB3.out.trans (hb4.mono HB3.out.size))
  have HTAB4 := Lib.hid (HTAB.out.keep hb4)
  clear ho4 hb4 HD HTAB
  go_wp2_with fail
  go_loopw [11, 12, 13] (fun vo vn vi wr => ∃ (i : Nat) (o : List UInt8) (f : List Nat), i ≤ s.size ∧ vi = .int .i64 i ∧ vo = .string ⟨o.toArray⟩ ∧ vn = .int .i64 f.length ∧ o.length ≤ 2000 * i ∧ f.length ≤ i ∧ Below w4.heap.size w4 wr ∧
      (o ++ (decGo (fun b => (tx l b.toNat).data.toList) 3 i (s.data.toList.drop i)).1, f ++ (decGo (fun b => (tx l b.toNat).data.toList) 3 i (s.data.toList.drop i)).2.1, (decGo (fun b => (tx l b.toNat).data.toList) 3 i (s.data.toList.drop i)).2.2) = (Ds, Df, De)) (fun _ _ vi _ => s.size - (RowKit.intOf vi).toNat)
  case atStart => exact ⟨0, [], [], Nat.zero_le _, rfl, rfl, rfl, by simp, by simp, Below.refl _ _, by rw [List.nil_append, List.nil_append]; exact HZ.out⟩
  case round =>
    obtain ⟨i, o, f, hi, rfl, rfl, rfl, hol, hfl, hb, hz⟩ := hrel
    have hz0 : (⟨o.toArray⟩ : ByteArray).size = o.length := ba_size o
    by_cases hlt : i < s.size
    · rw [decGo_at _ 3 s.data.toList i (by rw [hl]; exact hlt)] at hz
      have hbt := byte_at s i hlt
      have HTABr := Lib.hid (HTAB4.out.keep hb)
      have hby := byteT_any tb l s.data.toList[i] wr (HTAB4.out.keep hb)
      have hbs := HTX.out s.data.toList[i]
      have hmb := mem_bytesOf l s.data.toList[i]
      rw [hbt] at hby hz hbs hmb
      obtain ⟨⟨r1, r2, r3⟩, hrq⟩ : ∃ R, decGo (fun b => (tx l b.toNat).data.toList) 3 (i + 1) (s.data.toList.drop (i + 1)) = R := ⟨_, rfl⟩
      rw [hrq] at hz
      have HRQ := Lib.hid hrq
      have HBW := Lib.hid hb
      clear hrq hbt hb
      obtain ⟨tt, htt⟩ : ∃ t, tx l s[i].toNat = t := ⟨_, rfl⟩
      rw [htt] at hby hz hbs hmb
      clear htt
      have HMB := Lib.hid hmb
      have H15 := Lib.hid hby
      have hba := ba_app o tt
      have hz1 : tt.data.toList.length = tt.size := code_len tt
      have hz2 : (⟨o.toArray⟩ ++ tt).size = o.length + tt.size := by rw [ByteArray.size_append, hz0]
      have j0 : (0 : Int) ≤ (i : Int) := by omega
      have j1 : (i : Int) < (s.size : Int) := by omega
      clear hby hmb
      by_cases ht : tt.data.toList = []
      · rw [if_neg (by simp [ht]), if_neg (by decide), if_neg (by decide)] at hz
        have hte : tt.toList.isEmpty = true := by rw [ByteArray.toList_eq, ht]; rfl
        rw [hte] at H15
        rw [ht, List.append_nil] at hba
        have hz : (o ++ ([] ++ r1), f ++ i :: r2, r3) = (Ds, Df, De) := hz
        have hdf : f ++ i :: r2 = Df := congrArg (fun p => p.2.1) hz
        have hdl2 : f.length < Df.length := by rw [← hdf, List.length_append, List.length_cons]; omega
        obtain ⟨g4, rfl⟩ : ∃ g, A4 = some ⟨g, 0, none⟩ := by
          rcases own_shapeS HO4.out with ⟨h, h0⟩ | ⟨g, c, h⟩
          · have h0 : Df.length = 0 := h0; omega
          · injection h with h; exact ⟨g, h⟩
        obtain ⟨hp0, hp1⟩ := flts_at Df f.length hdl2
        have hgi : Df[f.length] = i := by
          have : Df[f.length]? = some i := by rw [← hdf, List.getElem?_append_right (Nat.le_refl _), Nat.sub_self]; rfl
          rw [List.getElem?_eq_getElem hdl2] at this
          injection this
        rw [hgi] at hp0
        have HP0 := Lib.hid hp0; have HP1 := Lib.hid hp1
        have HZ2 := Lib.hid hz
        have t1 : (f.length : Int) < (Df.length : Int) := by omega
        have t2 : decide ((Df.length : Int) ≤ (f.length : Int)) = false := decide_eq_false (by omega)
        have t3 : (0 : Int) ≤ (f.length : Int) := by omega
        have hfw : IntKind.i64.wrap ((f.length : Int) + 1) = (f.length : Int) + 1 := IntWalk.i64_in _ (by omega)
        clear ht hz hte hz2 hz1 hdf hp0 hp1 hgi hdl2 HMB
        go_wp2_with fail
        refine H15.out.mono ?_
        rintro _ w5 ⟨rfl, m, rfl⟩
        have hbm := bdN (Below.refl wr.heap.size wr) m
        have ho5 := own_below (own_below HO4.out HBW.out) hbm
        have p0 := own_cellS ho5 _ HP0.out
        have p1 := own_cellS ho5 _ HP1.out
        have HBW5 := Lib.hid (bdN HBW.out m)
        clear hbm ho5
        go_wp2_with fail
        go_roundw
        case rel => exact ⟨i + 1, o, f ++ [i], by omega, by go_num, by first | rfl | rw [hba], by rw [List.length_append]; rfl, by omega, by simp; omega, HBW5.out, by rw [HRQ.out, List.append_assoc]; exact HZ2.out⟩
        case measure => simp [RowKit.intOf]; omega
      · rw [if_pos ht] at hz
        have HZ2 := Lib.hid hz
        have hte : tt.toList.isEmpty = false := by rw [ByteArray.toList_eq]; simpa using ht
        have hany := HMB.out hte
        have HANY := Lib.hid hany
        rw [hte] at H15
        have hblen := bytesOf_len l (runesL tt.data.toList)
        have hrl := runesL_le tt.data.toList
        rw [hz1] at hrl
        clear hz ht hte hany HMB
        go_wp2_with fail
        refine H15.out.mono ?_
        rintro _ w5 ⟨rfl, m, rfl⟩
        have hbm := bdN (Below.refl wr.heap.size wr) m
        obtain ⟨v, w6, hcv, hb6, htx⟩ := conv_text tt (by omega) (wr.drewN m)
        obtain ⟨Ac, cc, rfl, hrd⟩ := htx.rd
        have hb56 : Below wr.heap.size wr w6 := hbm.trans (hb6.mono hbm.size)
        have HBT := Lib.hid (bytesT_any tb l Ac cc (runesL tt.data.toList) w6 (HTABr.out.keep hb56) HTX.out hrd (by omega))
        have HB6 := Lib.hid (HBW.out.trans (hb56.mono HBW.out.size))
        generalize bytesOf l (runesL tt.data.toList) = L at *
        generalize runesL tt.data.toList = K at *
        clear hbm hb6 htx hrd hb56
        go_wp2_with fail
        refine HBT.out.mono ?_
        rintro _ w7 ⟨v7, rfl, ho7, hb7⟩
        obtain ⟨A7, c7, rfl⟩ : ∃ A c, v7 = .slice A L.length c := by
          rcases own_shape ho7 with ⟨rfl, h⟩ | ⟨g, c, rfl⟩
          · exact ⟨none, 0, by rw [h]⟩
          · exact ⟨_, _, rfl⟩
        have HO7 := Lib.hid ho7
        have HB7 := Lib.hid (HB6.out.trans (hb7.mono HB6.out.size))
        obtain ⟨y, hy⟩ : ∃ y, s[i].toNat = y := ⟨_, rfl⟩
        rw [hy] at HANY
        have HYY := Lib.hid hy
        clear ho7 hb7 hcv hy
        go_wp2_with fail
        go_loopw [17, 18] (fun vf vk wx => ∃ k : Nat, k ≤ L.length ∧ vk = .int .i64 k ∧ vf = .bool ((L.take k).any (· == y)) ∧ Drew w7 wx) (fun _ vk _ => L.length - (RowKit.intOf vk).toNat)
        case atStart => exact ⟨0, Nat.zero_le _, rfl, by simp, ⟨0, rfl⟩⟩
        case round =>
          obtain ⟨k, hk, rfl, rfl, ⟨m7, rfl⟩⟩ := hrel
          by_cases hkl : k < L.length
          · obtain ⟨g7, rfl⟩ : ∃ g, A7 = some ⟨g, 0, none⟩ := by
              rcases own_shape HO7.out with ⟨h, h0⟩ | ⟨g, c, h⟩
              · omega
              · injection h with h; exact ⟨g, h⟩
            have q0 := own_cell HO7.out (i := k) (.int .u8 (L[k] : Int)) (by unfold u8s; rw [List.getElem?_map, List.getElem?_eq_getElem hkl]; rfl)
            have hsn := any_snoc (· == y) L k hkl
            have k0 : (0 : Int) ≤ (k : Int) := by omega
            have k1 : (k : Int) < (L.length : Int) := by omega
            have hkw : IntKind.i64.wrap ((k : Int) + 1) = (k : Int) + 1 := IntWalk.i64_in _ (by omega)
            have HYI : Hid ((s[i].toNat : Int) = (y : Int)) := Lib.hid (by rw [HYY.out])
            generalize hfd : (L.take k).any (· == y) = fd at *
            have HSN := Lib.hid hsn
            clear hsn hfd
            cases fd
            · by_cases hxy : L[k] = y
              · have hsn := HSN.out
                rw [hxy] at hsn q0
                simp only [beq_self_eq_true, Bool.or_true] at hsn
                have HSN2 := Lib.hid hsn
                have e1 : ((y : Int) == (s[i].toNat : Int)) = true := by rw [HYI.out]; simp
                clear hsn hxy HSN
                go_wp2_with fail
                go_quiet (fail)
                go_wp2_with fail
                go_roundw
                case rel => exact ⟨k + 1, by omega, by go_num, by rw [HSN2.out], (by first | exact ⟨m7 + 1, rfl⟩ | exact ⟨_, rfl⟩ | exact ⟨_, World.drewN_drewN _ _ _⟩)⟩
                case measure => simp [RowKit.intOf]; omega
              · have hsn := HSN.out
                have hb0 : (L[k] == y) = false := by simpa using hxy
                rw [hb0] at hsn
                have HSN2 := Lib.hid hsn
                have e1 : ((L[k] : Int) == (s[i].toNat : Int)) = false := by rw [HYI.out]; simp; omega
                clear hsn hxy HSN hb0
                go_wp2_with fail
                go_quiet (fail)
                go_wp2_with fail
                go_roundw
                case rel => exact ⟨k + 1, by omega, by go_num, by rw [HSN2.out]; rfl, (by first | exact ⟨m7 + 1, rfl⟩ | exact ⟨_, rfl⟩ | exact ⟨_, World.drewN_drewN _ _ _⟩)⟩
                case measure => simp [RowKit.intOf]; omega
            · have hsn := HSN.out
              simp only [Bool.true_or] at hsn
              have HSN2 := Lib.hid hsn
              clear hsn HSN q0
              go_wp2_with fail
              go_quiet (fail)
              go_wp2_with fail
              go_roundw
              case rel => exact ⟨k + 1, by omega, by go_num, by rw [HSN2.out], (by first | exact ⟨m7 + 1, rfl⟩ | exact ⟨_, rfl⟩ | exact ⟨_, World.drewN_drewN _ _ _⟩)⟩
              case measure => simp [RowKit.intOf]; omega
          · obtain rfl : k = L.length := by omega
            have hfd : (L.take L.length).any (· == y) = true := by rw [List.take_of_length_le (Nat.le_refl _)]; exact HANY.out
            rw [hfd]
            have jj : decide ((L.length : Int) < (L.length : Int)) = false := decide_eq_false (by omega)
            have HB8 := Lib.hid (bdN HB7.out m7)
            clear hfd
            go_wp2_with fail
            go_roundw
            case rel => exact ⟨i + 1, o ++ tt.data.toList, f, by omega, by go_num, by first | rfl | rw [hba], rfl, by simp; omega, by omega, HB8.out, by rw [HRQ.out, List.append_assoc]; exact HZ2.out⟩
            case measure => simp [RowKit.intOf]; omega
    · obtain rfl : i = s.size := by omega
      rw [List.drop_eq_nil_of_le (by rw [hl]; exact Nat.le_refl _)] at hz
      have hz : (o ++ [], f ++ [], (0 : Int)) = (Ds, Df, De) := hz
      rw [List.append_nil, List.append_nil] at hz
      injection hz with e1 e2
      injection e2 with e2 e3
      subst e1 e2 e3
      have HB := Lib.hid (HB4.out.trans (hb.mono HB4.out.size))
      have HAW5 := Lib.hid (HAW.out wr HB.out)
      have jj : decide ((s.size : Int) < (s.size : Int)) = false := decide_eq_false (by omega)
      clear hb
      go_wp2_with fail
      refine HAW5.out.mono ?_
      rintro _ w9 ⟨rfl, hb9⟩
      have HB9 := Lib.hid (HB.out.trans (hb9.mono HB.out.size))
      clear hb9
      go_wp2_with fail
      go_returns
      exact ⟨rfl, HB9.out⟩
end Go.Proofs.YtkphecmdilefgaaDoor.Sg
