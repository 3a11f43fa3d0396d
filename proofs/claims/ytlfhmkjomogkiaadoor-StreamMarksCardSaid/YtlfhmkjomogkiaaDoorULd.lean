/- The statement UtfDecodes: its walk. -/
import Derived.Test.YtlfhmkjomogkiaaDoorUk
namespace Go.Proofs.YtlfhmkjomogkiaaDoor.Utf
open Go.RowKit Pl

theorem udec_len (pol : Int) (t : List UInt8) : (udec pol t).1.length ≤ t.length ∧ (udec pol t).2.1.length ≤ t.length := by
  unfold udec
  split
  · exact dec_len _ _ (fun t h => (unext_pos t h).1) t
  · simp
set_option maxRecDepth 100000 in
set_option maxHeartbeats 3200000 in
theorem utfDecodes_law (pol : Int) (A : Option Addr) (len cap : Nat) (l : List ByteArray) (w : World) (hR : Rd w A len (strv l)) (hS : ∀ r ∈ l, r.size ≤ maxLen) (hcap : len ≤ cap) (hrch : len * 16 ≤ 140737488351232) (hRL : RL w) :
    Calls Tryd.prog 7 #[.int .i64 pol, .slice A len cap] w fun e w' => e = .returned (.bool true) ∧ Below w.heap.size w w' := by
  have HA := Lib.hid awake_any
  obtain rfl := hR.str_len
  have HR := Lib.hid hR; have HS := Lib.hid hS; have HRL := Lib.hid hRL
  clear hR hS hRL
  go_enter Tryd.func7, Tryd.ntmps7
  go_wp2
  go_loop [5, 6] (fun va i => ∃ j : Nat, j ≤ l.length ∧ i = .int .i64 j ∧ va = .string ⟨(allB (l.take j)).toArray⟩ ∧ ∀ s ∈ l.take j, s.size ≤ 100) (fun _ i => l.length - (intOf i).toNat)
  case atStart => exact ⟨0, Nat.zero_le _, rfl, rfl, by simp⟩
  case round =>
    obtain ⟨j, hj, rfl, rfl, h100⟩ := hrel
    have hal := allB_le (l.take j) 100 h100
    rw [List.length_take] at hal
    by_cases hlt : j < l.length
    · obtain ⟨b, o, rfl, hb, hc⟩ := HR.out.str_at hlt
      have hsn := allB_snoc l j hlt
      have htk := take_snoc_l l j hlt
      have hsz := HS.out l[j] (List.getElem_mem hlt)
      have hal2 : (allB (l.take j)).length ≤ 1000000000000000 := by omega
      generalize l[j] = s at *
      have HSN := Lib.hid hsn; have HTK := Lib.hid htk; have H100 := Lib.hid h100
      clear hsn htk h100 hal hb
      unfold maxLen at hsz
      obtain ⟨v, hv⟩ : ∃ v, allB (l.take j) = v := ⟨_, rfl⟩
      rw [hv] at hal2 HSN ⊢
      clear hv
      by_cases h1 : 100 < s.size
      · have i1 : (100 : Int) < s.size := by omega
        clear h1
        go_wp2_with (go_at_call 16; refine (HA.out _ HRL.out).mono ?_; rintro e w9 ⟨rfl, hb9⟩)
        go_returns
        exact ⟨rfl, hb9⟩
      · have i1 : decide ((100 : Int) < s.size) = false := by simp; omega
        have i2 : s.size ≤ 100 := by omega
        clear h1 hsz
        go_wp2_with (go_at_call 16; refine (HA.out _ HRL.out).mono ?_; rintro e w9 ⟨rfl, hb9⟩)
        go_round
        case rel =>
          refine ⟨j + 1, by omega, by go_num, by rw [HSN.out, ← ba_append_s], ?_⟩
          intro s' hs'
          rw [HTK.out] at hs'
          rcases List.mem_append.1 hs' with h | h
          · exact H100.out s' h
          · simp at h; subst h; exact i2
        case measure => simp [intOf]; omega
    · obtain rfl : j = l.length := by omega
      rw [List.take_of_length_le (Nat.le_refl _)] at hal ⊢
      rw [Nat.min_self] at hal
      clear h100
      by_cases h20 : 20 < l.length
      · have i1 : (20 : Int) < l.length := by omega
        clear h20
        go_wp2_with (go_at_call 16; refine (HA.out _ HRL.out).mono ?_; rintro e w9 ⟨rfl, hb9⟩)
        go_returns
        exact ⟨rfl, hb9⟩
      · have i1 : decide ((20 : Int) < l.length) = false := by simp; omega
        have HD := Lib.hid (decode_any pol A l.length cap l w HRL.out HR.out hcap (by omega) (by omega))
        have HD2 := Lib.hid (refDecode_any pol ⟨(allB l).toArray⟩ (by rw [ba_size]; omega))
        have HD3 := Lib.hid (refDecode_any 1 ⟨(allB l).toArray⟩ (by rw [ba_size]; omega))
        have HV := Lib.hid (fun w h => valid_any ⟨(allB l).toArray⟩ (by rw [ba_size]; omega) w h)
        have hx1 := udec_len pol (allB l)
        have hs : (⟨(allB l).toArray⟩ : ByteArray).data.toList = allB l := by simp
        rw [hs] at HD2 HD3 HV
        change Hid (∀ w, Calls _ _ _ w (DecPost w (udec pol (allB l)))) at HD2
        change Hid (∀ w, Calls _ _ _ w (DecPost w (udec 1 (allB l)))) at HD3
        generalize udec pol (allB l) = x at *
        generalize udec 1 (allB l) = y at *
        have hx2 : x.1.length ≤ 100000 ∧ x.2.1.length ≤ 100000 := by omega
        have HX := Lib.hid hx2
        clear hx1 hx2 h20 hal hs
        go_wp2_with fail
        refine HD.out.mono ?_
        rintro e w1 ⟨vo1, vb1, rfl, hst1⟩
        obtain ⟨A1, c1, rfl, hr1⟩ := rd_of_own hst1.1
        obtain ⟨A2, c2, rfl, hr2⟩ := rd2_of_own hst1.2.1
        go_wp2_with fail
        refine (HD2.out _).mono ?_
        rintro e w2 ⟨vo2, vb2, rfl, hst2⟩
        obtain ⟨A3, c3, rfl, hr3⟩ := rd_of_own hst2.1
        obtain ⟨A4, c4, rfl, hr4⟩ := rd2_of_own hst2.2.1
        have hbA := hst1.2.2.1
        have hbB := hst2.2.2.1
        have hr1' := hr1.keep hbB
        have hr2' := hr2.keep hbB
        have hbAB := hbA.trans (hbB.mono hbA.size)
        clear hst1 hst2 hr1 hr2 hbA hbB
        go_wp2_with fail
        refine (HD3.out _).mono ?_
        rintro e w3 ⟨vo3, vb3, rfl, hst3⟩
        have hbC := hst3.2.2.1
        have hbD := hbAB.trans (hbC.mono hbAB.size)
        have hq1 := hr1'.keep hbC
        have hq2 := hr2'.keep hbC
        have hq3 := hr3.keep hbC
        have hq4 := hr4.keep hbC
        have HBD := Lib.hid hbD
        clear hst3 hbC hbD hbAB hr1' hr2' hr3 hr4
        have HQ1 := Lib.hid (runes_any A1 _ c1 x.1 A3 _ c3 x.1 w3 hq1 hq3 (by have := HX.out; omega))
        rw [decide_eq_true rfl] at HQ1
        go_wp2_with fail
        refine HQ1.out.mono ?_
        rintro e w4 ⟨rfl, hd4⟩
        have hb4 := hd4.below w3.heap.size
        have HQ2 := Lib.hid (faults_any A2 _ c2 x.2.1 A4 _ c4 x.2.1 w4 (hq2.keep hb4) (hq4.keep hb4) (by have := HX.out; omega))
        rw [decide_eq_true rfl] at HQ2
        go_wp2_with fail
        refine HQ2.out.mono ?_
        rintro e w5 ⟨rfl, hd5⟩
        have hb5 := hd5.below w4.heap.size
        have HB5 : Hid (Below w.heap.size w w5) := by
          have a2 := HBD.out.trans (hb4.mono HBD.out.size)
          exact Lib.hid (a2.trans (hb5.mono a2.size))
        clear hb4 hb5 hd4 hd5 hq1 hq2 hq3 hq4 HQ1 HQ2
        go_wp2_with fail
        go_at_call 27
        refine (HV.out _ (HRL.out.since HB5.out)).mono ?_
        rintro e w6 ⟨rfl, hb6⟩
        have HB6 := Lib.hid (HB5.out.trans (hb6.mono HB5.out.size))
        clear hb6
        go_wp2_with (go_at_call 16; refine (HA.out _ (HRL.out.since HB6.out)).mono ?_; rintro e w9 ⟨rfl, hb9⟩)
        go_returns
        exact ⟨rfl, HB6.out.trans (hb9.mono HB6.out.size)⟩
end Go.Proofs.YtlfhmkjomogkiaaDoor.Utf
