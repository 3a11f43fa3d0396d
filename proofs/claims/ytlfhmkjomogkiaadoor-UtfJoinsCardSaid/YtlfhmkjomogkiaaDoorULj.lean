/- The statement UtfJoins: its walk. -/
import Derived.Test.YtlfhmkjomogkiaaDoorULd
import Derived.Test.YtlfhmkjomogkiaaDoorU6
import Derived.Test.YtlfhmkjomogkiaaDoorWn
import Derived.Deep.RegionHeld3
namespace Go.Proofs.YtlfhmkjomogkiaaDoor.Utf
open Go.RowKit Pl

set_option maxRecDepth 100000 in
set_option maxHeartbeats 6400000 in
theorem utfJoins_law (s t : ByteArray) (w : World) (hs : s.size ≤ maxLen) (ht : t.size ≤ maxLen) (hRL : RL w) :
    Calls Tryd.prog 10 #[.string s, .string t] w fun e w' => e = .returned (.bool true) ∧ Below w.heap.size w w' := by
  have HA := Lib.hid awake_any
  have HRL := Lib.hid hRL
  clear hRL
  unfold maxLen at hs ht
  by_cases hpre : s.size ≤ 200 ∧ t.size ≤ 200
  · obtain ⟨hs2, ht2⟩ := hpre
    have g3 : decide ((200 : Int) < s.size) = false := by simp; omega
    have g4 : decide ((200 : Int) < t.size) = false := by simp; omega
    have HC := Lib.hid (fun w h => cut_any s (by omega) w h)
    have HV := Lib.hid (fun w h => valid_any s (by omega) w h)
    have hc1 := ucut_le s.data.toList
    have hc2 := ucut_ge s.data.toList
    have hvc := utf_valid_cut s.data.toList
    have hj : ucut s.data.toList = s.size → _ := fun h => utf_codec.join (fun u => ucut u = u.length) (fun u hu hne => ucut_P u hu hne) s.data.toList t.data.toList (by simpa using h)
    rw [show s.data.toList.length = s.size from by simp] at hc1 hc2 hvc
    have HD1 := Lib.hid (fun T w h => udec1 2 (s ++ t) T (by rw [ByteArray.size_append]; omega) w h)
    have HD2 := Lib.hid (fun T w h => udec1 2 s T (by omega) w h)
    have HD3 := Lib.hid (fun T w h => udec1 2 t T (by omega) w h)
    rw [udec_of 2 _ (by decide)] at HD1 HD2 HD3
    rw [udec_of 1 _ (by decide)] at HV
    rw [show (s ++ t).data.toList = s.data.toList ++ t.data.toList from by simp [ByteArray.data_append]] at HD1
    have hl1 := dec_len unext 2 (fun t h => (unext_pos t h).1) s.data.toList
    have hl2 := dec_len unext 2 (fun t h => (unext_pos t h).1) t.data.toList
    rw [show s.data.toList.length = s.size from by simp] at hl1 hj
    rw [show t.data.toList.length = t.size from by simp] at hl2
    have hat := dec_at unext 2 (fun t h => (unext_pos t h).2) t.data.toList
    rw [show t.data.toList.length = t.size from by simp] at hat
    generalize ucut s.data.toList = q at *
    generalize dec unext 2 s.data.toList = D1 at *
    generalize dec unext 2 t.data.toList = D2 at *
    generalize dec unext 2 (s.data.toList ++ t.data.toList) = D3 at *
    obtain ⟨V, hV⟩ : ∃ V, (dec unext 1 s.data.toList).2.2 = V := ⟨_, rfl⟩
    rw [hV] at HV hvc
    clear hV
    have k1 : decide ((q : Int) < 0) = false := by simp
    have k2 : decide ((s.size : Int) < q) = false := by simp; omega
    have k3 : decide ((3 : Int) < (s.size : Int) - (q : Int)) = false := by simp; omega
    have k5 : decide (s.size < q) = false := by simp; omega
    by_cases hq : q = s.size
    · obtain ⟨e1, e2, e3⟩ := hj hq
      obtain ⟨b, y, f1⟩ := D1
      obtain ⟨c, z, f2⟩ := D2
      have e2 : f1 = 0 := e2
      have e3 : f2 = 0 := e3
      subst e1 e2 e3
      have k4 : ((q : Int) != (s.size : Int)) = false := by simp; omega
      have hbl : b.length ≤ 200 ∧ y.length ≤ 200 ∧ c.length ≤ 200 ∧ z.length ≤ 200 := by
        have h1 : b.length ≤ s.size := hl1.1
        have h2 : y.length ≤ s.size := hl1.2
        have h3 : c.length ≤ t.size := hl2.1
        have h4 : z.length ≤ t.size := hl2.2
        omega
      have HAT : Hid (∀ x ∈ z, x.1 ≤ 200) := fun x hx => Nat.le_trans (hat x hx) ht2
      clear hj hl1 hl2 hc1 hc2 hat hvc
      rw [← hq] at HD1
      have HQ := Lib.hid hq
      have hq2 : q ≤ 200 := by omega
      clear hq
      have hvv : (V == 0) = true ∨ (V == 0) = false := by cases (V == 0) <;> simp
      rcases hvv with hvv | hvv
      all_goals
        go_enter Tryd.func10, Tryd.ntmps10
        go_wp2_with fail
        go_at_call 28
        refine (HC.out _ HRL.out).mono ?_
        rintro e w0 ⟨rfl, b0⟩
        have HB0 := Lib.hid b0
        clear b0
        go_wp2_with fail
        go_at_call 27
        refine (HV.out _ (HRL.out.since HB0.out)).mono ?_
        rintro e w1 ⟨rfl, b1'⟩
        have b1 := HB0.out.trans (b1'.mono HB0.out.size)
        have HB1 := Lib.hid b1
        clear b1'
        go_wp2_with fail
        go_at_call 23
        refine (HD1.out _ _ (HRL.out.since HB1.out)).mono ?_
        rintro e w2 hd1
        obtain ⟨A1, c1, A2, c2, rfl, r1, q1, b2⟩ := hd1.rd.since
        have HB2 := Lib.hid (HB1.out.trans (b2.mono HB1.out.size))
        clear hd1
        go_wp2_with fail
        go_at_call 23
        refine (HD2.out _ _ (HRL.out.since HB2.out)).mono ?_
        rintro e w3 hd2
        obtain ⟨vb, vy, rfl, hst2, b3⟩ := hd2.since
        have HB3 := Lib.hid (HB2.out.trans (b3.mono HB2.out.size))
        clear hd2
        go_wp2_with fail
        go_at_call 23
        refine (HD3.out _ _ (HRL.out.since HB3.out)).mono ?_
        rintro e w4 hd3
        obtain ⟨vc, vz, rfl, hst3, b4⟩ := hd3.since
        clear hd3
        obtain ⟨A6, c6, rfl, q6⟩ := rd2_of_own hst3.2.1
        have hb : Below w.heap.size w w4 := by
          have a1 := b1.trans (b2.mono b1.size)
          have a2 := a1.trans (b3.mono a1.size)
          exact a2.trans (b4.mono a2.size)
        have hJ : JSt (w2.heap.size + 1) w w4 vb b vy y A1 (b ++ c) A2 (y ++ shiftF q z) A6 z := by
          have o1 := own_below hst2.1 b4
          have o2 := own_below hst2.2.1 b4
          exact ⟨⟨o1, o2⟩, ⟨(r1.keep b3).keep b4, Far.newer r1.there o2 (by omega)⟩, ⟨(q1.keep b3).keep b4, Far.newer q1.there o2 (by omega)⟩, ⟨q6, Far.older hst2.2.1 hst3.2.1 (by omega)⟩, hb, by have := (b1.trans (b2.mono b1.size)).size; omega, by have := b3.size; have := hst2.2.2.2; have := b4.size; omega⟩
        have HJ := Lib.hid hJ
        have HG : Hid (Far A1 (b ++ c).length vb ∧ Far A2 (y ++ shiftF q z).length vb ∧ Far A6 z.length vb) := ⟨Far.newer r1.there hst2.1 (by omega), Far.newer q1.there hst2.1 (by omega), Far.older hst2.1 hst3.2.1 (by omega)⟩
        have HV := Lib.hid hst3.1
        clear b1 b2 b3 b4 r1 q1 q6 hst2 hst3 hb hJ HD1 HD2 HD3 HC
        go_wp2_with (at_builtin; refine wpList_outs w4 rfl _ _ rfl (w2.heap.size + 1) vb b rfl HJ.out.1.1 HJ.out.2.2.2.2.2.2 _ vc c rfl HV.out (by omega) ?_; intro vb2 w5 o5 hgr hat)
        have HJ5 := Lib.hid (HJ.out.outs HG.out.1 HG.out.2.1 HG.out.2.2 o5 hgr)
        clear o5 hgr hat HJ HG HV
        go_wp2_with fail
        go_loopw [10, 15] (fun v i wr => ∃ j : Nat, j ≤ z.length ∧ i = .int .i64 j ∧ JSt (w2.heap.size + 1) w wr vb2 (b ++ c) v (y ++ shiftF q (z.take j)) A1 (b ++ c) A2 (y ++ shiftF q z) A6 z) (fun _ i _ => z.length - (intOf i).toNat)
        case atStart => exact ⟨0, Nat.zero_le _, rfl, by simpa [shiftF] using HJ5.out⟩
        case round =>
          obtain ⟨j, hj, rfl, hst⟩ := hrel
          have HS := Lib.hid hst
          clear hst
          by_cases hlt : j < z.length
          · obtain ⟨bk, o, rfl, hb, _, _⟩ := HS.out.2.2.2.1.1.at_ hlt
            have hsn := shiftF_take q z j hlt
            have hyl : (y ++ shiftF q (z.take j)).length ≤ 400 := by simp [shiftF]; omega
            obtain ⟨e1, e2, hze⟩ : ∃ e1 e2, z[j] = (e1, e2) := ⟨_, _, rfl⟩
            have hze' : ∃ hlt : j < z.length, z[j] = (e1, e2) := ⟨hlt, hze⟩
            obtain ⟨hc0, hc1⟩ := HS.out.z_at hze'
            have HZ := Lib.hid hze'
            rw [hze] at hsn
            have HSN := Lib.hid hsn
            have hle : e1 ≤ 200 := by
              obtain ⟨h1, h2⟩ := HZ.out
              have := HAT.out z[j] (List.getElem_mem h1)
              rw [h2] at this; exact this
            clear hb hsn hze' hze
            have j0 : (0 : Int) ≤ (j : Int) := by omega
            have j1 : (j : Int) < (z.length : Int) := by omega
            obtain ⟨r, hr⟩ : ∃ r, q + e1 = r := ⟨_, rfl⟩
            replace HSN : Hid (shiftF q (z.take (j + 1)) = shiftF q (z.take j) ++ [(r, e2)]) := by rw [← hr]; exact HSN.out
            have hw1 : IntKind.i64.wrap ((q : Int) + (e1 : Int)) = (r : Int) := by subst hr; exact (IntWalk.i64_in _ (by omega)).trans (by simp)
            clear hr hle
            go_wp2
            go_region_held3 (fun w' => w'.cell? ⟨bk, o + j * 2, none⟩ = some (.int .i64 e1) ∧ w'.cell? ⟨bk, o + j * 2 + 1, none⟩ = some (.int .i64 e2)) (first | exact ⟨hc0, hc1⟩ | exact (HS.out.alloc _).z_at HZ.out | exact (HS.out.alloc _).drew.z_at HZ.out | exact hst6.z_at HZ.out) (first | (refine step_jbad w _ (by rfl) _ _ (by rfl) _ _ _ _ _ _ _ _ _ _ _ (by rfl) (HS.out.alloc _).drew r e2 _ _ (by rfl) (Blk.new _ _ _) (by omega) ?_; intro v6 w6 hst6))
            clear hc0 hc1 hw1
            go_wp2
            go_roundw
            case rel => exact ⟨j + 1, by omega, by go_num, by rw [HSN.out, ← List.append_assoc]; exact hst6⟩
            case measure => simp [intOf]; omega
          · obtain rfl : j = z.length := by omega
            rw [List.take_of_length_le (Nat.le_refl _)] at HS
            obtain ⟨⟨o1, o2⟩, ⟨r1, _⟩, ⟨r2, _⟩, _, hb, _, _⟩ := HS.out
            obtain ⟨A7, c7, rfl, r7⟩ := rd_of_own o1
            obtain ⟨A8, c8, rfl, r8⟩ := rd2_of_own o2
            have HB := Lib.hid hb
            have HQ1 := Lib.hid (runes_any A1 _ c1 (b ++ c) A7 _ c7 (b ++ c) wr r1 r7 (by simp; omega))
            rw [decide_eq_true rfl, List.length_append] at HQ1
            have HR2 := Lib.hid r2
            have HR8 := Lib.hid r8
            have hlx : (y ++ shiftF q z).length ≤ 1000000000 := by simp [shiftF]; omega
            clear o1 o2 r1 r2 r7 r8 hb HS HJ5
            go_wp2_with fail
            go_at_call 24
            refine HQ1.out.mono ?_
            rintro e w7 ⟨rfl, hd7⟩
            have b7 := hd7.below wr.heap.size
            have HQ2 := Lib.hid (faults_any A2 _ c2 (y ++ shiftF q z) A8 _ c8 (y ++ shiftF q z) w7 (HR2.out.keep b7) (HR8.out.keep b7) hlx)
            rw [decide_eq_true rfl, List.length_append] at HQ2
            go_wp2_with fail
            go_at_call 25
            refine HQ2.out.mono ?_
            rintro e w8 ⟨rfl, hd8⟩
            have b8 := hd8.below w7.heap.size
            have HB8 := Lib.hid ((HB.out.trans (b7.mono HB.out.size)).trans (b8.mono (HB.out.trans (b7.mono HB.out.size)).size))
            clear hd7 hd8 b7 b8 HQ1 HQ2 HB HR2 HR8
            go_wp2_with (go_at_call 16; refine (HA.out _ (HRL.out.since HB8.out)).mono ?_; rintro e w9 ⟨rfl, hb9⟩)
            go_returns
            exact ⟨rfl, HB8.out.trans (hb9.mono HB8.out.size)⟩
    · have k4 : ((q : Int) != (s.size : Int)) = true := by simp; omega
      have hVn : (V == 0) = false := by rw [beq_eq_false_iff_ne]; intro h; exact hq (hvc h)
      clear hj hl1 hl2 hat HD1 HD2 HD3 hc2 hvc
      go_enter Tryd.func10, Tryd.ntmps10
      go_wp2_with fail
      go_at_call 28
      refine (HC.out _ HRL.out).mono ?_
      rintro e w0 ⟨rfl, b0⟩
      have HB0 := Lib.hid b0
      clear b0
      go_wp2_with fail
      go_at_call 27
      refine (HV.out _ (HRL.out.since HB0.out)).mono ?_
      rintro e w1 ⟨rfl, b1'⟩
      have b1 := HB0.out.trans (b1'.mono HB0.out.size)
      have HB1 := Lib.hid b1
      clear b1'
      go_wp2_with (go_at_call 16; refine (HA.out _ (HRL.out.since HB1.out)).mono ?_; rintro e w9 ⟨rfl, hb9⟩)
      go_returns
      exact ⟨rfl, b1.trans (hb9.mono b1.size)⟩
  · have hcase : 200 < s.size ∨ (s.size ≤ 200 ∧ (200 < t.size)) := by omega
    clear hpre
    rcases hcase with h | ⟨h3, h⟩
    all_goals
      try have g3 : decide ((200 : Int) < s.size) = false := by simp; omega
      try have g4 : (200 : Int) < s.size := by omega
      try have g5 : (200 : Int) < t.size := by omega
      go_enter Tryd.func10, Tryd.ntmps10
      go_wp2_with (go_at_call 16; refine (HA.out _ HRL.out).mono ?_; rintro e w9 ⟨rfl, hb9⟩)
      go_returns
      exact ⟨rfl, hb9⟩
end Go.Proofs.YtlfhmkjomogkiaaDoor.Utf
