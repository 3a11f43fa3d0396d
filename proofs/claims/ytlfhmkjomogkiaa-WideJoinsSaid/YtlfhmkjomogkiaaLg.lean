/- The statement WideJoins: its walk. -/
import Derived.Test.YtlfhmkjomogkiaaWn
import Derived.Test.YtlfhmkjomogkiaaLe
import Derived.Test.YtlfhmkjomogkiaaPlain6
namespace Go.Proofs.Ytlfhmkjomogkiaa
open Go.RowKit Pl

theorem wcut_ge (size : Nat) (big : Bool) (l : List UInt8) (h2 : size = 2 ∨ size = 4) : l.length ≤ wcut size big l + 3 := by
  unfold wcut
  rcases h2 with rfl | rfl <;> split <;> omega
theorem wcut_P (size : Nat) (big : Bool) (h2 : size = 2 ∨ size = 4) (u : List UInt8) (h : wcut size big u = u.length) (hne : u ≠ []) : (wnext size big u).2.2 ≠ 18 ∧ wcut size big (u.drop (wnext size big u).2.1) = (u.drop (wnext size big u).2.1).length := by
  have h0 : 0 < u.length := List.length_pos_iff.2 hne
  have h1 : (wnext size big u).2.2 ≠ 18 := by
    intro he
    have := (wcut_more size big u h2 he).1
    omega
  refine ⟨h1, ?_⟩
  have h3 := wcut_step size big u h2 h1
  rw [List.length_drop]
  omega
theorem shiftF_take (k : Nat) (z : List (Nat × Nat)) (j : Nat) (h : j < z.length) : shiftF k (z.take (j + 1)) = shiftF k (z.take j) ++ [(k + z[j].1, z[j].2)] := by
  unfold shiftF; rw [List.take_succ_eq_append_getElem h, List.map_append]; rfl

theorem JSt.outs {B : Nat} {w0 w w' : World} {vb v' : Value} {b b' : List Int} {vy : Value} {y : List (Nat × Nat)} {A1 : Option Addr} {p : List Int} {A2 : Option Addr} {x : List (Nat × Nat)} {A6 : Option Addr} {z : List (Nat × Nat)}
    (h : JSt B w0 w vb b vy y A1 p A2 x A6 z) (g1 : Far A1 p.length vb) (g2 : Far A2 x.length vb) (g6 : Far A6 z.length vb) (ho : w'.ownsRow B RuneT 1 v' b'.length (i32s b')) (hg : w.grownBy w' vb.ownBlock) : JSt B w0 w' v' b' vy y A1 p A2 x A6 z := by
  obtain ⟨⟨h1, h2⟩, ⟨r1, f1⟩, ⟨r2, f2⟩, ⟨r6, f6⟩, hb, hB, hB2⟩ := h
  exact ⟨⟨ho, h2.kept hg (own_own_ne h2 h1 (by decide))⟩, ⟨r1.grown hg g1, f1⟩, ⟨r2.grown hg g2, f2⟩, ⟨r6.grown hg g6, f6⟩, hb.grown hg hb.size (fun k hk => Nat.le_trans hB (h1.lt k hk).1), hB, Nat.le_trans hB2 hg.size⟩
theorem JSt.z_at {B : Nat} {w0 w : World} {vb : Value} {b : List Int} {vy : Value} {y : List (Nat × Nat)} {A1 : Option Addr} {p : List Int} {A2 : Option Addr} {x : List (Nat × Nat)} {bk o : Nat} {z : List (Nat × Nat)}
    (h : JSt B w0 w vb b vy y A1 p A2 x (some ⟨bk, o, none⟩) z) {j e1 e2 : Nat} (hj : ∃ hlt : j < z.length, z[j] = (e1, e2)) : w.cell? ⟨bk, o + j * 2, none⟩ = some (.int .i64 e1) ∧ w.cell? ⟨bk, o + j * 2 + 1, none⟩ = some (.int .i64 e2) := by
  obtain ⟨hlt, hz⟩ := hj
  obtain ⟨b', o', he, _, h0, h1⟩ := h.2.2.2.1.1.at_ hlt
  injection he with he
  injection he with e3 e4
  subst e3 e4
  rw [hz] at h0 h1
  exact ⟨h0, h1⟩

set_option maxHeartbeats 6400000 in
theorem wideJoins_law (k : Int) (s t : ByteArray) (w : World) (hs : s.size ≤ maxLen) (ht : t.size ≤ maxLen) :
    Calls Try.prog 10 #[.int .i64 k, .string s, .string t] w fun e w' => e = .returned (.bool true) ∧ Below w.heap.size w w' := by
  have HA := Lib.hid awake_any
  unfold maxLen at hs ht
  by_cases hpre : (1 ≤ k ∧ k ≤ 4) ∧ s.size ≤ 200 ∧ t.size ≤ 200
  · obtain ⟨hk, hs2, ht2⟩ := hpre
    have g1 : decide (k < 1) = false := by simp; omega
    have g2 : decide (4 < k) = false := by simp; omega
    have g3 : decide ((200 : Int) < s.size) = false := by simp; omega
    have g4 : decide ((200 : Int) < t.size) = false := by simp; omega
    have HC := Lib.hid (fun w => cut_any k s (by omega) w)
    rw [show kcut k s.data.toList = (wcut (wsize k) (bigOf k) s.data.toList, 0) from by unfold kcut; rw [if_pos hk]] at HC
    have hc1 := wcut_le (wsize k) (bigOf k) s.data.toList
    have hc2 := wcut_ge (wsize k) (bigOf k) s.data.toList (wsize_cases k)
    have hj : wcut (wsize k) (bigOf k) s.data.toList = s.size → _ := fun h => (wide_codec (wsize k) (bigOf k) (wsize_cases k)).join (fun u => wcut (wsize k) (bigOf k) u = u.length) (fun u hu hne => wcut_P _ _ (wsize_cases k) u hu hne) s.data.toList t.data.toList (by simpa using h)
    rw [show s.data.toList.length = s.size from by simp] at hc1 hc2
    have HD1 := Lib.hid (fun T w => dec2 k 2 s t T (by omega) w)
    have HD2 := Lib.hid (fun T w => dec1 k 2 s T (by omega) w)
    have HD3 := Lib.hid (fun T w => dec1 k 2 t T (by omega) w)
    rw [kdec_of k 2 _ hk (by decide)] at HD1 HD2 HD3
    have hl1 := dec_len (wnext (wsize k) (bigOf k)) 2 (fun t h => (wnext_pos _ _ t h (wsize_cases k)).1) s.data.toList
    have hl2 := dec_len (wnext (wsize k) (bigOf k)) 2 (fun t h => (wnext_pos _ _ t h (wsize_cases k)).1) t.data.toList
    rw [show s.data.toList.length = s.size from by simp] at hl1 hj
    rw [show t.data.toList.length = t.size from by simp] at hl2
    have hat := dec_at (wnext (wsize k) (bigOf k)) 2 (fun t h => (wnext_pos _ _ t h (wsize_cases k)).2) t.data.toList
    rw [show t.data.toList.length = t.size from by simp] at hat
    generalize wcut (wsize k) (bigOf k) s.data.toList = q at *
    generalize dec (wnext (wsize k) (bigOf k)) 2 s.data.toList = D1 at *
    generalize dec (wnext (wsize k) (bigOf k)) 2 t.data.toList = D2 at *
    generalize dec (wnext (wsize k) (bigOf k)) 2 (s.data.toList ++ t.data.toList) = D3 at *
    have k1 : decide ((q : Int) < 0) = false := by simp
    have k2 : decide ((s.size : Int) < q) = false := by simp; omega
    have k3 : decide ((3 : Int) < (s.size : Int) - (q : Int)) = false := by simp; omega
    have k5 : decide (s.size < q) = false := by simp; omega
    by_cases hq : q = s.size
    · obtain ⟨e1, e2, e3⟩ := hj hq
      obtain ⟨b, y, f1⟩ := D1
      obtain ⟨c, z, f2⟩ := D2
      have e2 : f1 = 0 := e2
      have e3 : f2 = 0 := e3
      subst e1 e2 e3
      have k4 : ((q : Int) != (s.size : Int)) = false := by simp; omega
      have hbl : b.length ≤ 200 ∧ y.length ≤ 200 ∧ c.length ≤ 200 ∧ z.length ≤ 200 := by
        have h1 : b.length ≤ s.size := hl1.1
        have h2 : y.length ≤ s.size := hl1.2
        have h3 : c.length ≤ t.size := hl2.1
        have h4 : z.length ≤ t.size := hl2.2
        omega
      have HAT : Hid (∀ x ∈ z, x.1 ≤ 200) := fun x hx => Nat.le_trans (hat x hx) ht2
      clear hj hl1 hl2 hk hc1 hc2 hat
      rw [← hq] at HD1
      have HQ := Lib.hid hq
      have hq2 : q ≤ 200 := by omega
      clear hq
      go_enter Try.func10, Try.ntmps10
      go_wp2_with fail
      go_at_call 20
      refine (HC.out _).mono ?_
      rintro e w1 ⟨he, b1⟩
      rw [cutEnd] at he
      subst he
      go_wp2_with fail
      go_at_call 21
      refine (HD1.out _ _).mono ?_
      rintro e w2 hd1
      obtain ⟨A1, c1, A2, c2, rfl, r1, q1, b2⟩ := hd1.rd.since
      clear hd1
      go_wp2_with fail
      go_at_call 21
      refine (HD2.out _ _).mono ?_
      rintro e w3 hd2
      obtain ⟨vb, vy, rfl, hst2, b3⟩ := hd2.since
      clear hd2
      go_wp2_with fail
      go_at_call 21
      refine (HD3.out _ _).mono ?_
      rintro e w4 hd3
      obtain ⟨vc, vz, rfl, hst3, b4⟩ := hd3.since
      clear hd3
      obtain ⟨A6, c6, rfl, q6⟩ := rd2_of_own hst3.2.1
      have hb : Below w.heap.size w w4 := by
        have a1 := b1.trans (b2.mono b1.size)
        have a2 := a1.trans (b3.mono a1.size)
        exact a2.trans (b4.mono a2.size)
      have hJ : JSt (w2.heap.size + 1) w w4 vb b vy y A1 (b ++ c) A2 (y ++ shiftF q z) A6 z := by
        have o1 := own_below hst2.1 b4
        have o2 := own_below hst2.2.1 b4
        exact ⟨⟨o1, o2⟩, ⟨(r1.keep b3).keep b4, Far.newer r1.there o2 (by omega)⟩, ⟨(q1.keep b3).keep b4, Far.newer q1.there o2 (by omega)⟩, ⟨q6, Far.older hst2.2.1 hst3.2.1 (by omega)⟩, hb, by have := (b1.trans (b2.mono b1.size)).size; omega, by have := b3.size; have := hst2.2.2.2; have := b4.size; omega⟩
      have HJ := Lib.hid hJ
      have HG : Hid (Far A1 (b ++ c).length vb ∧ Far A2 (y ++ shiftF q z).length vb ∧ Far A6 z.length vb) := ⟨Far.newer r1.there hst2.1 (by omega), Far.newer q1.there hst2.1 (by omega), Far.older hst2.1 hst3.2.1 (by omega)⟩
      have HV := Lib.hid hst3.1
      clear b1 b2 b3 b4 r1 q1 q6 hst2 hst3 hb hJ HD1 HD2 HD3 HC
      go_wp2_with (at_builtin; refine wpList_outs w4 rfl _ _ rfl (w2.heap.size + 1) vb b rfl HJ.out.1.1 HJ.out.2.2.2.2.2.2 _ vc c rfl HV.out (by omega) ?_; intro vb2 w5 o5 hgr hat)
      have HJ5 := Lib.hid (HJ.out.outs HG.out.1 HG.out.2.1 HG.out.2.2 o5 hgr)
      clear o5 hgr hat HJ HG HV
      go_wp2_with fail
      go_loopw [13, 18] (fun v i wr => ∃ j : Nat, j ≤ z.length ∧ i = .int .i64 j ∧ JSt (w2.heap.size + 1) w wr vb2 (b ++ c) v (y ++ shiftF q (z.take j)) A1 (b ++ c) A2 (y ++ shiftF q z) A6 z) (fun _ i _ => z.length - (intOf i).toNat)
      case atStart => exact ⟨0, Nat.zero_le _, rfl, by simpa [shiftF] using HJ5.out⟩
      case round =>
        obtain ⟨j, hj, rfl, hst⟩ := hrel
        have HS := Lib.hid hst
        clear hst
        by_cases hlt : j < z.length
        · obtain ⟨bk, o, rfl, hb, _, _⟩ := HS.out.2.2.2.1.1.at_ hlt
          have hsn := shiftF_take q z j hlt
          have hyl : (y ++ shiftF q (z.take j)).length ≤ 400 := by simp [shiftF]; omega
          obtain ⟨e1, e2, hze⟩ : ∃ e1 e2, z[j] = (e1, e2) := ⟨_, _, rfl⟩
          have hze' : ∃ hlt : j < z.length, z[j] = (e1, e2) := ⟨hlt, hze⟩
          obtain ⟨hc0, hc1⟩ := HS.out.z_at hze'
          have HZ := Lib.hid hze'
          rw [hze] at hsn
          have HSN := Lib.hid hsn
          have hle : e1 ≤ 200 := by
            obtain ⟨h1, h2⟩ := HZ.out
            have := HAT.out z[j] (List.getElem_mem h1)
            rw [h2] at this; exact this
          clear hb hsn hze' hze
          have j0 : (0 : Int) ≤ (j : Int) := by omega
          have j1 : (j : Int) < (z.length : Int) := by omega
          obtain ⟨r, hr⟩ : ∃ r, q + e1 = r := ⟨_, rfl⟩
          replace HSN : Hid (shiftF q (z.take (j + 1)) = shiftF q (z.take j) ++ [(r, e2)]) := by rw [← hr]; exact HSN.out
          have hw1 : IntKind.i64.wrap ((q : Int) + (e1 : Int)) = (r : Int) := by subst hr; exact (IntWalk.i64_in _ (by omega)).trans (by simp)
          clear hr hle
          go_wp2
          go_region_held3 (fun w' => w'.cell? ⟨bk, o + j * 2, none⟩ = some (.int .i64 e1) ∧ w'.cell? ⟨bk, o + j * 2 + 1, none⟩ = some (.int .i64 e2)) (first | exact ⟨hc0, hc1⟩ | exact (HS.out.alloc _).z_at HZ.out | exact (HS.out.alloc _).drew.z_at HZ.out | exact hst6.z_at HZ.out) (first | (refine step_jbad w _ (by rfl) _ _ (by rfl) _ _ _ _ _ _ _ _ _ _ _ (by rfl) (HS.out.alloc _).drew r e2 _ _ (by rfl) (Blk.new _ _ _) (by omega) ?_; intro v6 w6 hst6))
          clear hc0 hc1 hw1
          go_wp2
          go_roundw
          case rel => exact ⟨j + 1, by omega, by go_num, by rw [HSN.out, ← List.append_assoc]; exact hst6⟩
          case measure => simp [intOf]; omega
        · obtain rfl : j = z.length := by omega
          rw [List.take_of_length_le (Nat.le_refl _)] at HS
          obtain ⟨⟨o1, o2⟩, ⟨r1, _⟩, ⟨r2, _⟩, _, hb, _, _⟩ := HS.out
          obtain ⟨A7, c7, rfl, r7⟩ := rd_of_own o1
          obtain ⟨A8, c8, rfl, r8⟩ := rd2_of_own o2
          have HB := Lib.hid hb
          have HQ1 := Lib.hid (runes_any A1 _ c1 (b ++ c) A7 _ c7 (b ++ c) wr r1 r7 (by simp; omega))
          rw [decide_eq_true rfl, List.length_append] at HQ1
          have HR2 := Lib.hid r2
          have HR8 := Lib.hid r8
          have hlx : (y ++ shiftF q z).length ≤ 1000000000 := by simp [shiftF]; omega
          clear o1 o2 r1 r2 r7 r8 hb HS HJ5
          go_wp2_with fail
          go_at_call 23
          refine HQ1.out.mono ?_
          rintro e w7 ⟨rfl, hd7⟩
          have b7 := hd7.below wr.heap.size
          have HQ2 := Lib.hid (faults_any A2 _ c2 (y ++ shiftF q z) A8 _ c8 (y ++ shiftF q z) w7 (HR2.out.keep b7) (HR8.out.keep b7) hlx)
          rw [decide_eq_true rfl, List.length_append] at HQ2
          go_wp2_with fail
          go_at_call 24
          refine HQ2.out.mono ?_
          rintro e w8 ⟨rfl, hd8⟩
          have b8 := hd8.below w7.heap.size
          have HB8 := Lib.hid ((HB.out.trans (b7.mono HB.out.size)).trans (b8.mono (HB.out.trans (b7.mono HB.out.size)).size))
          clear hd7 hd8 b7 b8 HQ1 HQ2 HB HR2 HR8
          go_wp2_with (go_at_call 11; refine (HA.out _).mono ?_; rintro e w9 ⟨rfl, hb9⟩)
          go_returns
          exact ⟨rfl, HB8.out.trans (hb9.mono HB8.out.size)⟩
    · have k4 : ((q : Int) != (s.size : Int)) = true := by simp; omega
      clear hj hl1 hl2 hat hk HD1 HD2 HD3 hc2
      go_enter Try.func10, Try.ntmps10
      go_wp2_with fail
      go_at_call 20
      refine (HC.out _).mono ?_
      rintro e w1 ⟨he, b1⟩
      rw [cutEnd] at he
      subst he
      go_wp2_with (go_at_call 11; refine (HA.out _).mono ?_; rintro e w9 ⟨rfl, hb9⟩)
      go_returns
      exact ⟨rfl, b1.trans (hb9.mono b1.size)⟩
  · have hcase : k < 1 ∨ (1 ≤ k ∧ (4 < k ∨ (k ≤ 4 ∧ (200 < s.size ∨ (s.size ≤ 200 ∧ (200 < t.size)))))) := by omega
    clear hpre
    rcases hcase with h | ⟨h1, h | ⟨h2, h | ⟨h3, h⟩⟩⟩
    all_goals
      try have g1 : decide (k < 1) = false := by simp; omega
      try have g2 : decide (4 < k) = false := by simp; omega
      try have g3 : decide ((200 : Int) < s.size) = false := by simp; omega
      try have g4 : (200 : Int) < s.size := by omega
      try have g5 : (200 : Int) < t.size := by omega
      go_enter Try.func10, Try.ntmps10
      go_wp2_with (go_at_call 11; refine (HA.out _).mono ?_; rintro e w9 ⟨rfl, hb9⟩)
      go_returns
      exact ⟨rfl, hb9⟩
end Go.Proofs.Ytlfhmkjomogkiaa
