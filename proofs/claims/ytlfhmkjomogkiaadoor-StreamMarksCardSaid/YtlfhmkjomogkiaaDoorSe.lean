/- Walks: Decoder.take. -/
import Derived.Test.YtlfhmkjomogkiaaDoorSd
namespace Go.Proofs.YtlfhmkjomogkiaaDoor.Str
open Go.RowKit Pl
set_option maxRecDepth 100000 in
set_option maxHeartbeats 3200000 in
theorem take_off_true (B b : Nat) (s : SSt) (v0 : Value) (w : World) (h : DecAt B b w s v0) (hf : sfit s) (ha : s.all ≤ 1000000) (hb : s.bad.length ≤ 1000000) (hRL : Utf.RL w) (hg : s.guess = false) :
    Calls Tryd.prog 49 #[.pointer (some ⟨b, 0, none⟩), .bool true] w (TakePost B b w v0 (sread true s, (sdec true s).1, (sdec true s).2.2)) := by
  have hrl : s.rest.length ≤ s.all := hf.2.2.2.2
  have c0 : w.cell? ⟨b, 0, none⟩ = some (.string ⟨s.rest.toArray⟩) := by rw [h.1.cell]; rfl
  have c4 : w.cell? ⟨b, 4, none⟩ = some (.bool false) := by rw [h.1.cell, ← hg]; rfl
  have HD := Lib.hid h
  have HK := Lib.hid (Kept.refl b nilV w)
  have HFit := Lib.hid hf
  have HRL := Lib.hid hRL
  have hblt := h.1.lt
  have hall := ha
  have hbad := hb
  clear h hf hRL hg ha hb
  have hlt := HD.out.1.lt
  have hz2 : (⟨s.rest.toArray⟩ : ByteArray).size = s.rest.length := ba_size _
  have hn := slen_le true s
  have hxl := sdec_len true s
  have HF := Lib.hid (from_any B b s v0 w HD.out hrl hall)
  obtain ⟨⟨o, z, er⟩, hx⟩ : ∃ x, sdec true s = x := ⟨_, rfl⟩
  rw [hx] at hxl
  have hat := sdec_at true s
  rw [hx] at hat
  have HAT := Lib.hid hat
  have hzl : z.length ≤ s.rest.length := hxl.2
  obtain ⟨N, hN⟩ : ∃ N, slen true s = N := ⟨_, rfl⟩
  rw [hN] at hn
  have HRd : Hid (∀ w', DecAt B b w' s v0 → Utf.RL w' → Calls Tryd.prog 63 #[.pointer (some ⟨b, 0, none⟩), .string ((⟨s.rest.toArray⟩ : ByteArray).extract 0 N)] w' (DecPost w' (o, z, er))) := by
    intro w' hd hr
    have h := read_any B b s v0 ((⟨s.rest.toArray⟩ : ByteArray).extract 0 N) w' hd HFit.out (by simp; omega) hr
    rw [Lib.extract_data, show (⟨s.rest.toArray⟩ : ByteArray).data.toList = s.rest from by simp, List.drop_zero, Nat.sub_zero] at h
    rw [← hN, show dec (snx s.kind) s.pol (s.rest.take (slen true s)) = sdec true s from rfl, hx, hN] at h
    exact h
  have HX := Lib.hid hx
  have HN := Lib.hid hN
  have HA : Hid (∀ w, Calls Tryd.prog 61 #[.string ⟨s.rest.toArray⟩] w fun e w' => e = .returned (.int .i64 N) ∧ w = w') := by
    intro w'
    have h := all_any ⟨s.rest.toArray⟩ w'
    rw [hz2, show s.rest.length = N from hN] at h
    exact h
  clear hx hN hxl hat
  go_enter Tryd.func49, Tryd.ntmps49
  go_wp2_with fail
  refine HF.out.mono ?_
  rintro e w1 ⟨rfl, hd1⟩
  have HD1 := Lib.hid (HD.out.below (hd1.below _))
  have HK1 := Lib.hid (HK.out.trans (Kept.of_below (v := nilV) (hd1.below _)) (.inl rfl))
  have HRL1 := Lib.hid (HRL.out.since (hd1.below _))
  have c0 : w1.cell? ⟨b, 0, none⟩ = some (.string ⟨s.rest.toArray⟩) := by rw [HD1.out.1.cell]; rfl
  clear hd1 HF
  go_wp2_with (go_at_call 61; refine (HA.out _).mono ?_; rintro e w' ⟨rfl, rfl⟩)
  refine (HRd.out _ HD1.out HRL1.out).mono ?_
  rintro e w3 ⟨vo, vb, rfl, ho, hz, hb3, _⟩
  have HT0 : Hid (TSt B b w v0 w3 s v0 vb z vo o) := by
    refine ⟨HD1.out.below hb3, hblt, ?_, .inl rfl, ⟨own_mono hz HK1.out.size, ?_⟩, own_mono ho HK1.out.size⟩
    · exact (HK1.out.trans (Kept.of_below (v := nilV) hb3) (.inl rfl)).wide
    · intro g hg hv
      have := (hz.lt g hg).1
      have := (HD1.out.2.2.lt g hv).2
      omega
  have c03 : w3.cell? ⟨b, 0, none⟩ = some (.string ⟨s.rest.toArray⟩) := by rw [HT0.out.1.1.cell]; rfl
  have f03 : w3.frozen? ⟨b, 0, none⟩ = false := Blk.frozen HT0.out.1.1 0
  obtain ⟨A2, c2, rfl, _⟩ := rd2_of_own hz
  clear ho hz hb3
  obtain ⟨K, hK⟩ : ∃ K, s.all - s.rest.length = K := ⟨_, rfl⟩
  have hK1 : K ≤ 1000000 := by omega
  rw [hK]
  have HKK := Lib.hid hK
  go_wp2
  rw [drop_str s.rest N]
  have HT1 := Lib.hid (HT0.out.rest (s.rest.drop N))
  clear hK HT0 c03 f03
  generalize World.setCell _ _ _ = w4 at *
  go_loopw [99] (fun i wr => ∃ j v, j ≤ z.length ∧ i = .int .i64 (j : Int) ∧ TSt B b w v0 wr (withBad { s with rest := s.rest.drop N } (s.bad ++ shiftF K (z.take j))) v (.slice A2 z.length c2) z vo o) (fun i _ => z.length - (intOf i).toNat)
  case atStart => exact ⟨0, v0, Nat.zero_le _, rfl, by simpa [withBad, shiftF] using HT1.out⟩
  case round =>
    obtain ⟨j, v, hj, rfl, ht⟩ := hrel
    by_cases hl : j < z.length
    · obtain ⟨bk, rfl⟩ : ∃ bk, A2 = some ⟨bk, 0, none⟩ := by
        rcases ht.2.2.2.2.1.1.2 with ⟨hv, h0⟩ | ⟨g, cap, cur, hv, _⟩
        · omega
        · injection hv with hv; exact ⟨g, hv⟩
      have hsh := shiftF_take K z j hl
      obtain ⟨e1, e2, hze⟩ : ∃ e1 e2, z[j] = (e1, e2) := ⟨_, _, rfl⟩
      rw [hze] at hsh
      have HZ : Hid (∃ hlt : j < z.length, z[j] = (e1, e2)) := Lib.hid ⟨hl, hze⟩
      have HS := Lib.hid hsh
      have HT := Lib.hid ht
      have hle : e1 ≤ s.rest.length := by
        obtain ⟨h1, h2⟩ := HZ.out
        have := HAT.out z[j] (List.getElem_mem h1)
        rw [h2] at this; exact this
      have hbl : (withBad { s with rest := s.rest.drop N } (s.bad ++ shiftF K (z.take j))).bad.length ≤ 3000000 := by
        rw [withBad_length, List.length_append, shiftF_length, List.length_take]; omega
      obtain ⟨r, hr⟩ : ∃ r, K + e1 = r := ⟨_, rfl⟩
      replace HS : Hid (shiftF K (z.take (j + 1)) = shiftF K (z.take j) ++ [(r, e2)]) := by rw [← hr]; exact HS.out
      have hw1 : IntKind.i64.wrap ((K : Int) + (e1 : Int)) = (r : Int) := by subst hr; exact (IntWalk.i64_in _ (by omega)).trans (by simp)
      have hc0 : wr.cell? ⟨bk, j * 2, none⟩ = some (.int .i64 e1) := (HT.out.z_at rfl HZ.out).1
      have hc1 : wr.cell? ⟨bk, j * 2 + 1, none⟩ = some (.int .i64 e2) := (HT.out.z_at rfl HZ.out).2
      clear hze hsh ht hr hle
      go_wp2
      have c6 : (wr.alloc (.cells #[.int .i64 e1, .int .i64 e2] FaultT)).cell? ⟨b, 6, none⟩ = some v := (HT.out.alloc _).cell6
      have d6 : (wr.alloc (.cells #[.int .i64 e1, .int .i64 e2] FaultT)).drew.cell? ⟨b, 6, none⟩ = some v := (HT.out.alloc _).drew.cell6
      have e6 : ((wr.alloc (.cells #[.int .i64 e1, .int .i64 e2] FaultT)).alloc (.cells #[.int .i64 r, .int .i64 e2] FaultT)).drew.cell? ⟨b, 6, none⟩ = some v := ((HT.out.alloc _).alloc _).drew.cell6
      go_region_law (first | (refine step_tbad _ (by rfl) _ _ (by rfl) (by rfl) (((HT.out.alloc _).alloc _).drew) r e2 _ _ (by rfl) (blk_two _ _ _ _) hbl ?_; intro A6 m6 k6 w6 hst6 hk6; have f6 := hst6.frozen 6; have q6 := (keep6 HT.out hk6).1))
      all_goals
        have HM := Lib.hid hst6.store
        clear hc0 hc1 hw1 c6 d6 e6 q6 f6 hst6 hk6
        go_wp2
        go_roundw
        case rel => exact ⟨j + 1, .slice A6 m6 k6, by omega, by go_num, by rw [HS.out, ← List.append_assoc]; exact HM.out⟩
        case measure => simp [intOf]; omega
    · obtain rfl : j = z.length := by omega
      rw [List.take_length] at ht
      have HT := Lib.hid ht
      clear ht hj
      by_cases hez : er = 0
      · subst hez
        go_wp2
        go_returns
        rw [HX.out]
        refine ⟨vo, v, rfl, HT.out.2.2.2.2.2, ?_, HT.out.2.2.1, HT.out.2.2.2.1⟩
        have h := HT.out.1
        unfold sread
        rw [HX.out, HN.out, HKK.out, if_pos rfl]
        exact h
      · have f5 := HT.out.frozen 5
        have f0 := HT.out.frozen 0
        have c0 := HT.out.has0
        have c5 := HT.out.has5
        have HZ := Lib.hid hez
        go_wp2
        go_returns
        rw [HX.out]
        have h5 := (HT.out.rest []).shut
        refine ⟨vo, v, rfl, h5.2.2.2.2.2, ?_, h5.2.2.1, h5.2.2.2.1⟩
        have h := h5.1
        unfold sread
        rw [HX.out, HN.out, HKK.out, if_neg HZ.out]
        exact h
end Go.Proofs.YtlfhmkjomogkiaaDoor.Str
