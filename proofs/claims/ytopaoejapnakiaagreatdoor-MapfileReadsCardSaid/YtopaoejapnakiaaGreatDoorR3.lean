/- Walks: (*spot).digits, (*reader).byte, rune. -/
import Derived.Test.YtopaoejapnakiaaGreatDoorR2
namespace Go.Proofs.YtopaoejapnakiaaGreatDoor.Mf
open Go.RowKit

theorem digs_step (n : Nat) (s : List UInt8) (k : Nat) (hk : k < s.length) (hn : k < n) : digs (n - k) (s.drop k) = if isHex s[k] = true then s[k] :: digs (n - (k + 1)) (s.drop (k + 1)) else [] := by
  rw [List.drop_eq_getElem_cons hk]
  obtain ⟨m, hm⟩ : ∃ m, n - k = m + 1 := ⟨n - k - 1, by omega⟩
  rw [hm, show n - (k + 1) = m by omega]
  rfl
theorem digs_nil (n : Nat) : digs n [] = [] := by cases n <;> rfl
theorem hexP_one (c : UInt8) : (hexP [c]).2 = isHex c := by
  unfold hexP
  by_cases h : isHex c = true
  · rw [if_pos (by simp [h])]; simp [h]
  · rw [if_neg (by simp [h])]; simp at h; simp [h]
theorem hexP_digs (n : Nat) (s : List UInt8) : hexP (digs n s) = (((numOf (digs n s) : Nat) : Int), !(digs n s).isEmpty) := by
  unfold hexP
  rw [if_pos (List.all_eq_true.2 (digs_hex n s))]
set_option maxRecDepth 100000 in
set_option maxHeartbeats 1600000 in
theorem digits_any (B b : Nat) (x : RS) (_hx : x.s.length ≤ 1048576) (most : Nat) (hm : most ≤ 7) (w : World) (h : RdAt B w b x) (hB : B ≤ w.heap.size) :
    Calls Tryz.prog 56 #[.pointer (some ⟨b, 0, none⟩), .int .i64 most] w fun e w' => e = .returned (.string ⟨(digs most x.s).toArray⟩) ∧ RdAt B w' b ⟨x.s.drop (digs most x.s).length, x.ok, x.c, x.t, x.f⟩ ∧ Below B w w' := by
  have H := Lib.hid h
  obtain ⟨s, hs⟩ : ∃ s : ByteArray, s = ⟨x.s.toArray⟩ := ⟨_, rfl⟩
  have hsl : x.s = s.data.toList := by rw [hs]
  have HSB : Hid ((⟨x.s.toArray⟩ : ByteArray) = s) := Lib.hid hs.symm
  have HSL := Lib.hid hsl
  have hss : x.s.length = s.size := by rw [hsl, bl]
  obtain ⟨D, hD⟩ : ∃ D, digs most x.s = D := ⟨_, rfl⟩
  rw [hD]
  have HD := Lib.hid hD
  clear h hs hsl hD
  clear hss
  go_enter Tryz.func56, Tryz.ntmps56
  go_wp2_with fail
  go_loopw [5] (fun vn wr => ∃ k : Nat, k ≤ most ∧ k ≤ s.size ∧ vn = .int .i64 k ∧ D = x.s.take k ++ digs (most - k) (x.s.drop k) ∧ Below w.heap.size w wr) (fun vn _ => s.size - (RowKit.intOf vn).toNat)
  case atStart => exact ⟨0, Nat.zero_le _, Nat.zero_le _, rfl, HD.out.symm, Below.refl _ _⟩
  case round =>
    obtain ⟨k, hk1, hk2, rfl, hd, hbr⟩ := hrel
    have h1 := H.out.keep hbr
    have d0 := h1.c0
    rw [HSB.out] at d0
    have f0 := h1.fz 0
    have HDD := Lib.hid hd
    have HBR := Lib.hid hbr
    have H1 := Lib.hid h1
    clear h1 hd hbr
    have hE : ∀ n, n = k → D = x.s.take n → (s.extract 0 n = ⟨D.toArray⟩ ∧ s.extract n s.size = ⟨(x.s.drop D.length).toArray⟩) := fun n hn e => by
      refine ⟨ba_ext ?_, ba_ext ?_⟩
      · rw [ext_take, e, HSL.out]
      · rw [e, List.length_take, ext_any, HSL.out, bl, Nat.min_eq_left (by omega), List.take_of_length_le (by rw [bl]; omega)]
    have HE := Lib.hid hE
    have HFR := Lib.hid (fun (w1 : World) (hb1 : Below wr.heap.size wr w1) => (H1.out.keep hb1))
    clear hE
    have hxl : x.s.length = s.size := by rw [HSL.out, bl]
    by_cases hlt : k < most ∧ k < s.size
    · obtain ⟨hl1, hl2⟩ := hlt
      have a1 : decide ((k : Int) < min (most : Int) (s.size : Int)) = true := decide_eq_true (by omega)
      have j0 : (0 : Int) ≤ (k : Int) := by omega
      have j1 : (k : Int) ≤ (k : Int) + 1 := by omega
      have j2 : (k : Int) + 1 ≤ (s.size : Int) := by omega
      have j3 : (k : Int) ≤ (s.size : Int) := by omega
      have hkw : IntKind.i64.wrap ((k : Int) + 1) = (k : Int) + 1 := IntWalk.i64_in _ (by omega)
      have hli : k < x.s.length := by rw [hxl]; exact hl2
      obtain ⟨c, hc⟩ : ∃ c, c = x.s[k] := ⟨_, rfl⟩
      have he1 : (s.extract k (k + 1)).data.toList = [c] := by
        rw [ext_any, ← HSL.out, List.take_succ_eq_append_getElem hli, List.drop_append, List.drop_eq_nil_of_le (by rw [List.length_take]; omega), List.length_take, hc]
        have : k - min k x.s.length = 0 := by omega
        rw [this]
        rfl
      have hx1 := hex_any (s.extract k (k + 1)) (by rw [← bl, he1]; simp) wr
      rw [he1] at hx1
      have h2 := hexP_one c
      have hds := digs_step most x.s k hli hl1
      rw [← hc] at hds
      rw [h2] at hx1
      generalize (hexP [c]).1 = p1 at hx1
      clear h2 he1
      by_cases hh : isHex c = true
      · rw [if_pos hh] at hds
        have htk : D = x.s.take (k + 1) ++ digs (most - (k + 1)) (x.s.drop (k + 1)) := by
          rw [List.take_succ_eq_append_getElem hli, List.append_assoc, ← hc, HDD.out, hds]
          rfl
        have HTK := Lib.hid htk
        rw [hh] at hx1
        have HX1 := Lib.hid hx1
        clear hx1
        clear hds htk hh hc hli
        go_wp2_with fail
        refine HX1.out.mono ?_
        rintro _ w1 ⟨rfl, hb1⟩
        have d1 := (HFR.out w1 hb1).c0
        go_wp2_with fail
        go_roundw
        case rel => exact ⟨k + 1, by omega, by omega, by go_num, HTK.out, HBR.out.trans (hb1.mono HBR.out.size)⟩
        case measure => simp [RowKit.intOf]; omega
      · rw [if_neg hh] at hds
        have hdt : D = x.s.take k := by rw [HDD.out, hds, List.append_nil]
        obtain ⟨e1, e2⟩ := HE.out k rfl hdt
        have HE1 := Lib.hid e1
        have HE2 := Lib.hid e2
        have hh2 : isHex c = false := by simpa using hh
        rw [hh2] at hx1
        have HX1 := Lib.hid hx1
        clear hx1 hh2
        clear hds hh hc e1 e2 hdt
        go_wp2_with fail
        refine HX1.out.mono ?_
        rintro _ w1 ⟨rfl, hb1⟩
        have hr := HFR.out w1 hb1
        have d1 := hr.c0
        rw [HSB.out] at d1
        have f1 := hr.fz 0
        have HS0 := Lib.hid (hr.set0 (x.s.drop D.length))
        have HBB := Lib.hid (below_set ((Below.refl B w).trans ((HBR.out.mono hB).trans (hb1.mono (Nat.le_trans hB HBR.out.size)))) b 0 (.string ⟨(x.s.drop D.length).toArray⟩) H.out.le)
        clear hr d0 f0 hb1
        go_wp2_with fail
        go_returns
        rw [HE1.out, HE2.out]
        exact ⟨rfl, HS0.out, HBB.out⟩
    · have a1 : decide ((k : Int) < min (most : Int) (s.size : Int)) = false := decide_eq_false (by omega)
      have j0 : (0 : Int) ≤ (k : Int) := by omega
      have j3 : (k : Int) ≤ (s.size : Int) := by omega
      have hds : digs (most - k) (x.s.drop k) = [] := by
        by_cases h1 : k < most
        · rw [List.drop_eq_nil_of_le (by omega), digs_nil]
        · rw [show most - k = 0 by omega]; cases x.s.drop k <;> rfl
      have hdt : D = x.s.take k := by rw [HDD.out, hds, List.append_nil]
      obtain ⟨e1, e2⟩ := HE.out k rfl hdt
      have HE1 := Lib.hid e1
      have HE2 := Lib.hid e2
      have HS0 := Lib.hid (H1.out.set0 (x.s.drop D.length))
      have HBB := Lib.hid (below_set ((Below.refl B w).trans (HBR.out.mono hB)) b 0 (.string ⟨(x.s.drop D.length).toArray⟩) H.out.le)
      clear hds e1 e2 hdt hlt
      go_wp2_with fail
      go_returns
      rw [HE1.out, HE2.out]
      exact ⟨rfl, HS0.out, HBB.out⟩
end Go.Proofs.YtopaoejapnakiaaGreatDoor.Mf
