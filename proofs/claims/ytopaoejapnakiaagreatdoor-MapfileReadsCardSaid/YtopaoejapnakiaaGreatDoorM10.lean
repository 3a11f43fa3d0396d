/- Walk: inkhornref13.Unicode. -/
import Derived.Test.YtopaoejapnakiaaGreatDoorM9
import Derived.Deep.RegionLaw
namespace Go.Proofs.YtopaoejapnakiaaGreatDoor.Mf
open Go.RowKit

theorem refU_short (s : List UInt8) (h : s.length < 4) : refU s = .bad := by
  rw [refU_eq]
  by_cases h1 : s.take 2 = [48, 120]
  · rw [if_pos h1, pairsF_none _ (byteO_short _ (by rw [List.length_drop]; omega)), if_pos rfl]
  · rw [if_neg h1]
theorem take2_ba (s : ByteArray) (i : Nat) (x : List UInt8) : ((s.extract i (i + 2)).toList == x) = decide ((s.data.toList.drop i).take 2 = x) := by
  rw [ByteArray.toList_eq, ext_any, Bool.eq_iff_iff, beq_iff_eq, decide_eq_true_iff, List.drop_take]
  have : i + 2 - i = 2 := by omega
  rw [this]
theorem byteO_at (s : ByteArray) (i : Nat) (h : i + 1 < s.size) : byteO (s.data.toList.drop i) = if isHex (s[i]'(by omega)) = true ∧ isHex s[i + 1] = true then some (UInt8.ofNat (hexN (s[i]'(by omega)) * 16 + hexN s[i + 1]), s.data.toList.drop (i + 2)) else none := by
  have h1 : s.data.toList.drop i = (s[i]'(by omega)) :: s[i + 1] :: s.data.toList.drop (i + 2) := by
    rw [List.drop_eq_getElem_cons (by rw [bl]; omega), b_at s i (by omega), List.drop_eq_getElem_cons (by rw [bl]; omega), b_at s (i + 1) h]
  rw [h1, byteO_two]
theorem dig_pair (c d : UInt8) (hc : isHex c = true) (hd : isHex d = true) : IntKind.u8.wrap (IntKind.i64.wrap (IntKind.i64.wrap (16 * dig c) + dig d)) = ((UInt8.ofNat (hexN c * 16 + hexN d)).toNat : Int) := by
  obtain ⟨_, _, c3, _⟩ := dig_hex c
  obtain ⟨_, _, d3, _⟩ := dig_hex d
  have hc0 := hexV_le c
  have hd0 := hexV_le d
  rw [c3 hc, d3 hd]
  unfold hexN
  have q1 : IntKind.i64.wrap (16 * (((hexV c).getD 0 : Nat) : Int)) = 16 * (((hexV c).getD 0 : Nat) : Int) := IntWalk.i64_in _ (by omega)
  rw [q1, IntWalk.i64_in _ (by omega)]
  have h1 : (16 * (((hexV c).getD 0 : Nat) : Int) + (((hexV d).getD 0 : Nat) : Int)) = (((hexV c).getD 0 * 16 + (hexV d).getD 0 : Nat) : Int) := by omega
  rw [h1, UInt8.toNat_ofNat', Nat.mod_eq_of_lt (by omega)]
  exact IntWalk.u8_in _ (by omega)
theorem byteConv (w : World) (b : UInt8) : (convert 64 9 (.slice (some ⟨w.heap.size, 0, none⟩) 1 1)).run Tryz.prog (w.alloc (.cells #[.int .u8 (b.toNat : Int)] 5)) = .ok (.string ⟨#[b]⟩) (w.alloc (.cells #[.int .u8 (b.toNat : Int)] 5)) := by
  have hk := Blk.new w 5 #[.int .u8 (b.toNat : Int)]
  have hcv := run_convert_bytes_arg (P := Tryz.prog) (w.alloc (.cells #[.int .u8 (b.toNat : Int)] 5)) 64 5 Tryz.underlying64 Tryz.underlying5 w.heap.size 0 1 1 [(b.toNat : Int)] rfl (by
    intro j hj
    obtain rfl : j = 0 := by omega
    rw [hk.cell]; rfl) 9 Tryz.underlying9
  rw [show strOfNums [(b.toNat : Int)] = ⟨#[b]⟩ from by
    apply ByteArray.ext
    apply Array.toList_inj.1
    rw [strOfNums_data]
    simp] at hcv
  exact hcv
theorem push_one (B : ByteArray) (b : UInt8) : (B ++ (⟨#[b]⟩ : ByteArray)).data.toList = B.data.toList ++ [b] := by rw [ByteArray.toList_data_append]
theorem keepU {w0 w2 : World} {H n : Nat} {B : ByteArray} {vt v2 : Value} {xs : List Value} (ho : w2.ownsRow H RuneT 1 v2 n xs) (k0 : Blk w2 H RefT #[.string ⟨#[]⟩, .slice none 0 0, .int .i64 0]) (k1 : Blk w2 (H + 1) RefT #[.string B, vt, .int .i64 0]) (hb : Below H w0 w2) :
    ∃ V, w2.setCell ⟨H + 1, 1, none⟩ v2 = V ∧ w2.cell? ⟨H + 1, 1, none⟩ = some vt ∧ w2.frozen? ⟨H + 1, 1, none⟩ = false ∧ Blk V H RefT #[.string ⟨#[]⟩, .slice none 0 0, .int .i64 0] ∧ Blk V (H + 1) RefT #[.string B, v2, .int .i64 0] ∧ V.ownsRow H RuneT 1 v2 n xs ∧ Below H w0 V :=
  ⟨_, rfl, by rw [k1.cell]; rfl, Blk.frz k1 1, Blk.apart k0 (by omega), Blk.set k1 1 v2, own_set ho k1 (by decide), below_set hb _ _ _ (by omega)⟩
/-- What Unicode answers, its text a slice in each case. -/
def URefPost2 (w : World) (L : Line) (e : Ending) (w' : World) : Prop :=
  ∃ (rc : ByteArray) (A : Option Addr) (n c : Nat) (how : Int), e = .returned (.tuple #[.agg #[.string rc, .slice A n c, .int .i64 0], .int .i64 how]) ∧ Below w.heap.size w w' ∧ match L with
    | .bad => how = 0
    | .bare c => how = 2 ∧ rc = ⟨c.toArray⟩
    | .row k l => how = 1 ∧ rc = ⟨k.toArray⟩ ∧ TextAt w' (.slice A n c) l
set_option maxRecDepth 100000 in
set_option maxHeartbeats 3200000 in
theorem unicodeR_any (s : ByteArray) (hs : s.size ≤ 1000000) (w : World) :
    Calls Tryz.prog 33 #[.string s] w (URefPost2 w (refU s.data.toList)) := by
  obtain ⟨Z, hZ⟩ : ∃ Z, refU s.data.toList = Z := ⟨_, rfl⟩
  rw [hZ]
  have HZ := Lib.hid hZ
  clear hZ
  obtain ⟨W, hW⟩ : ∃ W, ((w.alloc (.cells #[.string ⟨#[]⟩, .slice none 0 0, .int .i64 0] 49)).alloc (.cells #[.string ⟨#[]⟩, .slice none 0 0, .int .i64 0] 49)) = W := ⟨_, rfl⟩
  have hk0 : Blk W w.heap.size RefT #[.string ⟨#[]⟩, .slice none 0 0, .int .i64 0] := by
    rw [← hW]
    exact (Blk.new w RefT _).alloc _
  have hk1 : Blk W (w.heap.size + 1) RefT #[.string ⟨#[]⟩, .slice none 0 0, .int .i64 0] := by
    have := Blk.new (w.alloc (.cells #[.string ⟨#[]⟩, .slice none 0 0, .int .i64 0] 49)) RefT #[.string ⟨#[]⟩, .slice none 0 0, .int .i64 0]
    rw [World.size_alloc] at this
    rw [← hW]
    exact this
  have hb : Below w.heap.size w W := hW ▸ ((Below.refl _ _).alloc (Nat.le_refl _) _).alloc (by simp) _
  have e0 : W.cell? ⟨w.heap.size, 0, none⟩ = some (.string ⟨#[]⟩) := by rw [hk0.cell]; rfl
  have e1 : W.cell? ⟨w.heap.size, 1, none⟩ = some (.slice none 0 0) := by rw [hk0.cell]; rfl
  have e2 : W.cell? ⟨w.heap.size, 2, none⟩ = some (.int .i64 0) := by rw [hk0.cell]; rfl
  have HK0 := Lib.hid hk0
  have HK1 := Lib.hid hk1
  have HB := Lib.hid hb
  have HD := Lib.hid (fun c w => digit_any c w)
  have HW := Lib.hid hW
  clear hk0 hk1 hb hW
  by_cases h4 : s.size < 4
  · have a4 : decide ((s.size : Int) < 4) = true := decide_eq_true (by omega)
    have hz : Z = .bad := by rw [← HZ.out]; exact refU_short _ (by rw [bl]; exact h4)
    subst hz
    clear h4
    go_enter Tryz.func33, Tryz.ntmps33
    go_wp2_with fail
    rw [HW.out]
    refine bodyPost_ret (by simp [results, Tryz.results33, go_sem, e0, e1, e2]; try rfl) rfl ?_
    exact ⟨_, _, _, _, _, rfl, HB.out, rfl⟩
  have a4 : decide ((s.size : Int) < 4) = false := decide_eq_false (by omega)
  have j2 : (2 : Int) ≤ (s.size : Int) := by omega
  have ht2 := take2_ba s 0 [48, 120]
  rw [List.drop_zero, Nat.zero_add] at ht2
  by_cases h0x : s.data.toList.take 2 = [48, 120]
  · have b0 : ((s.extract 0 2).toList == [48, 120]) = true := by rw [ht2]; exact decide_eq_true h0x
    have hz := HZ.out
    rw [refU_eq, if_pos h0x] at hz
    obtain ⟨P, hP⟩ : ∃ P, (pairsF (s.data.toList.drop 2)).1 = P := ⟨_, rfl⟩
    obtain ⟨R, hR⟩ : ∃ R, (pairsF (s.data.toList.drop 2)).2 = R := ⟨_, rfl⟩
    rw [hP, hR] at hz
    have HZ2 := Lib.hid hz
    have HP := Lib.hid hP
    have HR := Lib.hid hR
    clear hz hP hR ht2 h0x
    go_enter Tryz.func33, Tryz.ntmps33
    go_upto_block 0 with fail
    rw [HW.out]
    go_cut [5, 6] (fun vi vc wx => ∃ (i : Nat) (B : ByteArray), vi = .int .i64 i ∧ vc = .string B ∧ i ≤ s.size ∧ B.size ≤ i ∧ B.data.toList = P ∧ s.data.toList.drop i = R ∧ Blk wx w.heap.size RefT #[.string ⟨#[]⟩, .slice none 0 0, .int .i64 0] ∧ Blk wx (w.heap.size + 1) RefT #[.string ⟨#[]⟩, .slice none 0 0, .int .i64 0] ∧ Below w.heap.size w wx)
    case first =>
      go_wp2_with fail
      go_loopw [5, 6] (fun vi vc wx => ∃ (i : Nat) (B : ByteArray), vi = .int .i64 i ∧ vc = .string B ∧ i ≤ s.size ∧ B.size ≤ i ∧ B.data.toList ++ (pairsF (s.data.toList.drop i)).1 = P ∧ (pairsF (s.data.toList.drop i)).2 = R ∧ Blk wx w.heap.size RefT #[.string ⟨#[]⟩, .slice none 0 0, .int .i64 0] ∧ Blk wx (w.heap.size + 1) RefT #[.string ⟨#[]⟩, .slice none 0 0, .int .i64 0] ∧ Below w.heap.size w wx) (fun vi _ _ => s.size - (RowKit.intOf vi).toNat)
      case atStart => exact ⟨2, ⟨#[]⟩, rfl, rfl, by omega, Nat.zero_le _, HP.out, HR.out, HK0.out, HK1.out, HB.out⟩
      case round =>
        obtain ⟨i, B, rfl, rfl, hi, hbi, hP, hR, hk0, hk1, hb⟩ := hrel
        have HPI := Lib.hid hP
        have HRI := Lib.hid hR
        have HK0I := Lib.hid hk0
        have HK1I := Lib.hid hk1
        have HBI := Lib.hid hb
        clear hP hR hk0 hk1 hb
        have hout : byteO (s.data.toList.drop i) = none → B.data.toList = P ∧ s.data.toList.drop i = R := fun h => by
          have h1 := HPI.out
          have h2 := HRI.out
          rw [pairsF_none _ h] at h1 h2
          exact ⟨by rw [← h1, List.append_nil], h2⟩
        have HOUT := Lib.hid hout
        clear hout
        have kw : IntKind.i64.wrap ((i : Int) + 1) = (i : Int) + 1 := IntWalk.i64_in _ (by omega)
        have kw2 : IntKind.i64.wrap ((i : Int) + 2) = (i : Int) + 2 := IntWalk.i64_in _ (by omega)
        by_cases hlt : i + 1 < s.size
        · have a1 : decide ((i : Int) + 1 < (s.size : Int)) = true := decide_eq_true (by omega)
          have i0 : (0 : Int) ≤ (i : Int) := by omega
          have i1 : (i : Int) < (s.size : Int) := by omega
          have i2 : (0 : Int) ≤ (i : Int) + 1 := by omega
          have i3 : (i : Int) + 1 < (s.size : Int) := by omega
          have hil : i < s.size := by omega
          have hby := byteO_at s i hlt
          obtain ⟨g1, g2, g3, g4⟩ := dig_hex s[i]
          obtain ⟨q1, q2, q3, q4⟩ := dig_hex s[i + 1]
          have HC := Lib.hid (fun w => HD.out s[i] w)
          have HE := Lib.hid (fun w => HD.out s[i + 1] w)
          by_cases hx : isHex s[i] = true
          · have b1 : decide (0 ≤ dig s[i]) = true := decide_eq_true (g1.2 hx)
            by_cases hy : isHex s[i + 1] = true
            · have b2 : decide (0 ≤ dig s[i + 1]) = true := decide_eq_true (q1.2 hy)
              rw [if_pos ⟨hx, hy⟩] at hby
              have hp := pairsF_some _ hby
              have hpi := HPI.out
              have hri := HRI.out
              rw [hp] at hpi hri
              have HRI2 := Lib.hid hri
              have hpr := dig_pair s[i] s[i + 1] hx hy
              obtain ⟨b, hbb⟩ : ∃ b, UInt8.ofNat (hexN s[i] * 16 + hexN s[i + 1]) = b := ⟨_, rfl⟩
              rw [hbb] at hpr hpi
              have HPI2 := Lib.hid hpi
              have hcv : (convert 64 9 (.slice (some ⟨wr.heap.size, 0, none⟩) 1 1)).run Tryz.prog (wr.alloc (.cells #[.int .u8 (b.toNat : Int)] 5)).drew = _ := byteConv wr.drew b
              have hcat : ¬ (9223372036854775807 < B.size + 1) := by omega
              clear hbb
              have hd0 := g1.2 hx
              have hd1 := q1.2 hy
              clear hby hp hpi hri hx hy g1 g3 g4 q1 q3 q4
              go_wp2_with (go_at_call 54; refine (HD.out _ _).mono ?_; rintro _ _ ⟨rfl, rfl⟩)
              go_region_law (go_simp; go_at_call 54; refine (HD.out _ _).mono ?_; rintro _ _ ⟨rfl, rfl⟩)
              go_wp2_with fail
              all_goals (
                go_roundw
                case rel => exact ⟨i + 2, B ++ ⟨#[b]⟩, by go_num, rfl, by omega, by rw [ByteArray.size_append]; show B.size + 1 ≤ _; omega, by rw [push_one, List.append_assoc]; exact HPI2.out, HRI2.out, ((HK0I.out.alloc _)).drew, ((HK1I.out.alloc _)).drew, (HBI.out.alloc HBI.out.size _).drew⟩
                case measure => simp [RowKit.intOf]; omega)
            · have hy' : isHex s[i + 1] = false := by simpa using hy
              have b2 : decide (0 ≤ dig s[i + 1]) = false := decide_eq_false (by rw [q4 hy']; decide)
              rw [if_neg (fun h => hy h.2)] at hby
              have HO := Lib.hid (HOUT.out hby)
              clear hby hx hy hy' g1 g2 g3 g4 q1 q2 q3 q4
              generalize dig s[i] = d0 at *
              generalize dig s[i + 1] = d1 at *
              go_wp2_with fail
              refine (HC.out wr).mono ?_
              rintro _ _ ⟨rfl, rfl⟩
              go_wp2_with fail
              refine (HE.out wr).mono ?_
              rintro _ _ ⟨rfl, rfl⟩
              go_wp2_with fail
              go_meet
              exact ⟨i, B, rfl, rfl, hi, hbi, HO.out.1, HO.out.2, HK0I.out, HK1I.out, HBI.out⟩
          · have hx' : isHex s[i] = false := by simpa using hx
            have b1 : decide (0 ≤ dig s[i]) = false := decide_eq_false (by rw [g4 hx']; decide)
            rw [if_neg (fun h => hx h.1)] at hby
            have HO := Lib.hid (HOUT.out hby)
            clear hby hx hx' g1 g2 g3 g4 q1 q2 q3 q4
            generalize dig s[i] = d0 at *
            go_wp2_with fail
            refine (HC.out wr).mono ?_
            rintro _ _ ⟨rfl, rfl⟩
            go_wp2_with fail
            go_meet
            exact ⟨i, B, rfl, rfl, hi, hbi, HO.out.1, HO.out.2, HK0I.out, HK1I.out, HBI.out⟩
        · have a1 : decide ((i : Int) + 1 < (s.size : Int)) = false := decide_eq_false (by omega)
          have HO := Lib.hid (HOUT.out (byteO_short _ (by rw [List.length_drop, bl]; omega)))
          go_wp2_with fail
          go_meet
          exact ⟨i, B, rfl, rfl, hi, hbi, HO.out.1, HO.out.2, HK0I.out, HK1I.out, HBI.out⟩
    case rest =>
      obtain ⟨i, B, rfl, rfl, hi, hbi, hP, hR, hk0, hk1, hb⟩ := hcut
      clear e0 e1 e2
      have HP2 := Lib.hid hP
      have HR2 := Lib.hid hR
      have HB2 := Lib.hid hb
      have c10 : wc.cell? ⟨w.heap.size + 1, 0, none⟩ = some (.string ⟨#[]⟩) := by rw [hk1.cell]; rfl
      have f10 := Blk.frz hk1 0
      obtain ⟨V, hV⟩ : ∃ V, wc.setCell ⟨w.heap.size + 1, 0, none⟩ (.string B) = V := ⟨_, rfl⟩
      have hv0 : Blk V w.heap.size RefT #[.string ⟨#[]⟩, .slice none 0 0, .int .i64 0] := hV ▸ Blk.apart hk0 (by omega)
      have hv1 : Blk V (w.heap.size + 1) RefT #[.string B, .slice none 0 0, .int .i64 0] := hV ▸ Blk.set hk1 0 (.string B)
      have hbv : Below w.heap.size w V := hV ▸ below_set hb _ _ _ (by omega)
      have HV0 := Lib.hid hv0
      have HV1 := Lib.hid hv1
      have HBV := Lib.hid hbv
      have v0 : V.cell? ⟨w.heap.size + 1, 0, none⟩ = some (.string B) := by rw [hv1.cell]; rfl
      have v1 : V.cell? ⟨w.heap.size + 1, 1, none⟩ = some (.slice none 0 0) := by rw [hv1.cell]; rfl
      have v2 : V.cell? ⟨w.heap.size + 1, 2, none⟩ = some (.int .i64 0) := by rw [hv1.cell]; rfl
      have y0 : V.cell? ⟨w.heap.size, 0, none⟩ = some (.string ⟨#[]⟩) := by rw [hv0.cell]; rfl
      have y1 : V.cell? ⟨w.heap.size, 1, none⟩ = some (.slice none 0 0) := by rw [hv0.cell]; rfl
      have y2 : V.cell? ⟨w.heap.size, 2, none⟩ = some (.int .i64 0) := by rw [hv0.cell]; rfl
      have g0 := Blk.frz hv0 0
      have g1 := Blk.frz hv0 1
      have g2 := Blk.frz hv0 2
      have hsz : wc.heap.size ≤ V.heap.size := by rw [← hV]; simp
      clear hP hR hb hk0 hk1 hv0 hv1 hbv
      obtain ⟨Wf, hWf, q0, q1, q2, hbf, htf⟩ := ret3 (.string B) (.slice none 0 0) (.int .i64 0) HV0.out HBV.out (Nat.le_refl _)
      have HBF := Lib.hid hbf
      clear hbf htf
      by_cases h0 : P = []
      · have hte : B.toList.isEmpty = true := by rw [ByteArray.toList_eq, HP2.out, h0]; rfl
        have hz := HZ2.out
        rw [if_pos h0] at hz
        subst hz
        go_wp2_with fail
        refine bodyPost_ret (by simp [results, Tryz.results33, go_sem, q0, q1, q2]; try rfl) rfl ?_
        exact ⟨_, _, _, _, _, rfl, HBF.out, rfl⟩
      have hte : B.toList.isEmpty = false := by
        rw [ByteArray.toList_eq, HP2.out]
        cases P with
        | nil => exact absurd rfl h0
        | cons c t => rfl
      by_cases h1 : R = []
      · have hz := HZ2.out
        rw [if_neg h0, if_pos h1] at hz
        subst hz
        have hie : i = s.size := by
          have h2 := HR2.out
          rw [h1] at h2
          have h3 := congrArg List.length h2
          rw [List.length_drop, bl] at h3
          simp at h3
          omega
        have b1 : ((i : Int) == (s.size : Int)) = true := by rw [beq_iff_eq]; omega
        clear h0 h1 hie
        go_wp2_with fail
        refine bodyPost_ret (by simp [results, Tryz.results33, go_sem, q0, q1, q2]; try rfl) rfl ?_
        exact ⟨_, _, _, _, _, rfl, HBF.out, rfl, ba_ext (by rw [HP2.out])⟩
      have hz := HZ2.out
      rw [if_neg h0, if_neg h1] at hz
      have hRl : R.length = s.size - i := by rw [← HR2.out, List.length_drop, bl]
      have hR0 : 0 < R.length := List.length_pos_iff.2 h1
      have b1 : ((i : Int) == (s.size : Int)) = false := by rw [beq_eq_false_iff_ne]; omega
      have hg := gap13_any s hs i hi V
      rw [HR2.out] at hg
      have hnl : nsp R ≤ R.length := (List.takeWhile_prefix _).length_le
      obtain ⟨m, hm⟩ : ∃ m, nsp R = m := ⟨_, rfl⟩
      rw [hm] at hz hg hnl
      obtain ⟨k, hk⟩ : ∃ k, i + m = k := ⟨_, rfl⟩
      have hkd : R.drop m = s.data.toList.drop k := by rw [← HR2.out, List.drop_drop, hk]
      have hks : k ≤ s.size := by omega
      rw [hk] at hg
      rw [hkd] at hz
      have HG := Lib.hid hg
      have HZ3 := Lib.hid hz
      clear hg hz h0 h1 hm hkd
      by_cases hm0 : m = 0
      · have b2 : ((k : Int) == (i : Int)) = true := by rw [beq_iff_eq]; omega
        have hz := HZ3.out
        rw [if_pos hm0] at hz
        subst hz
        clear hm0 hk
        go_wp2_with fail
        refine HG.out.mono ?_
        rintro _ _ ⟨rfl, rfl⟩
        go_wp2_with fail
        refine bodyPost_ret (by simp [results, Tryz.results33, go_sem, q0, q1, q2]; try rfl) rfl ?_
        exact ⟨_, _, _, _, _, rfl, HBF.out, rfl⟩
      have b2 : ((k : Int) == (i : Int)) = false := by rw [beq_eq_false_iff_ne]; omega
      have hz := HZ3.out
      rw [if_neg hm0] at hz
      have kw2 : IntKind.i64.wrap ((k : Int) + 2) = (k : Int) + 2 := IntWalk.i64_in _ (by omega)
      have HZ4 := Lib.hid hz
      clear hz hm0 hk hnl hRl hR0
      by_cases hk2 : s.size < k + 2
      · have b3 : decide ((s.size : Int) < (k : Int) + 2) = true := decide_eq_true (by omega)
        have hz := HZ4.out
        rw [if_neg (fun h => by
          have h2 := congrArg List.length h
          rw [List.length_take, List.length_drop, bl] at h2
          simp at h2
          omega)] at hz
        subst hz
        clear hk2
        go_wp2_with fail
        refine HG.out.mono ?_
        rintro _ _ ⟨rfl, rfl⟩
        go_wp2_with fail
        refine bodyPost_ret (by simp [results, Tryz.results33, go_sem, q0, q1, q2]; try rfl) rfl ?_
        exact ⟨_, _, _, _, _, rfl, HBF.out, rfl⟩
      have b3 : decide ((s.size : Int) < (k : Int) + 2) = false := decide_eq_false (by omega)
      have i0 : (0 : Int) ≤ (k : Int) := by omega
      have i1 : (k : Int) ≤ (k : Int) + 2 := by omega
      have i2 : (k : Int) + 2 ≤ (s.size : Int) := by omega
      have ht2 := take2_ba s k [48, 120]
      by_cases h0x : ¬ (s.data.toList.drop k).take 2 = [48, 120]
      · have b4 : ((s.extract k (k + 2)).toList == [48, 120]) = false := by rw [ht2]; exact decide_eq_false h0x
        have hz := HZ4.out
        rw [if_neg h0x] at hz
        subst hz
        clear h0x ht2
        go_wp2_with fail
        refine HG.out.mono ?_
        rintro _ _ ⟨rfl, rfl⟩
        go_wp2_with fail
        refine bodyPost_ret (by simp [results, Tryz.results33, go_sem, q0, q1, q2]; try rfl) rfl ?_
        exact ⟨_, _, _, _, _, rfl, HBF.out, rfl⟩
      have h0x := Decidable.not_not.1 h0x
      have b4 : ((s.extract k (k + 2)).toList == [48, 120]) = true := by rw [ht2]; exact decide_eq_true h0x
      have hz := HZ4.out
      rw [if_pos h0x, List.drop_drop] at hz
      obtain ⟨T, hT⟩ : ∃ T, runesF (s.data.toList.drop (k + 2)) = T := ⟨_, rfl⟩
      rw [hT] at hz
      have HT := Lib.hid hT
      have HZ5 := Lib.hid hz
      clear h0x ht2 hz hT hWf q0 q1 q2 HBF
      go_wp2_with fail
      refine HG.out.mono ?_
      rintro _ _ ⟨rfl, rfl⟩
      go_wp2_with fail
      go_loopw [5, 8, 9] (fun vi _ _ wx => ∃ (j : Nat) (l : List Int) (vt : Value), vi = .int .i64 j ∧ j ≤ s.size ∧ l.length ≤ j ∧ Blk wx w.heap.size RefT #[.string ⟨#[]⟩, .slice none 0 0, .int .i64 0] ∧ Blk wx (w.heap.size + 1) RefT #[.string B, vt, .int .i64 0] ∧ wx.ownsRow w.heap.size RuneT 1 vt l.length (i32s l) ∧ Below w.heap.size w wx ∧ (match runesF (s.data.toList.drop j) with | none => none | some t => some (l ++ t)) = T) (fun vi _ _ _ => s.size - (RowKit.intOf vi).toNat)
      case atStart =>
        refine ⟨k + 2, [], .slice none 0 0, by go_num, by omega, Nat.zero_le _, HV0.out, HV1.out, World.ownsRow_nil _ _ _ _, HBV.out, ?_⟩
        rw [HT.out]
        cases T <;> rfl
      case round =>
        obtain ⟨j, l, vt, rfl, hj, hlj, hk0, hk1, hown, hb, hT⟩ := hrel
        obtain ⟨Av, cv, rfl⟩ := own_shapeN hown
        clear v0 v1 v2 y0 y1 y2 g0 g1 g2
        have HK0 := Lib.hid hk0
        have HK1 := Lib.hid hk1
        have HOW := Lib.hid hown
        have HB := Lib.hid hb
        have hh := hexes_any s hs j hj wr
        rw [runesF_eq] at hT
        have hdl := digs_le 7 (s.data.toList.drop j)
        rw [List.length_drop, bl] at hdl
        unfold runeO at hT
        rw [List.drop_drop] at hT
        have hn7 := digs_len 7 (s.data.toList.drop j)
        have hnb := numOf_7 (digs 7 (s.data.toList.drop j)) hn7
        obtain ⟨n, hn⟩ : ∃ n, (digs 7 (s.data.toList.drop j)).length = n := ⟨_, rfl⟩
        obtain ⟨x, hx⟩ : ∃ x, numOf (digs 7 (s.data.toList.drop j)) = x := ⟨_, rfl⟩
        rw [hn, hx] at hh hT
        rw [hn] at hdl hn7
        rw [hx] at hnb
        have HH := Lib.hid hh
        have HTT := Lib.hid hT
        have y0 : wr.cell? ⟨w.heap.size, 0, none⟩ = some (.string ⟨#[]⟩) := by rw [hk0.cell]; rfl
        have y1 : wr.cell? ⟨w.heap.size, 1, none⟩ = some (.slice none 0 0) := by rw [hk0.cell]; rfl
        have y2 : wr.cell? ⟨w.heap.size, 2, none⟩ = some (.int .i64 0) := by rw [hk0.cell]; rfl
        have v0 : wr.cell? ⟨w.heap.size + 1, 0, none⟩ = some (.string B) := by rw [hk1.cell]; rfl
        have v1 : wr.cell? ⟨w.heap.size + 1, 1, none⟩ = some (.slice Av l.length cv) := by rw [hk1.cell]; rfl
        have v2 : wr.cell? ⟨w.heap.size + 1, 2, none⟩ = some (.int .i64 0) := by rw [hk1.cell]; rfl
        have g0 := Blk.frz hk0 0
        have g1 := Blk.frz hk0 1
        have g2 := Blk.frz hk0 2
        obtain ⟨Wf, hWf, q0, q1, q2, hbf, htf⟩ := ret3 (.string B) (.slice Av l.length cv) (.int .i64 0) HK0.out HB.out (Nat.le_refl _)
        have HBF := Lib.hid hbf
        clear hk0 hk1 hown hb hh hT hn hx hbf htf
        by_cases hc : ¬ (4 ≤ n ∧ n ≤ 6)
        · have hT := HTT.out
          rw [if_neg hc] at hT
          have hT : T = none := hT.symm
          have hz := HZ5.out
          rw [hT] at hz
          have hz : Line.bad = Z := hz
          subst hz
          by_cases hc4 : n < 4
          · have b5 : decide ((n : Int) < 4) = true := decide_eq_true (by omega)
            clear hc hc4 hT
            go_wp2_with fail
            refine HH.out.mono ?_
            rintro _ _ ⟨rfl, rfl⟩
            go_wp2_with fail
            refine bodyPost_ret (by simp [results, Tryz.results33, go_sem, q0, q1, q2]; try rfl) rfl ?_
            exact ⟨_, _, _, _, _, rfl, HBF.out, rfl⟩
          · have b5 : decide ((n : Int) < 4) = false := decide_eq_false (by omega)
            have b6 : decide ((6 : Int) < (n : Int)) = true := decide_eq_true (by omega)
            clear hc hc4 hT
            go_wp2_with fail
            refine HH.out.mono ?_
            rintro _ _ ⟨rfl, rfl⟩
            go_wp2_with fail
            refine bodyPost_ret (by simp [results, Tryz.results33, go_sem, q0, q1, q2]; try rfl) rfl ?_
            exact ⟨_, _, _, _, _, rfl, HBF.out, rfl⟩
        have hc := Decidable.not_not.1 hc
        have b5 : decide ((n : Int) < 4) = false := decide_eq_false (by omega)
        have b6 : decide ((6 : Int) < (n : Int)) = false := decide_eq_false (by omega)
        have hT := HTT.out
        rw [if_pos hc] at hT
        have HT2 := Lib.hid hT
        have hxw : IntKind.i32.wrap (x : Int) = (x : Int) := IntWalk.i32_in _ (by omega)
        have jw : IntKind.i64.wrap ((j : Int) + (n : Int)) = (j : Int) + (n : Int) := IntWalk.i64_in _ (by omega)
        clear hT hc hWf q0 q1 q2 HBF
        go_wp2_with fail
        refine HH.out.mono ?_
        rintro _ _ ⟨rfl, rfl⟩
        have HLN : Hid ((l ++ [(x : Int)]).length = l.length + 1) := Lib.hid (by simp)
        go_upto_region 22 with (at_builtin; go_loud (refine wpList_rune wr rfl _ _ rfl w.heap.size (.slice Av l.length cv) l rfl HOW.out HB.out.size (x : Int) _ rfl (by omega) ?_); intro v2 w2 ho2 hb2 hkp; rw [HLN.out] at ho2; obtain ⟨A2, c2, rfl⟩ := own_shapeN ho2; obtain ⟨V2, hV2, cc, ff, n0, n1, no, nb⟩ := keepU ho2 (hkp _ _ _ (by decide) HK0.out) (hkp _ _ _ (by decide) HK1.out) (HB.out.trans hb2); clear ho2 hb2 hkp)
        have N0 := Lib.hid n0
        have N1 := Lib.hid n1
        have NO := Lib.hid no
        have NB := Lib.hid nb
        clear v0 v1 v2 y0 y1 y2 g0 g1 g2
        have y0 : V2.cell? ⟨w.heap.size, 0, none⟩ = some (.string ⟨#[]⟩) := by rw [n0.cell]; rfl
        have y1 : V2.cell? ⟨w.heap.size, 1, none⟩ = some (.slice none 0 0) := by rw [n0.cell]; rfl
        have y2 : V2.cell? ⟨w.heap.size, 2, none⟩ = some (.int .i64 0) := by rw [n0.cell]; rfl
        have v0 : V2.cell? ⟨w.heap.size + 1, 0, none⟩ = some (.string B) := by rw [n1.cell]; rfl
        have v1 : V2.cell? ⟨w.heap.size + 1, 1, none⟩ = some (.slice A2 (l.length + 1) c2) := by rw [n1.cell]; rfl
        have v2 : V2.cell? ⟨w.heap.size + 1, 2, none⟩ = some (.int .i64 0) := by rw [n1.cell]; rfl
        have g0 := Blk.frz n0 0
        have g1 := Blk.frz n0 1
        have g2 := Blk.frz n0 2
        clear n0 n1 no nb
        obtain ⟨Wf, hWf, q0, q1, q2, hbf, htf⟩ := ret3 (.string B) (.slice A2 (l.length + 1) c2) (.int .i64 0) N0.out NB.out (Nat.le_refl _)
        have HBF := Lib.hid hbf
        have HTF := Lib.hid htf
        clear hbf htf
        have hjn : ((j + n : Nat) : Int) = (j : Int) + (n : Int) := by omega
        by_cases he : j + n = s.size
        · have b7 : ((j : Int) + (n : Int) == (s.size : Int)) = true := by rw [beq_iff_eq]; omega
          have hT := HT2.out
          rw [he, List.drop_eq_nil_of_le (by rw [bl]; exact Nat.le_refl _)] at hT
          have hT : some (l ++ [(x : Int)]) = T := hT
          have hz := HZ5.out
          rw [← hT] at hz
          have hz : Line.row P (l ++ [(x : Int)]) = Z := hz
          subst hz
          clear he hjn hT
          go_wp2_with fail
          refine bodyPost_ret (by simp [results, Tryz.results33, go_sem, q0, q1, q2]; try rfl) rfl ?_
          exact ⟨_, _, _, _, _, rfl, HBF.out, rfl, ba_ext (by rw [HP2.out]), HTF.out _ _ (text_of_own (by rw [HLN.out]; exact NO.out))⟩
        · have b7 : ((j : Int) + (n : Int) == (s.size : Int)) = false := by rw [beq_eq_false_iff_ne]; omega
          have hlt : j + n < s.size := by omega
          have hdr : s.data.toList.drop (j + n) = s[j + n] :: s.data.toList.drop (j + n + 1) := by rw [List.drop_eq_getElem_cons (by rw [bl]; exact hlt), b_at s (j + n) hlt]
          have hT := HT2.out
          rw [hdr] at hT
          have hT : (if s[j + n] = 43 then (match runesF (s.data.toList.drop (j + n + 1)) with | none => none | some t => some ((x : Int) :: t)) else none : Option (List Int)).elim none (fun t => some (l ++ t)) = T := by
            rw [← hT]
            simp only
            cases (if s[j + n] = 43 then (match runesF (s.data.toList.drop (j + n + 1)) with | none => none | some t => some ((x : Int) :: t)) else none : Option (List Int)) <;> rfl
          have i3 : (0 : Int) ≤ (j : Int) + (n : Int) := by omega
          have i4 : (j : Int) + (n : Int) < (s.size : Int) := by omega
          by_cases h43 : s[j + n] = 43
          · have b8 : ((s[j + n].toNat : Int) == 43) = true := by rw [h43]; rfl
            rw [if_pos h43] at hT
            have HT3 := Lib.hid hT
            have jw1 : IntKind.i64.wrap ((j : Int) + (n : Int) + 1) = (j : Int) + (n : Int) + 1 := IntWalk.i64_in _ (by omega)
            clear h43 hT hdr hjn hWf q0 q1 q2 HBF HTF
            go_wp2_with fail
            go_roundw
            case rel =>
              refine ⟨j + n + 1, l ++ [(x : Int)], _, by go_num, by omega, by rw [List.length_append]; show l.length + 1 ≤ _; omega, N0.out, N1.out, by rw [HLN.out]; exact NO.out, NB.out, ?_⟩
              rw [← HT3.out]
              cases runesF (s.data.toList.drop (j + n + 1)) with
              | none => rfl
              | some t => simp
            case measure => simp [RowKit.intOf]; omega
          · have b8 : ((s[j + n].toNat : Int) == 43) = false := by
              rw [beq_eq_false_iff_ne]
              intro h
              exact h43 (UInt8.toNat_inj.1 (by have : (43 : UInt8).toNat = 43 := rfl; omega))
            rw [if_neg h43] at hT
            have hT : none = T := hT
            have hz := HZ5.out
            rw [← hT] at hz
            have hz : Line.bad = Z := hz
            subst hz
            clear h43 hdr hjn hT
            go_wp2_with fail
            refine bodyPost_ret (by simp [results, Tryz.results33, go_sem, q0, q1, q2]; try rfl) rfl ?_
            exact ⟨_, _, _, _, _, rfl, HBF.out, rfl⟩
  · have b0 : ((s.extract 0 2).toList == [48, 120]) = false := by rw [ht2]; exact decide_eq_false h0x
    have hz := HZ.out
    rw [refU_eq, if_neg h0x] at hz
    subst hz
    clear ht2 h0x
    go_enter Tryz.func33, Tryz.ntmps33
    go_wp2_with fail
    rw [HW.out]
    refine bodyPost_ret (by simp [results, Tryz.results33, go_sem, e0, e1, e2]; try rfl) rfl ?_
    exact ⟨_, _, _, _, _, rfl, HB.out, rfl⟩
end Go.Proofs.YtopaoejapnakiaaGreatDoor.Mf
