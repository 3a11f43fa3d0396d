/- Walk: (*reader).unicode. -/
import Derived.Test.YtkfjmcidcnpijaaGreatDoorR6
import Derived.Deep.CutRange
import Derived.Deep.DeepCutAuto
import Derived.Deep.CutBlock
namespace Go.Proofs.YtkfjmcidcnpijaaGreatDoor.Mf
open Go.RowKit

/-- What is left to read, and whether all was right. -/
def RS.mz (x : RS) : Nat := x.s.length + (if x.ok = true then 1 else 0)
def meas (b : Nat) (w : World) : Nat := (match w.cell? ⟨b, 0, none⟩ with | some (.string s) => s.size | _ => 0) + (match w.cell? ⟨b, 1, none⟩ with | some (.bool true) => 1 | _ => 0)
theorem meas_eq {B b : Nat} {w : World} {x : RS} (h : RdAt B w b x) : meas b w = x.mz := by
  unfold meas RS.mz
  rw [h.c0, h.c1]
  simp only
  congr 1
  cases x.ok <;> rfl
theorem byte_less (x : RS) (h : x.ok = true) : x.byte.s.length ≤ x.s.length ∧ (x.byte.ok = true → x.byte.s.length + 2 = x.s.length) ∧ x.byte.c.length = x.c.length + 1 ∧ x.byte.t = x.t := by
  have hd := digs_le 2 x.s
  unfold RS.byte
  simp only [List.length_drop, List.length_append, h, Bool.true_and, decide_eq_true_eq]
  refine ⟨by omega, fun h => by omega, by simp, trivial⟩
theorem rune_less (x : RS) : x.rune.s.length ≤ x.s.length ∧ x.rune.t.length = x.t.length + 1 ∧ x.rune.c = x.c := by
  unfold RS.rune
  simp only [List.length_drop, List.length_append]
  exact ⟨by omega, by simp, trivial⟩
theorem word_less (x : RS) (p : List UInt8) : (x.word p).s.length ≤ x.s.length ∧ (p.isPrefixOf x.s = true → (x.word p).s.length + p.length = x.s.length) ∧ (x.word p).ok = x.ok ∧ (x.word p).c = x.c ∧ (x.word p).t = x.t := by
  unfold RS.word
  refine ⟨?_, fun h => ?_, rfl, rfl, rfl⟩
  · show (if p.isPrefixOf x.s = true then x.s.drop p.length else x.s).length ≤ _
    split
    · rw [List.length_drop]; omega
    · exact Nat.le_refl _
  · show (if p.isPrefixOf x.s = true then x.s.drop p.length else x.s).length + _ = _
    rw [if_pos h, List.length_drop]
    have := (List.isPrefixOf_iff_prefix.1 h).length_le
    omega
theorem needs_less (x : RS) (p : List UInt8) : (x.needs p).s.length ≤ x.s.length ∧ (x.needs p).c = x.c ∧ (x.needs p).t = x.t := ⟨(word_less x p).1, rfl, rfl⟩
theorem word_no (x : RS) (p : List UInt8) (h : ¬ p.isPrefixOf x.s = true) : x.word p = x := by
  unfold RS.word
  rw [if_neg h]
theorem byte_le (x : RS) : x.byte.s.length ≤ x.s.length ∧ x.byte.c.length = x.c.length + 1 ∧ x.byte.t = x.t := by
  unfold RS.byte
  simp only [List.length_drop, List.length_append]
  exact ⟨by omega, by simp, trivial⟩
theorem mz_le (x : RS) : x.mz ≤ x.s.length + 1 := by unfold RS.mz; split <;> omega
theorem bytesS_stop (n : Nat) (x : RS) (h : x.more = false) : bytesS n x = x := by
  cases n with
  | zero => rfl
  | succ n => unfold bytesS; simp [h]
theorem bytesS_step (n : Nat) (x : RS) (h : x.more = true) : bytesS (n + 1) x = bytesS n x.byte := by
  show (if x.more = true then _ else _) = _
  rw [if_pos h]
theorem gap_less (x : RS) : x.gap.s.length ≤ x.s.length ∧ x.gap.c = x.c ∧ x.gap.t = x.t := ⟨drop_while sp x.s, rfl, rfl⟩
theorem runesS_off2 (n : Nat) (x : RS) (h : ¬ (x.ok = true ∧ [43].isPrefixOf x.s = true)) : runesS n x = x := by
  cases n with
  | zero => rfl
  | succ n =>
    show (if _ ∧ _ then _ else _) = _
    rw [if_neg h]
theorem runesS_step (n : Nat) (x : RS) (h : x.ok = true ∧ [43].isPrefixOf x.s = true) : runesS (n + 1) x = runesS n (x.word [43]).rune := by
  show (if _ ∧ _ then _ else _) = _
  rw [if_pos h]
set_option maxRecDepth 100000 in
set_option maxHeartbeats 3200000 in
theorem unicode_any (B b : Nat) (x : RS) (hx : x.s.length ≤ 100000) (hxc : x.c = []) (hxt : x.t = []) (w : World) (h : RdAt B w b x) (hB : B ≤ w.heap.size) :
    Calls Tryz.prog 39 #[.pointer (some ⟨b, 0, none⟩)] w fun e w' => e = .returned (.bool (unicodeS x).2) ∧ RdAt B w' b (unicodeS x).1 ∧ Below B w w' := by
  obtain ⟨n1, n2, n3⟩ := needs_less x [48, 120]
  obtain ⟨m1, m2, m3⟩ := byte_le (x.needs [48, 120])
  unfold unicodeS
  have HN := Lib.hid (needs_any B b x ⟨#[48, 120]⟩ w h hB)
  change Hid (Calls _ _ _ _ fun e w' => _ ∧ RdAt B w' b (x.needs [48, 120]) ∧ _) at HN
  have hy2 := mz_le (x.needs [48, 120]).byte
  have HBY := Lib.hid (fun (w1 : World) (h1 : RdAt B w1 b (x.needs [48, 120])) (hB1 : B ≤ w1.heap.size) => byte_any B b (x.needs [48, 120]) (by omega) (by rw [n2, hxc]; simp) w1 h1 hB1)
  rw [n2, hxc] at m2
  rw [n3, hxt] at m3
  have m2 : (x.needs [48, 120]).byte.c.length = 1 := m2
  have m1 : (x.needs [48, 120]).byte.s.length ≤ x.s.length := Nat.le_trans m1 n1
  clear n1 n2 n3
  generalize x.needs [48, 120] = xn at *
  generalize xn.byte = y at *
  obtain ⟨L, hL⟩ : ∃ L, x.s.length = L := ⟨_, rfl⟩
  rw [hL] at hx m1 ⊢
  obtain ⟨T, hT⟩ : ∃ T, bytesS (L + 1) y = T := ⟨_, rfl⟩
  rw [hT]
  have HT := Lib.hid hT
  have HB := Lib.hid hB
  obtain ⟨R1, hR1⟩ : ∃ R1, (if T.s = [] then (T, false) else (runesS (L + 1) (T.gap.needs [48, 120]).rune, true)).1 = R1 := ⟨_, rfl⟩
  obtain ⟨R2, hR2⟩ : ∃ R2, (if T.s = [] then (T, false) else (runesS (L + 1) (T.gap.needs [48, 120]).rune, true)).2 = R2 := ⟨_, rfl⟩
  rw [hR1, hR2]
  have HR1 := Lib.hid hR1
  have HR2 := Lib.hid hR2
  clear hT h hxc hxt hL hB hR1 hR2
  go_enter Tryz.func39, Tryz.ntmps39
  go_wp2_with fail
  refine HN.out.mono ?_
  rintro _ w1 ⟨rfl, h1, hb1⟩
  have HB1 := Lib.hid (Nat.le_trans HB.out hb1.size)
  have HH1 := Lib.hid h1
  have HBW1 := Lib.hid hb1
  clear h1 hb1
  go_wp2_with fail
  refine (HBY.out w1 HH1.out HB1.out).mono ?_
  rintro _ w2 ⟨rfl, h2, hb2⟩
  have HB2 := Lib.hid (HBW1.out.trans hb2)
  have HH2 := Lib.hid h2
  clear h2 hb2
  go_upto_block 0 with fail
  go_cut [2] (fun v wx => v = .bool false ∧ RdAt B wx b T ∧ Below B w wx ∧ T.s.length ≤ L ∧ T.t = [])
  case first =>
    go_wp2_with fail
    go_loopw [9] (fun _ wr => ∃ (n : Nat) (y : RS), RdAt B wr b y ∧ Below B w wr ∧ bytesS n y = T ∧ (y.ok = true → y.s.length < n) ∧ y.s.length ≤ L ∧ y.c.length + y.mz ≤ L + 2 ∧ y.t = []) (fun _ wr => meas b wr)
    case atStart => exact ⟨L + 1, y, HH2.out, HB2.out, HT.out, fun _ => by omega, m1, by omega, m3⟩
    case round =>
      obtain ⟨n, z, hz, hbz, hTz, hn, hzL, hzc, hzt⟩ := hrel
      have hme := meas_eq hz
      have c0 := hz.c0
      have c1 := hz.c1
      have HZ := Lib.hid hz
      have HBZ := Lib.hid hbz
      have HTZ := Lib.hid hTz
      have HNN := Lib.hid hn
      have HME := Lib.hid hme
      have HZC := Lib.hid hzc
      have HZT := Lib.hid hzt
      have HMO : Hid (z.more = (z.ok && !ends z.s)) := Lib.hid rfl
      obtain ⟨sb, hsb⟩ : ∃ sb : ByteArray, (⟨z.s.toArray⟩ : ByteArray) = sb := ⟨_, rfl⟩
      have hsl : sb.data.toList = z.s := by rw [← hsb]
      rw [hsb] at c0
      have HSL := Lib.hid hsl
      clear hz hbz hTz hn hme hsb hsl hzc hzt
      cases hok : z.ok with
      | false =>
        rw [hok] at c1
        have hTe : T = z := HTZ.out.symm.trans (bytesS_stop n z (by rw [HMO.out, hok]; rfl))
        subst hTe
        clear hok
        go_wp2_with fail
        go_meet
        exact ⟨rfl, HZ.out, HBZ.out, hzL, HZT.out⟩
      | true =>
        rw [hok] at c1
        cases hs : z.s with
        | nil =>
          have hte : sb.toList.isEmpty = true := by rw [ByteArray.toList_eq, HSL.out, hs]; rfl
          have hTe : T = z := HTZ.out.symm.trans (bytesS_stop n z (by rw [HMO.out, hok, hs]; rfl))
          subst hTe
          clear hok hs
          go_wp2_with fail
          go_meet
          exact ⟨rfl, HZ.out, HBZ.out, hzL, HZT.out⟩
        | cons c t =>
          have hte : sb.toList.isEmpty = false := by rw [ByteArray.toList_eq, HSL.out, hs]; rfl
          have hsz : sb.size = t.length + 1 := by rw [← bl, HSL.out, hs]; rfl
          have j1 : (1 : Int) ≤ (sb.size : Int) := by omega
          have hex : sb.extract 0 1 = ⟨#[c]⟩ := ba_ext (by rw [ext_take, HSL.out, hs]; rfl)
          have HCA := Lib.hid (containsAny_any c wr)
          rw [← hex] at HCA
          have HE : Hid (ends z.s = sp c) := Lib.hid (by rw [hs]; rfl)
          have HS2 : Hid (z.s.length = t.length + 1) := Lib.hid (by rw [hs]; rfl)
          have HOK := Lib.hid hok
          clear hex hs hok
          cases hsp : sp c with
          | true =>
            rw [hsp] at HCA
            have hTe : T = z := HTZ.out.symm.trans (bytesS_stop n z (by rw [HMO.out, HE.out, hsp]; simp))
            subst hTe
            clear hsp
            go_wp2_with fail
            refine HCA.out.mono ?_
            rintro _ w3 ⟨rfl, hb3⟩
            have HZ3 := Lib.hid (HZ.out.keep hb3)
            have HB3 := Lib.hid (HBZ.out.trans (hb3.mono (Nat.le_trans HB.out HBZ.out.size)))
            clear hb3
            go_wp2_with fail
            go_meet
            exact ⟨rfl, HZ3.out, HB3.out, hzL, HZT.out⟩
          | false =>
            rw [hsp] at HCA
            have hmo : z.more = true := by rw [HMO.out, HE.out, hsp, HOK.out]; rfl
            have HMO2 := Lib.hid hmo
            clear hsp hmo
            go_wp2_with fail
            refine HCA.out.mono ?_
            rintro _ w3 ⟨rfl, hb3⟩
            have HZ3 := Lib.hid (HZ.out.keep hb3)
            have HB3 := Lib.hid (HBZ.out.trans (hb3.mono (Nat.le_trans HB.out HBZ.out.size)))
            clear hb3
            go_wp2_with fail
            refine (byte_any B b z (by omega) (by have := HZC.out; omega) w3 HZ3.out (Nat.le_trans HB.out HB3.out.size)).mono ?_
            rintro _ w4 ⟨rfl, h4, hb4⟩
            have hme4 := meas_eq h4
            have HH4 := Lib.hid h4
            have HB4 := Lib.hid (HB3.out.trans hb4)
            have HME4 := Lib.hid hme4
            clear h4 hb4 hme4
            go_wp2_with fail
            obtain ⟨q1, q2, q3, q4⟩ := byte_less z HOK.out
            have hn := HNN.out HOK.out
            have hzm : z.mz = z.s.length + 1 := by unfold RS.mz; rw [if_pos HOK.out]
            have hbm : z.byte.mz + 1 ≤ z.mz := by
              rw [hzm]
              unfold RS.mz
              by_cases ho : z.byte.ok = true
              · have := q2 ho
                rw [if_pos ho]; omega
              · rw [if_neg ho]; omega
            have hzc := HZC.out
            go_roundw
            case rel =>
              refine ⟨n - 1, z.byte, HH4.out, HB4.out, ?_, fun ho => by have := q2 ho; omega, by omega, by omega, by rw [q4]; exact HZT.out⟩
              rw [← HTZ.out]
              obtain ⟨m, hm⟩ : ∃ m, n = m + 1 := ⟨n - 1, by omega⟩
              rw [hm, bytesS_step m z HMO2.out]
              rfl
            case measure => rw [HME4.out, HME.out]; omega
  case rest =>
    obtain ⟨rfl, hT, hbT, hTL, hTt⟩ := hcut
    have c0 := hT.c0
    obtain ⟨sb, hsb⟩ : ∃ sb : ByteArray, (⟨T.s.toArray⟩ : ByteArray) = sb := ⟨_, rfl⟩
    have hsl : sb.data.toList = T.s := by rw [← hsb]
    rw [hsb] at c0
    have HTT := Lib.hid hT
    have HBT := Lib.hid hbT
    have hBT := Nat.le_trans HB.out hbT.size
    have HG := Lib.hid (gap_any B b T (by omega) wc hT hBT)
    obtain ⟨g1, g2, g3⟩ := gap_less T
    clear HN HBY HH1 HH2 HB1 HB2 HBW1 HT m1 m2 m3 hy2 hT hbT hsb
    cases hs : T.s with
    | nil =>
      have hte : sb.toList.isEmpty = true := by rw [ByteArray.toList_eq, hsl, hs]; rfl
      have h1 := HR1.out
      have h2 := HR2.out
      rw [if_pos hs] at h1 h2
      obtain rfl : T = R1 := h1
      obtain rfl : false = R2 := h2
      clear hs hsl
      go_wp2_with fail
      go_returns
      exact ⟨rfl, HTT.out, HBT.out⟩
    | cons c t =>
      have hte : sb.toList.isEmpty = false := by rw [ByteArray.toList_eq, hsl, hs]; rfl
      have h1 := HR1.out
      have h2 := HR2.out
      rw [if_neg (by rw [hs]; simp)] at h1 h2
      have h1 : runesS (L + 1) (T.gap.needs [48, 120]).rune = R1 := h1
      obtain rfl : true = R2 := h2
      have HR := Lib.hid h1
      clear hs hsl h1 HR1 HR2
      rw [hTt] at g3
      generalize T.gap = G at *
      obtain ⟨n1, n2, n3⟩ := needs_less G [48, 120]
      have hnn : ∀ w, RdAt B w b G → B ≤ w.heap.size → Calls Tryz.prog 54 #[.pointer (some ⟨b, 0, none⟩), .string ⟨#[48, 120]⟩] w fun e w' => e = .returned (.tuple #[]) ∧ RdAt B w' b (G.needs [48, 120]) ∧ Below B w w' := fun w h hB => needs_any B b G ⟨#[48, 120]⟩ w h hB
      have HNN := Lib.hid hnn
      clear hnn
      generalize G.needs [48, 120] = N at *
      rw [g3] at n3
      obtain ⟨r1, r2, r3⟩ := rune_less N
      have HRU : Hid (∀ w, RdAt B w b N → B ≤ w.heap.size → _) := Lib.hid fun w h hB => rune_any B b N (by omega) (by rw [n3]; simp) w h hB
      generalize N.rune = y at *
      rw [n3] at r2
      have r2 : y.t.length = 1 := r2
      have hym := mz_le y
      have HYL : Hid (y.s.length ≤ L) := Lib.hid (by omega)
      have HYT : Hid (y.t.length + y.mz ≤ L + 2) := Lib.hid (by omega)
      clear g1 g2 g3 n1 n2 n3 r1 r2 r3 hym hTL hTt
      go_wp2_with fail
      refine HG.out.mono ?_
      rintro _ w1 ⟨rfl, h1, hb1⟩
      have HH1 := Lib.hid h1
      have HB1 := Lib.hid (HBT.out.trans hb1)
      clear h1 hb1
      go_wp2_with fail
      refine (HNN.out w1 HH1.out (Nat.le_trans HB.out HB1.out.size)).mono ?_
      rintro _ w2 ⟨rfl, h2, hb2⟩
      have HH2 := Lib.hid h2
      have HB2 := Lib.hid (HB1.out.trans hb2)
      clear h2 hb2
      go_wp2_with fail
      refine (HRU.out w2 HH2.out (Nat.le_trans HB.out HB2.out.size)).mono ?_
      rintro _ w3 ⟨rfl, h3, hb3⟩
      have HH3 := Lib.hid h3
      have HB3 := Lib.hid (HB2.out.trans hb3)
      clear h3 hb3
      go_wp2_with fail
      go_loopw [50] (fun _ wr => ∃ (n : Nat) (y : RS), RdAt B wr b y ∧ Below B w wr ∧ runesS n y = R1 ∧ (y.ok = true → y.s.length < n) ∧ y.s.length ≤ L ∧ y.t.length + y.mz ≤ L + 2) (fun _ wr => meas b wr)
      case atStart => exact ⟨L + 1, y, HH3.out, HB3.out, HR.out, fun _ => by have := HYL.out; omega, HYL.out, HYT.out⟩
      case round =>
        obtain ⟨n, z, hz, hbz, hTz, hn, hzL, hzc⟩ := hrel
        have hme := meas_eq hz
        have c1 := hz.c1
        have HZ := Lib.hid hz
        have HBZ := Lib.hid hbz
        have HTZ := Lib.hid hTz
        have HNZ := Lib.hid hn
        have HME := Lib.hid hme
        have HZC := Lib.hid hzc
        clear c0 hte hz hbz hTz hn hme hzc
        cases hok : z.ok with
        | false =>
          rw [hok] at c1
          have hTe : R1 = z := HTZ.out.symm.trans (runesS_off2 n z (by rw [hok]; simp))
          subst hTe
          clear hok
          go_wp2_with fail
          go_returns
          exact ⟨rfl, HZ.out, HBZ.out⟩
        | true =>
          rw [hok] at c1
          have HOK := Lib.hid hok
          have HWD := Lib.hid (word_any B b z ⟨#[43]⟩ wr HZ.out (Nat.le_trans HB.out HBZ.out.size))
          change Hid (Calls _ _ _ _ fun e w' => e = .returned (.bool (preP [43] z.s)) ∧ RdAt B w' b (z.word [43]) ∧ _) at HWD
          have HPR : Hid (preP [43] z.s = [43].isPrefixOf z.s) := Lib.hid rfl
          obtain ⟨q1, q2, q3, q4, q5⟩ := word_less z [43]
          have HQ1 := Lib.hid q1
          have HQ2 := Lib.hid q2
          have HQ5 := Lib.hid q5
          have HWN := Lib.hid (word_no z [43])
          clear hok q1 q2 q3 q4 q5
          cases hp : preP [43] z.s with
          | false =>
            rw [hp] at HWD HPR
            have hTe : R1 = z := HTZ.out.symm.trans (runesS_off2 n z (by rw [← HPR.out]; simp))
            have hwz := HWN.out (by rw [← HPR.out]; simp)
            rw [hwz] at HWD
            subst hTe
            clear hp hwz
            go_wp2_with fail
            refine HWD.out.mono ?_
            rintro _ w4 ⟨rfl, h4, hb4⟩
            have HH4 := Lib.hid h4
            have HB4 := Lib.hid (HBZ.out.trans hb4)
            clear h4 hb4
            go_wp2_with fail
            go_returns
            exact ⟨rfl, HH4.out, HB4.out⟩
          | true =>
            rw [hp] at HWD HPR
            clear hp
            go_wp2_with fail
            refine HWD.out.mono ?_
            rintro _ w4 ⟨rfl, h4, hb4⟩
            have HH4 := Lib.hid h4
            have HB4 := Lib.hid (HBZ.out.trans hb4)
            clear h4 hb4
            go_wp2_with fail
            refine (rune_any B b (z.word [43]) (by have := HQ1.out; omega) (by rw [HQ5.out]; have := HZC.out; omega) w4 HH4.out (Nat.le_trans HB.out HB4.out.size)).mono ?_
            rintro _ w5 ⟨rfl, h5, hb5⟩
            have hme5 := meas_eq h5
            have HH5 := Lib.hid h5
            have HB5 := Lib.hid (HB4.out.trans hb5)
            have HME5 := Lib.hid hme5
            clear h5 hb5 hme5
            go_wp2_with fail
            have q2 := HQ2.out HPR.out.symm
            have q2 : (z.word [43]).s.length + 1 = z.s.length := q2
            obtain ⟨u1, u2, u3⟩ := rune_less (z.word [43])
            rw [HQ5.out] at u2
            have hn := HNZ.out HOK.out
            have hzm : z.mz = z.s.length + 1 := by unfold RS.mz; rw [if_pos HOK.out]
            have hrm := mz_le (z.word [43]).rune
            have hzc := HZC.out
            go_roundw
            case rel =>
              refine ⟨n - 1, (z.word [43]).rune, HH5.out, HB5.out, ?_, fun ho => by omega, by omega, by omega⟩
              rw [← HTZ.out]
              obtain ⟨m, hm⟩ : ∃ m, n = m + 1 := ⟨n - 1, by omega⟩
              rw [hm, runesS_step m z ⟨HOK.out, HPR.out.symm⟩]
              rfl
            case measure => rw [HME5.out, HME.out]; omega
end Go.Proofs.YtkfjmcidcnpijaaGreatDoor.Mf
