/- Walk: (*reader).ucm. -/
import Derived.Test.YtopaoejapnakiaaGreatDoorR7
import Derived.Lib.AtoiErrMem
import Derived.Shelf.Strconv.Atoi
namespace Go.Proofs.YtopaoejapnakiaaGreatDoor.Mf
open Go.RowKit

/-- The library's error for what is no numeral. -/
def ErrV (w : World) : Prop := ∃ te pe, w.cell? ⟨2, 0, none⟩ = some (.iface te pe)
theorem ErrV.keep {w w' : World} {B : Nat} (h : ErrV w) (hb : Below B w w') (hB : 2 < B) : ErrV w' := by
  obtain ⟨te, pe, hc⟩ := h
  exact ⟨te, pe, (hb.cell (p := ⟨2, 0, none⟩) hB).trans hc⟩
def atoiOk (c : UInt8) : Bool := !isHex c || (match Lib.atoi [c] with | some v => flagK [c] && (v == flagN [c]) | none => !flagK [c] && (flagN [c] == 0))
set_option maxRecDepth 100000 in
theorem atoi_fin : ∀ n : Fin 256, atoiOk (UInt8.ofNat n.val) = true := by decide
theorem atoi_digs (s : List UInt8) : (Lib.atoi (digs 1 s) = some (flagN (digs 1 s)) ∧ flagK (digs 1 s) = true) ∨ (Lib.atoi (digs 1 s) = none ∧ flagK (digs 1 s) = false ∧ flagN (digs 1 s) = 0) := by
  cases s with
  | nil => right; exact ⟨rfl, rfl, rfl⟩
  | cons c t =>
    have h0 : digs 0 t = [] := by cases t <;> rfl
    have hd : digs 1 (c :: t) = if isHex c = true then [c] else [] := by
      unfold digs
      rw [h0]
    by_cases hc : isHex c = true
    · rw [hd, if_pos hc]
      have h1 := atoi_fin ⟨c.toNat, c.toNat_lt⟩
      have e : UInt8.ofNat c.toNat = c := by simp
      simp only [e] at h1
      unfold atoiOk at h1
      rw [hc] at h1
      cases ha : Lib.atoi [c] with
      | none => rw [ha] at h1; right; simp at h1; exact ⟨rfl, h1.1, h1.2⟩
      | some v => rw [ha] at h1; left; simp at h1; exact ⟨by rw [h1.2], h1.1⟩
    · rw [hd, if_neg hc]; right; exact ⟨rfl, rfl, rfl⟩
theorem atoi_any (s : List UInt8) (w : World) (hE : ErrV w) : Calls Tryz.prog 57 #[.string ⟨(digs 1 s).toArray⟩] w fun e w' =>
    ∃ ev, e = .returned (.tuple #[.int .i64 (flagN (digs 1 s)), ev]) ∧ (flagK (digs 1 s) = true → ev = .nilIface) ∧ (flagK (digs 1 s) = false → ∃ t p, ev = .iface t p) ∧ Below w.heap.size w w' := by
  have hl := digs_len 1 s
  have hsz : (⟨(digs 1 s).toArray⟩ : ByteArray).size ≤ 18 := by show (digs 1 s).toArray.size ≤ 18; simp; omega
  rcases atoi_digs s with ⟨h1, h2⟩ | ⟨h1, h2, h3⟩
  · refine (Any.strconv_Atoi lays172 ⟨(digs 1 s).toArray⟩ _ hsz h1 w).mono ?_
    rintro _ w' ⟨rfl, t, rfl⟩
    exact ⟨_, rfl, fun _ => rfl, (fun h => by rw [h2] at h; cases h), Lib.bytesWorld_below _ _ _⟩
  · obtain ⟨te, pe, hc⟩ := hE
    refine (Any.strconv_Atoi_err laysC172 ⟨(digs 1 s).toArray⟩ hsz h1 _ w hc (.inr ⟨te, pe, rfl⟩)).mono ?_
    rintro _ w' ⟨N, rfl, _, _, hb⟩
    exact ⟨_, by rw [h3], fun h => (by rw [h2] at h; cases h), fun _ => ⟨_, _, rfl⟩, hb⟩
theorem hasPrefix_any (s p : ByteArray) (w : World) : Calls Tryz.prog 55 #[.string s, .string p] w fun e w' => e = .returned (.bool (preP p.data.toList s.data.toList)) ∧ w = w' :=
  (Any.strings_HasPrefix lays99 s p w).mono fun _ _ hh => ⟨hh.1, hh.2.symm⟩
theorem needs_ok_less (x : RS) (p : List UInt8) (h : (x.needs p).ok = true) : x.ok = true ∧ (x.needs p).s.length + p.length = x.s.length := by
  have h2 : (p.isPrefixOf x.s && x.ok) = true := h
  rw [Bool.and_eq_true] at h2
  exact ⟨h2.2, (word_less x p).2.1 h2.1⟩
theorem rune_ok_less (x : RS) (h : x.rune.ok = true) : x.ok = true := by
  unfold RS.rune at h
  simp only [Bool.and_eq_true] at h
  exact h.1
theorem byte_ok_less (x : RS) (h : x.byte.ok = true) : x.ok = true := by
  unfold RS.byte at h
  simp only [Bool.and_eq_true] at h
  exact h.1
theorem char_less (x : RS) : (charS x).s.length ≤ x.s.length ∧ (charS x).t.length = x.t.length + 1 ∧ (charS x).c = x.c ∧ ((charS x).ok = true → x.ok = true ∧ (charS x).s.length < x.s.length) := by
  unfold charS
  obtain ⟨a1, a2, a3⟩ := needs_less x [60, 85]
  obtain ⟨b1, b2, b3⟩ := rune_less (x.needs [60, 85])
  obtain ⟨c1, c2, c3⟩ := needs_less (x.needs [60, 85]).rune [62]
  refine ⟨by omega, by rw [c3, b2, a3], by rw [c2, b3, a2], fun h => ?_⟩
  obtain ⟨h1, h2⟩ := needs_ok_less _ _ h
  obtain ⟨h3, h4⟩ := needs_ok_less _ _ (rune_ok_less _ h1)
  have h2 : _ + 1 = _ := h2
  exact ⟨h3, by omega⟩
theorem code_less (x : RS) : (codeS x).s.length ≤ x.s.length ∧ (codeS x).c.length = x.c.length + 1 ∧ (codeS x).t = x.t ∧ ((codeS x).ok = true → x.ok = true ∧ (codeS x).s.length < x.s.length) := by
  unfold codeS
  obtain ⟨a1, a2, a3⟩ := needs_less x [92, 120]
  obtain ⟨b1, b2, b3⟩ := byte_le (x.needs [92, 120])
  refine ⟨by omega, by rw [b2, a2], by rw [b3, a3], fun h => ?_⟩
  obtain ⟨h3, h4⟩ := needs_ok_less _ _ (byte_ok_less _ h)
  have h4 : _ + 2 = _ := h4
  exact ⟨h3, by omega⟩
theorem charsS_stop (n : Nat) (x : RS) (h : ¬ (x.ok = true ∧ [60].isPrefixOf x.s = true)) : charsS n x = x := by
  cases n with
  | zero => rfl
  | succ n =>
    show (if _ ∧ _ then _ else _) = _
    rw [if_neg h]
theorem charsS_step (n : Nat) (x : RS) (h : x.ok = true ∧ [60].isPrefixOf x.s = true) : charsS (n + 1) x = charsS n (charS x) := by
  show (if _ ∧ _ then _ else _) = _
  rw [if_pos h]
theorem codesS_stop (n : Nat) (x : RS) (h : ¬ (x.ok = true ∧ [92].isPrefixOf x.s = true)) : codesS n x = x := by
  cases n with
  | zero => rfl
  | succ n =>
    show (if _ ∧ _ then _ else _) = _
    rw [if_neg h]
theorem codesS_step (n : Nat) (x : RS) (h : x.ok = true ∧ [92].isPrefixOf x.s = true) : codesS (n + 1) x = codesS n (codeS x) := by
  show (if _ ∧ _ then _ else _) = _
  rw [if_pos h]
set_option maxRecDepth 100000 in
set_option maxHeartbeats 3200000 in
theorem ucm_any (B b : Nat) (x : RS) (hx : x.s.length ≤ 100000) (hxc : x.c = []) (hxt : x.t = []) (w : World) (h : RdAt B w b x) (hB : B ≤ w.heap.size) (hE : ErrV w) (hEB : 2 < B) :
    Calls Tryz.prog 34 #[.pointer (some ⟨b, 0, none⟩)] w fun e w' => e = .returned (.bool true) ∧ RdAt B w' b (ucmS x) ∧ Below B w w' := by
  unfold ucmS
  obtain ⟨L, hL⟩ : ∃ L, x.s.length = L := ⟨_, rfl⟩
  rw [hL] at hx ⊢
  obtain ⟨T, hT⟩ : ∃ T, charsS (L + 1) (charS x) = T := ⟨_, rfl⟩
  rw [hT]
  obtain ⟨U, hU⟩ : ∃ U, codesS (L + 1) (codeS T.gap) = U := ⟨_, rfl⟩
  rw [hU]
  obtain ⟨R, hR⟩ : ∃ R, (U.gap.needs [124]).flag = R := ⟨_, rfl⟩
  rw [hR]
  have HH := Lib.hid h
  have HT := Lib.hid hT
  have HU := Lib.hid hU
  have HR := Lib.hid hR
  have HB := Lib.hid hB
  have HE := Lib.hid hE
  have HXT : Hid (x.t.length + x.s.length ≤ L ∧ x.s.length ≤ L ∧ x.c = []) := Lib.hid ⟨by rw [hxt, hL]; simp, by omega, hxc⟩
  clear h hT hU hR hB hE hxc hxt hL
  go_enter Tryz.func34, Tryz.ntmps34
  go_upto_block 0 with fail
  go_cut [3] (fun v wx => v = .bool false ∧ RdAt B wx b T ∧ Below B w wx ∧ T.s.length ≤ L ∧ T.c = [])
  case first =>
    go_wp2_with fail
    go_loopw [3] (fun v wr => ∃ (n : Nat) (y : RS) (more : Bool), v = .bool more ∧ RdAt B wr b y ∧ Below B w wr ∧ y.s.length ≤ L ∧ y.c = [] ∧ (more = true → charsS n (charS y) = T ∧ y.s.length ≤ n ∧ y.t.length + y.s.length ≤ L) ∧ (more = false → y = T)) (fun v wr => match v with | .bool true => meas b wr + 1 | _ => 0)
    case atStart => exact ⟨L + 1, x, true, rfl, HH.out, Below.refl _ _, HXT.out.2.1, HXT.out.2.2, fun _ => ⟨HT.out, by have := HXT.out.2.1; omega, HXT.out.1⟩, fun h => by cases h⟩
    case round =>
      obtain ⟨n, y, more, rfl, hy, hby, hyL, hyc, hm1, hm2⟩ := hrel
      have HY := Lib.hid hy
      have HBY := Lib.hid hby
      have HYC := Lib.hid hyc
      clear hy hby hyc
      cases more with
      | false =>
        have hyT := hm2 rfl
        subst hyT
        clear hm1 hm2
        go_wp2_with fail
        go_meet
        exact ⟨rfl, HY.out, HBY.out, hyL, HYC.out⟩
      | true =>
        obtain ⟨hcs, hyn, hyt⟩ := hm1 rfl
        have HCS := Lib.hid hcs
        have HYT := Lib.hid hyt
        have HME := Lib.hid (meas_eq HY.out)
        obtain ⟨a1, a2, a3⟩ := needs_less y [60, 85]
        have HA := Lib.hid (needs_any B b y ⟨#[60, 85]⟩ wr HY.out (Nat.le_trans HB.out HBY.out.size))
        change Hid (Calls _ _ _ _ fun e w' => _ ∧ RdAt B w' b (y.needs [60, 85]) ∧ _) at HA
        have HCE : Hid (((y.needs [60, 85]).rune.needs [62]) = charS y) := Lib.hid rfl
        have HCL := Lib.hid (char_less y)
        generalize y.needs [60, 85] = N at *
        clear hm1 hm2 hcs
        go_wp2_with fail
        refine HA.out.mono ?_
        rintro _ w1 ⟨rfl, h1, hb1⟩
        have HH1 := Lib.hid h1
        have HB1 := Lib.hid (HBY.out.trans hb1)
        clear h1 hb1
        go_wp2_with fail
        refine (rune_any B b N (by omega) (by rw [a3]; omega) w1 HH1.out (Nat.le_trans HB.out HB1.out.size)).mono ?_
        rintro _ w2 ⟨rfl, h2, hb2⟩
        have HH2 := Lib.hid h2
        have HB2 := Lib.hid (HB1.out.trans hb2)
        clear h2 hb2
        have HA2 := Lib.hid (needs_any B b N.rune ⟨#[62]⟩ w2 HH2.out (Nat.le_trans HB.out HB2.out.size))
        change Hid (Calls _ _ _ _ fun e w' => _ ∧ RdAt B w' b (N.rune.needs [62]) ∧ _) at HA2
        rw [HCE.out] at HA2
        generalize charS y = z at *
        go_wp2_with fail
        refine HA2.out.mono ?_
        rintro _ w3 ⟨rfl, h3, hb3⟩
        have HH3 := Lib.hid h3
        have HB3 := Lib.hid (HB2.out.trans hb3)
        have c0 := h3.c0
        have c1 := h3.c1
        have HME3 := Lib.hid (meas_eq h3)
        have HHP := Lib.hid (hasPrefix_any ⟨z.s.toArray⟩ ⟨#[60]⟩ w3)
        change Hid (Calls _ _ _ _ fun e w' => e = .returned (.bool (preP [60] z.s)) ∧ _) at HHP
        have HPR : Hid (preP [60] z.s = [60].isPrefixOf z.s) := Lib.hid rfl
        obtain ⟨z1, z2, z3, z4⟩ := HCL.out
        have HZ4 := Lib.hid z4
        clear h3 hb3 z4 a1 a2 a3
        cases hok : z.ok with
        | false =>
          rw [hok] at c1
          have hTe : T = z := HCS.out.symm.trans (charsS_stop n z (by rw [hok]; simp))
          clear hok
          go_wp2_with fail
          go_roundw
          case rel => exact ⟨n, z, false, rfl, HH3.out, HB3.out, by omega, by rw [z3]; exact HYC.out, (fun h => by cases h), fun _ => hTe.symm⟩
          case measure => simp only; omega
        | true =>
          rw [hok] at c1
          have HOK := Lib.hid hok
          clear hok
          cases hp : preP [60] z.s with
          | false =>
            rw [hp] at HHP HPR
            have hTe : T = z := HCS.out.symm.trans (charsS_stop n z (by rw [← HPR.out]; simp))
            clear hp
            go_wp2_with fail
            refine HHP.out.mono ?_
            rintro _ _ ⟨rfl, rfl⟩
            go_wp2_with fail
            go_roundw
            case rel => exact ⟨n, z, false, rfl, HH3.out, HB3.out, by omega, by rw [z3]; exact HYC.out, (fun h => by cases h), fun _ => hTe.symm⟩
            case measure => simp only; omega
          | true =>
            rw [hp] at HHP HPR
            clear hp
            go_wp2_with fail
            refine HHP.out.mono ?_
            rintro _ _ ⟨rfl, rfl⟩
            go_wp2_with fail
            obtain ⟨u1, u2⟩ := HZ4.out HOK.out
            have hyt := HYT.out
            have hym : y.mz = y.s.length + 1 := by unfold RS.mz; rw [if_pos u1]
            have hzm := mz_le z
            go_roundw
            case rel =>
              refine ⟨n - 1, z, true, rfl, HH3.out, HB3.out, by omega, by rw [z3]; exact HYC.out, fun _ => ⟨?_, by omega, by omega⟩, fun h => by cases h⟩
              rw [← HCS.out]
              obtain ⟨m, hm⟩ : ∃ m, n = m + 1 := ⟨n - 1, by omega⟩
              rw [hm, charsS_step m z ⟨HOK.out, HPR.out.symm⟩]
              rfl
            case measure => simp only [HME3.out, HME.out]; omega
  case rest =>
    obtain ⟨rfl, hT, hbT, hTL, hTc⟩ := hcut
    have HBT := Lib.hid hbT
    have HG := Lib.hid (gap_any B b T (by omega) wc hT (Nat.le_trans HB.out hbT.size))
    obtain ⟨g1, g2, g3⟩ := gap_less T
    clear HT HH HXT hT hbT
    rw [hTc] at g2
    generalize T.gap = G at *
    go_wp2_with fail
    refine HG.out.mono ?_
    rintro _ w9 ⟨rfl, h9, hb9⟩
    have HHG := Lib.hid h9
    have HBG := Lib.hid (HBT.out.trans hb9)
    have HGX : Hid (G.s.length ≤ L ∧ G.c.length + G.s.length ≤ L) := Lib.hid ⟨by omega, by rw [g2]; simp; omega⟩
    clear h9 hb9
    go_upto_block 2 with fail
    go_cut [4] (fun v wx => v = .bool false ∧ RdAt B wx b U ∧ Below B w wx ∧ U.s.length ≤ L)
    case first =>
      go_wp2_with fail
      go_loopw [4] (fun v wr => ∃ (n : Nat) (y : RS) (more : Bool), v = .bool more ∧ RdAt B wr b y ∧ Below B w wr ∧ y.s.length ≤ L ∧ (more = true → codesS n (codeS y) = U ∧ y.s.length ≤ n ∧ y.c.length + y.s.length ≤ L) ∧ (more = false → y = U)) (fun v wr => match v with | .bool true => meas b wr + 1 | _ => 0)
      case atStart => exact ⟨L + 1, G, true, rfl, HHG.out, HBG.out, HGX.out.1, fun _ => ⟨HU.out, by have := HGX.out.1; omega, HGX.out.2⟩, fun h => by cases h⟩
      case round =>
        obtain ⟨n, y, more, rfl, hy, hby, hyL, hm1, hm2⟩ := hrel
        have HY := Lib.hid hy
        have HBY := Lib.hid hby
        clear hy hby
        cases more with
        | false =>
          have hyT := hm2 rfl
          subst hyT
          clear hm1 hm2
          go_wp2_with fail
          go_meet
          exact ⟨rfl, HY.out, HBY.out, hyL⟩
        | true =>
          obtain ⟨hcs, hyn, hyt⟩ := hm1 rfl
          have HCS := Lib.hid hcs
          have HYT := Lib.hid hyt
          have HME := Lib.hid (meas_eq HY.out)
          obtain ⟨a1, a2, a3⟩ := needs_less y [92, 120]
          have HA := Lib.hid (needs_any B b y ⟨#[92, 120]⟩ wr HY.out (Nat.le_trans HB.out HBY.out.size))
          change Hid (Calls _ _ _ _ fun e w' => _ ∧ RdAt B w' b (y.needs [92, 120]) ∧ _) at HA
          have HCE : Hid ((y.needs [92, 120]).byte = codeS y) := Lib.hid rfl
          have HCL := Lib.hid (code_less y)
          generalize y.needs [92, 120] = N at *
          clear hm1 hm2 hcs
          go_wp2_with fail
          refine HA.out.mono ?_
          rintro _ w1 ⟨rfl, h1, hb1⟩
          have HH1 := Lib.hid h1
          have HB1 := Lib.hid (HBY.out.trans hb1)
          clear h1 hb1
          go_wp2_with fail
          have HA2 := Lib.hid (byte_any B b N (by omega) (by rw [a2]; omega) w1 HH1.out (Nat.le_trans HB.out HB1.out.size))
          rw [HCE.out] at HA2
          generalize codeS y = z at *
          refine HA2.out.mono ?_
          rintro _ w3 ⟨rfl, h3, hb3⟩
          have HH3 := Lib.hid h3
          have HB3 := Lib.hid (HB1.out.trans hb3)
          have c0 := h3.c0
          have c1 := h3.c1
          have HME3 := Lib.hid (meas_eq h3)
          have HHP := Lib.hid (hasPrefix_any ⟨z.s.toArray⟩ ⟨#[92]⟩ w3)
          change Hid (Calls _ _ _ _ fun e w' => e = .returned (.bool (preP [92] z.s)) ∧ _) at HHP
          have HPR : Hid (preP [92] z.s = [92].isPrefixOf z.s) := Lib.hid rfl
          obtain ⟨z1, z2, z3, z4⟩ := HCL.out
          have HZ4 := Lib.hid z4
          clear h3 hb3 z4 a1 a2 a3
          cases hok : z.ok with
          | false =>
            rw [hok] at c1
            have hTe : U = z := HCS.out.symm.trans (codesS_stop n z (by rw [hok]; simp))
            clear hok
            go_wp2_with fail
            go_roundw
            case rel => exact ⟨n, z, false, rfl, HH3.out, HB3.out, by omega, (fun h => by cases h), fun _ => hTe.symm⟩
            case measure => simp only; omega
          | true =>
            rw [hok] at c1
            have HOK := Lib.hid hok
            clear hok
            cases hp : preP [92] z.s with
            | false =>
              rw [hp] at HHP HPR
              have hTe : U = z := HCS.out.symm.trans (codesS_stop n z (by rw [← HPR.out]; simp))
              clear hp
              go_wp2_with fail
              refine HHP.out.mono ?_
              rintro _ _ ⟨rfl, rfl⟩
              go_wp2_with fail
              go_roundw
              case rel => exact ⟨n, z, false, rfl, HH3.out, HB3.out, by omega, (fun h => by cases h), fun _ => hTe.symm⟩
              case measure => simp only; omega
            | true =>
              rw [hp] at HHP HPR
              clear hp
              go_wp2_with fail
              refine HHP.out.mono ?_
              rintro _ _ ⟨rfl, rfl⟩
              go_wp2_with fail
              obtain ⟨u1, u2⟩ := HZ4.out HOK.out
              have hyt := HYT.out
              have hym : y.mz = y.s.length + 1 := by unfold RS.mz; rw [if_pos u1]
              have hzm := mz_le z
              go_roundw
              case rel =>
                refine ⟨n - 1, z, true, rfl, HH3.out, HB3.out, by omega, fun _ => ⟨?_, by omega, by omega⟩, fun h => by cases h⟩
                rw [← HCS.out]
                obtain ⟨m, hm⟩ : ∃ m, n = m + 1 := ⟨n - 1, by omega⟩
                rw [hm, codesS_step m z ⟨HOK.out, HPR.out.symm⟩]
                rfl
              case measure => simp only [HME3.out, HME.out]; omega
    case rest =>
      obtain ⟨rfl, hU, hbU, hUL⟩ := hcut
      have HBU := Lib.hid hbU
      have HG2 := Lib.hid (gap_any B b U (by omega) wc hU (Nat.le_trans HB.out hbU.size))
      obtain ⟨g4, g5, g6⟩ := gap_less U
      clear HU HHG HBG HGX HG g1 g2 g3 hU hbU
      generalize U.gap = V at *
      have hnn : ∀ w, RdAt B w b V → B ≤ w.heap.size → Calls Tryz.prog 46 #[.pointer (some ⟨b, 0, none⟩), .string ⟨#[124]⟩] w fun e w' => e = .returned (.tuple #[]) ∧ RdAt B w' b (V.needs [124]) ∧ Below B w w' := fun w h hB => needs_any B b V ⟨#[124]⟩ w h hB
      obtain ⟨n1, n2, n3⟩ := needs_less V [124]
      have HNN := Lib.hid hnn
      clear hnn
      generalize V.needs [124] = N at *
      obtain ⟨d, hd⟩ : ∃ d, digs 1 N.s = d := ⟨_, rfl⟩
      have hfl : N.flag = ⟨N.s.drop d.length, N.ok && flagK d, N.c, N.t, flagN d⟩ := by unfold RS.flag; rw [hd]
      have HDG : Hid (∀ w, RdAt B w b N → B ≤ w.heap.size → Calls Tryz.prog 56 #[.pointer (some ⟨b, 0, none⟩), .int .i64 1] w fun e w' => e = .returned (.string ⟨d.toArray⟩) ∧ RdAt B w' b ⟨N.s.drop d.length, N.ok, N.c, N.t, N.f⟩ ∧ Below B w w') := Lib.hid fun w h hB => hd ▸ digits_any B b N (by omega) 1 (by decide) w h hB
      have HAT : Hid (∀ w, ErrV w → _) := Lib.hid fun w hE => atoi_any N.s w hE
      rw [hd] at HAT
      have HR2 := Lib.hid (hfl.symm.trans HR.out)
      clear hd hfl HR n1 n2 n3 g4 g5 g6
      go_wp2_with fail
      refine HG2.out.mono ?_
      rintro _ w1 ⟨rfl, h1, hb1⟩
      have HH1 := Lib.hid h1
      have HB1 := Lib.hid (HBU.out.trans hb1)
      clear h1 hb1
      go_wp2_with fail
      refine (HNN.out w1 HH1.out (Nat.le_trans HB.out HB1.out.size)).mono ?_
      rintro _ w2 ⟨rfl, h2, hb2⟩
      have HH2 := Lib.hid h2
      have HB2 := Lib.hid (HB1.out.trans hb2)
      clear h2 hb2
      go_wp2_with fail
      refine (HDG.out w2 HH2.out (Nat.le_trans HB.out HB2.out.size)).mono ?_
      rintro _ w3 ⟨rfl, h3, hb3⟩
      have HH3 := Lib.hid h3
      have HB3 := Lib.hid (HB2.out.trans hb3)
      clear h3 hb3
      go_wp2_with fail
      refine (HAT.out w3 (HE.out.keep HB3.out hEB)).mono ?_
      rintro _ w4 ⟨ev, rfl, hv1, hv2, hb4⟩
      have h4 := HH3.out.keep hb4
      have c1 : w4.cell? ⟨b, 1, none⟩ = some (.bool N.ok) := h4.c1
      have c4 : w4.cell? ⟨b, 4, none⟩ = some (.int .i64 N.f) := h4.c4
      have f1 := h4.fz 1
      have f4 := h4.fz 4
      have HB4 := Lib.hid (HB3.out.trans (hb4.mono (Nat.le_trans HB.out HB3.out.size)))
      have HRD := Lib.hid ((h4.set4 (flagN d)).set1 (N.ok && flagK d))
      have HBB := Lib.hid (below_set (below_set HB4.out b 4 (.int .i64 (flagN d)) h4.le) b 1 (.bool (N.ok && flagK d)) h4.le)
      have HV1 := Lib.hid hv1
      have HV2 := Lib.hid hv2
      clear h4 hb4 hv1 hv2
      generalize flagN d = fn at *
      cases hk : flagK d with
      | true =>
        have hev := HV1.out hk
        subst hev
        rw [hk] at HRD HBB HR2
        clear hk
        cases hok : N.ok with
        | true =>
          rw [hok] at c1 HRD HBB HR2
          clear hok
          go_wp2_with fail
          go_returns
          exact ⟨rfl, HR2.out ▸ HRD.out, HBB.out⟩
        | false =>
          rw [hok] at c1 HRD HBB HR2
          clear hok
          go_wp2_with fail
          go_returns
          exact ⟨rfl, HR2.out ▸ HRD.out, HBB.out⟩
      | false =>
        obtain ⟨t, p, rfl⟩ := HV2.out hk
        rw [hk] at HRD HBB HR2
        clear hk
        cases hok : N.ok with
        | true =>
          rw [hok] at c1 HRD HBB HR2
          clear hok
          go_wp2_with fail
          go_returns
          exact ⟨rfl, HR2.out ▸ HRD.out, HBB.out⟩
        | false =>
          rw [hok] at c1 HRD HBB HR2
          clear hok
          go_wp2_with fail
          go_returns
          exact ⟨rfl, HR2.out ▸ HRD.out, HBB.out⟩
end Go.Proofs.YtopaoejapnakiaaGreatDoor.Mf
