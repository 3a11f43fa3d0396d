/- Joined of: R9, R9c. -/
import Derived.Test.YtkfjmcidcnpijaaGreatDoorRB
import Derived.Test.YtkfjmcidcnpijaaGreatDoorNA
import Derived.Laws.BytesArg
import Derived.Lib.LaidU8T
import Derived.Deep.RegionLaw
import Derived.BigRegion
import Derived.Test.YtkfjmcidcnpijaaGreatDoorKM
/- Walks: api.Scalar, (*reader).row. -/
namespace Go.Proofs.YtkfjmcidcnpijaaGreatDoor.Mf
open Go.RowKit Pl Go.Lib

abbrev RowT : TypeId := 50
def TabsM (w : World) : Prop := Lib.Utf8Tabs 0 1 w
theorem TabsM.keep {w w' : World} (h : TabsM w) (hb : Below w.heap.size w w') : TabsM w' := Utf8Tabs_below h hb
/-- What Check answers. -/
def chkV (code text : ByteArray) (flag : Int) : Int :=
  if 1 ≤ code.size ∧ code.size ≤ 4 ∧ 1 ≤ runeCount text ∧ runeCount text ≤ 18 ∧ validD text.data.toList = true then (if flag = 0 ∨ flag = 1 ∨ flag = 3 then 0 else 16) else 11
def CheckC : Prop := ∀ (code text : ByteArray) (flag : Int) (w : World), code.size ≤ 1048576 → text.size ≤ 1048576 → TabsM w →
  Calls Tryz.prog 28 #[.agg #[.string code, .string text, .int .i64 flag]] w fun e w' => e = .returned (.int .i64 (chkV code text flag)) ∧ Below w.heap.size w w'
theorem chk_wrong (c : List UInt8) (t : List Int) (f : Int) (h : t.all okR = true) : chkV ⟨c.toArray⟩ ⟨(textB t).toArray⟩ f = wrongL ⟨c, t, f⟩ := by
  obtain ⟨h1, h2⟩ := text_whole t h
  rw [wrongL_eq]
  unfold chkV
  rw [runeCount_eq]
  show (if 1 ≤ c.toArray.size ∧ c.toArray.size ≤ 4 ∧ 1 ≤ (runesL (textB t)).length ∧ (runesL (textB t)).length ≤ 18 ∧ validD (textB t) = true then _ else _) = _
  rw [h1, h2, if_pos h]
  simp
theorem wrongL_bad (x : LRow) (h : ¬ x.text.all okR = true) : wrongL x = 11 := by
  rw [wrongL_eq, if_neg h]
  simp
set_option maxRecDepth 100000 in
theorem scalar_any (r : Int) (w : World) : Calls Tryz.prog 74 #[.int .i32 r] w fun e w' => e = .returned (.bool (okR r)) ∧ w = w' := by
  unfold okR
  by_cases q1 : 0 ≤ r
  · have b1 : decide (0 ≤ r) = true := decide_eq_true q1
    by_cases q2 : r < 55296
    · have b2 : decide (r < 55296) = true := decide_eq_true q2
      rw [decide_eq_true (show 0 ≤ r ∧ (r < 55296 ∨ 57343 < r) ∧ r ≤ 1114111 by omega)]
      clear q1 q2
      go_enter Tryz.func74, Tryz.ntmps74
      go_wp2_with fail
      go_returns
      exact ⟨rfl, rfl⟩
    · have b2 : decide (r < 55296) = false := decide_eq_false q2
      by_cases q3 : 57343 < r
      · have b3 : decide (57343 < r) = true := decide_eq_true q3
        by_cases q4 : r ≤ 1114111
        · have b4 : decide (r ≤ 1114111) = true := decide_eq_true q4
          rw [decide_eq_true (show 0 ≤ r ∧ (r < 55296 ∨ 57343 < r) ∧ r ≤ 1114111 by omega)]
          clear q1 q2 q3 q4
          go_enter Tryz.func74, Tryz.ntmps74
          go_wp2_with fail
          go_returns
          exact ⟨rfl, rfl⟩
        · have b4 : decide (r ≤ 1114111) = false := decide_eq_false q4
          rw [decide_eq_false (show ¬ (0 ≤ r ∧ (r < 55296 ∨ 57343 < r) ∧ r ≤ 1114111) by omega)]
          clear q1 q2 q3 q4
          go_enter Tryz.func74, Tryz.ntmps74
          go_wp2_with fail
          go_returns
          exact ⟨rfl, rfl⟩
      · have b3 : decide (57343 < r) = false := decide_eq_false q3
        rw [decide_eq_false (show ¬ (0 ≤ r ∧ (r < 55296 ∨ 57343 < r) ∧ r ≤ 1114111) by omega)]
        clear q1 q2 q3
        go_enter Tryz.func74, Tryz.ntmps74
        go_wp2_with fail
        go_returns
        exact ⟨rfl, rfl⟩
  · have b1 : decide (0 ≤ r) = false := decide_eq_false q1
    rw [decide_eq_false (show ¬ (0 ≤ r ∧ (r < 55296 ∨ 57343 < r) ∧ r ≤ 1114111) by omega)]
    by_cases q3 : 57343 < r
    · omega
    · have b3 : decide (57343 < r) = false := decide_eq_false q3
      clear q1 q3
      go_enter Tryz.func74, Tryz.ntmps74
      go_wp2_with fail
      go_returns
      exact ⟨rfl, rfl⟩
theorem textback {w : World} {v : Value} {t : List Int} (h : TextAt w v t) : (convert 72 9 v).run Tryz.prog w = .ok (.string (runesBytes t)) w := by
  rcases h with ⟨rfl, rfl⟩ | ⟨g, c, cur, rfl, hg, ht⟩
  · exact run_convert_runes_nil w 72 9 21 0 0 Tryz.underlying72 Tryz.underlying21 Tryz.underlying9
  · have h := run_convert_runes (P := Tryz.prog) w 72 9 21 ⟨g, 0, none⟩ t.length c t (Nat.le_refl _) Tryz.underlying72 Tryz.underlying21 Tryz.underlying9 (by
      intro j hj
      rw [Addr.add_lit, Nat.zero_add, cell_of_row w g j cur RuneT (0, 0) hg]
      have h2 : (cur.toList.take t.length)[j]? = some (.int .i32 (t.getD j 0)) := by
        rw [ht]
        simp [i32s, List.getElem?_eq_getElem hj]
      rw [List.getElem?_take, if_pos hj] at h2
      simpa using h2)
    rw [List.take_length] at h
    exact h
theorem codeback {w : World} {B : Nat} {v : Value} {l : List UInt8} (h : w.ownsRow B ByteT 1 v l.length (u8s l)) : (convert 35 9 v).run Tryz.prog w = .ok (.string ⟨l.toArray⟩) w := by
  rcases h.2 with ⟨rfl, h0⟩ | ⟨g, cap, cur, rfl, _, hh, _, _, _, h4⟩
  · rw [List.eq_nil_of_length_eq_zero h0]
    exact run_convert_bytes_nil _ _ _ Tryz.underlying35 Tryz.underlying5 0 0 _ Tryz.underlying9
  · exact run_convert_bytes_back (P := Tryz.prog) w 35 9 ByteT ⟨g, 0, none⟩ cap l Tryz.underlying35 Tryz.underlying5 Tryz.underlying9 (by
      intro i hi
      rw [Addr.add_lit, Nat.zero_add, cell_of_row w g i cur ByteT (0, 0) hh]
      rw [Nat.mul_one] at h4
      have h2 : (cur.toList.take l.length)[i]? = some (.int .u8 (l[i].toNat : Int)) := by
        rw [h4]
        simp [u8s, hi]
      rw [List.getElem?_take, if_pos hi] at h2
      simpa using h2)
/-- Three cells are written. -/
theorem ret3T {T : TypeId} {w0 V : World} {b : Nat} {c0 c1 c2 : Value} (x y z : Value) {B : Nat} (hk : Blk V b T #[c0, c1, c2]) (hb : Below B w0 V) (hB : B ≤ b) :
    ∃ Wf, (((V.setCell ⟨b, 0, none⟩ x).setCell ⟨b, 1, none⟩ y).setCell ⟨b, 2, none⟩ z) = Wf ∧ Wf.cell? ⟨b, 0, none⟩ = some x ∧ Wf.cell? ⟨b, 1, none⟩ = some y ∧ Wf.cell? ⟨b, 2, none⟩ = some z ∧ Below B w0 Wf := by
  have h1 := Blk.set hk 0 x
  have h2 := Blk.set h1 1 y
  have h3 := Blk.set h2 2 z
  exact ⟨_, rfl, by rw [h3.cell]; rfl, by rw [h3.cell]; rfl, by rw [h3.cell]; rfl, below_set (below_set (below_set hb b 0 x hB) b 1 y hB) b 2 z hB⟩
/-- What row answers. -/
def RowPost (B : Nat) (w : World) (y : RS) (e : Ending) (w' : World) : Prop := ∃ (rc rt : ByteArray) (rf err : Int), e = .returned (.tuple #[.agg #[.string rc, .string rt, .int .i64 rf], .int .i64 err]) ∧ Below B w w' ∧
  (y.ok = false ∨ y.s ≠ [] → err = 10) ∧ (y.ok = true → y.s = [] → err = wrongL ⟨y.c, y.t, y.f⟩ ∧ (err = 0 → rc = ⟨y.c.toArray⟩ ∧ rt = ⟨(textB y.t).toArray⟩ ∧ rf = y.f))
set_option maxRecDepth 100000 in
set_option maxHeartbeats 3200000 in
theorem row_any (HCK : CheckC) (B b : Nat) (y : RS) (hc : y.c.length ≤ 200000) (ht : y.t.length ≤ 200000) (w : World) (h : RdAt B w b y) (_hB : B ≤ w.heap.size) (hT : TabsM w) :
    Calls Tryz.prog 53 #[.pointer (some ⟨b, 0, none⟩)] w (RowPost w.heap.size w y) := by
  obtain ⟨W, hW⟩ : ∃ W, w.alloc (.cells #[.string ⟨#[]⟩, .string ⟨#[]⟩, .int .i64 0] RowT) = W := ⟨_, rfl⟩
  have hbW : Below w.heap.size w W := hW ▸ (Below.refl _ _).alloc (Nat.le_refl _) _
  have hkW : Blk W w.heap.size RowT #[.string ⟨#[]⟩, .string ⟨#[]⟩, .int .i64 0] := hW ▸ Blk.new _ _ _
  have hy := h.keep hbW
  have hTW := hT.keep hbW
  have c0 := hy.c0
  have c1 := hy.c1
  have c4 := hy.c4
  obtain ⟨vc, c2, hvc⟩ := hy.c2
  obtain ⟨vt, c3, hvt⟩ := hy.c3
  have y0 : W.cell? ⟨w.heap.size, 0, none⟩ = some (.string ⟨#[]⟩) := by rw [hkW.cell]; rfl
  have y1 : W.cell? ⟨w.heap.size, 1, none⟩ = some (.string ⟨#[]⟩) := by rw [hkW.cell]; rfl
  have y2 : W.cell? ⟨w.heap.size, 2, none⟩ = some (.int .i64 0) := by rw [hkW.cell]; rfl
  have g0 := Blk.frz hkW 0
  have g1 := Blk.frz hkW 1
  have g2 := Blk.frz hkW 2
  obtain ⟨sb, hsb⟩ : ∃ sb : ByteArray, (⟨y.s.toArray⟩ : ByteArray) = sb := ⟨_, rfl⟩
  have hsl : sb.data.toList = y.s := by rw [← hsb]
  rw [hsb] at c0
  obtain ⟨Wf, hWf, q0, q1, q2, hBf⟩ := ret3T (.string ⟨#[]⟩) (.string ⟨#[]⟩) (.int .i64 0) hkW hbW (Nat.le_refl _)
  have HSL := Lib.hid hsl
  have HVC := Lib.hid hvc
  have HVT := Lib.hid hvt
  have HKW := Lib.hid hkW
  have HBW := Lib.hid hbW
  have HTW := Lib.hid hTW
  have HBF := Lib.hid hBf
  have HY := Lib.hid hy
  have hblt : b < w.heap.size := h.lt
  clear h hsb hsl hvc hvt hkW hbW hTW hBf hT hy
  go_enter Tryz.func53, Tryz.ntmps53
  cases hok : y.ok with
  | false =>
    rw [hok] at c1
    have HOK := Lib.hid hok
    clear hok
    go_wp2_with fail
    refine bodyPost_ret (by simp [results, Tryz.results53, go_sem, q0, q1, q2]; try rfl) rfl ?_
    unfold RowPost
    exact ⟨_, _, _, _, rfl, HBF.out, fun _ => rfl, fun h => by rw [HOK.out] at h; cases h⟩
  | true =>
    rw [hok] at c1
    have HOK := Lib.hid hok
    clear hok
    by_cases hs : y.s = []
    rotate_left
    · have hte : sb.toList.isEmpty = false := by rw [ByteArray.toList_eq, HSL.out]; exact List.isEmpty_eq_false_iff.2 hs
      have HS := Lib.hid hs
      clear hs
      go_wp2_with fail
      refine bodyPost_ret (by simp [results, Tryz.results53, go_sem, q0, q1, q2]; try rfl) rfl ?_
      unfold RowPost
      exact ⟨_, _, _, _, rfl, HBF.out, fun _ => rfl, fun _ h => absurd h HS.out⟩
    have hte : sb.toList.isEmpty = true := by rw [ByteArray.toList_eq, HSL.out, hs]; rfl
    have HS := Lib.hid hs
    obtain ⟨At, ct, rfl⟩ := own_shapeN HVT.out
    have hrd : Rd W At y.t.length (i32s y.t) := by
      obtain ⟨A, c, e, hr⟩ := (text_of_own HVT.out).rd
      injection e with e1 e2 e3
      rw [e1]; exact hr
    have HR := Lib.hid hrd
    have HTX := Lib.hid (text_of_own HVT.out)
    clear hs hrd
    go_wp2_with fail
    go_loop [27] (fun i => ∃ j : Nat, j ≤ y.t.length ∧ i = .int .i64 j ∧ (y.t.take j).all okR = true) (fun i => y.t.length - (RowKit.intOf i).toNat)
    case atStart => exact ⟨0, Nat.zero_le _, rfl, rfl⟩
    case round =>
      obtain ⟨j, hj, rfl, hal⟩ := hrel
      have HAL := Lib.hid hal
      clear hal
      by_cases hlt : j < y.t.length
      · obtain ⟨bk, o, rfl, hbk, d0⟩ := HR.out.i32_at hlt
        have htk : (y.t.take (j + 1)).all okR = okR y.t[j] := by rw [List.take_succ_eq_append_getElem hlt, List.all_append, HAL.out]; simp
        have HTK := Lib.hid htk
        have HIN : Hid (okR y.t[j] = false → ¬ y.t.all okR = true) := Lib.hid fun h h2 => by
          rw [List.all_eq_true.1 h2 _ (List.getElem_mem hlt)] at h; cases h
        have HSC := Lib.hid (scalar_any y.t[j] W)
        have a1 : decide ((j : Int) < (y.t.length : Int)) = true := decide_eq_true (by omega)
        have j0 : (0 : Int) ≤ (j : Int) := by omega
        have j1 : (j : Int) < (y.t.length : Int) := by omega
        have hkw : IntKind.i64.wrap ((j : Int) + 1) = (j : Int) + 1 := IntWalk.i64_in _ (by omega)
        clear htk
        generalize y.t[j] = r at *
        cases hsc : okR r with
        | false =>
          rw [hsc] at HSC HTK
          have HBAD := Lib.hid (HIN.out hsc)
          clear hsc
          go_wp2_with fail
          refine HSC.out.mono ?_
          rintro _ _ ⟨rfl, rfl⟩
          go_wp2_with fail
          refine bodyPost_ret (by simp [results, Tryz.results53, go_sem, q0, q1, q2]; try rfl) rfl ?_
          unfold RowPost
          exact ⟨_, _, _, _, rfl, HBF.out, fun h => (by rcases h with h | h; rw [HOK.out] at h; cases h; exact absurd HS.out h), fun _ _ => ⟨(wrongL_bad _ HBAD.out).symm, fun h => by cases h⟩⟩
        | true =>
          rw [hsc] at HSC HTK
          clear hsc
          go_wp2_with fail
          refine HSC.out.mono ?_
          rintro _ _ ⟨rfl, rfl⟩
          go_wp2_with fail
          go_round
          case rel => exact ⟨j + 1, by omega, by go_num, HTK.out⟩
          case measure => simp [RowKit.intOf]; omega
      · obtain rfl : j = y.t.length := by omega
        have a1 : decide ((y.t.length : Int) < (y.t.length : Int)) = false := decide_eq_false (by omega)
        have hal : y.t.all okR = true := by have := HAL.out; rwa [List.take_of_length_le (Nat.le_refl _)] at this
        have HALL := Lib.hid hal
        have hbd : Below W.heap.size W W.drew := (Below.refl _ _).drew
        have hba : Below W.heap.size W (W.alloc (.cells #[.string ⟨#[]⟩, .string ⟨#[]⟩, .int .i64 0] RowT)) := (Below.refl _ _).alloc (Nat.le_refl _) _
        have hbe : Below W.heap.size W (W.alloc (.cells #[.string ⟨#[]⟩, .string ⟨#[]⟩, .int .i64 0] RowT)).drew := hba.drew
        have hcd := codeback (own_keep HVC.out hbd)
        have htd := textback (HTX.out.keep hbd)
        have hca := codeback (own_keep HVC.out hbe)
        have hta := textback (HTX.out.keep hbe)
        have e2 := (hba.cell (p := ⟨b, 2, none⟩) HY.out.lt).trans c2
        have e3 := (hba.cell (p := ⟨b, 3, none⟩) HY.out.lt).trans c3
        have e4 := (hba.cell (p := ⟨b, 4, none⟩) HY.out.lt).trans c4
        have hrt : runesBytes y.t = ⟨(textB y.t).toArray⟩ := ba_ext (runesBytes_eq _ (okI_le _ hal))
        rw [hrt] at htd hta
        clear hal hWf q0 q1 q2 HBF hW hrt hbd hba hbe
        go_wp2_with fail
        go_region
        all_goals (
          obtain ⟨V, hV⟩ : ∃ V, (W.alloc (.cells #[.string ⟨y.c.toArray⟩, .string ⟨(textB y.t).toArray⟩, .int .i64 y.f] RowT)).drew = V := ⟨_, rfl⟩
          rw [hV]
          have hbV : Below W.heap.size W V := hV ▸ ((Below.refl _ _).alloc (Nat.le_refl _) _).drew
          have hkV : Blk V W.heap.size RowT #[.string ⟨y.c.toArray⟩, .string ⟨(textB y.t).toArray⟩, .int .i64 y.f] := hV ▸ (Blk.new _ _ _).drew
          have hkR : Blk V w.heap.size RowT #[.string ⟨#[]⟩, .string ⟨#[]⟩, .int .i64 0] := HKW.out.below hbV HKW.out.lt
          have HTV : Hid (TabsM V.drew) := Lib.hid (HTW.out.keep hbV.drew)
          have HBV := Lib.hid (HBW.out.trans (hbV.mono HBW.out.size))
          have k0 : V.drew.cell? ⟨W.heap.size, 0, none⟩ = some (.string ⟨y.c.toArray⟩) := by rw [hkV.drew.cell]; rfl
          have k1 : V.drew.cell? ⟨W.heap.size, 1, none⟩ = some (.string ⟨(textB y.t).toArray⟩) := by rw [hkV.drew.cell]; rfl
          have k2 : V.drew.cell? ⟨W.heap.size, 2, none⟩ = some (.int .i64 y.f) := by rw [hkV.drew.cell]; rfl
          have HKV := Lib.hid hkV
          have HKR := Lib.hid hkR
          have htl := textB_len y.t
          have hsz1 : (⟨y.c.toArray⟩ : ByteArray).size ≤ 1048576 := by show y.c.toArray.size ≤ _; simp; omega
          have hsz2 : (⟨(textB y.t).toArray⟩ : ByteArray).size ≤ 1048576 := by show (textB y.t).toArray.size ≤ _; simp; omega
          have HCW := Lib.hid (HCK ⟨y.c.toArray⟩ ⟨(textB y.t).toArray⟩ y.f V.drew hsz1 hsz2 HTV.out)
          have HNE : Hid (W.heap.size ≠ w.heap.size) := Lib.hid (by have := HKW.out.lt; omega)
          have HCE := Lib.hid (chk_wrong y.c y.t y.f HALL.out)
          rw [HCE.out] at HCW
          clear hV hbV hkV hkR htl hsz1 hsz2 c0 c1 c2 c3 c4 e2 e3 e4 hcd htd hca hta y0 y1 y2 g0 g1 g2 a1 hte HCE
          obtain ⟨E, hE⟩ : ∃ E, wrongL ⟨y.c, y.t, y.f⟩ = E := ⟨_, rfl⟩
          rw [hE] at HCW
          have HEE := Lib.hid hE
          clear hE
          go_wp2_with fail
          go_region_held3 (fun w' => w'.cell? ⟨W.heap.size, 0, none⟩ = some (.string ⟨y.c.toArray⟩) ∧ w'.cell? ⟨W.heap.size, 1, none⟩ = some (.string ⟨(textB y.t).toArray⟩) ∧ w'.cell? ⟨W.heap.size, 2, none⟩ = some (.int .i64 y.f)) (first | exact ⟨k0, k1, k2⟩ | exact ⟨n0, n1, n2⟩ | exact ⟨p0, p1, p2⟩) (first | (go_at_call 28; refine HCW.out.mono ?_; rintro _ w1 ⟨rfl, hb1⟩; have hbV1 := (HBV.out.drew.trans (hb1.mono HBV.out.drew.size)); have hkV1 := (HKV.out.drew).below hb1 (HKV.out.drew).lt; have hkR1 := (HKR.out.drew).below hb1 (HKR.out.drew).lt; have n0 : w1.cell? ⟨W.heap.size, 0, none⟩ = some (.string ⟨y.c.toArray⟩) := (by rw [hkV1.cell]; rfl); have n1 : w1.cell? ⟨W.heap.size, 1, none⟩ = some (.string ⟨(textB y.t).toArray⟩) := (by rw [hkV1.cell]; rfl); have n2 : w1.cell? ⟨W.heap.size, 2, none⟩ = some (.int .i64 y.f) := (by rw [hkV1.cell]; rfl); have m0 : w1.cell? ⟨w.heap.size, 0, none⟩ = some (.string ⟨#[]⟩) := (by rw [hkR1.cell]; rfl); have m1 : w1.cell? ⟨w.heap.size, 1, none⟩ = some (.string ⟨#[]⟩) := (by rw [hkR1.cell]; rfl); have m2 : w1.cell? ⟨w.heap.size, 2, none⟩ = some (.int .i64 0) := (by rw [hkR1.cell]; rfl); have f0 := Blk.frz hkR1 0; have f1 := Blk.frz hkR1 1; have f2 := Blk.frz hkR1 2; obtain ⟨Wf, hWf, q0, q1, q2, hBf⟩ := ret3T (.string ⟨y.c.toArray⟩) (.string ⟨(textB y.t).toArray⟩) (.int .i64 y.f) hkR1 hbV1 (Nat.le_refl _); have HBF := Lib.hid hBf; have hkVf : Blk Wf W.heap.size RowT _ := hWf ▸ Blk.apart (Blk.apart (Blk.apart hkV1 HNE.out) HNE.out) HNE.out; have p0 : Wf.cell? ⟨W.heap.size, 0, none⟩ = some (.string ⟨y.c.toArray⟩) := (by rw [hkVf.cell]; rfl); have p1 : Wf.cell? ⟨W.heap.size, 1, none⟩ = some (.string ⟨(textB y.t).toArray⟩) := (by rw [hkVf.cell]; rfl); have p2 : Wf.cell? ⟨W.heap.size, 2, none⟩ = some (.int .i64 y.f) := (by rw [hkVf.cell]; rfl); clear hkVf hb1 hbV1 hkV1 hkR1 hBf))
          go_wp2_with fail
          refine bodyPost_ret (by simp [results, Tryz.results53, go_sem, q0, q1, q2]; try rfl) rfl ?_
          unfold RowPost
          exact ⟨_, _, _, _, rfl, HBF.out, fun h => (by rcases h with h | h; rw [HOK.out] at h; cases h; exact absurd HS.out h), fun _ _ => ⟨HEE.out.symm, fun _ => ⟨rfl, rfl, rfl⟩⟩⟩)
end Go.Proofs.YtkfjmcidcnpijaaGreatDoor.Mf
/- Walk: mapfile.Check. -/
namespace Go.Proofs.YtkfjmcidcnpijaaGreatDoor.Mf
open Go.RowKit Pl Go.Lib

theorem count_any (s : ByteArray) (hs : s.size ≤ 1048576) (w : World) : Calls Tryz.prog 41 #[.string s] w fun e w' => e = .returned (.int .i64 (runeCount s)) ∧ Below w.heap.size w w' := by
  refine (Any.utf8_RuneCountInString lays195 s w (by omega)).mono ?_
  rintro _ w1 ⟨rfl, pos, rfl⟩
  exact ⟨rfl, (Below.refl _ _).alloc (Nat.le_refl _) _⟩
theorem validString_any (s : ByteArray) (w : World) (hs : s.size ≤ 9223372036854775807) (hT : TabsM w) :
    Calls Tryz.prog 42 #[.string s] w fun e w' => e = .returned (.bool (Lib.validD s.data.toList)) ∧ Below w.heap.size w w' := Any.utf8_ValidString lays196 s w hs hT
set_option maxRecDepth 100000 in
set_option maxHeartbeats 1600000 in
theorem check_any : CheckC := by
  intro code text flag w h1 h2 hT
  unfold chkV
  have hn0 := runesL_le text.data.toList
  rw [← runeCount_eq, show text.data.toList.length = text.size from by simp] at hn0
  have hV := fun (w : World) (hT : TabsM w) => validString_any text w (by omega) hT
  have hC := fun (w : World) => count_any text h2 w
  generalize validD text.data.toList = V at *
  generalize runeCount text = n at *
  have HV := Lib.hid hV
  have HC := Lib.hid hC
  obtain ⟨W, hW⟩ : ∃ W, w.alloc (.cells #[.string code, .string text, .int .i64 flag] 50) = W := ⟨_, rfl⟩
  have hb : Below w.heap.size w W := hW ▸ (Below.refl _ _).alloc (Nat.le_refl _) _
  have hk : Blk W w.heap.size 50 #[.string code, .string text, .int .i64 flag] := hW ▸ Blk.new _ _ _
  have HK := Lib.hid hk
  have HB := Lib.hid hb
  have HT := Lib.hid (hT.keep hb)
  have c0 : W.cell? ⟨w.heap.size, 0, none⟩ = some (.string code) := by rw [hk.cell]; rfl
  have c1 : W.cell? ⟨w.heap.size, 1, none⟩ = some (.string text) := by rw [hk.cell]; rfl
  have c2 : W.cell? ⟨w.heap.size, 2, none⟩ = some (.int .i64 flag) := by rw [hk.cell]; rfl
  clear hT hb hk hV hC
  obtain ⟨Z, hZ⟩ : ∃ Z : Int, (if 1 ≤ code.size ∧ code.size ≤ 4 ∧ 1 ≤ n ∧ n ≤ 18 ∧ V = true then (if flag = 0 ∨ flag = 1 ∨ flag = 3 then 0 else 16) else 11) = Z := ⟨_, rfl⟩
  show Calls _ _ _ _ fun e w' => e = .returned (.int .i64 (if 1 ≤ code.size ∧ code.size ≤ 4 ∧ 1 ≤ n ∧ n ≤ 18 ∧ V = true then (if flag = 0 ∨ flag = 1 ∨ flag = 3 then 0 else 16) else 11)) ∧ _
  rw [hZ]
  have HZ := Lib.hid hZ
  clear hZ
  go_enter Tryz.func28, Tryz.ntmps28
  go_wp2_with fail
  refine (HC.out W).mono ?_
  rintro _ w1 ⟨rfl, hb1⟩
  have d0 := (hb1.cell (p := ⟨w.heap.size, 0, none⟩) HK.out.lt).trans c0
  have d1 := (hb1.cell (p := ⟨w.heap.size, 1, none⟩) HK.out.lt).trans c1
  have d2 := (hb1.cell (p := ⟨w.heap.size, 2, none⟩) HK.out.lt).trans c2
  have HT1 := Lib.hid (HT.out.keep hb1)
  have HB1 := Lib.hid (HB.out.trans (hb1.mono HB.out.size))
  have HK1 := Lib.hid (HK.out.below hb1 HK.out.lt)
  clear c0 c1 c2 hb1
  by_cases a1 : code.size < 1
  · have b1 : decide ((code.size : Int) < 1) = true := decide_eq_true (by omega)
    have hZ : Z = 11 := by rw [← HZ.out, if_neg (fun h => by omega)]
    subst hZ
    clear a1
    go_wp2_with fail
    go_returns
    exact ⟨rfl, HB1.out⟩
  have b1 : decide ((code.size : Int) < 1) = false := decide_eq_false (by omega)
  by_cases a2 : 4 < code.size
  · have b2 : decide ((4 : Int) < (code.size : Int)) = true := decide_eq_true (by omega)
    have hZ : Z = 11 := by rw [← HZ.out, if_neg (fun h => by omega)]
    subst hZ
    clear a1 a2
    go_wp2_with fail
    go_returns
    exact ⟨rfl, HB1.out⟩
  have b2 : decide ((4 : Int) < (code.size : Int)) = false := decide_eq_false (by omega)
  by_cases a3 : n < 1
  · have b3 : decide ((n : Int) < 1) = true := decide_eq_true (by omega)
    have hZ : Z = 11 := by rw [← HZ.out, if_neg (fun h => by omega)]
    subst hZ
    clear a1 a2 a3
    go_wp2_with fail
    go_returns
    exact ⟨rfl, HB1.out⟩
  have b3 : decide ((n : Int) < 1) = false := decide_eq_false (by omega)
  by_cases a4 : 18 < n
  · have b4 : decide ((18 : Int) < (n : Int)) = true := decide_eq_true (by omega)
    have hZ : Z = 11 := by rw [← HZ.out, if_neg (fun h => by omega)]
    subst hZ
    clear a1 a2 a3 a4
    go_wp2_with fail
    go_returns
    exact ⟨rfl, HB1.out⟩
  have b4 : decide ((18 : Int) < (n : Int)) = false := decide_eq_false (by omega)
  have hZ2 : Z = if V = true then (if flag = 0 ∨ flag = 1 ∨ flag = 3 then 0 else 16) else 11 := by
    rw [← HZ.out]
    by_cases hV : V = true
    · rw [if_pos hV, if_pos ⟨by omega, by omega, by omega, by omega, hV⟩]
    · rw [if_neg hV, if_neg (fun h => hV h.2.2.2.2)]
  have HZ2 := Lib.hid hZ2
  clear a1 a2 a3 a4 hZ2
  go_wp2_with fail
  refine (HV.out w1 HT1.out).mono ?_
  rintro _ w2 ⟨rfl, hb2⟩
  have e2 := (hb2.cell (p := ⟨w.heap.size, 2, none⟩) HK1.out.lt).trans d2
  have HB2 := Lib.hid (HB1.out.trans (hb2.mono HB1.out.size))
  clear d0 d1 d2 hb2
  cases V with
  | false =>
    have hZ : Z = 11 := HZ2.out
    subst hZ
    go_wp2_with fail
    go_returns
    exact ⟨rfl, HB2.out⟩
  | true =>
    have hZ : Z = if flag = 0 ∨ flag = 1 ∨ flag = 3 then 0 else 16 := HZ2.out
    clear b1 b2 b3 b4 h1 h2 hn0
    by_cases f0 : flag = 0
    · replace hZ : Z = 0 := by rw [hZ, if_pos (.inl f0)]
      subst hZ
      have g0 : (flag != 0) = false := by simp [f0]
      clear f0
      go_wp2_with fail
      go_returns
      exact ⟨rfl, HB2.out⟩
    have g0 : (flag != 0) = true := by simp [f0]
    by_cases f1 : flag = 1
    · replace hZ : Z = 0 := by rw [hZ, if_pos (.inr (.inl f1))]
      subst hZ
      have g1 : (flag != 1) = false := by simp [f1]
      clear f0 f1
      go_wp2_with fail
      go_returns
      exact ⟨rfl, HB2.out⟩
    have g1 : (flag != 1) = true := by simp [f1]
    by_cases f3 : flag = 3
    · replace hZ : Z = 0 := by rw [hZ, if_pos (.inr (.inr f3))]
      subst hZ
      have g3 : (flag != 3) = false := by simp [f3]
      clear f0 f1 f3
      go_wp2_with fail
      go_returns
      exact ⟨rfl, HB2.out⟩
    replace hZ : Z = 16 := by rw [hZ, if_neg (by omega)]
    subst hZ
    have g3 : (flag != 3) = true := by simp [f3]
    clear f0 f1 f3
    go_wp2_with fail
    go_returns
    exact ⟨rfl, HB2.out⟩
end Go.Proofs.YtkfjmcidcnpijaaGreatDoor.Mf
