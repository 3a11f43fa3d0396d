/- Walk: the law MapfileReads. -/
import Derived.Test.YtopaoejapnakiaaGreatDoorM13
namespace Go.Proofs.YtopaoejapnakiaaGreatDoor.Mf
open Go.RowKit Pl

/-- What the reference's reading answers, its rows as they lie. -/
def RefAt (w0 : World) (l : List LRow) (i e : Int) (x : Ending) (w' : World) : Prop := ∃ A c, x = .returned (.tuple #[.slice A l.length c, .int .i64 i, .int .i64 e]) ∧ RdF w' A l ∧ Below w0.heap.size w0 w'
theorem refAt_of {F : List UInt8 → One} {w w' : World} {s : List UInt8} {l : List LRow} {i e : Int} {x : Ending} (h : readL F s = (l, i, e)) (hr : RefRead F w s x w') : RefAt w l i e x w' := by
  obtain ⟨v, e1, hrows, hb⟩ := hr
  rw [h] at e1 hrows
  obtain ⟨A, c, e2, hrd⟩ := hrows.rd
  exact ⟨A, c, by rw [e1, e2], hrd, hb⟩
theorem readU_at {b : ByteArray} (hb : b.size ≤ 1000000) {l : List LRow} {i e : Int} (h : readL oneU b.data.toList = (l, i, e)) (w : World) : Calls Tryz.prog 12 #[.string b, .bool false] w (RefAt w l i e) :=
  (readU_any b hb w).mono fun _ _ hr => refAt_of h hr
theorem readC_at {b : ByteArray} (hb : b.size ≤ 1000000) {l : List LRow} {i e : Int} (h : readL oneC b.data.toList = (l, i, e)) (w : World) : Calls Tryz.prog 12 #[.string b, .bool true] w (RefAt w l i e) :=
  (readC_any b hb w).mono fun _ _ hr => refAt_of h hr
set_option maxRecDepth 100000 in
set_option maxHeartbeats 6400000 in
theorem mapfileReads_law {w : World} (hO : Okw w) (s : ByteArray) (_hs : s.size ≤ maxLen) : Calls Tryz.prog 3 #[.string s] w fun e w' => e = .returned (.bool true) ∧ Below w.heap.size w w' := by
  have HAW : Hid (∀ w1, Below w.heap.size w w1 → Calls Tryz.prog 10 #[] w1 fun e w' => e = .returned (.bool true) ∧ Below w.heap.size w w') := Lib.hid fun w1 hb => (awake_any w1 (hO.keep hb)).mono fun _ _ ⟨h, hb'⟩ => ⟨h, hb.trans (hb'.mono hb.size)⟩
  have HOK := Lib.hid hO
  clear hO
  go_enter Tryz.func3, Tryz.ntmps3
  by_cases hbig : 9000 < s.size
  · have a1 : decide ((9000 : Int) < (s.size : Int)) = true := decide_eq_true (by omega)
    clear hbig
    go_wp2_with fail
    refine (HAW.out w (Below.refl _ _)).mono ?_
    rintro _ w1 ⟨rfl, hb1⟩
    go_wp2_with fail
    go_returns
    exact ⟨rfl, hb1⟩
  have a1 : decide ((9000 : Int) < (s.size : Int)) = false := decide_eq_false (by omega)
  have hs : s.size ≤ 1000000 := by omega
  obtain ⟨lu, iu, eu, hU⟩ : ∃ l i e, readL oneU s.data.toList = (l, i, e) := ⟨_, _, _, rfl⟩
  obtain ⟨lc, ic, ec, hC⟩ : ∃ l i e, readL oneC s.data.toList = (l, i, e) := ⟨_, _, _, rfl⟩
  have HMU := Lib.hid (mapU_at w HOK.out hs hU)
  have HMC := Lib.hid (mapC_at w HOK.out hs hC)
  have HRU : Hid (∀ w1, Calls Tryz.prog 12 #[.string s, .bool false] w1 (RefAt w1 lu iu eu)) := Lib.hid fun w1 => readU_at hs hU w1
  have HRC : Hid (∀ w1, Calls Tryz.prog 12 #[.string s, .bool true] w1 (RefAt w1 lc ic ec)) := Lib.hid fun w1 => readC_at hs hC w1
  have hlu := readL_len oneU s.data.toList
  have hlc := readL_len oneC s.data.toList
  have hvu := readL_ok oneU_row s.data.toList
  have hvc := readL_ok oneC_row s.data.toList
  rw [hU] at hlu hvu
  rw [hC] at hlc hvc
  rw [bl] at hlu hlc
  have HLU := Lib.hid (show lu.length ≤ 9000 ∧ lc.length ≤ 9000 by dsimp only at hlu hlc; omega)
  have HVU : Hid (∀ x ∈ lu, wrongL x = 0) := Lib.hid hvu
  have HVC : Hid (∀ x ∈ lc, wrongL x = 0) := Lib.hid hvc
  clear hlu hlc hvu hvc hU hC hbig
  go_wp2_with fail
  refine (HMU.out w (Below.refl _ _)).mono ?_
  rintro _ w1 ⟨A1, k1, rfl, hrd1, _, hb1⟩
  have HB1 := Lib.hid hb1
  have HR1 := Lib.hid hrd1
  clear hb1 hrd1 HMU
  go_wp2_with fail
  refine (HRU.out w1).mono ?_
  rintro _ w2 ⟨A2, k2, rfl, hrd2, hb2⟩
  have HB2 := Lib.hid (HB1.out.trans (hb2.mono HB1.out.size))
  have HR1 := Lib.hid (HR1.out.keep hb2)
  have HR2 := Lib.hid hrd2
  clear hb2 hrd2 HRU
  go_wp2_with fail
  refine (HMC.out w2 HB2.out).mono ?_
  rintro _ w3 ⟨A3, k3, rfl, hrd3, _, hb3⟩
  have HB3 := Lib.hid (HB2.out.trans (hb3.mono HB2.out.size))
  have HR1 := Lib.hid (HR1.out.keep hb3)
  have HR2 := Lib.hid (HR2.out.keep hb3)
  have HR3 := Lib.hid hrd3
  clear hb3 hrd3 HMC
  go_wp2_with fail
  refine (HRC.out w3).mono ?_
  rintro _ w4 ⟨A4, k4, rfl, hrd4, hb4⟩
  have HB4 := Lib.hid (HB3.out.trans (hb4.mono HB3.out.size))
  have HR1 := Lib.hid (HR1.out.keep hb4)
  have HR2 := Lib.hid (HR2.out.keep hb4)
  have HR3 := Lib.hid (HR3.out.keep hb4)
  have HR4 := Lib.hid hrd4
  clear hb4 hrd4 HRC
  have HS1 := Lib.hid (same_any A1 A2 k1 k2 lu (by have := HLU.out; omega) HVU.out w4 HR1.out HR2.out)
  have c1 : (iu == iu) = true := beq_self_eq_true iu
  have c2 : (eu == eu) = true := beq_self_eq_true eu
  have c3 : (ic == ic) = true := beq_self_eq_true ic
  have c4 : (ec == ec) = true := beq_self_eq_true ec
  go_wp2_with fail
  refine HS1.out.mono ?_
  rintro _ w5 ⟨rfl, hb5⟩
  have HB5 := Lib.hid (HB4.out.trans (hb5.mono HB4.out.size))
  have HS2 := Lib.hid (same_any A3 A4 k3 k4 lc (by have := HLU.out; omega) HVC.out w5 (HR3.out.keep hb5) (HR4.out.keep hb5))
  clear hb5
  go_wp2_with fail
  refine HS2.out.mono ?_
  rintro _ w6 ⟨rfl, hb6⟩
  have HB6 := Lib.hid (HB5.out.trans (hb6.mono HB5.out.size))
  clear hb6
  go_wp2_with fail
  refine (HAW.out w6 HB6.out).mono ?_
  rintro _ w7 ⟨rfl, hb7⟩
  go_wp2_with fail
  go_returns
  exact ⟨rfl, hb7⟩
end Go.Proofs.YtopaoejapnakiaaGreatDoor.Mf
