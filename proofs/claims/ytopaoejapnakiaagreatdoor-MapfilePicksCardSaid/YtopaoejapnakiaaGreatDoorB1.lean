/- Law: MapfileBack. -/
import Derived.Test.YtopaoejapnakiaaGreatDoorT11
import Derived.Test.YtopaoejapnakiaaGreatDoorSMp
namespace Go.Proofs.YtopaoejapnakiaaGreatDoor.Mf
open Go.RowKit Pl Go.Lib
theorem fewR_facts {l : List RowV} (h : fewR l = true) : l.length ≤ 40 ∧ ∀ r ∈ l, r.code.size ≤ 200 ∧ r.text.size ≤ 200 := by
  unfold fewR at h
  rw [Bool.and_eq_true] at h
  refine ⟨of_decide_eq_true h.2, fun r hr => ?_⟩
  have h2 := List.all_eq_true.1 h.1 r hr
  rw [Bool.and_eq_true] at h2
  exact ⟨of_decide_eq_true h2.1, of_decide_eq_true h2.2⟩
theorem few_at (A : Option Addr) (c : Nat) (l : List RowV) (w0 : World) (hR : RowsAt w0 A l) (hn : l.length ≤ 1000000000000000) (hS : ∀ r ∈ l, r.code.size ≤ maxLen ∧ r.text.size ≤ maxLen) :
    Calls Tryz.prog 18 #[.slice A l.length c] w0 fun e w' => e = .returned (.bool (fewR l)) ∧ w0 = w' := few_any A c l w0 hR hn hS
/-- Printing, in a later world. -/
theorem ucm_at (w0 : World) (hO : OkP w0) (A : Option Addr) (c : Nat) (l : List RowV) (hR : RowsAt w0 A l) (hn : l.length ≤ 1000) (hS : ∀ r ∈ l, r.code.size ≤ 1000 ∧ r.text.size ≤ 1000) {s : List UInt8} {i e : Int} (h : printP chkR ucmL l = (s, i, e)) :
    ∀ w, Below w0.heap.size w0 w → Calls Tryz.prog 20 #[.slice A l.length c] w fun x w' => x = .returned (.tuple #[.string ⟨s.toArray⟩, .int .i64 i, .int .i64 e]) ∧ Below w0.heap.size w0 w' := fun w hb => by
  have hO2 := hO.keep hb
  have hc := printUcm_any A c l w (hR.keep hb) hn hS hO2.ok.tabs hO2.tz hO2.lt
  rw [h] at hc
  exact hc.mono fun _ _ ⟨h1, h2⟩ => ⟨h1, hb.trans (h2.mono hb.size)⟩
theorem uni_at (w0 : World) (hO : OkP w0) (A : Option Addr) (c : Nat) (l : List RowV) (hR : RowsAt w0 A l) (hn : l.length ≤ 1000) (hS : ∀ r ∈ l, r.code.size ≤ 1000 ∧ r.text.size ≤ 1000) {s : List UInt8} {i e : Int} (h : printP chkN uniL l = (s, i, e)) :
    ∀ w, Below w0.heap.size w0 w → Calls Tryz.prog 21 #[.slice A l.length c] w fun x w' => x = .returned (.tuple #[.string ⟨s.toArray⟩, .int .i64 i, .int .i64 e]) ∧ Below w0.heap.size w0 w' := fun w hb => by
  have hO2 := hO.keep hb
  have hc := printUni_any A c l w (hR.keep hb) hn hS hO2.ok.tabs hO2.tz hO2.lt
  rw [h] at hc
  exact hc.mono fun _ _ ⟨h1, h2⟩ => ⟨h1, hb.trans (h2.mono hb.size)⟩
theorem awake_at (w0 : World) (hO : OkP w0) : ∀ w, Below w0.heap.size w0 w → Calls Tryz.prog 10 #[] w fun x w' => x = .returned (.bool true) ∧ Below w0.heap.size w0 w' := fun w hb =>
  (awake_any w (hO.ok.keep hb)).mono fun _ _ ⟨h1, h2⟩ => ⟨h1, hb.trans (h2.mono hb.size)⟩
theorem ba_size (l : List UInt8) : (⟨l.toArray⟩ : ByteArray).size = l.length := by show l.toArray.size = _; simp
set_option maxRecDepth 100000 in
set_option maxHeartbeats 1600000 in
theorem mapfileBack_law {w : World} (hO : OkP w) (A : Option Addr) (c : Nat) (l : List RowV) (hR : RowsAt w A l) (hn : l.length ≤ 1000000000000000) (hS : ∀ r ∈ l, r.code.size ≤ maxLen ∧ r.text.size ≤ maxLen) :
    Calls Tryz.prog 7 #[.slice A l.length c] w fun e w' => e = .returned (.bool true) ∧ Below w.heap.size w w' := by
  have HF := Lib.hid (few_at A c l w hR hn hS)
  have HAW := Lib.hid (awake_at w hO)
  cases hfw : fewR l
  · rw [hfw] at HF
    clear hfw hR hn hS hO
    go_enter Tryz.func7, Tryz.ntmps7
    go_wp2_with fail
    refine HF.out.mono ?_
    rintro _ _ ⟨rfl, rfl⟩
    go_wp2_with fail
    refine (HAW.out w (Below.refl _ _)).mono ?_
    rintro _ w1 ⟨rfl, hb1⟩
    have HB1 := Lib.hid hb1
    clear hb1
    go_wp2_with fail
    go_returns
    exact ⟨rfl, HB1.out⟩
  rw [hfw] at HF
  obtain ⟨hl40, hs2⟩ := fewR_facts hfw
  have hs3 : ∀ r ∈ l, r.code.size ≤ 1000 ∧ r.text.size ≤ 1000 := fun r hr => by have := hs2 r hr; omega
  by_cases hok : ∀ r ∈ l, chkR r = 0
  · have hP := printP_ok chkR ucmL l hok
    have HPR := Lib.hid (ucm_at w hO A c l hR (by omega) hs3 hP)
    have hlen := flat_len (f := chkR) (line := ucmL) (fun r h => ucmL_len h) l hok
    have hrb := back_ucm l (by omega) hok
    obtain ⟨S, hSd⟩ : ∃ S : ByteArray, (⟨(l.flatMap ucmL).toArray⟩ : ByteArray) = S := ⟨_, rfl⟩
    have hSs : S.size ≤ 1000000 := by rw [← hSd, ba_size]; omega
    have HRD := Lib.hid (mapC_at w hO.ok hSs (l := l.map toL) (i := 0) (e := 0) (by rw [← hSd]; exact hrb))
    rw [hSd] at HPR
    have hlm : (l.map toL).length = l.length := List.length_map ..
    have HRR := Lib.hid (rdR_of hR hok)
    have HAL : Hid (∀ w1, Below w.heap.size w w1 → ∀ A1 c1, RdR w1 A1 (l.map toL) → Calls Tryz.prog 16 #[.slice A1 l.length c1, .slice A l.length c] w1 fun e w' => e = .returned (.bool true) ∧ Below w.heap.size w w') := Lib.hid fun w1 hb A1 c1 h1 => by
      have h := alike_at w A1 A c1 c (l.map toL) (by rw [hlm]; omega) w1 hb h1 (HRR.out.keep hb)
      rw [hlm] at h
      exact h
    by_cases hokn : ∀ r ∈ l, chkN r = 0
    · have hPN := printP_ok chkN uniL l hokn
      have HPN := Lib.hid (uni_at w hO A c l hR (by omega) hs3 hPN)
      have hlenN := flat_len (f := chkN) (line := uniL) (fun r h => uniL_len (chkN_ok.1 h).1) l hokn
      have hrbN := back_uni l (by omega) hokn
      obtain ⟨T, hTd⟩ : ∃ T : ByteArray, (⟨(l.flatMap uniL).toArray⟩ : ByteArray) = T := ⟨_, rfl⟩
      have hTs : T.size ≤ 1000000 := by rw [← hTd, ba_size]; omega
      have HRN := Lib.hid (mapU_at w hO.ok hTs (l := l.map toL) (i := 0) (e := 0) (by rw [← hTd]; exact hrbN))
      rw [hTd] at HPN
      clear hfw hR hn hS hO hl40 hs2 hs3 hok hP hlen hrb hSd hSs hokn hPN hlenN hrbN hTd hTs
      go_enter Tryz.func7, Tryz.ntmps7
      go_wp2_with fail
      refine HF.out.mono ?_
      rintro _ _ ⟨rfl, rfl⟩
      go_wp2_with fail
      refine (HPR.out w (Below.refl _ _)).mono ?_
      rintro _ w1 ⟨rfl, hb1⟩
      have HB1 := Lib.hid hb1
      clear hb1
      go_wp2_with fail
      refine (HRD.out w1 HB1.out).mono ?_
      rintro _ w2 ⟨A2, c2, rfl, hr2, _, hb2⟩
      have HB2 := Lib.hid (HB1.out.trans (hb2.mono HB1.out.size))
      rw [hlm]
      have HAL2 := Lib.hid (HAL.out w2 HB2.out A2 c2 hr2)
      clear hr2 hb2
      go_wp2_with fail
      refine HAL2.out.mono ?_
      rintro _ w3 ⟨rfl, hb3⟩
      have HB3 := Lib.hid hb3
      clear hb3
      go_wp2_with fail
      refine (HPN.out w3 HB3.out).mono ?_
      rintro _ w4 ⟨rfl, hb4⟩
      have HB4 := Lib.hid hb4
      clear hb4
      go_wp2_with fail
      refine (HRN.out w4 HB4.out).mono ?_
      rintro _ w5 ⟨A5, c5, rfl, hr5, _, hb5⟩
      have HB5 := Lib.hid (HB4.out.trans (hb5.mono HB4.out.size))
      rw [hlm]
      have HAL5 := Lib.hid (HAL.out w5 HB5.out A5 c5 hr5)
      clear hr5 hb5
      go_wp2_with fail
      refine HAL5.out.mono ?_
      rintro _ w6 ⟨rfl, hb6⟩
      have HB6 := Lib.hid hb6
      clear hb6
      go_wp2_with fail
      refine (HAW.out w6 HB6.out).mono ?_
      rintro _ w7 ⟨rfl, hb7⟩
      have HB7 := Lib.hid hb7
      clear hb7
      go_wp2_with fail
      go_returns
      exact ⟨rfl, HB7.out⟩
    · obtain ⟨hPN, hne⟩ := printP_bad chkN uniL l hokn
      obtain ⟨I, hI⟩ : ∃ I, (firstBad chkN 0 l).1 = I := ⟨_, rfl⟩
      obtain ⟨E, hE⟩ : ∃ E, (firstBad chkN 0 l).2 = E := ⟨_, rfl⟩
      rw [hI, hE] at hPN
      rw [hE] at hne
      have HPN := Lib.hid (uni_at w hO A c l hR (by omega) hs3 hPN)
      have hE1 : (E == 0) = false := by simpa using hne
      clear hfw hR hn hS hO hl40 hs2 hs3 hok hP hlen hrb hSd hSs hokn hPN hI hE hne
      go_enter Tryz.func7, Tryz.ntmps7
      go_wp2_with fail
      refine HF.out.mono ?_
      rintro _ _ ⟨rfl, rfl⟩
      go_wp2_with fail
      refine (HPR.out w (Below.refl _ _)).mono ?_
      rintro _ w1 ⟨rfl, hb1⟩
      have HB1 := Lib.hid hb1
      clear hb1
      go_wp2_with fail
      refine (HRD.out w1 HB1.out).mono ?_
      rintro _ w2 ⟨A2, c2, rfl, hr2, _, hb2⟩
      have HB2 := Lib.hid (HB1.out.trans (hb2.mono HB1.out.size))
      rw [hlm]
      have HAL2 := Lib.hid (HAL.out w2 HB2.out A2 c2 hr2)
      clear hr2 hb2
      go_wp2_with fail
      refine HAL2.out.mono ?_
      rintro _ w3 ⟨rfl, hb3⟩
      have HB3 := Lib.hid hb3
      clear hb3
      go_wp2_with fail
      refine (HPN.out w3 HB3.out).mono ?_
      rintro _ w4 ⟨rfl, hb4⟩
      have HB4 := Lib.hid hb4
      clear hb4
      go_wp2_with fail
      refine (HAW.out w4 HB4.out).mono ?_
      rintro _ w7 ⟨rfl, hb7⟩
      have HB7 := Lib.hid hb7
      clear hb7
      go_wp2_with fail
      go_returns
      exact ⟨rfl, HB7.out⟩
  · obtain ⟨hP, hneR⟩ := printP_bad chkR ucmL l hok
    obtain ⟨hPN, hneN⟩ := printP_bad chkN uniL l (fun h => hok fun r hr => (chkN_ok.1 (h r hr)).1)
    obtain ⟨I, hI⟩ : ∃ I, (firstBad chkN 0 l).1 = I := ⟨_, rfl⟩
    obtain ⟨E, hE⟩ : ∃ E, (firstBad chkN 0 l).2 = E := ⟨_, rfl⟩
    obtain ⟨J, hJ⟩ : ∃ J, (firstBad chkR 0 l).1 = J := ⟨_, rfl⟩
    obtain ⟨G, hG⟩ : ∃ G, (firstBad chkR 0 l).2 = G := ⟨_, rfl⟩
    rw [hI, hE] at hPN
    rw [hE] at hneN
    rw [hJ, hG] at hP
    rw [hG] at hneR
    have HPN := Lib.hid (uni_at w hO A c l hR (by omega) hs3 hPN)
    have HPR := Lib.hid (ucm_at w hO A c l hR (by omega) hs3 hP)
    have hE1 : (E == 0) = false := by simpa using hneN
    have hG1 : (G == 0) = false := by simpa using hneR
    clear hfw hR hn hS hO hl40 hs2 hs3 hok hP hPN hI hE hJ hG hneN hneR
    go_enter Tryz.func7, Tryz.ntmps7
    go_wp2_with fail
    refine HF.out.mono ?_
    rintro _ _ ⟨rfl, rfl⟩
    go_wp2_with fail
    refine (HPR.out w (Below.refl _ _)).mono ?_
    rintro _ w1 ⟨rfl, hb1⟩
    have HB1 := Lib.hid hb1
    clear hb1
    go_wp2_with fail
    refine (HPN.out w1 HB1.out).mono ?_
    rintro _ w4 ⟨rfl, hb4⟩
    have HB4 := Lib.hid hb4
    clear hb4
    go_wp2_with fail
    refine (HAW.out w4 HB4.out).mono ?_
    rintro _ w7 ⟨rfl, hb7⟩
    have HB7 := Lib.hid hb7
    clear hb7
    go_wp2_with fail
    go_returns
    exact ⟨rfl, HB7.out⟩
end Go.Proofs.YtopaoejapnakiaaGreatDoor.Mf
