/- Walks: single.From on what was printed; the law SingleFrom. -/
import Derived.Test.YtkfjmcidcnpijaaGreatDoorUn
import Derived.Test.YtkfjmcidcnpijaaGreatDoorNl
import Derived.Test.YtkfjmcidcnpijaaGreatDoorGJ
import Derived.Test.YtkfjmcidcnpijaaGreatDoorT11
import Derived.Test.YtkfjmcidcnpijaaGreatDoorSNf
namespace Go.Proofs.YtkfjmcidcnpijaaGreatDoor.Sg
open Go.RowKit Pl Go.Lib

/-- A row as the printing's texts have it, and back. -/
def toM (r : RowV) : Mf.RowV := ⟨r.code, r.text, r.flag⟩
def toS (r : Mf.RowV) : RowV := ⟨r.code, r.text, r.flag⟩
theorem toMS (l : List Mf.RowV) : (l.map toS).map toM = l := by
  rw [List.map_map]
  exact List.map_id'' (fun _ => rfl) l
theorem rowsM {w : World} {A : Option Addr} {l : List RowV} (h : RowsAt w A l) : Mf.RowsAt w A (l.map toM) := by
  intro hne
  obtain ⟨b, o, e, hb, hc⟩ := h (by intro h0; rw [h0] at hne; exact hne rfl)
  refine ⟨b, o, e, hb, fun i hi => ?_⟩
  have := hc i (by simpa using hi)
  rw [List.getElem_map]
  exact this
theorem rowsS {w : World} {A : Option Addr} {l : List Mf.RowV} (h : Mf.RowsAt w A l) : RowsAt w A (l.map toS) := by
  intro hne
  obtain ⟨b, o, e, hb, hc⟩ := h (by intro h0; rw [h0] at hne; exact hne rfl)
  refine ⟨b, o, e, hb, fun i hi => ?_⟩
  have := hc i (by simpa using hi)
  rw [List.getElem_map]
  exact this
theorem rowsL {w : World} {A : Option Addr} {l : List RowV} (h : Mf.RdR w A ((l.map toM).map Mf.toL)) (hl : ∀ r ∈ l.map toM, Mf.chkR r = 0) : RowsAt w A l := by
  intro hne
  obtain ⟨b, o, e, hb, hc⟩ := h (by rw [List.length_map, List.length_map]; exact List.length_pos_iff.2 hne)
  refine ⟨b, o, e, hb, fun i hi => ?_⟩
  have := hc i (by simpa using hi)
  obtain ⟨e1, e2⟩ := Mf.row_back (hl (toM l[i]) (List.mem_map.2 ⟨_, List.getElem_mem hi, rfl⟩))
  rw [List.getElem_map, List.getElem_map, e1, e2] at this
  exact this
set_option maxRecDepth 100000 in
set_option maxHeartbeats 1600000 in
theorem from_any (l : List RowV) (hn : l.length ≤ 40) (hS : ∀ r ∈ l, r.code.size ≤ 200 ∧ r.text.size ≤ 200) (hl : ∀ r ∈ l.map toM, Mf.chkN r = 0) (w : World) (hO : Mf.Okw w) :
    Calls Tryz.prog 8 #[smallI, .string ⟨((l.map toM).flatMap Mf.uniL).toArray⟩] w (SNewP w l) := by
  have hlc : ∀ r ∈ l.map toM, Mf.chkR r = 0 := fun r hr => (Mf.chkN_ok.1 (hl r hr)).1
  have hr := Mf.back_uni (l.map toM) (by rw [List.length_map]; omega) hl
  have hz : ((l.map toM).flatMap Mf.uniL).length ≤ 16000 := by
    have := Mf.flat_len (f := Mf.chkN) (line := Mf.uniL) (fun r h => Mf.uniL_len (Mf.chkN_ok.1 h).1) (l.map toM) hl
    rw [List.length_map] at this
    omega
  have hz2 : (⟨((l.map toM).flatMap Mf.uniL).toArray⟩ : ByteArray).size ≤ 1000000 := by
    show ((l.map toM).flatMap Mf.uniL).toArray.size ≤ _
    rw [List.size_toArray]; omega
  have HU := Lib.hid (Mf.mapU_any _ hz2 w hO)
  have e0 : (⟨((l.map toM).flatMap Mf.uniL).toArray⟩ : ByteArray).data.toList = (l.map toM).flatMap Mf.uniL := rfl
  unfold Mf.ReadP at HU
  rw [e0] at HU
  simp only [hr] at HU
  have HN : Hid (∀ w1 A c, Below w.heap.size w w1 → Mf.RdR w1 A ((l.map toM).map Mf.toL) → Calls Tryz.prog 15 #[smallI, .slice A l.length c] w1 (SNewP w1 l)) := Lib.hid fun w1 A c hb hrd =>
    singleNew_any A c l w1 (rowsL hrd hlc) (by omega) (fun r hr => by have := hS r hr; omega) (tabs_of (hO.keep hb).tabs)
  have hll : ((l.map toM).map Mf.toL).length = l.length := by rw [List.length_map, List.length_map]
  generalize (⟨((l.map toM).flatMap Mf.uniL).toArray⟩ : ByteArray) = s at *
  generalize (l.map toM).map Mf.toL = L at *
  clear hO hz hz2 hr hl hlc hS hn e0
  unfold SNewP at *
  generalize wrong18 (l.map plainR) = Y at *
  go_enter Tryz.func8, Tryz.ntmps8
  go_wp2_with fail
  refine HU.out.mono ?_
  rintro _ w1 ⟨v, rfl, h1, hb⟩
  obtain ⟨A, c, rfl, hrd, _⟩ := Mf.Rows.rd (show Mf.Rows _ _ _ L from h1)
  rw [hll]
  have HB := Lib.hid hb
  have HN1 := Lib.hid (HN.out w1 A c hb hrd)
  clear h1 hb hrd HN
  go_wp2_with fail
  refine HN1.out.mono ?_
  rintro e w2 ⟨hb2, h0, h1⟩
  have HB2 := Lib.hid (HB.out.trans (hb2.mono HB.out.size))
  clear hb2
  by_cases hy : Y.2 = 0
  · obtain ⟨tb, rfl, htab⟩ := h1 hy
    have HTB := Lib.hid htab
    have HY := Lib.hid hy
    clear h0 h1 htab hy
    go_wp2_with fail
    go_returns
    exact ⟨HB2.out, fun h => absurd HY.out h, fun _ => ⟨tb, rfl, HTB.out⟩⟩
  · obtain rfl := h0 hy
    have HY := Lib.hid hy
    clear h0 h1 hy
    go_wp2_with fail
    go_returns
    exact ⟨HB2.out, fun _ => rfl, fun h => absurd h HY.out⟩
theorem few_facts {l : List RowV} (h : fewR l = true) : l.length ≤ 40 ∧ ∀ r ∈ l, r.code.size ≤ 200 ∧ r.text.size ≤ 200 := by
  unfold fewR at h
  rw [Bool.and_eq_true, List.all_eq_true, decide_eq_true_eq] at h
  refine ⟨h.2, fun r hr => ?_⟩
  have h1 := h.1 r hr
  rw [Bool.and_eq_true, decide_eq_true_eq, decide_eq_true_eq] at h1
  exact h1
theorem unl_self (l : List RowV) : (List.range 256).filter (unl l l) = [] := by
  rw [List.filter_eq_nil_iff]
  intro n _
  unfold unl
  simp
theorem unl_ref (l m : List RowV) (hl : ∀ q ∈ l, wrong13 (plainR q) = 0) (hm : ∀ q ∈ m, wrong13 (plainR q) = 0) : (List.range 256).filter (unlR (l.map plainR) (m.map plainR)) = (List.range 256).filter (unl l m) := by
  refine List.filter_congr fun n hn => ?_
  have hn : n < 256 := List.mem_range.1 hn
  have e : (UInt8.ofNat n).toNat = n := UInt8.toNat_ofNat_of_lt' (by show n < 256; exact hn)
  have h1 := tx_eq l hl (UInt8.ofNat n)
  have h2 := tx_eq m hm (UInt8.ofNat n)
  rw [e] at h1 h2
  unfold unlR unl
  rw [h1, h2]
theorem unl_lt (P : Nat → Bool) : ∀ n ∈ (List.range 256).filter P, n < 256 := fun _n hn => List.mem_range.1 (List.mem_filter.1 hn).1
set_option maxRecDepth 100000 in
set_option maxHeartbeats 12800000 in
theorem singleFrom_law {w : World} (hO : Mf.OkP w) (A : Option Addr) (c : Nat) (l : List RowV) (hR : RowsAt w A l) (hn : l.length ≤ 1000000000000000) (hS : ∀ r ∈ l, r.code.size ≤ maxLen ∧ r.text.size ≤ maxLen)
    (A2 : Option Addr) (c2 : Nat) (m : List RowV) (hR2 : RowsAt w A2 m) (hn2 : m.length ≤ 1000000000000000) (hS2 : ∀ r ∈ m, r.code.size ≤ maxLen ∧ r.text.size ≤ maxLen) :
    Calls Tryz.prog 4 #[.slice A l.length c, .slice A2 m.length c2] w fun e w' => e = .returned (.bool true) ∧ Below w.heap.size w w' := by
  have HOK := Lib.hid hO
  have HR := Lib.hid hR
  have HR2 := Lib.hid hR2
  have HF := Lib.hid (few_any A c l w hR hn hS)
  have HF2 := Lib.hid (few_any A2 c2 m w hR2 hn2 hS2)
  have HAW := Lib.hid (fun (w' : World) (hb : Below w.heap.size w w') => awake18_any w' (tabs_of (hO.keep hb).ok.tabs))
  have HSM := Lib.hid (fun w => small17_any w)
  clear hO hR hS hn hR2 hS2 hn2
  go_enter Tryz.func4, Tryz.ntmps4
  have HAW0 := Lib.hid (HAW.out w (Below.refl _ _))
  cases hf : fewR l
  · rw [hf] at HF
    clear hf
    go_wp2_with fail
    refine HF.out.mono ?_
    rintro _ _ ⟨rfl, rfl⟩
    go_wp2_with fail
    refine HAW0.out.mono ?_
    rintro _ w3 ⟨rfl, hb3⟩
    have HB3 := Lib.hid hb3
    clear hb3
    go_wp2_with fail
    go_returns
    exact ⟨rfl, HB3.out⟩
  rw [hf] at HF
  obtain ⟨hfn, hfs⟩ := few_facts hf
  clear hf
  cases hf2 : fewR m
  · rw [hf2] at HF2
    clear hf2 hfs
    go_wp2_with fail
    refine HF.out.mono ?_
    rintro _ _ ⟨rfl, rfl⟩
    go_wp2_with fail
    refine HF2.out.mono ?_
    rintro _ _ ⟨rfl, rfl⟩
    go_wp2_with fail
    refine HAW0.out.mono ?_
    rintro _ w3 ⟨rfl, hb3⟩
    have HB3 := Lib.hid hb3
    clear hb3
    go_wp2_with fail
    go_returns
    exact ⟨rfl, HB3.out⟩
  rw [hf2] at HF2
  obtain ⟨hgn, hgs⟩ := few_facts hf2
  have HFS := Lib.hid hfs
  have HGS := Lib.hid hgs
  have HPU := Lib.hid (Mf.printUni_any A c (l.map toM) w (rowsM HR.out) (by rw [List.length_map]; omega) (fun r hr => by
    obtain ⟨q, hq, rfl⟩ := List.mem_map.1 hr
    have := hfs q hq
    exact ⟨by show q.code.size ≤ _; omega, by show q.text.size ≤ _; omega⟩) HOK.out.ok.tabs HOK.out.tz HOK.out.lt)
  rw [List.length_map] at HPU
  clear hf2 hfs hgs
  by_cases hall : ∀ r ∈ l.map toM, Mf.chkN r = 0
  rotate_left
  · obtain ⟨hp, hp2⟩ := Mf.printP_bad Mf.chkN Mf.uniL (l.map toM) hall
    rw [hp] at HPU
    generalize Mf.firstBad Mf.chkN 0 (l.map toM) = X at *
    have x1 : (X.2 != 0) = true := by simp [hp2]
    clear hp hp2 hall
    go_wp2_with fail
    refine HF.out.mono ?_
    rintro _ _ ⟨rfl, rfl⟩
    go_wp2_with fail
    refine HF2.out.mono ?_
    rintro _ _ ⟨rfl, rfl⟩
    go_wp2_with fail
    refine HPU.out.mono ?_
    rintro _ w1 ⟨rfl, hb1⟩
    have HB1 := Lib.hid hb1
    clear hb1
    go_wp2_with fail
    refine (HAW.out _ HB1.out).mono ?_
    rintro _ w3 ⟨rfl, hb3⟩
    have HB3 := Lib.hid (HB1.out.trans (hb3.mono HB1.out.size))
    clear hb3
    go_wp2_with fail
    go_returns
    exact ⟨rfl, HB3.out⟩
  rw [Mf.printP_ok Mf.chkN Mf.uniL (l.map toM) hall] at HPU
  have HFR := Lib.hid (fun (w' : World) (hb : Below w.heap.size w w') => from_any l hfn HFS.out hall w' (HOK.out.keep hb).ok)
  have HPU : Hid (Calls Tryz.prog 14 #[.slice A l.length c] w fun e w' => e = .returned (.tuple #[.string ⟨((l.map toM).flatMap Mf.uniL).toArray⟩, .int .i64 0, .int .i64 0]) ∧ Below w.heap.size w w') := HPU
  generalize (⟨((l.map toM).flatMap Mf.uniL).toArray⟩ : ByteArray) = s at *
  have HNL := Lib.hid (fun (w' : World) (hb : Below w.heap.size w w') => singleNew_any A c l w' (HR.out.keep hb) (by omega) (fun r hr => by have := HFS.out r hr; omega) (tabs_of (HOK.out.keep hb).ok.tabs))
  have HNM := Lib.hid (fun (w' : World) (hb : Below w.heap.size w w') => singleNew_any A2 c2 m w' (HR2.out.keep hb) (by omega) (fun r hr => by have := HGS.out r hr; omega) (tabs_of (HOK.out.keep hb).ok.tabs))
  have hqn : ∀ w, (binOp .eql 23 (.pointer none) (.pointer none)).run Tryz.prog w = .ok (.bool true) w := fun _ => rfl
  clear hall
  go_wp2_with fail
  refine HF.out.mono ?_
  rintro _ _ ⟨rfl, rfl⟩
  go_wp2_with fail
  refine HF2.out.mono ?_
  rintro _ _ ⟨rfl, rfl⟩
  go_wp2_with fail
  refine HPU.out.mono ?_
  rintro _ w1 ⟨rfl, hb1⟩
  have HB1 := Lib.hid hb1
  clear hb1 HPU HF HF2
  go_wp2_with fail
  refine (HSM.out _).mono ?_
  rintro _ _ ⟨rfl, rfl⟩
  have HFR1 := Lib.hid (HFR.out w1 HB1.out)
  clear HFR
  go_wp2_with fail
  refine HFR1.out.mono ?_
  rintro e w2 ⟨hb2, p0, p1⟩
  have HB2 := Lib.hid (HB1.out.trans (hb2.mono HB1.out.size))
  have HNL2 := Lib.hid (HNL.out w2 HB2.out)
  obtain ⟨Y, hY⟩ : ∃ Y, wrong18 (l.map plainR) = Y := ⟨_, rfl⟩
  unfold SNewP at HNL2
  rw [hY] at p0 p1 HNL2
  clear hb2 HNL hY HFR1
  by_cases hy : Y.2 = 0
  rotate_left
  · obtain rfl := p0 hy
    have x1 : (Y.2 != 0) = true := by simp [hy]
    go_wp2_with fail
    refine (HSM.out _).mono ?_
    rintro _ _ ⟨rfl, rfl⟩
    go_wp2_with fail
    refine HNL2.out.mono ?_
    rintro e w3 ⟨hb3, q0, q1⟩
    obtain rfl := q0 hy
    have HB3 := Lib.hid (HB2.out.trans (hb3.mono HB2.out.size))
    clear q0 q1 p0 p1 hb3 hy
    go_wp2_with fail
    refine (HAW.out _ HB3.out).mono ?_
    rintro _ w4 ⟨rfl, hb4⟩
    have HB4 := Lib.hid (HB3.out.trans (hb4.mono HB3.out.size))
    clear hb4
    go_wp2_with fail
    go_returns
    exact ⟨rfl, HB4.out⟩
  obtain ⟨ta, rfl, hta⟩ := p1 hy
  have HTA := Lib.hid hta
  clear p0 p1 hta
  go_wp2_with fail
  refine (HSM.out _).mono ?_
  rintro _ _ ⟨rfl, rfl⟩
  go_wp2_with fail
  refine HNL2.out.mono ?_
  rintro e w3 ⟨hb3, q0, q1⟩
  obtain ⟨tb, rfl, htb⟩ := q1 hy
  have HB3 := Lib.hid (HB2.out.trans (hb3.mono HB2.out.size))
  have HTA3 := Lib.hid (HTA.out.keep hb3)
  have HTB := Lib.hid htb
  have hqa : ∀ w, (binOp .eql 23 (.pointer (some ⟨ta, 0, none⟩)) (.pointer none)).run Tryz.prog w = .ok (.bool false) w := fun _ => rfl
  have hqb : ∀ w, (binOp .eql 23 (.pointer (some ⟨tb, 0, none⟩)) (.pointer none)).run Tryz.prog w = .ok (.bool false) w := fun _ => rfl
  have HU1 := Lib.hid (unlikeT_any ta tb l l w3 HTA3.out HTB.out)
  rw [unl_self] at HU1
  clear q0 q1 hb3 htb HTA hy HNL2
  go_wp2_with fail
  refine HU1.out.mono ?_
  rintro _ w4 ⟨v4, rfl, ho4, hb4⟩
  obtain ⟨A4, c4, rfl⟩ := Mf.own_shapeN ho4
  have HB4 := Lib.hid (HB3.out.trans (hb4.mono HB3.out.size))
  have HTA4 := Lib.hid (HTA3.out.keep hb4)
  have HTB4 := Lib.hid (HTB.out.keep hb4)
  have HU2 := Lib.hid (unlikeT_any tb ta l l w4 HTB4.out HTA4.out)
  rw [unl_self] at HU2
  clear ho4 hb4 HU1 HTA3 HTB
  go_wp2_with fail
  refine HU2.out.mono ?_
  rintro _ w5 ⟨v5, rfl, ho5, hb5⟩
  obtain ⟨A5, c5, rfl⟩ := Mf.own_shapeN ho5
  have HB5 := Lib.hid (HB4.out.trans (hb5.mono HB4.out.size))
  have HTA5 := Lib.hid (HTA4.out.keep hb5)
  have HNM5 := Lib.hid (HNM.out w5 HB5.out)
  obtain ⟨Z, hZ⟩ : ∃ Z, wrong18 (m.map plainR) = Z := ⟨_, rfl⟩
  unfold SNewP at HNM5
  rw [hZ] at HNM5
  clear ho5 hb5 HU2 HTA4 HTB4 hZ HNM
  go_wp2_with fail
  refine (HSM.out _).mono ?_
  rintro _ _ ⟨rfl, rfl⟩
  go_wp2_with fail
  refine HNM5.out.mono ?_
  rintro e w6 ⟨hb6, r0, r1⟩
  have HB6 := Lib.hid (HB5.out.trans (hb6.mono HB5.out.size))
  have HTA6 := Lib.hid (HTA5.out.keep hb6)
  by_cases hz : Z.2 = 0
  rotate_left
  · obtain rfl := r0 hz
    have x2 : (Z.2 != 0) = true := by simp [hz]
    clear r0 r1 hb6 hz
    go_wp2_with fail
    refine (HAW.out _ HB6.out).mono ?_
    rintro _ w7 ⟨rfl, hb7⟩
    have HB7 := Lib.hid (HB6.out.trans (hb7.mono HB6.out.size))
    clear hb7
    go_wp2_with fail
    go_returns
    exact ⟨rfl, HB7.out⟩
  obtain ⟨tc, rfl, htc⟩ := r1 hz
  have HTC6 := Lib.hid htc
  have hqc : ∀ w, (binOp .eql 23 (.pointer (some ⟨tc, 0, none⟩)) (.pointer none)).run Tryz.prog w = .ok (.bool false) w := fun _ => rfl
  have HPL := Lib.hid (plain17_any A c l w6 (HR.out.keep HB6.out) (by omega) (fun r hr => by have := HFS.out r hr; omega))
  have hml : (l.map plainR).length = l.length := List.length_map _
  have hmm : (m.map plainR).length = m.length := List.length_map _
  have hrf1 := unl_ref l m HTA6.out.valid HTC6.out.valid
  have hsy : (List.range 256).filter (unl m l) = (List.range 256).filter (unl l m) := List.filter_congr fun n _ => by unfold unl; exact bne_comm
  have HLT := Lib.hid (unl_lt (unl l m))
  clear r0 r1 hb6 htc hz HNM5 HTA5
  go_wp2_with fail
  refine HPL.out.mono ?_
  rintro _ w7 ⟨v7, rfl, hrf7, hb7⟩
  obtain ⟨A7, c7, rfl, hra7⟩ := hrf7.read
  have HB7 := Lib.hid (HB6.out.trans (hb7.mono HB6.out.size))
  have HRA7 := Lib.hid hra7
  have HTA7 := Lib.hid (HTA6.out.keep hb7)
  have HTC7 := Lib.hid (HTC6.out.keep hb7)
  have HPM := Lib.hid (plain17_any A2 c2 m w7 (HR2.out.keep HB7.out) (by omega) (fun r hr => by have := HGS.out r hr; omega))
  rw [hml]
  clear hrf7 hra7 hb7 HPL HTA6 HTC6
  go_wp2_with fail
  refine HPM.out.mono ?_
  rintro _ w8 ⟨v8, rfl, hrf8, hb8⟩
  obtain ⟨A8, c8, rfl, hra8⟩ := hrf8.read
  have HB8 := Lib.hid (HB7.out.trans (hb8.mono HB7.out.size))
  have HRA8 := Lib.hid hra8
  have HRA7b := Lib.hid (HRA7.out.keep hb8)
  have HTA8 := Lib.hid (HTA7.out.keep hb8)
  have HTC8 := Lib.hid (HTC7.out.keep hb8)
  have HU8 := Lib.hid (unlikeT_any ta tc l m w8 HTA8.out HTC8.out)
  have HUR : Hid (∀ w', Below w8.heap.size w8 w' → Calls Tryz.prog 18 #[.slice A7 l.length c7, .slice A8 m.length c8] w' (BytesPost w' ((List.range 256).filter (unl l m)))) := Lib.hid fun w' hb => by
    have h := unlikeR_any A7 c7 (l.map plainR) A8 c8 (m.map plainR) w' (HRA7b.out.keep hb) (HRA8.out.keep hb) (by omega) (by omega)
    rw [hrf1, hml, hmm] at h
    exact h
  rw [hmm]
  clear hrf8 hra8 hb8 HPM HTA7 HTC7 hrf1
  obtain ⟨F, hF⟩ : ∃ F, (List.range 256).filter (unl l m) = F := ⟨_, rfl⟩
  rw [hF] at HU8 HUR HLT hsy
  clear hF
  go_wp2_with fail
  refine HU8.out.mono ?_
  rintro _ w9 ⟨v9, rfl, ho9, hb9⟩
  have HB9 := Lib.hid (HB8.out.trans (hb9.mono HB8.out.size))
  have HO9 := Lib.hid ho9
  have HUR9 := Lib.hid (HUR.out w9 hb9)
  have HB89 := Lib.hid hb9
  clear ho9 hb9 HU8
  go_wp2_with fail
  refine HUR9.out.mono ?_
  rintro _ wa ⟨va, rfl, hoa, hba⟩
  have HBa := Lib.hid (HB9.out.trans (hba.mono HB9.out.size))
  have HB8a := Lib.hid (HB89.out.trans (hba.mono HB89.out.size))
  have HEQ := Lib.hid (bytesEq_any _ _ v9 va F wa (own_below HO9.out hba) hoa HLT.out)
  clear hoa hba HUR9 HO9
  go_wp2_with fail
  refine HEQ.out.mono ?_
  rintro _ _ ⟨rfl, rfl⟩
  have HUa := Lib.hid (unlikeT_any tc ta m l wa (HTC8.out.keep HB8a.out) (HTA8.out.keep HB8a.out))
  rw [hsy] at HUa
  clear HEQ
  go_wp2_with fail
  refine HUa.out.mono ?_
  rintro _ wb ⟨vb, rfl, hob, hbb⟩
  have HBb := Lib.hid (HBa.out.trans (hbb.mono HBa.out.size))
  have HOb := Lib.hid hob
  have HURb := Lib.hid (HUR.out wb (HB8a.out.trans (hbb.mono HB8a.out.size)))
  clear hob hbb HUa
  go_wp2_with fail
  refine HURb.out.mono ?_
  rintro _ wc ⟨vc, rfl, hoc, hbc⟩
  have HBc := Lib.hid (HBb.out.trans (hbc.mono HBb.out.size))
  have HEQ2 := Lib.hid (bytesEq_any _ _ vb vc F wc (own_below HOb.out hbc) hoc HLT.out)
  clear hoc hbc HURb HOb
  go_wp2_with fail
  refine HEQ2.out.mono ?_
  rintro _ _ ⟨rfl, rfl⟩
  go_wp2_with fail
  refine (HAW.out _ HBc.out).mono ?_
  rintro _ wd ⟨rfl, hbd⟩
  have HBd := Lib.hid (HBc.out.trans (hbd.mono HBc.out.size))
  clear hbd
  go_wp2_with fail
  go_returns
  exact ⟨rfl, HBd.out⟩
end Go.Proofs.YtkfjmcidcnpijaaGreatDoor.Sg
namespace Go.Proofs.YtkfjmcidcnpijaaGreatDoor.Mf
open Go.RowKit Pl Go.Lib
theorem singleFrom_law {w : World} (hO : OkP w) (A : Option Addr) (c : Nat) (l : List RowV) (hR : RowsAt w A l) (hn : l.length ≤ 1000000000000000) (hS : ∀ r ∈ l, r.code.size ≤ maxLen ∧ r.text.size ≤ maxLen)
    (A2 : Option Addr) (c2 : Nat) (m : List RowV) (hR2 : RowsAt w A2 m) (hn2 : m.length ≤ 1000000000000000) (hS2 : ∀ r ∈ m, r.code.size ≤ maxLen ∧ r.text.size ≤ maxLen) :
    Calls Tryz.prog 4 #[.slice A l.length c, .slice A2 m.length c2] w fun e w' => e = .returned (.bool true) ∧ Below w.heap.size w w' := by
  have h := Sg.singleFrom_law hO A c (l.map Sg.toS) (Sg.rowsS hR) (by rw [List.length_map]; exact hn) (fun r hr => by obtain ⟨q, hq, rfl⟩ := List.mem_map.1 hr; exact hS q hq)
    A2 c2 (m.map Sg.toS) (Sg.rowsS hR2) (by rw [List.length_map]; exact hn2) (fun r hr => by obtain ⟨q, hq, rfl⟩ := List.mem_map.1 hr; exact hS2 q hq)
  rw [List.length_map, List.length_map] at h
  exact h
end Go.Proofs.YtkfjmcidcnpijaaGreatDoor.Mf
