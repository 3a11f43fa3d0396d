/- Walk: inkhornlaw18.SingleDecodes returns true. -/
import Derived.Test.YtkphecmdilefgaaDoorG34
namespace Go.Proofs.YtkphecmdilefgaaDoor.Sg
open Go.RowKit Pl Go.Lib

theorem decGo_len (B : UInt8 → List UInt8) (pol : Int) : ∀ (s : List UInt8) (i : Nat), (decGo B pol i s).2.1.length ≤ s.length := by
  intro s
  induction s with
  | nil => intro i; simp [decGo]
  | cons b t ih =>
    intro i
    have h := ih (i + 1)
    unfold decGo
    split
    · simp only [List.length_cons]; omega
    split
    · simp
    · simp only [List.length_cons]; omega
theorem few_facts {l : List RowV} (h : fewR l = true) : l.length ≤ 40 ∧ ∀ r ∈ l, r.code.size ≤ 200 ∧ r.text.size ≤ 200 := by
  unfold fewR at h
  rw [Bool.and_eq_true, List.all_eq_true, decide_eq_true_eq] at h
  refine ⟨h.2, fun r hr => ?_⟩
  have h1 := h.1 r hr
  rw [Bool.and_eq_true, decide_eq_true_eq, decide_eq_true_eq] at h1
  exact h1
theorem plain_fit (l : List RowV) (hS : ∀ r ∈ l, r.code.size ≤ 1048576 ∧ r.text.size ≤ 1048576) : fitR (l.map plainR) := by
  intro x hx
  obtain ⟨r, hr, rfl⟩ := List.mem_map.1 hx
  obtain ⟨h1, h2⟩ := hS r hr
  unfold plainR
  by_cases hv : validD r.text.data.toList = true
  · rw [if_pos hv]
    refine ⟨h1, ?_, fun q hq => ?_⟩
    · have := runesL_le r.text.data.toList
      rw [code_len] at this
      show (runesL r.text.data.toList).length ≤ _
      omega
    · exact runesL_scal _ q hq
  · rw [if_neg hv]
    refine ⟨?_, by show (0 : Nat) ≤ _; omega, fun q hq => by cases hq⟩
    show (0 : Nat) ≤ _
    omega
set_option maxRecDepth 100000 in
set_option maxHeartbeats 6400000 in
theorem singleDecodes_law {w : World} (hT : Tabs w) (A : Option Addr) (c : Nat) (l : List RowV) (hR : RowsAt w A l) (hn : l.length ≤ 1048576) (hS : ∀ r ∈ l, r.code.size ≤ 1048576 ∧ r.text.size ≤ 1048576) (s : ByteArray) (hs : s.size ≤ 1048576) (how : Int) :
    Calls Tryd.prog 3 #[.slice A l.length c, .string s, .int .i64 how] w fun e w' => e = .returned (.bool true) ∧ Below w.heap.size w w' := by
  have HP := Lib.hid (plain17_any A c l w hR hn hS)
  have HT := Lib.hid hT
  have HR := Lib.hid hR
  have HSZ := Lib.hid hS
  have hfit := plain_fit l hS
  have HFIT := Lib.hid hfit
  have hml : (l.map plainR).length = l.length := List.length_map _
  have HFEW := Lib.hid (fun (w' : World) (hb : Below w.heap.size w w') => few_any A c l w' (hR.keep hb) (by omega) (fun r hr => by have := hS r hr; unfold maxLen; omega))
  have HAW := Lib.hid (fun (w' : World) (hb : Below w.heap.size w w') => awake18_any w' (hT.keep hb))
  have HSM := Lib.hid (fun w => small17_any w)
  clear hT hR hS hfit
  go_enter Tryd.func3, Tryd.ntmps3
  go_wp2_with fail
  refine HP.out.mono ?_
  rintro _ w1 ⟨vx, rfl, hrf, hb1⟩
  obtain ⟨Ax, cx, rfl, hra⟩ := hrf.read
  have HRA := Lib.hid hra
  have HB1 := Lib.hid hb1
  have HW := Lib.hid (wrong18_any Ax cx (l.map plainR) w1 hra HFIT.out (by omega))
  clear hrf hra hb1 HP
  obtain ⟨⟨Yn, Ye⟩, hY⟩ : ∃ Y, wrong18 (l.map plainR) = Y := ⟨_, rfl⟩
  rw [hY, hml] at HW
  have HY := Lib.hid hY
  clear hY
  have HW : Hid (Calls Tryd.prog 7 #[.slice Ax l.length cx] w1 fun e w' => e = .returned (.tuple #[.int .i64 Yn, .int .i64 Ye]) ∧ Below w1.heap.size w1 w') := HW
  go_wp2_with fail
  refine HW.out.mono ?_
  rintro _ w2 ⟨rfl, hb2⟩
  have HB2 := Lib.hid (HB1.out.trans (hb2.mono HB1.out.size))
  have HRA2 := Lib.hid (HRA.out.keep hb2)
  clear hb2 HW HRA
  have HF2 := Lib.hid (HFEW.out w2 HB2.out)
  clear HFEW
  cases hf : fewR l
  · rw [hf] at HF2
    clear hf
    go_wp2_with fail
    refine HF2.out.mono ?_
    rintro _ _ ⟨rfl, rfl⟩
    go_wp2_with fail
    refine (HAW.out w2 HB2.out).mono ?_
    rintro _ w3 ⟨rfl, hb3⟩
    have HB3 := Lib.hid (HB2.out.trans (hb3.mono HB2.out.size))
    clear hb3
    go_wp2_with fail
    go_returns
    exact ⟨rfl, HB3.out⟩
  rw [hf] at HF2
  obtain ⟨hfn, hfs⟩ := few_facts hf
  have HFS := Lib.hid hfs
  clear hf hfs
  by_cases hye : Ye = 0
  rotate_left
  · have x1 : (Ye != 0) = true := by simp [hye]
    clear hye
    go_wp2_with fail
    refine HF2.out.mono ?_
    rintro _ _ ⟨rfl, rfl⟩
    go_wp2_with fail
    refine (HAW.out w2 HB2.out).mono ?_
    rintro _ w3 ⟨rfl, hb3⟩
    have HB3 := Lib.hid (HB2.out.trans (hb3.mono HB2.out.size))
    clear hb3
    go_wp2_with fail
    go_returns
    exact ⟨rfl, HB3.out⟩
  subst hye
  by_cases hsz : 300 < s.size
  · have x2 : decide ((300 : Int) < (s.size : Int)) = true := decide_eq_true (by omega)
    clear hsz
    go_wp2_with fail
    refine HF2.out.mono ?_
    rintro _ _ ⟨rfl, rfl⟩
    go_wp2_with fail
    refine (HAW.out w2 HB2.out).mono ?_
    rintro _ w3 ⟨rfl, hb3⟩
    have HB3 := Lib.hid (HB2.out.trans (hb3.mono HB2.out.size))
    clear hb3
    go_wp2_with fail
    go_returns
    exact ⟨rfl, HB3.out⟩
  have x2 : decide ((300 : Int) < (s.size : Int)) = false := decide_eq_false (by omega)
  have HNEW := Lib.hid (singleNew_any A c l w2 (HR.out.keep HB2.out) (by omega) HSZ.out (HT.out.keep HB2.out))
  go_wp2_with fail
  refine HF2.out.mono ?_
  rintro _ _ ⟨rfl, rfl⟩
  go_wp2_with fail
  refine (HSM.out _).mono ?_
  rintro _ _ ⟨rfl, rfl⟩
  go_wp2_with fail
  refine HNEW.out.mono ?_
  rintro e w3 ⟨hb3, _, h1⟩
  obtain ⟨tb, rfl, htab⟩ := h1 (by rw [HY.out])
  have hq : ∀ w, (binOp .eql 30 (.pointer (some ⟨tb, 0, none⟩)) (.pointer none)).run Tryd.prog w = .ok (.bool false) w := fun _ => rfl
  have HB3 := Lib.hid (HB2.out.trans (hb3.mono HB2.out.size))
  have HRA3 := Lib.hid (HRA2.out.keep hb3)
  have HTAB := Lib.hid htab
  have hbx : ∀ b : UInt8, byteS (l.map plainR) b = tx l b.toNat := fun b => (tx_eq l htab.valid b).symm
  have htx : ∀ b : UInt8, (tx l b.toNat).size ≤ 1000 := fun b => tx_le l 1000 (fun r hr => by have := (HFS.out r hr).2; omega) _
  have hfe : (fun b => (byteS (l.map plainR) b).data.toList) = (fun b : UInt8 => (tx l b.toNat).data.toList) := funext fun b => by rw [hbx]
  have HD := Lib.hid (fun (h1 : 1 ≤ how) (h3 : how ≤ 3) => decodeT_any tb l how h1 h3 s w3 htab (by omega) htx)
  have HD2 := Lib.hid (fun (w' : World) (hb : Below w3.heap.size w3 w') => decode18_any Ax cx (l.map plainR) how s w' (HRA3.out.keep hb) (by omega) (by omega) (fun b => by rw [hbx]; exact htx b))
  have HDK := Lib.hid (fun (hp : how < 1 ∨ 3 < how) => decodeT_kind tb how hp s w3)
  have hdl := decGo_len (fun b : UInt8 => (tx l b.toNat).data.toList) how s.data.toList 0
  rw [code_len] at hdl
  rw [hfe] at HD2
  rw [hml] at HD2
  clear hb3 h1 htab hbx htx hfe HNEW HF2
  generalize decGo (fun b : UInt8 => (tx l b.toNat).data.toList) how 0 s.data.toList = D at *
  obtain ⟨Ds, Df, De⟩ := D
  have HDL : Hid (Df.length ≤ 1000000) := Lib.hid (by have h : Df.length ≤ s.size := hdl; omega)
  clear hdl
  by_cases hk : how < 1 ∨ 3 < how
  · have HDK2 := Lib.hid (HDK.out hk)
    have HAW3 := Lib.hid (HAW.out w3 HB3.out)
    have hk2 : how < 1 ∨ (how < 1) = False ∧ 3 < how := by
      by_cases h : how < 1
      · exact .inl h
      · exact .inr ⟨eq_false h, by omega⟩
    clear HD HD2 HDK
    rcases hk2 with h | ⟨h, h2⟩
    · have y1 : decide (how < 1) = true := decide_eq_true h
      clear h hk hsz hfn hn hs
      go_wp2_with fail
      refine HDK2.out.mono ?_
      rintro _ _ ⟨rfl, rfl⟩
      go_wp2_with fail
      refine HAW3.out.mono ?_
      rintro _ w4 ⟨rfl, hb4⟩
      have HB4 := Lib.hid (HB3.out.trans (hb4.mono HB3.out.size))
      clear hb4
      go_wp2_with fail
      go_returns
      exact ⟨rfl, HB4.out⟩
    · have y1 : decide (how < 1) = false := decide_eq_false (fun h3 => by rw [h] at h3; exact h3)
      have y2 : decide (3 < how) = true := decide_eq_true h2
      clear h h2 hk hsz hfn hn hs
      go_wp2_with fail
      refine HDK2.out.mono ?_
      rintro _ _ ⟨rfl, rfl⟩
      go_wp2_with fail
      refine HAW3.out.mono ?_
      rintro _ w4 ⟨rfl, hb4⟩
      have HB4 := Lib.hid (HB3.out.trans (hb4.mono HB3.out.size))
      clear hb4
      go_wp2_with fail
      go_returns
      exact ⟨rfl, HB4.out⟩
  have y1 : decide (how < 1) = false := decide_eq_false (by omega)
  have y2 : decide (3 < how) = false := decide_eq_false (by omega)
  have HD3 := Lib.hid (HD.out (by omega) (by omega))
  clear HD HDK hk hsz hfn hn hs
  go_wp2_with fail
  refine HD3.out.mono ?_
  rintro _ w4 ⟨v4, rfl, ho4, hb4⟩
  have HD5 := Lib.hid (HD2.out w4 hb4)
  have HO4 := Lib.hid ho4
  have HB4 := Lib.hid (HB3.out.trans (hb4.mono HB3.out.size))
  clear ho4 hb4 HD3 HD2
  go_wp2_with fail
  refine HD5.out.mono ?_
  rintro _ w5 ⟨v5, rfl, ho5, hb5⟩
  have hdd : decide (Df = Df) = true := decide_eq_true rfl
  have HO45 := Lib.hid (own_below HO4.out hb5)
  have HB5 := Lib.hid (HB4.out.trans (hb5.mono HB4.out.size))
  have HFA : Hid (Df.length ≤ 1000000 → Calls Tryd.prog 14 #[v4, v5] w5 fun e w' => e = .returned (.bool true) ∧ Below w5.heap.size w5 w') := Lib.hid (fun hl => by
    have h := faults_any _ _ v4 v5 Df Df w5 (own_below HO4.out hb5) ho5 hl hl
    rw [hdd] at h
    exact h)
  have hlen : Df.length ≤ 1000000 := HDL.out
  have HFA2 := Lib.hid (HFA.out hlen)
  obtain ⟨A4, n4, c4, rfl⟩ := own_slice HO45.out
  obtain ⟨A5, n5, c5, rfl⟩ := own_slice ho5
  clear ho5 hb5 hdd hlen HFA HD5 HO4
  go_wp2_with fail
  refine HFA2.out.mono ?_
  rintro _ w6 ⟨rfl, hb6⟩
  have HB6 := Lib.hid (HB5.out.trans (hb6.mono HB5.out.size))
  have HAW6 := Lib.hid (HAW.out w6 HB6.out)
  clear hb6
  go_wp2_with fail
  refine HAW6.out.mono ?_
  rintro _ w7 ⟨rfl, hb7⟩
  have HB7 := Lib.hid (HB6.out.trans (hb7.mono HB6.out.size))
  clear hb7
  go_wp2_with fail
  go_returns
  exact ⟨rfl, HB7.out⟩
end Go.Proofs.YtkphecmdilefgaaDoor.Sg
