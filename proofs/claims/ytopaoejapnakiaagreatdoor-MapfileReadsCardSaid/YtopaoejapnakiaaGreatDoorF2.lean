/- Walk: the law MapfileFirst. -/
import Derived.Test.YtopaoejapnakiaaGreatDoorF1
namespace Go.Proofs.YtopaoejapnakiaaGreatDoor.Mf
open Go.RowKit Pl

theorem readGo_len (F : List UInt8 → One) : ∀ (b : List (List UInt8)) (i : Nat) (out : List LRow), (readGo F i out b).1.length ≤ out.length + b.length ∧ (readGo F i out b).2.1 ≤ i + b.length := by
  intro b
  induction b with
  | nil => intro i out; exact ⟨Nat.le_refl _, by show (0 : Int) ≤ _; simp⟩
  | cons s t ih =>
    intro i out
    rw [readGo_cons]
    cases F (clean s) with
    | none =>
      obtain ⟨h1, h2⟩ := ih (i + 1) out
      simp only [List.length_cons]
      exact ⟨by omega, by omega⟩
    | err e => exact ⟨Nat.zero_le _, by show (i : Int) + 1 ≤ _; simp only [List.length_cons]; omega⟩
    | row x =>
      obtain ⟨h1, h2⟩ := ih (i + 1) (out ++ [x])
      simp only [List.length_cons, List.length_append, List.length_nil] at h1 h2 ⊢
      exact ⟨by omega, by omega⟩
theorem readL_len (F : List UInt8 → One) (s : List UInt8) : (readL F s).1.length ≤ s.length ∧ (readL F s).2.1 ≤ s.length := by
  unfold readL
  split
  · obtain ⟨h1, h2⟩ := readGo_len F (linesOf s) 0 []
    have := lines_len s
    simp at h1 h2
    exact ⟨by omega, by omega⟩
  · exact ⟨Nat.zero_le _, by show (0 : Int) ≤ _; omega⟩
theorem oneC_ok : ∀ s, oneC s ≠ .err 0 := oneC_ne
set_option maxRecDepth 100000 in
set_option maxHeartbeats 3200000 in
theorem mapfileFirst_law {w : World} (hO : Okw w) (s : ByteArray) (_hs : s.size ≤ maxLen) : Calls Tryz.prog 5 #[.string s] w fun e w' => e = .returned (.bool true) ∧ Below w.heap.size w w' := by
  have HAW : Hid (∀ w1, Below w.heap.size w w1 → Calls Tryz.prog 10 #[] w1 fun e w' => e = .returned (.bool true) ∧ Below w1.heap.size w1 w') := Lib.hid fun w1 hb => awake_any w1 (hO.keep hb)
  have HOK : Hid (∀ w1, Below w.heap.size w w1 → Okw w1) := Lib.hid fun w1 hb => hO.keep hb
  clear hO
  go_enter Tryz.func5, Tryz.ntmps5
  by_cases hbig : 1500 < s.size
  · have a1 : decide ((1500 : Int) < (s.size : Int)) = true := decide_eq_true (by omega)
    clear hbig
    go_wp2_with fail
    refine (HAW.out w (Below.refl _ _)).mono ?_
    rintro _ w1 ⟨rfl, hb1⟩
    go_wp2_with fail
    go_returns
    exact ⟨rfl, hb1⟩
  have a1 : decide ((1500 : Int) < (s.size : Int)) = false := decide_eq_false (by omega)
  have hs : s.size ≤ 1000000 := by omega
  have HLG := Lib.hid (long_any s hs w)
  cases hlg : longGo 0 s.data.toList with
  | true =>
    rw [hlg] at HLG
    clear hbig hlg
    go_wp2_with fail
    refine HLG.out.mono ?_
    rintro _ _ ⟨rfl, rfl⟩
    go_wp2_with fail
    refine (HAW.out w (Below.refl _ _)).mono ?_
    rintro _ w1 ⟨rfl, hb1⟩
    go_wp2_with fail
    go_returns
    exact ⟨rfl, hb1⟩
  | false =>
    rw [hlg] at HLG
    have hl5 := lines_long _ (long_all _ hlg)
    have hrf := read_first oneC_ok s.data.toList (by rw [bl]; omega) (fun l hl => by have := hl5 l hl; omega)
    have HC1 := Lib.hid (mapC_any s hs w (HOK.out w (Below.refl _ _)))
    have hrl := readL_len oneC s.data.toList
    rw [bl] at hrl
    obtain ⟨R, hR⟩ : ∃ R, readL oneC s.data.toList = R := ⟨_, rfl⟩
    unfold ReadP at HC1
    rw [hR] at hrf HC1 hrl
    obtain ⟨l, i, e⟩ := R
    dsimp only at hrf HC1 hrl
    obtain ⟨hr1, hr2⟩ := hrf
    have HR1 := Lib.hid hr1
    have HR2 := Lib.hid hr2
    have HRL := Lib.hid (show l.length ≤ 1500 ∧ i ≤ 1500 by omega)
    clear hbig hlg hl5 hrl hR hr1 hr2
    go_wp2_with fail
    refine HLG.out.mono ?_
    rintro _ _ ⟨rfl, rfl⟩
    go_wp2_with fail
    refine HC1.out.mono ?_
    rintro _ w1 ⟨v, rfl, hrows, hb1⟩
    obtain ⟨A1, c1, rfl, hrd, hcap⟩ := hrows.rd
    have HB1 := Lib.hid hb1
    have HRD := Lib.hid hrd
    clear hb1 hrd hrows
    by_cases he : e = 0
    · subst he
      obtain ⟨rfl, hh, u, hu⟩ := HR1.out rfl
      have HHD := Lib.hid (head_any s hs 1 (by omega) w1)
      have hhl := headL_le s.data.toList 1
      rw [bl] at hhl
      have HC2 := Lib.hid (mapC_any ⟨(headL 1 s.data.toList).toArray⟩ (by show (headL 1 s.data.toList).toArray.size ≤ _; simp; omega) w1 (HOK.out w1 HB1.out))
      unfold ReadP at HC2
      change Hid (Calls _ _ _ _ fun e w' => ∃ v, e = .returned (.tuple #[v, .int .i64 (readL oneC (headL 1 s.data.toList)).2.1, .int .i64 (readL oneC (headL 1 s.data.toList)).2.2]) ∧ _) at HC2
      obtain ⟨Q, hQ⟩ : ∃ Q, readL oneC (headL 1 s.data.toList) = Q := ⟨_, rfl⟩
      rw [hQ] at hh hu HC2
      obtain ⟨m, i2, e2⟩ := Q
      dsimp only at hh hu HC2
      injection hh with hi2 he2
      subst hi2; subst he2
      subst hu
      have j0 : (0 : Int) ≤ (m.length : Int) := by omega
      have j1 : (m.length : Int) ≤ (c1 : Int) := by rw [List.length_append] at hcap; omega
      have b1 : decide ((m.length : Int) ≤ ((m ++ u).length : Int)) = true := decide_eq_true (by rw [List.length_append]; omega)
      have b2 : decide ((m.length : Int) ≤ (m.length : Int) + (u.length : Int)) = true := decide_eq_true (by omega)
      have HML : Hid (m.length ≤ 1500) := Lib.hid (by have := HRL.out.1; rw [List.length_append] at this; omega)
      clear hQ HR1 HR2 hhl
      go_wp2_with fail
      refine HHD.out.mono ?_
      rintro _ _ ⟨rfl, rfl⟩
      go_wp2_with fail
      refine HC2.out.mono ?_
      rintro _ w2 ⟨v2, rfl, hrows2, hb2⟩
      obtain ⟨A2, c2, rfl, hrd2, hcap2⟩ := hrows2.rd
      have HB2 := Lib.hid (HB1.out.trans (hb2.mono HB1.out.size))
      have HAL := Lib.hid (alike_any A2 A1 c2 c1 m (by have := HML.out; omega) w2 hrd2 ((HRD.out.keep hb2).pre))
      clear hb2 hrd2 hrows2 hcap2
      go_wp2_with fail
      refine HAL.out.mono ?_
      rintro _ w3 ⟨rfl, hb3⟩
      have HB3 := Lib.hid (HB2.out.trans (hb3.mono HB2.out.size))
      clear hb3
      go_wp2_with fail
      refine (HAW.out w3 HB3.out).mono ?_
      rintro _ w4 ⟨rfl, hb4⟩
      go_wp2_with fail
      go_returns
      exact ⟨rfl, HB3.out.trans (hb4.mono HB3.out.size)⟩
    · obtain ⟨n, rfl, rfl, h1, h2⟩ := HR2.out he
      have b0 : (e == 0) = false := by rw [beq_eq_false_iff_ne]; exact he
      have hn : n ≤ 1500 := by have := HRL.out.2; omega
      have hnw : IntKind.i64.wrap ((n : Int) + 1 - 1) = (n : Int) := by rw [IntWalk.i64_in _ (by omega)]; omega
      have HHD1 := Lib.hid (head_any s hs n (by omega) w1)
      have HHD2 : Hid (∀ w2, Calls Tryz.prog 17 #[.string s, .int .i64 ((n : Int) + 1)] w2 fun e w' => e = .returned (.string ⟨(headL (n + 1) s.data.toList).toArray⟩) ∧ w2 = w') := Lib.hid fun w2 => head_any s hs (n + 1) (by omega) w2
      have hl1 := headL_le s.data.toList n
      have hl2 := headL_le s.data.toList (n + 1)
      rw [bl] at hl1 hl2
      have HC2 := Lib.hid (mapC_any ⟨(headL n s.data.toList).toArray⟩ (by show (headL n s.data.toList).toArray.size ≤ _; simp; omega) w1 (HOK.out w1 HB1.out))
      unfold ReadP at HC2
      change Hid (Calls _ _ _ _ fun e w' => ∃ v, e = .returned (.tuple #[v, .int .i64 (readL oneC (headL n s.data.toList)).2.1, .int .i64 (readL oneC (headL n s.data.toList)).2.2]) ∧ _) at HC2
      rw [h1] at HC2
      have HC3 : Hid (∀ w2, Below w.heap.size w w2 → Calls Tryz.prog 13 #[.string ⟨(headL (n + 1) s.data.toList).toArray⟩] w2 fun e2 w' => ∃ v, e2 = .returned (.tuple #[v, .int .i64 ((n : Int) + 1), .int .i64 e]) ∧ Below w2.heap.size w2 w') := Lib.hid fun w2 hb => by
        refine (mapC_any ⟨(headL (n + 1) s.data.toList).toArray⟩ (by show (headL (n + 1) s.data.toList).toArray.size ≤ _; simp; omega) w2 (HOK.out w2 hb)).mono ?_
        rintro _ w' ⟨v, rfl, _, hb'⟩
        have e1 : (readL oneC (⟨(headL (n + 1) s.data.toList).toArray⟩ : ByteArray).data.toList).2 = ((n : Int) + 1, e) := h2
        exact ⟨v, by rw [e1], hb'⟩
      have b5 : decide ((0 : Int) < (n : Int) + 1) = true := decide_eq_true (by omega)
      clear HR1 HR2 hl1 hl2 h1 h2 he
      dsimp only at HC2
      go_wp2_with fail
      refine HHD1.out.mono ?_
      rintro _ _ ⟨rfl, rfl⟩
      go_wp2_with fail
      refine HC2.out.mono ?_
      rintro _ w2 ⟨v2, rfl, hrows2, hb2⟩
      obtain ⟨A2, c2, rfl, _, _⟩ := hrows2.rd
      have HB2 := Lib.hid (HB1.out.trans (hb2.mono HB1.out.size))
      clear hb2 hrows2
      go_wp2_with fail
      refine (HHD2.out w2).mono ?_
      rintro _ _ ⟨rfl, rfl⟩
      go_wp2_with fail
      refine (HC3.out w2 HB2.out).mono ?_
      rintro _ w3 ⟨v3, rfl, hb3⟩
      have HB3 := Lib.hid (HB2.out.trans (hb3.mono HB2.out.size))
      clear hb3
      go_wp2_with fail
      refine (HAW.out w3 HB3.out).mono ?_
      rintro _ w4 ⟨rfl, hb4⟩
      go_wp2_with fail
      go_returns
      exact ⟨rfl, HB3.out.trans (hb4.mono HB3.out.size)⟩
end Go.Proofs.YtopaoejapnakiaaGreatDoor.Mf
