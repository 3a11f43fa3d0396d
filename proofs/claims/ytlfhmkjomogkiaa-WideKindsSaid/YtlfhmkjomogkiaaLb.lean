/- The statement WideBytes: its walk. -/
import Derived.Test.YtlfhmkjomogkiaaLa
import Derived.Test.YtlfhmkjomogkiaaWg
namespace Go.Proofs.Ytlfhmkjomogkiaa
open Go.RowKit Pl

theorem wmark_eq (k : Int) (h : 1 ≤ k ∧ k ≤ 4) : wmark k = wchar (wsize k) (bigOf k) 65279 := by
  unfold wmark kenc wenc
  rw [if_pos h, if_pos (by decide)]
  simp
theorem wmark_none (k : Int) (h : ¬ (1 ≤ k ∧ k ≤ 4)) : wmark k = [] := by
  unfold wmark kenc; rw [if_neg h]
theorem ba_size (l : List UInt8) : (⟨l.toArray⟩ : ByteArray).size = l.length := by simp [ByteArray.size]

set_option maxHeartbeats 3200000 in
theorem wideBytes_law (k : Int) (A : Option Addr) (len cap : Nat) (l : List Int) (w : World) (hR : Rd w A len (i32s l)) (_hl : ∀ r ∈ l, -2147483648 ≤ r ∧ r ≤ 2147483647) :
    Calls Try.prog 4 #[.int .i64 k, .slice A len cap] w fun e w' => e = .returned (.bool true) ∧ Below w.heap.size w w' := by
  have HA := Lib.hid awake_any
  have HM := Lib.hid (may_any k)
  have hlen := hR.i32_len
  by_cases h2 : 200 < len
  · have i1 : (200 : Int) < len := by omega
    clear hR hlen h2
    go_enter Try.func4, Try.ntmps4
    go_wp2_with (go_at_call 11; refine (HA.out _).mono ?_; rintro e w3 ⟨rfl, hb3⟩)
    go_returns
    exact ⟨rfl, hb3⟩
  · have i1 : decide ((200 : Int) < len) = false := by simp; omega
    have HE : Hid (Calls Try.prog 15 #[.int .i64 k, .slice A len cap] w fun e w' => encEnd (kenc k l) e ∧ Below w.heap.size w w') := encode_any k A len cap l (by omega) w hR
    have HK : Hid (∀ w, Calls Try.prog 16 #[.int .i64 k] w fun e w' => e = .returned (.string ⟨(wmark k).toArray⟩) ∧ Below w.heap.size w w') := fun w => mark_any k w
    by_cases hk : 1 ≤ k ∧ k ≤ 4
    · have HB0 : ∀ r, 0 ≤ r → r ≤ 1114111 → ∀ w, Calls Try.prog 17 #[.int .i64 k, .int .i32 r] w fun e w' => e = .returned (.string ⟨(wchar (wsize k) (bigOf k) r).toArray⟩) ∧ Below w.heap.size w w' :=
        fun r h0 h1 w => bytes_any k hk.1 hk.2 r h0 h1 w
      have hkenc : kenc k l = wenc (wsize k) (bigOf k) l := if_pos hk
      rw [decide_eq_true hk] at HM
      rw [wmark_eq k hk] at HK
      have hz4 := wsize_le k
      rw [hkenc] at HE
      generalize hx : wenc (wsize k) (bigOf k) l = x at *
      generalize wsize k = sz at *
      generalize bigOf k = big at *
      obtain ⟨xb, xe⟩ := x
      have HLL := Lib.hid (show l.length ≤ 200 by omega)
      have HBm := Lib.hid (HB0 65279 (by decide) (by decide))
      have HB' := Lib.hid HB0
      have HX := Lib.hid hx
      have hR' := Lib.hid hR
      have hml := wchar_length_le sz big 65279 hz4
      obtain ⟨mk, hmk⟩ : ∃ mk, wchar sz big 65279 = mk := ⟨_, rfl⟩
      rw [hmk] at HBm HK hml
      clear HB0 hx hR hkenc hk h2 hmk
      go_enter Try.func4, Try.ntmps4
      go_wp2_with (first | (go_at_call 15; refine HE.out.mono ?_; rintro e w1 ⟨he, hb1⟩; rw [encEnd] at he; subst he) | (go_at_call 13; refine (HM.out _).mono ?_; rintro e w' ⟨rfl, rfl⟩) | (go_at_call 16; refine (HK.out _).mono ?_; rintro e w2 ⟨rfl, hb2⟩) | (go_at_call 17; refine (HBm.out _).mono ?_; rintro e w4 ⟨rfl, hb4⟩))
      have hb : Below w.heap.size w w4 := (hb1.trans (hb2.mono hb1.size)).trans (hb4.mono (hb1.trans (hb2.mono hb1.size)).size)
      have HBW := Lib.hid hb
      clear hb hb1 hb2 hb4 HBm HK HE
      go_loopw [7, 8] (fun s i wr => ∃ j : Nat, j ≤ l.length ∧ i = .int .i64 j ∧ s = .string ⟨((l.take j).flatMap (wchar sz big)).toArray⟩ ∧ (l.take j).all scal = true ∧ Below w4.heap.size w4 wr) (fun _ i _ => l.length - (intOf i).toNat)
      case atStart => exact ⟨0, Nat.zero_le _, rfl, by simp, rfl, Below.refl _ _⟩
      case round =>
        obtain ⟨j, hj, rfl, rfl, hall, hb5⟩ := hrel
        have hsz := HBW.out.size
        have hbw : Below w.heap.size w wr := HBW.out.trans (hb5.mono hsz)
        have HB5 := Lib.hid hb5; have HBWR := Lib.hid hbw
        subst hlen
        have hll := HLL.out
        clear hb5 hbw
        by_cases hlt : j < l.length
        · have hfm := flatMap_snoc (wchar sz big) l j hlt
          have hbl := flat_wchar_length_le sz big (l.take j) hz4
          have hbl2 : ((l.take j).flatMap (wchar sz big)).length ≤ 1600 := by rw [List.length_take] at hbl; omega
          clear hbl
          obtain ⟨bA, oA, rfl, hbA, hcA⟩ := hR'.out.i32_at hlt
          have hcA' : wr.cell? ⟨bA, oA + j, none⟩ = some (.int .i32 l[j]) := by
            rw [HBWR.out.cell (p := ⟨bA, oA + j, none⟩) hbA]; exact hcA
          clear hcA hbA
          cases hsc : scal l[j]
          · have hbad := wenc_bad sz big l j hlt hsc
            rw [HX.out] at hbad
            obtain ⟨rfl, rfl⟩ : xb = [] ∧ xe = 11 := by simpa using hbad
            have HS : Hid (∀ w, Calls Try.prog 18 #[.int .i32 l[j]] w fun e w' => e = .returned (.bool false) ∧ w = w') := by
              intro w; rw [← hsc]; exact scalar_any _ w
            clear hbad hsc hall hfm hbl2 HX
            generalize l[j] = r at *
            go_wp2_with (first | (go_at_call 18; refine (HS.out _).mono ?_; rintro e w' ⟨rfl, rfl⟩) | (go_at_call 11; refine (HA.out _).mono ?_; rintro e w3 ⟨rfl, hb3⟩))
            go_returns
            exact ⟨rfl, HBWR.out.trans (hb3.mono HBWR.out.size)⟩
          · have HAS := Lib.hid (all_scal_snoc l j hlt hall hsc)
            have HS : Hid (∀ w, Calls Try.prog 18 #[.int .i32 l[j]] w fun e w' => e = .returned (.bool true) ∧ w = w') := by
              intro w; rw [← hsc]; exact scalar_any _ w
            have hr : 0 ≤ l[j] ∧ l[j] ≤ 1114111 := by simp [scal] at hsc; omega
            have HB := Lib.hid (HB'.out l[j] hr.1 hr.2)
            have hcl := wchar_length_le sz big l[j] hz4
            have HFM := Lib.hid hfm
            clear hfm hsc hall hr
            generalize l[j] = r at *
            obtain ⟨u, hu⟩ : ∃ u, wchar sz big r = u := ⟨_, rfl⟩
            obtain ⟨v, hv⟩ : ∃ v, (l.take j).flatMap (wchar sz big) = v := ⟨_, rfl⟩
            rw [hu] at HB hcl HFM
            rw [hv] at hbl2 HFM ⊢
            clear hu hv
            go_wp2_with (first | (go_at_call 18; refine (HS.out _).mono ?_; rintro e w' ⟨rfl, rfl⟩) | (go_at_call 17; refine (HB.out _).mono ?_; rintro e w4 ⟨rfl, hb4⟩))
            go_roundw
            case rel => exact ⟨j + 1, by omega, by go_num, by rw [HFM.out, ← ba_append], HAS.out, HB5.out.trans (hb4.mono HB5.out.size)⟩
            case measure => simp [intOf]; omega
        · have hok := wenc_ok sz big l j hlt hall
          rw [HX.out] at hok
          obtain ⟨rfl, rfl⟩ : xb = (l.take j).flatMap (wchar sz big) ∧ xe = 0 := by simpa using hok
          clear hok HX hall
          generalize (l.take j).flatMap (wchar sz big) = v at *
          go_wp2_with (go_at_call 11; refine (HA.out _).mono ?_; rintro e w3 ⟨rfl, hb3⟩)
          go_returns
          exact ⟨rfl, HBWR.out.trans (hb3.mono HBWR.out.size)⟩
    · rw [decide_eq_false hk] at HM
      rw [show kenc k l = ([], 16) from if_neg hk] at HE
      rw [wmark_none k hk] at HK
      clear hk h2 hR hlen
      go_enter Try.func4, Try.ntmps4
      go_wp2_with (first | (go_at_call 15; refine HE.out.mono ?_; rintro e w1 ⟨he, hb1⟩; rw [encEnd] at he; subst he) | (go_at_call 13; refine (HM.out _).mono ?_; rintro e w' ⟨rfl, rfl⟩) | (go_at_call 16; refine (HK.out _).mono ?_; rintro e w2 ⟨rfl, hb2⟩) | (go_at_call 11; refine (HA.out _).mono ?_; rintro e w3 ⟨rfl, hb3⟩))
      go_returns
      have h2 := hb1.trans (hb2.mono hb1.size)
      exact ⟨rfl, h2.trans (hb3.mono h2.size)⟩
end Go.Proofs.Ytlfhmkjomogkiaa
