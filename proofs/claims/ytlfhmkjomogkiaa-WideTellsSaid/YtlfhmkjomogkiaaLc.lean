/- The statement WideTells: its walk. -/
import Derived.Test.YtlfhmkjomogkiaaLb
import Derived.Test.YtlfhmkjomogkiaaWh
namespace Go.Proofs.Ytlfhmkjomogkiaa
open Go.RowKit Pl

/-- The mark of the i-th of the four kinds, in the order in which they are sought, as a string. -/
def mkS (i : Nat) : ByteArray := ⟨(wmark (ordF i)).toArray⟩
theorem ord_ok (i : Nat) (h : i < 4) : 1 ≤ ordF i ∧ ordF i ≤ 4 := by
  match i, h with
  | 0, _ => decide
  | 1, _ => decide
  | 2, _ => decide
  | 3, _ => decide
theorem mkS_size (i : Nat) (h : i < 4) : (mkS i).size ≤ 4 := by
  match i, h with
  | 0, _ => decide
  | 1, _ => decide
  | 2, _ => decide
  | 3, _ => decide
theorem wguess_from (l : List UInt8) : wguess l = guessFrom (fun i => (wmark (ordF i)).isPrefixOf l) (fun i => (mkS i).size) 0 := by
  unfold wguess guessFrom
  rw [if_pos rfl]
  have e0 : (mkS 0).size = 4 := by decide
  have e1 : (mkS 1).size = 4 := by decide
  have e2 : (mkS 2).size = 2 := by decide
  have e3 : (mkS 3).size = 2 := by decide
  simp only [e0, e1, e2, e3]
  rfl
theorem beginsWith (s : ByteArray) (l : List UInt8) (h : l.length ≤ s.size) : ((s.extract 0 l.length).toList == (⟨l.toArray⟩ : ByteArray).toList) = l.isPrefixOf s.data.toList := by
  have hl : s.data.toList.length = s.size := by simp
  have hd : (s.extract 0 l.length).toList = s.data.toList.take l.length := by rw [Lib.extract_toList]; simp
  rw [hd, ByteArray.toList_mk, Bool.eq_iff_iff, beq_iff_eq, prefix_iff, hl]
  exact ⟨fun he => ⟨h, he⟩, fun he => he.2⟩
theorem prefix_short (s : ByteArray) (l : List UInt8) (h : ¬ l.length ≤ s.size) : l.isPrefixOf s.data.toList = false := by
  cases hp : l.isPrefixOf s.data.toList with
  | false => rfl
  | true => exact absurd ((prefix_iff _ _).1 hp).1 (by simpa using h)

set_option maxHeartbeats 3200000 in
theorem wideTells_law (k : Int) (s : ByteArray) (_hs : s.size ≤ maxLen) (w : World) :
    Calls Try.prog 5 #[.int .i64 k, .string s] w fun e w' => e = .returned (.bool true) ∧ Below w.heap.size w w' := by
  have HA := Lib.hid awake_any
  have HM := Lib.hid (may_any k)
  by_cases h4 : 400 < s.size
  · have i1 : (400 : Int) < s.size := by omega
    go_enter Try.func5, Try.ntmps5
    go_wp2_with (go_at_call 11; refine (HA.out _).mono ?_; rintro e w3 ⟨rfl, hb3⟩)
    go_returns
    exact ⟨rfl, hb3⟩
  have i1 : decide ((400 : Int) < s.size) = false := by simp; omega
  have hs4 : s.size ≤ 400 := by omega
  have HGs := Lib.hid (guess_any s)
  have hgf := wguess_from s.data.toList
  have hstep := guessFrom_step (fun i => (wmark (ordF i)).isPrefixOf s.data.toList) (fun i => (mkS i).size)
  generalize hx : wguess s.data.toList = x at *
  obtain ⟨gk, gn⟩ := x
  generalize hG : guessFrom (fun i => (wmark (ordF i)).isPrefixOf s.data.toList) (fun i => (mkS i).size) = G at *
  have HGF := Lib.hid hgf; have HST := Lib.hid hstep
  have hG4 : G 4 = (0, 0) := by rw [← hG]; rfl
  have HG4 := Lib.hid hG4
  have HB : Hid (∀ i, i < 4 → ∀ w, Calls Try.prog 17 #[.int .i64 (ordF i), .int .i32 65279] w fun e w' => e = .returned (.string (mkS i)) ∧ Below w.heap.size w w') := by
    intro i hi w
    unfold mkS
    rw [wmark_eq _ (ord_ok i hi)]
    exact bytes_any (ordF i) (ord_ok i hi).1 (ord_ok i hi).2 65279 (by decide) (by decide) w
  have HC := Lib.hid (cut_any k s (by omega))
  clear h4 hgf hstep hG4 hx hG _hs
  go_enter Try.func5, Try.ntmps5
  go_wp2_with (go_at_call 19; refine (HGs.out _).mono ?_; rintro e w1 ⟨rfl, hb1⟩)
  have hblk : Blk (w1.alloc (.cells #[.int .i64 3, .int .i64 4, .int .i64 1, .int .i64 2] 3)) w1.heap.size 3 #[.int .i64 3, .int .i64 4, .int .i64 1, .int .i64 2] := Blk.new _ _ _
  have hbw : Below w.heap.size w (w1.alloc (.cells #[.int .i64 3, .int .i64 4, .int .i64 1, .int .i64 2] 3)) := hb1.alloc hb1.size _
  have hlt : w1.heap.size < (w1.alloc (.cells #[.int .i64 3, .int .i64 4, .int .i64 1, .int .i64 2] 3)).heap.size := by simp
  generalize w1.heap.size = g at *
  generalize (w1.alloc (.cells #[.int .i64 3, .int .i64 4, .int .i64 1, .int .i64 2] 3)) = wL at *
  go_loopw [7, 8, 10] (fun wk wm i wr => ∃ j : Nat, j ≤ 4 ∧ i = .int .i64 ((j : Int) - 1) ∧ wk = .int .i64 (G j).1 ∧ wm = .int .i64 (G j).2 ∧ Below wL.heap.size wL wr) (fun _ _ i _ => (intOf i + 1).toNat)
  case atStart => exact ⟨4, by omega, rfl, by rw [HG4.out], by rw [HG4.out], Below.refl _ _⟩
  case round =>
    obtain ⟨j, hj, rfl, rfl, rfl, hb5⟩ := hrel
    have HB5 := Lib.hid hb5
    have HX := Lib.hid (hblk.below hb5 hlt)
    clear hb5
    cases j with
    | zero =>
      rw [← HGF.out]
      rw [show ((0 : Nat) : Int) - 1 = -1 from rfl]
      have hbw2 : Below w.heap.size w wr := hbw.trans (HB5.out.mono hbw.size)
      by_cases hk : 1 ≤ k ∧ k ≤ 4
      · rw [decide_eq_true hk] at HM
        rw [show kcut k s.data.toList = (wcut (wsize k) (bigOf k) s.data.toList, 0) from if_pos hk] at HC
        have HR := Lib.hid (fun (s : ByteArray) hm => refNext_any k hk.1 hk.2 s hm)
        have hnx : knext k = wnext (wsize k) (bigOf k) := by funext l; exact if_pos hk
        have hpos : ∀ t : List UInt8, 0 < t.length → 1 ≤ (wnext (wsize k) (bigOf k) t).2.1 ∧ (wnext (wsize k) (bigOf k) t).2.1 ≤ t.length := fun t h => wnext_pos _ _ t h (wsize_cases k)
        have hlm := lastMore_all (wsize k) (bigOf k) (wsize_cases k) s.data.toList
        rw [hnx] at HR
        have hcl := wcut_le (wsize k) (bigOf k) s.data.toList
        generalize wcut (wsize k) (bigOf k) s.data.toList = cut at *
        generalize wnext (wsize k) (bigOf k) = nx at *
        have hsl : s.data.toList.length = s.size := by simp
        rw [hsl] at hlm hcl
        have HLM := Lib.hid hlm; have HP := Lib.hid hpos
        clear hlm hpos hnx hk hsl
        go_wp2_with (first | (go_at_call 20; refine (HC.out _).mono ?_; rintro e w4 ⟨he, hb4⟩; rw [cutEnd] at he; subst he) | (go_at_call 13; refine (HM.out _).mono ?_; rintro e w' ⟨rfl, rfl⟩))
        have hbw3 : Below w.heap.size w w4 := hbw2.trans (hb4.mono hbw2.size)
        clear hb4 hbw2
        go_loop [14, 15] (fun va vc => ∃ a c : Nat, a ≤ s.size ∧ va = .int .i64 a ∧ vc = .int .i64 c ∧ lastMore nx s.size (s.data.toList.drop a) a c = cut) (fun va _ => s.size - (intOf va).toNat)
        case atStart => exact ⟨0, s.size, Nat.zero_le _, rfl, rfl, by rw [List.drop_zero]; exact HLM.out⟩
        case round =>
          obtain ⟨a, c, ha, rfl, rfl, hlm⟩ := hrel
          by_cases hlt : a < s.size
          · have hst := lastMore_step nx (fun t h => (HP.out t h).1) s.size (s.data.toList.drop a) a c (by simp; omega) (by simp)
            rw [hlm] at hst
            have hp2 := HP.out (s.data.toList.drop a) (by simp; omega)
            have hl2 : (s.data.toList.drop a).length = s.size - a := by simp
            rw [hl2] at hp2
            have HR2 := HR.out (s.extract a s.size) (by simp; unfold maxLen; omega)
            rw [Lib.extract_to_end] at HR2
            rw [List.drop_drop] at hst
            generalize nx (s.data.toList.drop a) = x at *
            obtain ⟨r, n, f⟩ := x
            have hn1 : 1 ≤ n := hp2.1
            have hn2 : n ≤ s.size - a := hp2.2
            have HST2 := Lib.hid hst; have HR3 := Lib.hid HR2
            clear hst hp2 hl2 HR2 hlm
            by_cases hf : f = 18
            · subst hf
              go_wp2_with (go_at_call 14; refine (HR3.out _).mono ?_; rintro e w' ⟨he, rfl⟩; rw [nextEnd] at he; subst he)
              go_round
              case rel => exact ⟨a + n, a, by omega, by go_num, rfl, by have h := HST2.out; rw [if_pos trivial] at h; exact h.symm⟩
              case measure => simp [intOf]; omega
            · have hf' : (f == 18) = false := by simp [hf]
              have HF := Lib.hid hf
              clear hf
              go_wp2_with (go_at_call 14; refine (HR3.out _).mono ?_; rintro e w' ⟨he, rfl⟩; rw [nextEnd] at he; subst he)
              go_round
              case rel => exact ⟨a + n, c, by omega, by go_num, rfl, by have h := HST2.out; rw [if_neg HF.out] at h; exact h.symm⟩
              case measure => simp [intOf]; omega
          · obtain rfl : a = s.size := by omega
            rw [List.drop_of_length_le (by simp), lastMore_end] at hlm
            subst hlm
            go_wp2_with (go_at_call 11; refine (HA.out _).mono ?_; rintro e w3 ⟨rfl, hb3⟩)
            go_returns
            exact ⟨rfl, hbw3.trans (hb3.mono hbw3.size)⟩
      · rw [decide_eq_false hk] at HM
        rw [show kcut k s.data.toList = (0, 16) from if_neg hk] at HC
        clear hk
        go_wp2_with (first | (go_at_call 20; refine (HC.out _).mono ?_; rintro e w4 ⟨he, hb4⟩; rw [cutEnd] at he; subst he) | (go_at_call 13; refine (HM.out _).mono ?_; rintro e w' ⟨rfl, rfl⟩) | (go_at_call 11; refine (HA.out _).mono ?_; rintro e w3 ⟨rfl, hb3⟩))
        go_returns
        have hbw3 : Below w.heap.size w w4 := hbw2.trans (hb4.mono hbw2.size)
        exact ⟨rfl, hbw3.trans (hb3.mono hbw3.size)⟩
    | succ j =>
      have hc : wr.cell? ⟨g, j, none⟩ = some (.int .i64 (ordF j)) := by
        rw [HX.out.cell]
        match j, hj with
        | 0, _ => rfl
        | 1, _ => rfl
        | 2, _ => rfl
        | 3, _ => rfl
      have HBy := Lib.hid (HB.out j (by omega))
      have hms := mkS_size j (by omega)
      have hGj := HST.out j (by omega)
      have hp1 : (mkS j).size ≤ s.size → ((s.extract 0 (mkS j).size).toList == (mkS j).toList) = (wmark (ordF j)).isPrefixOf s.data.toList := by
        intro h; unfold mkS at *; rw [ba_size] at *; exact beginsWith s _ h
      have hp2 : ¬ (mkS j).size ≤ s.size → (wmark (ordF j)).isPrefixOf s.data.toList = false := by
        intro h; unfold mkS at *; rw [ba_size] at *; exact prefix_short s _ h
      generalize (wmark (ordF j)).isPrefixOf s.data.toList = p at *
      generalize mkS j = m at *
      generalize ordF j = o at *
      have hgw : g < wr.heap.size := HX.out.lt
      have HP1 := Lib.hid hp1; have HP2 := Lib.hid hp2; have HGJ := Lib.hid hGj
      clear hp1 hp2 hGj
      go_wp2_with (go_at_call 17; refine (HBy.out _).mono ?_; rintro e w4 ⟨rfl, hb4⟩; have hc4 := (hb4.cell (p := ⟨g, j, none⟩) hgw).trans hc)
      · have h1 : m.size ≤ s.size := by assumption
        have h2 : ((s.extract 0 m.size).toList == m.toList) = true := by assumption
        rw [HP1.out h1] at h2
        go_roundw
        case rel => exact ⟨j, by omega, rfl, by rw [HGJ.out, if_pos h2], by rw [HGJ.out, if_pos h2], HB5.out.trans (hb4.mono HB5.out.size)⟩
        case measure => simp [intOf]
      · have h1 : m.size ≤ s.size := by assumption
        have h2 : ((s.extract 0 m.size).toList == m.toList) = false := by assumption
        rw [HP1.out h1] at h2
        go_roundw
        case rel => exact ⟨j, by omega, rfl, by rw [HGJ.out, if_neg (by rw [h2]; decide)], by rw [HGJ.out, if_neg (by rw [h2]; decide)], HB5.out.trans (hb4.mono HB5.out.size)⟩
        case measure => simp [intOf]
      · have h1 : ¬ m.size ≤ s.size := by assumption
        have h2 := HP2.out h1
        go_roundw
        case rel => exact ⟨j, by omega, rfl, by rw [HGJ.out, if_neg (by rw [h2]; decide)], by rw [HGJ.out, if_neg (by rw [h2]; decide)], HB5.out.trans (hb4.mono HB5.out.size)⟩
        case measure => simp [intOf]
end Go.Proofs.Ytlfhmkjomogkiaa
