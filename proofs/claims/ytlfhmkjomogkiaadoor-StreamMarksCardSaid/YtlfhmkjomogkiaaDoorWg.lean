/- Walks: inkhornref02.unit, Bytes. -/
import Derived.Test.YtlfhmkjomogkiaaDoorWf
import Derived.Test.YtlfhmkjomogkiaaDoorJoin
import Derived.Laws.IdiomStrings
import Derived.Laws.AppendOwnNone
namespace Go.Proofs.YtlfhmkjomogkiaaDoor
open Go.RowKit Pl

theorem infoByte : (Tryd.prog.info? 5).map (fun i => (i.zero, i.size, i.bytes)) = some (some (.int .u8 0), 1, 1) := by kernel_rfl

theorem leB_step (size n j : Nat) (h : j < size) : (leB size n).take (j + 1) = (leB size n).take j ++ [UInt8.ofNat (n / 256 ^ j)] := by
  rw [take_snoc_l _ j (by rw [leB_length]; exact h), leB_get size n j h]
theorem byte_mod (m : Nat) : ((UInt8.ofNat m).toNat : Int) = (m : Int) % 256 := by rw [UInt8.toNat_ofNat']; rfl
theorem byteCells_one (m : Nat) : Lib.byteCells [UInt8.ofNat m] = [.int .u8 ((m : Int) % 256)] := by
  show [Value.int .u8 ((UInt8.ofNat m).toNat : Int)] = _
  rw [byte_mod]
theorem byteCells_oneCell (l : List UInt8) : ∀ u ∈ Lib.byteCells l, u.oneCell' = true := by
  intro u hu
  simp only [Lib.byteCells, List.mem_map] at hu
  obtain ⟨b, _, rfl⟩ := hu
  rfl
/-- A row of bytes that is not nil, as a string. -/
theorem own_form {w : World} {B e sz : Nat} {v : Value} {n : Nat} {xs : List Value} (h : w.ownsRow B e sz v n xs) :
    (v = .slice none 0 0 ∧ n = 0 ∧ xs = []) ∨ ∃ g cap, v = .slice (some ⟨g, 0, none⟩) n cap ∧ B ≤ g ∧ g < w.heap.size ∧ w.ownsRow B e sz (.slice (some ⟨g, 0, none⟩) n cap) n xs := by
  rcases h.2 with ⟨rfl, rfl⟩ | ⟨g, cap, cur, rfl, hg, hh, _⟩
  · exact .inl ⟨rfl, rfl, List.eq_nil_of_length_eq_zero (by simpa using h.1)⟩
  · exact .inr ⟨g, cap, rfl, hg, (Array.getElem?_eq_some_iff.1 hh).1, h⟩

set_option maxRecDepth 100000 in
set_option maxHeartbeats 800000 in
theorem unit_odd (k : Int) (h1 : 1 ≤ k) (h4 : k ≤ 4) (hodd : k % 2 = 1) (n : Nat) (hn : n ≤ 4294967295) (w : World) :
    Calls Tryd.prog 87 #[.int .i64 k, .int .i64 n] w fun e w' => e = .returned (.string ⟨(unitB (wsize k) false n).toArray⟩) ∧ Below w.heap.size w w' := by
  have hz2 := wsize_ge k
  have hz4 := wsize_le k
  have HC := Lib.hid (size_any k)
  generalize wsize k = size at *
  have o1 : (k % 2 == 1) = true := by simp [hodd]
  have on : (n : Int) ≤ 4294967295 := by omega
  have g0 : (0 : Int) ≤ k := by omega
  clear h1 h4 hodd hn
  obtain ⟨i0, hi, hz0, hz1, hz3⟩ := info_parts infoByte
  have HI := Lib.hid hi; have HZ0 := Lib.hid hz0; have HZ1 := Lib.hid hz1; have HZ3 := Lib.hid hz3
  clear hi hz0 hz1 hz3
  go_enter Tryd.func87, Tryd.ntmps87
  go_wp2
  go_loopw [1, 5, 6] (fun m v i wr => ∃ j : Nat, j ≤ size ∧ i = .int .i64 j ∧ m = .int .i64 (n / 256 ^ j : Nat) ∧ wr.ownsRow w.heap.size ByteT 1 v j (Lib.byteCells ((leB size n).take j)) ∧ Below w.heap.size w wr) (fun _ _ i _ => size - (intOf i).toNat)
  case atStart => exact ⟨0, Nat.zero_le _, rfl, by simp, by simpa [Lib.byteCells] using World.ownsRow_nil _ _ _ _, Below.refl _ _⟩
  case round =>
    obtain ⟨j, hj, rfl, rfl, hown, hb⟩ := hrel
    have hsz := hb.size
    have hm : n / 256 ^ j ≤ n := Nat.div_le_self _ _
    have hs : n / 256 ^ j / 256 = n / 256 ^ (j + 1) := by rw [Nat.div_div_eq_div_mul, Nat.pow_succ]
    have hst : j < size → (leB size n).take (j + 1) = (leB size n).take j ++ [UInt8.ofNat (n / 256 ^ j)] := leB_step size n j
    generalize n / 256 ^ j = m at *
    have hm' : (m : Int) ≤ 4294967295 := by omega
    have HS := Lib.hid hs; have HST := Lib.hid hst; have HOW := Lib.hid hown; have HB := Lib.hid hb
    clear hs hst hown hb hm
    by_cases hlt : j < size
    · go_wp2_with (first
        | (go_at_call 77; refine (HC.out _).mono ?_; rintro e w' ⟨rfl, rfl⟩)
        | (at_builtin; refine wpList_append_own _ rfl _ _ 78 rfl w.heap.size ByteT i0 (.int .u8 0) 1 1 Tryd.underlying78 HI.out HZ0.out HZ1.out HZ3.out rfl (by decide) _ _ _ rfl (HOW.out.alloc _) ⟨wr.heap.size, 0, none⟩ 1 1 [.int .u8 ((m : Int) % 256)] rfl rfl ?c1 ?c2 ?c3 ?c4 ?c5 ?_))
      case c1 =>
        intro i u hu
        match i, hu with
        | 0, hu => simp at hu; subst hu; simp [Addr.add]
      case c2 => intro u hu; simp at hu; subst hu; rfl
      case c3 => unfold maxLen; omega
      case c4 => omega
      case c5 => simp; omega
      intro v' w1 hown' hgrow _
      have hb1 := (HB.out.alloc hsz (.cells #[.int .u8 ((m : Int) % 256)] ByteT)).grown hgrow (by simp; omega) (fun g hg => (HOW.out.lt g hg).1)
      have H1 := Lib.hid hown'; have H2 := Lib.hid hb1
      clear hown' hgrow hb1
      go_wp2
      go_roundw
      case rel => exact ⟨j + 1, by omega, by go_num, by rw [← HS.out]; go_num, by rw [HST.out hlt, byteCells_append, byteCells_one]; exact H1.out, H2.out⟩
      case measure => simp [intOf]; omega
    · obtain rfl : j = size := by omega
      have hfull : (leB j n).take j = leB j n := List.take_of_length_le (by rw [leB_length]; exact Nat.le_refl _)
      rcases own_form HOW.out with ⟨_, h0, _⟩ | ⟨g, cap, rfl, hg, hgl, hown⟩
      · omega
      · have hconv : (convert 78 9 (.slice (some ⟨g, 0, none⟩) j cap)).run Tryd.prog wr = .ok (.string ⟨(leB j n).toArray⟩) wr := by
          have h := run_convert_bytes_back (P := Tryd.prog) wr 78 9 ByteT ⟨g, 0, none⟩ cap (leB j n) Tryd.underlying78 Tryd.underlying5 Tryd.underlying9 (by
            intro i hi
            rw [leB_length] at hi
            rw [show ((⟨g, 0, none⟩ : Addr).add i) = ⟨g, i, none⟩ from by unfold Addr.add; split <;> simp_all]
            rw [hown.cellAt i (by omega), hfull]
            simp [Lib.byteCells, leB_length, hi])
          rw [leB_length] at h
          exact h
        clear hfull hown
        go_wp2_with (go_at_call 77; refine (HC.out _).mono ?_; rintro e w' ⟨rfl, rfl⟩)
        go_returns
        exact ⟨rfl, HB.out⟩

set_option maxRecDepth 100000 in
set_option maxHeartbeats 800000 in
theorem unit_even (k : Int) (h1 : 1 ≤ k) (h4 : k ≤ 4) (hodd : k % 2 = 0) (n : Nat) (hn : n ≤ 4294967295) (w : World) :
    Calls Tryd.prog 87 #[.int .i64 k, .int .i64 n] w fun e w' => e = .returned (.string ⟨(unitB (wsize k) true n).toArray⟩) ∧ Below w.heap.size w w' := by
  have hz2 := wsize_ge k
  have hz4 := wsize_le k
  have HC := Lib.hid (size_any k)
  generalize wsize k = size at *
  have o1 : (k % 2 == 1) = false := by simp [hodd]
  have on : (n : Int) ≤ 4294967295 := by omega
  have g0 : (0 : Int) ≤ k := by omega
  clear h1 h4 hodd hn
  obtain ⟨i0, hi, hz0, hz1, hz3⟩ := info_parts infoByte
  have HI := Lib.hid hi; have HZ0 := Lib.hid hz0; have HZ1 := Lib.hid hz1; have HZ3 := Lib.hid hz3
  clear hi hz0 hz1 hz3
  go_enter Tryd.func87, Tryd.ntmps87
  go_wp2
  go_loopw [1, 5, 6] (fun m v i wr => ∃ j : Nat, j ≤ size ∧ i = .int .i64 j ∧ m = .int .i64 (n / 256 ^ j : Nat) ∧ wr.ownsRow w.heap.size ByteT 1 v j (Lib.byteCells ((leB size n).take j).reverse) ∧ Below w.heap.size w wr) (fun _ _ i _ => size - (intOf i).toNat)
  case atStart => exact ⟨0, Nat.zero_le _, rfl, by simp, by simpa [Lib.byteCells] using World.ownsRow_nil _ _ _ _, Below.refl _ _⟩
  case round =>
    obtain ⟨j, hj, rfl, rfl, hown, hb⟩ := hrel
    have hsz := hb.size
    have hm : n / 256 ^ j ≤ n := Nat.div_le_self _ _
    have hs : n / 256 ^ j / 256 = n / 256 ^ (j + 1) := by rw [Nat.div_div_eq_div_mul, Nat.pow_succ]
    have hst : j < size → Lib.byteCells ((leB size n).take (j + 1)).reverse = .int .u8 ((n / 256 ^ j : Nat) % 256) :: Lib.byteCells ((leB size n).take j).reverse := by
      intro h
      rw [leB_step size n j h, List.reverse_append, byteCells_append]
      simp only [List.reverse_cons, List.reverse_nil, List.nil_append, byteCells_one]
      rfl
    generalize n / 256 ^ j = m at *
    have hm' : (m : Int) ≤ 4294967295 := by omega
    have HS := Lib.hid hs; have HST := Lib.hid hst; have HB := Lib.hid hb
    clear hs hst hb hm
    rcases own_form hown with ⟨rfl, rfl, hxs⟩ | ⟨g, cap, rfl, hg, hgl, hown2⟩
    · have HX := Lib.hid hxs
      clear hown hxs
      have hlt : (0 : Int) < size := by omega
      go_wp2_with (first
        | (go_at_call 77; refine (HC.out _).mono ?_; rintro e w' ⟨rfl, rfl⟩)
        | (at_builtin; refine wpList_append_own_none rfl _ _ 78 rfl w.heap.size ByteT i0 1 Tryd.underlying78 HI.out _ _ _ rfl (World.ownsRow_lit wr #[.int .u8 ((m : Int) % 256)] 1 hsz (by decide) rfl) rfl ?_))
      go_roundw
      case rel =>
        refine ⟨1, by omega, by go_num, by rw [← HS.out]; go_num, ?_, by have := HB.out; go_grown⟩
        rw [HST.out (by omega), HX.out]
        exact World.ownsRow_lit wr #[.int .u8 ((m : Int) % 256)] 1 hsz (by decide) rfl
      case measure => simp [intOf]; omega
    · have HOW := Lib.hid hown2
      clear hown hown2
      by_cases hlt : j < size
      · go_wp2_with (first
          | (go_at_call 77; refine (HC.out _).mono ?_; rintro e w' ⟨rfl, rfl⟩)
          | (at_builtin; refine wpList_append_own _ rfl _ _ 78 rfl w.heap.size ByteT i0 (.int .u8 0) 1 1 Tryd.underlying78 HI.out HZ0.out HZ1.out HZ3.out rfl (by decide) _ _ _ rfl (World.ownsRow_lit wr #[.int .u8 ((m : Int) % 256)] 1 hsz (by decide) rfl) ⟨g, 0, none⟩ j cap (Lib.byteCells ((leB size n).take j).reverse) rfl ?c0 ?c1 ?c2 ?c3 ?c4 ?c5 ?_))
        case c0 => simp [Lib.byteCells, leB_length]; omega
        case c1 => exact (HOW.out.alloc _).cells rfl
        case c2 => exact byteCells_oneCell _
        case c3 => unfold maxLen; omega
        case c4 => omega
        case c5 => simp; omega
        intro v' w1 hown' hgrow _
        have hb1 := (HB.out.alloc hsz (.cells #[.int .u8 ((m : Int) % 256)] ByteT)).grown hgrow (by simp; omega) (fun g hg => by simp [Value.ownBlock] at hg; omega)
        have H1 := Lib.hid hown'; have H2 := Lib.hid hb1
        clear hown' hgrow hb1
        go_wp2
        go_roundw
        case rel => exact ⟨j + 1, by omega, by go_num, by rw [← HS.out]; go_num, by rw [HST.out hlt]; have h := H1.out; rw [Nat.add_comm 1 j] at h; exact h, H2.out⟩
        case measure => simp [intOf]; omega
      · obtain rfl : j = size := by omega
        have hfull : (leB j n).take j = leB j n := List.take_of_length_le (by rw [leB_length]; exact Nat.le_refl _)
        have hconv : (convert 78 9 (.slice (some ⟨g, 0, none⟩) j cap)).run Tryd.prog wr = .ok (.string ⟨(leB j n).reverse.toArray⟩) wr := by
          have h := run_convert_bytes_back (P := Tryd.prog) wr 78 9 ByteT ⟨g, 0, none⟩ cap (leB j n).reverse Tryd.underlying78 Tryd.underlying5 Tryd.underlying9 (by
            intro i hi
            rw [List.length_reverse, leB_length] at hi
            rw [show ((⟨g, 0, none⟩ : Addr).add i) = ⟨g, i, none⟩ from by unfold Addr.add; split <;> simp_all]
            rw [HOW.out.cellAt i (by omega), hfull]
            simp [Lib.byteCells, leB_length, hi])
          rw [List.length_reverse, leB_length] at h
          exact h
        clear hfull
        go_wp2_with (go_at_call 77; refine (HC.out _).mono ?_; rintro e w' ⟨rfl, rfl⟩)
        go_returns
        exact ⟨rfl, HB.out⟩

theorem refUnit_any (k : Int) (h1 : 1 ≤ k) (h4 : k ≤ 4) (z : Int) (n : Nat) (hz : z = n) (hn : n ≤ 4294967295) (w : World) :
    Calls Tryd.prog 87 #[.int .i64 k, .int .i64 z] w fun e w' => e = .returned (.string ⟨(unitB (wsize k) (bigOf k) n).toArray⟩) ∧ Below w.heap.size w w' := by
  subst hz
  unfold bigOf
  rcases (show k % 2 = 0 ∨ k % 2 = 1 from by omega) with h | h
  · rw [show (k % 2 == 0) = true from by simp [h]]; exact unit_even k h1 h4 h n hn w
  · rw [show (k % 2 == 0) = false from by simp [h]]; exact unit_odd k h1 h4 h n hn w

/-- inkhornref02.Bytes. -/
theorem bytes_any (k : Int) (h1 : 1 ≤ k) (h4 : k ≤ 4) (r : Int) (hr0 : 0 ≤ r) (hr1 : r ≤ 1114111) (w : World) :
    Calls Tryd.prog 76 #[.int .i64 k, .int .i32 r] w fun e w' => e = .returned (.string ⟨(wchar (wsize k) (bigOf k) r).toArray⟩) ∧ Below w.heap.size w w' := by
  have HU := Lib.hid (refUnit_any k h1 h4)
  by_cases hp : 2 < k ∨ r < 65536
  · have HX : Hid (wchar (wsize k) (bigOf k) r = unitB (wsize k) (bigOf k) r.toNat) := by
      have h := wchar_one (wsize k) (bigOf k) r.toNat (by unfold wsize; split <;> omega)
      rw [show ((r.toNat : Nat) : Int) = r from by omega] at h
      exact h
    by_cases h2 : 2 < k
    · go_enter Tryd.func76, Tryd.ntmps76
      go_wp2_with (go_at_call 87; refine (HU.out r r.toNat (by omega) (by omega) _).mono ?_; rintro e w1 ⟨rfl, hb1⟩)
      go_returns
      exact ⟨by rw [HX.out]; rfl, hb1⟩
    · have h5 : r < 65536 := by omega
      have h2' : k ≤ 2 := by omega
      clear hp h2
      go_enter Tryd.func76, Tryd.ntmps76
      go_wp2_with (go_at_call 87; refine (HU.out r r.toNat (by omega) (by omega) _).mono ?_; rintro e w1 ⟨rfl, hb1⟩)
      go_returns
      exact ⟨by rw [HX.out]; rfl, hb1⟩
  · have h2' : k ≤ 2 := by omega
    have h5 : decide (r < 65536) = false := by simp; omega
    have h6 : 0 ≤ r - 65536 := by omega
    have HX : Hid (wchar (wsize k) (bigOf k) r = unitB (wsize k) (bigOf k) (55296 + (r.toNat - 65536) / 1024) ++ unitB (wsize k) (bigOf k) (56320 + (r.toNat - 65536) % 1024)) := by
      have h := wchar_two (bigOf k) (r.toNat - 65536)
      rw [show (65536 : Int) + ((r.toNat - 65536 : Nat) : Int) = r from by omega] at h
      rw [show wsize k = 2 from by simp [wsize, h2']]
      exact h
    have HU1 := HU.out (55296 + (r - 65536) / 1024) (55296 + (r.toNat - 65536) / 1024) (by omega) (by omega)
    have HU2 := HU.out (56320 + (r - 65536) % 1024) (56320 + (r.toNat - 65536) % 1024) (by omega) (by omega)
    have l1 := unitB_length (wsize k) (bigOf k) (55296 + (r.toNat - 65536) / 1024)
    have l2 := unitB_length (wsize k) (bigOf k) (56320 + (r.toNat - 65536) % 1024)
    have hw := wsize_le k
    generalize unitB (wsize k) (bigOf k) (55296 + (r.toNat - 65536) / 1024) = a at *
    generalize unitB (wsize k) (bigOf k) (56320 + (r.toNat - 65536) % 1024) = b at *
    have l1' : a.length ≤ 4 := by omega
    have l2' : b.length ≤ 4 := by omega
    have H1 := Lib.hid HU1; have H2 := Lib.hid HU2
    clear hp HU HU1 HU2 l1 l2 hw
    go_enter Tryd.func76, Tryd.ntmps76
    go_wp2_with fail
    refine (H1.out _).mono ?_
    rintro e w1 ⟨rfl, hb1⟩
    go_wp2_with fail
    refine (H2.out _).mono ?_
    rintro e w2 ⟨rfl, hb2⟩
    go_wp2_with fail
    go_returns
    exact ⟨by rw [HX.out, ← ba_append]; rfl, hb1.trans (hb2.mono hb1.size)⟩
end Go.Proofs.YtlfhmkjomogkiaaDoor
