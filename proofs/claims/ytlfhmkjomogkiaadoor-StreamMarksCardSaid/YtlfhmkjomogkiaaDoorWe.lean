/- Walks: wide.Encode, Mark. -/
import Derived.Test.YtlfhmkjomogkiaaDoorWc
import Derived.Test.YtlfhmkjomogkiaaDoorRd
import Derived.Test.YtlfhmkjomogkiaaDoorWd
namespace Go.Proofs.YtlfhmkjomogkiaaDoor
open Go.RowKit Pl

/-- put of one number, the size a literal. -/
def PutPost (B b : Nat) (bs more : List UInt8) (w : World) (e : Ending) (w' : World) : Prop :=
  e = .returned (.tuple #[]) ∧ Lib.IsBuilderF BuilderT ByteT B b (Lib.byteCells (bs ++ more)) w' ∧ Below B w w' ∧ Lib.OthersKept ByteT (some b) w w'
theorem put_any (size : Nat) (hz : 2 ≤ size) (hz4 : size ≤ 4) (big : Bool) (B b g c : Nat) (bs : List UInt8) (ns : List Nat) (w : World)
    (hI : Lib.IsBuilderF BuilderT ByteT B b (Lib.byteCells bs) w) (hBw : B ≤ w.heap.size) (hg : Blk w g 3 (ns.map fun n : Nat => Value.int .i64 n).toArray) (hgb : g ≠ b)
    (hn : ∀ n ∈ ns, n ≤ 4294967295) (hlen : bs.length + ns.length * 4 ≤ 1000000) :
    Calls Tryd.prog 88 #[.agg #[.int .i64 size, .bool big], .pointer (some ⟨b, 0, none⟩), .slice (some ⟨g, 0, none⟩) ns.length c] w (PutPost B b bs (ns.flatMap (unitB size big)) w) := by
  cases big
  · exact put_little size hz hz4 B b g c bs ns w hI hBw hg hgb hn hlen
  · exact put_big size hz hz4 B b g c bs ns w hI hBw hg hgb hn hlen
theorem put1 (size : Nat) (z : Int) (hzz : z = size) (hz : 2 ≤ size) (hz4 : size ≤ 4) (big : Bool) (B b g c : Nat) (bs : List UInt8) (x : Int) (n : Nat) (w : World)
    (hI : Lib.IsBuilderF BuilderT ByteT B b (Lib.byteCells bs) w) (hBw : B ≤ w.heap.size) (hg : Blk w g 3 #[.int .i64 x]) (hx : x = n) (hgb : g ≠ b)
    (hn : n ≤ 4294967295) (hlen : bs.length ≤ 999990) :
    Calls Tryd.prog 88 #[.agg #[.int .i64 z, .bool big], .pointer (some ⟨b, 0, none⟩), .slice (some ⟨g, 0, none⟩) 1 c] w (PutPost B b bs (unitB size big n) w) := by
  subst hx hzz
  have h := put_any size hz hz4 big B b g c bs [n] w hI hBw hg hgb (by simpa using hn) (by simp; omega)
  simpa using h
theorem put2 (size : Nat) (z : Int) (hzz : z = size) (hz : 2 ≤ size) (hz4 : size ≤ 4) (big : Bool) (B b g c : Nat) (bs : List UInt8) (x y : Int) (n m : Nat) (w : World)
    (hI : Lib.IsBuilderF BuilderT ByteT B b (Lib.byteCells bs) w) (hBw : B ≤ w.heap.size) (hg : Blk w g 3 #[.int .i64 x, .int .i64 y]) (hx : x = n) (hy : y = m) (hgb : g ≠ b)
    (hn : n ≤ 4294967295) (hm : m ≤ 4294967295) (hlen : bs.length ≤ 999990) :
    Calls Tryd.prog 88 #[.agg #[.int .i64 z, .bool big], .pointer (some ⟨b, 0, none⟩), .slice (some ⟨g, 0, none⟩) 2 c] w (PutPost B b bs (unitB size big n ++ unitB size big m) w) := by
  subst hx hy hzz
  have h := put_any size hz hz4 big B b g c bs [n, m] w hI hBw hg hgb (by simp; omega) (by simp; omega)
  simpa using h

/-- What Encode answers. -/
def encEnd (x : List UInt8 × Int) (e : Ending) : Prop := e = .returned (.tuple #[.string ⟨x.1.toArray⟩, .int .i64 x.2])

theorem fresh_builder (w : World) : Lib.IsBuilderF BuilderT ByteT w.heap.size w.heap.size (Lib.byteCells []) (w.alloc (.cells #[.pointer none, .slice none 0 0] BuilderT)) := by
  refine .inl ⟨Nat.le_refl _, .slice none 0 0, heap_alloc_new w _, ?_, by simp [Value.ownBlock]⟩
  exact World.ownsRowF_of (World.ownsRow_nil _ _ _ _)

set_option maxRecDepth 100000 in
set_option maxHeartbeats 1600000 in
theorem encode2 (k : Int) (h1 : 1 ≤ k) (h2 : k ≤ 2) (A : Option Addr) (n c : Nat) (l : List Int) (hlen : l.length ≤ 100000) (w : World) (hR : Rd w A n (i32s l)) :
    Calls Tryd.prog 82 #[.int .i64 k, .slice A n c] w fun e w' => encEnd (wenc 2 (bigOf k) l) e ∧ Below w.heap.size w w' := by
  have hn := hR.i32_len
  obtain ⟨big, hbig⟩ : ∃ b, (k % 2 == 0) = b := ⟨_, rfl⟩
  have HO : ∀ w, Calls Tryd.prog 84 #[.int .i64 k] w fun e w' => e = .returned (.tuple #[.agg #[.int .i64 2, .bool big, .bool true], .bool true]) ∧ Below w.heap.size w w' := by
    intro w
    have h := of_yes k h1 (by omega) w
    rw [show wsize k = 2 from by unfold wsize; rw [if_pos h2], show decide (k ≤ 2) = true from by simp; omega, hbig] at h
    exact h
  have HO' := Lib.hid HO; clear HO
  rw [show bigOf k = big from hbig]
  clear hbig h1 h2
  subst hn
  have HR := Lib.hid hR; clear hR
  go_enter Tryd.func82, Tryd.ntmps82
  go_wp2_with (go_at_call 84; refine (HO'.out _).mono ?_; rintro e w1 ⟨rfl, hb1⟩)
  go_loopw [20] (fun i wr => ∃ k : Nat, k ≤ l.length ∧ i = .int .i64 k ∧ Lib.IsBuilderF BuilderT ByteT (w1.heap.size + 1) (w1.heap.size + 1) (Lib.byteCells ((l.take k).flatMap (wchar 2 big))) wr ∧
      Below w1.heap.size w1 wr ∧ Blk wr w1.heap.size 123 #[.int .i64 2, .bool big, .bool true] ∧ (l.take k).all scal = true ∧ w1.heap.size + 2 ≤ wr.heap.size) (fun i _ => l.length - (intOf i).toNat)
  case atStart =>
    refine ⟨0, Nat.zero_le _, rfl, ?_, by go_grown, ?_, rfl, by simp⟩
    · have h := fresh_builder (w1.alloc (.cells #[.int .i64 2, .bool big, .bool true] 123))
      simp only [World.size_alloc] at h
      exact h
    · exact (Blk.new _ _ _).alloc _
  case round =>
    obtain ⟨k, hk, rfl, hI, hb2, hf, hall, hsz⟩ := hrel
    have hw1 := hb1.size
    by_cases hlt : k < l.length
    · have hfm := flatMap_snoc (wchar 2 big) l k hlt
      have hbl := flat_wchar_length_le 2 big (l.take k) (by omega)
      have hbl2 : ((l.take k).flatMap (wchar 2 big)).length ≤ 999990 := by rw [List.length_take] at hbl; omega
      have HL := Lib.hid hbl2; clear hbl hbl2
      obtain ⟨bA, oA, rfl, hbA, hcA⟩ := HR.out.i32_at hlt
      have hcA' : wr.cell? ⟨bA, oA + k, none⟩ = some (.int .i32 l[k]) := by
        rw [hb2.cell (p := ⟨bA, oA + k, none⟩) (by show bA < _; omega), hb1.cell (p := ⟨bA, oA + k, none⟩) hbA]; exact hcA
      have hc0 : wr.cell? ⟨w1.heap.size, 0, none⟩ = some (.int .i64 2) := by rw [hf.cell]; simp
      have hc1 : wr.cell? ⟨w1.heap.size, 1, none⟩ = some (.bool big) := by rw [hf.cell]; simp
      have hc2 : wr.cell? ⟨w1.heap.size, 2, none⟩ = some (.bool true) := by rw [hf.cell]; simp
      clear hcA hbA
      cases hsc : scal l[k]
      · have hbad := wenc_bad 2 big l k hlt hsc
        have HB := Lib.hid hbad
        have HS : Hid (∀ w, Calls Tryd.prog 20 #[.int .i32 l[k]] w fun e w' => e = .returned (.bool false) ∧ w = w') := by
          intro w; rw [← hsc]; exact scalar_any _ w
        clear hbad hfm hsc hall hI hf HL
        generalize l[k] = r at *
        go_wp2_with (go_at_call 20; refine (HS.out _).mono ?_; rintro e w' ⟨rfl, rfl⟩)
        go_returns
        exact ⟨by rw [HB.out]; rfl, hb1.trans (hb2.mono hw1)⟩
      · have HA := Lib.hid (all_scal_snoc l k hlt hall hsc)
        have HS : Hid (∀ w, Calls Tryd.prog 20 #[.int .i32 l[k]] w fun e w' => e = .returned (.bool true) ∧ w = w') := by
          intro w; rw [← hsc]; exact scalar_any _ w
        have HI := Lib.hid hI; have HF := Lib.hid hf; have HFM := Lib.hid hfm; have HB2 := Lib.hid hb2
        clear hfm hall hI hf hb2
        obtain ⟨x, hx⟩ : ∃ x, l[k] = x := ⟨_, rfl⟩
        rw [hx] at hcA' HS HFM hsc
        clear hx
        have hx0 : 0 ≤ x ∧ x ≤ 1114111 := by simp [scal] at hsc; omega
        obtain ⟨hx0, hx1⟩ := hx0
        clear hsc
        by_cases hp : x < 65536
        · have i1 : decide ((65536 : Int) ≤ x) = false := by simp; omega
          obtain ⟨n, rfl⟩ := Int.eq_ofNat_of_zero_le hx0
          have hw := wchar_one 2 big n (.inr (by omega))
          rw [hw] at HFM
          clear hw hx0 hp
          go_wp2_with (first | (go_at_call 20; refine (HS.out _).mono ?_; rintro e w' ⟨rfl, rfl⟩) | (go_at_call 88; refine (put1 2 _ (by rfl) (by omega) (by omega) big (w1.heap.size + 1) (w1.heap.size + 1) _ _ _ _ n _ (HI.out.alloc _) (by simp; omega) (Blk.new _ _ _) (by rfl) (by omega) (by omega) HL.out).mono ?_; rintro e w2 ⟨rfl, hI2, hb3, ho3⟩))
          go_roundw
          case rel =>
            refine ⟨k + 1, by omega, by go_num, by rw [HFM.out]; exact hI2, ?_, ?_, HA.out, ?_⟩
            · exact HB2.out.trans (((Below.refl _ _).alloc (by omega) _).trans (hb3.mono (Nat.le_succ _)))
            · exact (HF.out.alloc _).below hb3 (Nat.lt_succ_self _)
            · have := hb3.size; simp at this; omega
          case measure => simp [intOf]; omega
        · obtain ⟨m, hm⟩ : ∃ m : Nat, x = 65536 + (m : Int) := ⟨(x - 65536).toNat, by omega⟩
          have hm1 : (m : Int) ≤ 1048575 := by omega
          have i1 : decide ((65536 : Int) ≤ 65536 + (m : Int)) = true := by simp; omega
          have hand : bits .and .i64 (65536 + (m : Int) - 65536) 1023 = (m : Int) % 1024 := by
            rw [show (65536 + (m : Int) - 65536) = (m : Int) from by omega]
            have h := i64_and_nat m 1023 (by omega) (by omega)
            rw [show (1023 : Nat) = 2 ^ 10 - 1 from rfl, Nat.and_two_pow_sub_one_eq_mod] at h
            rw [show ((m : Int) % 1024) = ((m % 2 ^ 10 : Nat) : Int) from by omega]
            exact h
          subst hm
          have hw := wchar_two big m
          rw [hw] at HFM
          clear hw hx0 hx1 hp
          go_wp2_with (first | (go_at_call 20; refine (HS.out _).mono ?_; rintro e w' ⟨rfl, rfl⟩) | (go_at_call 88; refine (put2 2 _ (by rfl) (by omega) (by omega) big (w1.heap.size + 1) (w1.heap.size + 1) _ _ _ _ _ (55296 + m / 1024) (56320 + m % 1024) _ (HI.out.alloc _) (by simp; omega) (Blk.new _ _ _) (by omega) (by omega) (by omega) (by omega) (by omega) HL.out).mono ?_; rintro e w2 ⟨rfl, hI2, hb3, ho3⟩))
          go_roundw
          case rel =>
            refine ⟨k + 1, by omega, by go_num, by rw [HFM.out]; exact hI2, ?_, ?_, HA.out, ?_⟩
            · exact HB2.out.trans (((Below.refl _ _).alloc (by omega) _).trans (hb3.mono (Nat.le_succ _)))
            · exact (HF.out.alloc _).below hb3 (Nat.lt_succ_self _)
            · have := hb3.size; simp at this; omega
          case measure => simp [intOf]; omega
    · have hok := wenc_ok 2 big l k hlt hall
      have HOK := Lib.hid hok
      have HI := Lib.hid hI; have HB2 := Lib.hid hb2
      clear hok hI hf hall hb2
      go_wp2_with (go_at_call 46; refine (builderString_k _ _ _ _ HI.out (by omega)).mono ?_; rintro e w2 ⟨rfl, hI2, hb3, ho3⟩)
      go_returns
      exact ⟨by rw [HOK.out]; rfl, (hb1.trans (HB2.out.mono hw1)).trans (hb3.mono (by omega))⟩

set_option maxRecDepth 100000 in
set_option maxHeartbeats 1600000 in
theorem encode4 (k : Int) (h1 : 1 ≤ k) (h2 : 2 < k) (h4 : k ≤ 4) (A : Option Addr) (n c : Nat) (l : List Int) (hlen : l.length ≤ 100000) (w : World) (hR : Rd w A n (i32s l)) :
    Calls Tryd.prog 82 #[.int .i64 k, .slice A n c] w fun e w' => encEnd (wenc 4 (bigOf k) l) e ∧ Below w.heap.size w w' := by
  have hn := hR.i32_len
  obtain ⟨big, hbig⟩ : ∃ b, (k % 2 == 0) = b := ⟨_, rfl⟩
  have HO : ∀ w, Calls Tryd.prog 84 #[.int .i64 k] w fun e w' => e = .returned (.tuple #[.agg #[.int .i64 4, .bool big, .bool false], .bool true]) ∧ Below w.heap.size w w' := by
    intro w
    have h := of_yes k h1 (by omega) w
    rw [show wsize k = 4 from by unfold wsize; rw [if_neg (by omega)], show decide (k ≤ 2) = false from by simp; omega, hbig] at h
    exact h
  have HO' := Lib.hid HO; clear HO
  rw [show bigOf k = big from hbig]
  clear hbig h1 h2 h4
  subst hn
  have HR := Lib.hid hR; clear hR
  go_enter Tryd.func82, Tryd.ntmps82
  go_wp2_with (go_at_call 84; refine (HO'.out _).mono ?_; rintro e w1 ⟨rfl, hb1⟩)
  go_loopw [20] (fun i wr => ∃ k : Nat, k ≤ l.length ∧ i = .int .i64 k ∧ Lib.IsBuilderF BuilderT ByteT (w1.heap.size + 1) (w1.heap.size + 1) (Lib.byteCells ((l.take k).flatMap (wchar 4 big))) wr ∧
      Below w1.heap.size w1 wr ∧ Blk wr w1.heap.size 123 #[.int .i64 4, .bool big, .bool false] ∧ (l.take k).all scal = true ∧ w1.heap.size + 2 ≤ wr.heap.size) (fun i _ => l.length - (intOf i).toNat)
  case atStart =>
    refine ⟨0, Nat.zero_le _, rfl, ?_, by go_grown, ?_, rfl, by simp⟩
    · have h := fresh_builder (w1.alloc (.cells #[.int .i64 4, .bool big, .bool false] 123))
      simp only [World.size_alloc] at h
      exact h
    · exact (Blk.new _ _ _).alloc _
  case round =>
    obtain ⟨k, hk, rfl, hI, hb2, hf, hall, hsz⟩ := hrel
    have hw1 := hb1.size
    by_cases hlt : k < l.length
    · have hfm := flatMap_snoc (wchar 4 big) l k hlt
      have hbl := flat_wchar_length_le 4 big (l.take k) (by omega)
      have hbl2 : ((l.take k).flatMap (wchar 4 big)).length ≤ 999990 := by rw [List.length_take] at hbl; omega
      have HL := Lib.hid hbl2; clear hbl hbl2
      obtain ⟨bA, oA, rfl, hbA, hcA⟩ := HR.out.i32_at hlt
      have hcA' : wr.cell? ⟨bA, oA + k, none⟩ = some (.int .i32 l[k]) := by
        rw [hb2.cell (p := ⟨bA, oA + k, none⟩) (by show bA < _; omega), hb1.cell (p := ⟨bA, oA + k, none⟩) hbA]; exact hcA
      have hc0 : wr.cell? ⟨w1.heap.size, 0, none⟩ = some (.int .i64 4) := by rw [hf.cell]; simp
      have hc1 : wr.cell? ⟨w1.heap.size, 1, none⟩ = some (.bool big) := by rw [hf.cell]; simp
      have hc2 : wr.cell? ⟨w1.heap.size, 2, none⟩ = some (.bool false) := by rw [hf.cell]; simp
      clear hcA hbA
      cases hsc : scal l[k]
      · have hbad := wenc_bad 4 big l k hlt hsc
        have HB := Lib.hid hbad
        have HS : Hid (∀ w, Calls Tryd.prog 20 #[.int .i32 l[k]] w fun e w' => e = .returned (.bool false) ∧ w = w') := by
          intro w; rw [← hsc]; exact scalar_any _ w
        clear hbad hfm hsc hall hI hf HL
        generalize l[k] = r at *
        go_wp2_with (go_at_call 20; refine (HS.out _).mono ?_; rintro e w' ⟨rfl, rfl⟩)
        go_returns
        exact ⟨by rw [HB.out]; rfl, hb1.trans (hb2.mono hw1)⟩
      · have HA := Lib.hid (all_scal_snoc l k hlt hall hsc)
        have HS : Hid (∀ w, Calls Tryd.prog 20 #[.int .i32 l[k]] w fun e w' => e = .returned (.bool true) ∧ w = w') := by
          intro w; rw [← hsc]; exact scalar_any _ w
        have HI := Lib.hid hI; have HF := Lib.hid hf; have HFM := Lib.hid hfm; have HB2 := Lib.hid hb2
        clear hfm hall hI hf hb2
        obtain ⟨x, hx⟩ : ∃ x, l[k] = x := ⟨_, rfl⟩
        rw [hx] at hcA' HS HFM hsc
        clear hx
        have hx0 : 0 ≤ x ∧ x ≤ 1114111 := by simp [scal] at hsc; omega
        obtain ⟨hx0, hx1⟩ := hx0
        clear hsc
        obtain ⟨n, rfl⟩ := Int.eq_ofNat_of_zero_le hx0
        have hw := wchar_one 4 big n (.inl (by decide))
        rw [hw] at HFM
        clear hw hx0 
        go_wp2_with (first | (go_at_call 20; refine (HS.out _).mono ?_; rintro e w' ⟨rfl, rfl⟩) | (go_at_call 88; refine (put1 4 _ (by rfl) (by omega) (by omega) big (w1.heap.size + 1) (w1.heap.size + 1) _ _ _ _ n _ (HI.out.alloc _) (by simp; omega) (Blk.new _ _ _) (by rfl) (by omega) (by omega) HL.out).mono ?_; rintro e w2 ⟨rfl, hI2, hb3, ho3⟩))
        go_roundw
        case rel =>
          refine ⟨k + 1, by omega, by go_num, by rw [HFM.out]; exact hI2, ?_, ?_, HA.out, ?_⟩
          · exact HB2.out.trans (((Below.refl _ _).alloc (by omega) _).trans (hb3.mono (Nat.le_succ _)))
          · exact (HF.out.alloc _).below hb3 (Nat.lt_succ_self _)
          · have := hb3.size; simp at this; omega
        case measure => simp [intOf]; omega
    · have hok := wenc_ok 4 big l k hlt hall
      have HOK := Lib.hid hok
      have HI := Lib.hid hI; have HB2 := Lib.hid hb2
      clear hok hI hf hall hb2
      go_wp2_with (go_at_call 46; refine (builderString_k _ _ _ _ HI.out (by omega)).mono ?_; rintro e w2 ⟨rfl, hI2, hb3, ho3⟩)
      go_returns
      exact ⟨by rw [HOK.out]; rfl, (hb1.trans (HB2.out.mono hw1)).trans (hb3.mono (by omega))⟩

end Go.Proofs.YtlfhmkjomogkiaaDoor
