/- Walks: utf8.Encode, inkhornref01.Bytes. -/
import Derived.Test.YtlfhmkjomogkiaaDoorUf
import Derived.Test.YtlfhmkjomogkiaaDoorFrame
import Derived.Laws.BytesArg
namespace Go.Proofs.YtlfhmkjomogkiaaDoor.Utf
open Go.RowKit Pl

theorem put_any (B b : Nat) (pre : List UInt8) (r : Int) (hs : scal r = true) (w : World) (hRL : RL w)
    (hI : Lib.IsBuilderF BuilderT ByteT B b (Lib.byteCells pre) w) (hBw : B ≤ w.heap.size) (hlen : pre.length ≤ 1000000) :
    Calls Tryd.prog 45 #[.pointer (some ⟨b, 0, none⟩), .int .i32 r] w (PutPost B b pre (uch r) w) := by
  have hr : 0 ≤ r ∧ r ≤ 1114111 := by simp [scal] at hs; omega
  obtain ⟨x, rfl⟩ := Int.eq_ofNat_of_zero_le hr.1
  by_cases h1 : x ≤ 127
  · exact put_1 B b pre x hs (Nat.zero_le _) h1 w hRL hI hBw hlen
  by_cases h2 : x ≤ 2047
  · exact put_2 B b pre x hs (by omega) h2 w hRL hI hBw hlen
  by_cases h3 : x ≤ 65535
  · exact put_3 B b pre x hs (by omega) h3 w hRL hI hBw hlen
  · exact put_4 B b pre x hs (by omega) (by omega) w hRL hI hBw hlen

/-- Characters as bytes: the bytes, and the error. -/
def uenc (l : List Int) : List UInt8 × Int := if l.all scal then (l.flatMap uch, 0) else ([], 11)
/-- What Encode answers. -/
def encEnd (x : List UInt8 × Int) (e : Ending) : Prop := e = .returned (.tuple #[.string ⟨x.1.toArray⟩, .int .i64 x.2])
theorem uenc_bad (l : List Int) (k : Nat) (h : k < l.length) (h2 : scal l[k] = false) : uenc l = ([], 11) := by
  unfold uenc
  rw [if_neg]
  intro hall
  have := List.all_eq_true.1 hall l[k] (List.getElem_mem h)
  rw [h2] at this; cases this
theorem uenc_ok (l : List Int) (k : Nat) (hk : ¬ k < l.length) (h1 : (l.take k).all scal = true) : uenc l = ((l.take k).flatMap uch, 0) := by
  rw [List.take_of_length_le (by omega)] at *
  unfold uenc; rw [if_pos h1]
theorem uch_le (r : Int) : (uch r).length ≤ 4 := by
  unfold uch uchN
  rw [List.length_map]
  split
  · simp
  · split
    · simp
    · split <;> simp
theorem flat_uch_le (l : List Int) : (l.flatMap uch).length ≤ 4 * l.length := by
  induction l with
  | nil => simp
  | cons a l ih =>
    have := uch_le a
    simp [List.flatMap_cons] at *; omega
theorem ulen_zero (r : Int) : ulen r = if scal r then (uch r).length else 0 := rfl
theorem uch_pos (r : Int) : 1 ≤ (uch r).length := by
  unfold uch uchN
  rw [List.length_map]
  split
  · simp
  · split
    · simp
    · split <;> simp
theorem fresh_builder (w : World) : Lib.IsBuilderF BuilderT ByteT w.heap.size w.heap.size (Lib.byteCells []) (w.alloc (.cells #[.pointer none, .slice none 0 0] BuilderT)) := by
  refine .inl ⟨Nat.le_refl _, .slice none 0 0, heap_alloc_new w _, ?_, by simp [Value.ownBlock]⟩
  exact World.ownsRowF_of (World.ownsRow_nil _ _ _ _)
set_option maxRecDepth 100000 in
set_option maxHeartbeats 3200000 in
theorem encode_any (A : Option Addr) (n c : Nat) (l : List Int) (hlen : l.length ≤ 100000) (w : World) (hRL : RL w) (hR : Rd w A n (i32s l)) :
    Calls Tryd.prog 19 #[.slice A n c] w fun e w' => encEnd (uenc l) e ∧ Below w.heap.size w w' := by
  obtain rfl := hR.i32_len
  have HR := Lib.hid hR
  have HRL := Lib.hid hRL
  have hpos := hRL.pos
  clear hR hRL
  go_enter Tryd.func19, Tryd.ntmps19
  go_wp2
  go_loopw [9] (fun i wr => ∃ k : Nat, k ≤ l.length ∧ i = .int .i64 k ∧ Lib.IsBuilderF BuilderT ByteT w.heap.size w.heap.size (Lib.byteCells ((l.take k).flatMap uch)) wr ∧
      Below w.heap.size w wr ∧ (l.take k).all scal = true ∧ w.heap.size + 1 ≤ wr.heap.size) (fun i _ => l.length - (intOf i).toNat)
  case atStart => exact ⟨0, Nat.zero_le _, rfl, fresh_builder w, by go_grown, rfl, by simp⟩
  case round =>
    obtain ⟨k, hk, rfl, hI, hb2, hall, hsz⟩ := hrel
    by_cases hlt : k < l.length
    · have hfm := flatMap_snoc uch l k hlt
      have hbl := flat_uch_le (l.take k)
      have hbl2 : ((l.take k).flatMap uch).length ≤ 999990 := by rw [List.length_take] at hbl; omega
      have HL := Lib.hid hbl2; clear hbl hbl2
      obtain ⟨bA, oA, rfl, hbA, hcA⟩ := HR.out.i32_at hlt
      have hcA' : wr.cell? ⟨bA, oA + k, none⟩ = some (.int .i32 l[k]) := by
        rw [hb2.cell (p := ⟨bA, oA + k, none⟩) (by show bA < _; omega)]; exact hcA
      have hRLr := HRL.out.since hb2
      have HRr := Lib.hid hRLr
      clear hcA hbA hRLr
      obtain ⟨r, hr⟩ : ∃ r, l[k] = r := ⟨_, rfl⟩
      cases hsc : scal l[k]
      · have hbad := uenc_bad l k hlt hsc
        have HB := Lib.hid hbad
        have HLen := Lib.hid (len_any l[k] wr HRr.out)
        rw [show ulen l[k] = 0 from by simp [ulen, hsc], hr] at HLen
        rw [hr] at hcA'
        have HB2 := Lib.hid hb2
        clear hbad hfm hsc hall hI HL hr hb2
        go_wp2_with fail
        refine HLen.out.mono ?_
        rintro e w1 ⟨rfl, hb3⟩
        go_wp2
        go_returns
        exact ⟨by rw [HB.out]; rfl, HB2.out.trans (hb3.mono HB2.out.size)⟩
      · have HA := Lib.hid (all_scal_snoc l k hlt hall hsc)
        have HLen := Lib.hid (len_any l[k] wr HRr.out)
        have hul : ((ulen l[k] : Int) == 0) = false := by
          have := uch_pos l[k]
          rw [show ulen l[k] = (uch l[k]).length from by unfold ulen; rw [if_pos hsc], beq_eq_false_iff_ne]
          omega
        have HP : Hid (∀ (pre : List UInt8) w1, RL w1 → Lib.IsBuilderF BuilderT ByteT w.heap.size w.heap.size (Lib.byteCells pre) w1 → w.heap.size ≤ w1.heap.size → pre.length ≤ 1000000 →
            Calls Tryd.prog 45 #[.pointer (some ⟨w.heap.size, 0, none⟩), .int .i32 l[k]] w1 (PutPost w.heap.size w.heap.size pre (uch l[k]) w1)) :=
          fun pre w1 h1 h2 h3 h4 => put_any _ _ pre _ hsc w1 h1 h2 h3 h4
        obtain ⟨u, hu⟩ : ∃ u, ulen l[k] = u := ⟨_, rfl⟩
        rw [hu] at HLen hul
        rw [hr] at hcA' HLen HP hfm
        have HI := Lib.hid hI; have HFM := Lib.hid hfm; have HB2 := Lib.hid hb2
        clear hfm hall hI hb2 hu hr hsc
        go_wp2_with fail
        refine HLen.out.mono ?_
        rintro e w1 ⟨rfl, hb3⟩
        have HI1 := Lib.hid (bld_below HI.out hb3)
        have HB3 := Lib.hid (HB2.out.trans (hb3.mono HB2.out.size))
        have HR1 := Lib.hid (HRr.out.since hb3)
        have hz3 := hb3.size
        clear hb3
        go_wp2_with fail
        refine (HP.out _ _ HR1.out HI1.out (by omega) (by have := HL.out; omega)).mono ?_
        rintro e w2 ⟨rfl, hI2, hb4⟩
        have hz4 := hb4.size
        have HI2 := Lib.hid hI2
        have HB4 := Lib.hid (HB3.out.trans hb4)
        clear hI2 hb4
        go_wp2
        go_roundw
        case rel => exact ⟨k + 1, by omega, by go_num, by rw [HFM.out]; exact HI2.out, HB4.out, HA.out, by omega⟩
        case measure => simp [intOf]; omega
    · have hok := uenc_ok l k hlt hall
      have HOK := Lib.hid hok
      have HI := Lib.hid hI; have HB2 := Lib.hid hb2
      clear hok hI hall hb2
      go_wp2_with (go_at_call 46; refine (builderString_k _ _ _ _ HI.out (by omega)).mono ?_; rintro e w2 ⟨rfl, hI2, hb3, ho3⟩)
      go_returns
      exact ⟨by rw [HOK.out]; rfl, HB2.out.trans hb3⟩

/-- inkhornref01.Bytes. -/
theorem ba_of_list (l : List Nat) : (⟨(l.map UInt8.ofNat).toArray⟩ : ByteArray).data.toList = l.map UInt8.ofNat := by simp
end Go.Proofs.YtlfhmkjomogkiaaDoor.Utf
