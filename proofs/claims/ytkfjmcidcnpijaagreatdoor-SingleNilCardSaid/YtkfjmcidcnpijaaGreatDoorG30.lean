/- Walk: single.New. -/
import Derived.Test.YtkfjmcidcnpijaaGreatDoorG29
namespace Go.Proofs.YtkfjmcidcnpijaaGreatDoor.Sg
open Go.RowKit Pl Go.Lib Go.Maps Go.WideMaps

abbrev TabT : TypeId := 56
theorem zero_size : (Tryz.zeroCells56).size = 257 := by kernel_rfl
/-- A byte's text. -/
def tx (l : List RowV) (j : Nat) : ByteArray := (textsF l [UInt8.ofNat j]).getD ⟨#[]⟩
/-- A table, the first i texts of which are there. -/
def TabAt (w : World) (tb : Nat) (l : List RowV) (i : Nat) : Prop := ∃ cs, Blk w tb TabT cs ∧ cs.size = 257 ∧ ∀ j, j < i → cs[1 + j]? = some (.string (tx l j))
/-- A table of rows. -/
structure TabOk (w : World) (tb : Nat) (l : List RowV) : Prop where
  valid : ∀ q ∈ l, wrong13 (plainR q) = 0
  mem : TabAt w tb l 256
theorem TabAt.keep {w w' : World} {tb i : Nat} {l : List RowV} (h : TabAt w tb l i) (hb : Below w.heap.size w w') : TabAt w' tb l i := by
  obtain ⟨cs, h1, h2, h3⟩ := h
  exact ⟨cs, Blk.ck h1 (.of_below hb), h2, h3⟩
theorem TabOk.keep {w w' : World} {tb : Nat} {l : List RowV} (h : TabOk w tb l) (hb : Below w.heap.size w w') : TabOk w' tb l := ⟨h.valid, h.mem.keep hb⟩
theorem TabAt.cell {w : World} {tb i : Nat} {l : List RowV} (h : TabAt w tb l i) (j : Nat) (hj : j < 256) : ∃ x, w.cell? ⟨tb, 1 + j, none⟩ = some x := by
  obtain ⟨cs, h1, h2, h3⟩ := h
  exact ⟨cs[1 + j]'(by omega), by rw [h1.cell, Array.getElem?_eq_getElem]⟩
theorem TabAt.put {w : World} {tb i : Nat} {l : List RowV} (h : TabAt w tb l i) (hi : i < 256) : TabAt (w.setCell ⟨tb, 1 + i, none⟩ (.string (tx l i))) tb l (i + 1) := by
  obtain ⟨cs, h1, h2, h3⟩ := h
  refine ⟨_, Blk.set h1 (1 + i) _, by simpa using h2, fun j hj => ?_⟩
  by_cases he : j = i
  · subst he
    rw [Array.getElem?_setIfInBounds_self_of_lt (by omega)]
  · rw [Array.getElem?_setIfInBounds_ne (by omega)]
    exact h3 j (by omega)
theorem ChAt.setTab {w : World} {b tb i j : Nat} {l : List RowV} {u : Value} (h : ChAt w b l) (ht : TabAt w tb l i) : ChAt (w.setCell ⟨tb, j, none⟩ u) b l := by
  obtain ⟨hv, cs, k, n, h1, h2, h3⟩ := h
  obtain ⟨ct, t1, _, _⟩ := ht
  have hg : w.grownBy (w.setCell ⟨tb, j, none⟩ u) (some tb) := grown_set w ⟨tb, j, none⟩ u
  obtain ⟨es, clock, hh⟩ := h3.isMap
  refine ⟨hv, cs, k, n, Blk.turn h1 hg (noRow_cells t1 (by decide)), h2, h3.turn hg (fun r e => ?_)⟩
  injection e with e
  subst e
  intro e2
  subst e2
  unfold Blk at t1
  rw [t1] at hh
  cases hh
def SNewP (w : World) (l : List RowV) (e : Ending) (w' : World) : Prop :=
  Below w.heap.size w w' ∧ ((wrong18 (l.map plainR)).2 ≠ 0 → e = .returned (.tuple #[.pointer none, .int .i64 (wrong18 (l.map plainR)).1, .int .i64 (wrong18 (l.map plainR)).2])) ∧
    ((wrong18 (l.map plainR)).2 = 0 → ∃ tb, e = .returned (.tuple #[.pointer (some ⟨tb, 0, none⟩), .int .i64 0, .int .i64 0]) ∧ TabOk w' tb l)
theorem byte_conv (w : World) (i : Nat) (_hi : i < 256) : (convert 35 9 (.slice (some ⟨w.heap.size, 0, none⟩) 1 1)).run Tryz.prog (w.alloc (.cells #[.int .u8 (i : Int)] 5)) = .ok (.string ⟨#[UInt8.ofNat i]⟩) (w.alloc (.cells #[.int .u8 (i : Int)] 5)) := by
  have hk := Blk.new w 5 #[.int .u8 (i : Int)]
  have hcv := run_convert_bytes_arg (P := Tryz.prog) (w.alloc (.cells #[.int .u8 (i : Int)] 5)) 35 5 Tryz.underlying35 Tryz.underlying5 w.heap.size 0 1 1 [(i : Int)] rfl (by
    intro j hj
    obtain rfl : j = 0 := by omega
    rw [hk.cell]; rfl) 9 Tryz.underlying9
  rw [show strOfNums [(i : Int)] = ⟨#[UInt8.ofNat i]⟩ from by
    apply ByteArray.ext
    apply Array.toList_inj.1
    rw [strOfNums_data]
    simp] at hcv
  exact hcv
set_option maxRecDepth 100000 in
set_option maxHeartbeats 3200000 in
theorem singleNew_any (A : Option Addr) (c : Nat) (l : List RowV) (w : World) (hR : RowsAt w A l) (hn : l.length ≤ 1000) (hS : ∀ r ∈ l, r.code.size ≤ 1048576 ∧ r.text.size ≤ 1048576) (hT : Tabs w) :
    Calls Tryz.prog 15 #[smallI, .slice A l.length c] w (SNewP w l) := by
  have HN := Lib.hid (charsetNew_any A c l w hR hn hS hT)
  have HI := Lib.hid (fun (w' : World) (hb : Below w.heap.size w w') => indexF_any A c l w' (hR.keep hb) (by omega) (fun r hr => by have := (hS r hr).1; unfold maxLen; omega))
  have HY : Hid (wrong18 (l.map plainR) = if (wrong17 (l.map plainR)).2 ≠ 0 then wrong17 (l.map plainR) else oneGo 0 (l.map plainR)) := Lib.hid rfl
  unfold SNewP NewP at *
  generalize wrong17 (l.map plainR) = Y at *
  generalize wrong18 (l.map plainR) = Z at *
  clear hR hT hS
  go_enter Tryz.func15, Tryz.ntmps15
  go_wp2_with fail
  refine HN.out.mono ?_
  rintro e w1 ⟨hb1, h1, h2⟩
  by_cases hy : Y.2 = 0
  rotate_left
  · obtain rfl := h1 hy
    have hz : Z = Y := by rw [HY.out, if_pos hy]
    subst hz
    have x1 : (Z.2 != 0) = true := by simp [hy]
    have HE := Lib.hid hy
    have HB1 := Lib.hid hb1
    clear h1 h2 hy hb1
    go_wp2_with fail
    go_returns
    exact ⟨HB1.out, fun _ => rfl, fun h => absurd h HE.out⟩
  obtain ⟨b, rfl, hch⟩ := h2 hy
  have hz : Z = if 0 ≤ idxGo 0 l then (idxGo 0 l + 1, 16) else (0, 0) := by rw [HY.out, if_neg (by simp [hy]), idx_one l 0 hch.valid]
  have HIX := Lib.hid (HI.out w1 hb1)
  have hrg := idxGo_range l 0
  generalize idxGo 0 l = X at *
  have HCH := Lib.hid hch
  have HB1 := Lib.hid hb1
  by_cases hi : 0 ≤ X
  · replace hz : Z = (X + 1, 16) := by rw [hz, if_pos hi]
    subst hz
    have e1 : decide (0 ≤ X) = true := decide_eq_true hi
    have hw : IntKind.i64.wrap (X + 1) = X + 1 := IntWalk.i64_in _ (by omega)
    clear h1 h2 hy hb1 hch hrg HY hi
    go_wp2_with fail
    refine HIX.out.mono ?_
    rintro _ w2 ⟨rfl, hb2⟩
    have HB2 := Lib.hid (HB1.out.trans (hb2.mono HB1.out.size))
    clear hb2
    go_wp2_with fail
    go_returns
    exact ⟨HB2.out, rfl⟩
  replace hz : Z = (0, 0) := by rw [hz, if_neg hi]
  subst hz
  obtain rfl : X = -1 := by omega
  clear h1 h2 hy hb1 hch hrg HY hi
  go_wp2_with fail
  refine HIX.out.mono ?_
  rintro _ w2 ⟨rfl, hb2⟩
  have HB2 := Lib.hid (HB1.out.trans (hb2.mono HB1.out.size))
  have HCH2 := Lib.hid (HCH.out.keep hb2)
  clear hb2
  go_upto_region 8 with fail
  have hal : Below w2.heap.size w2 (w2.alloc (.cells (Tryz.zeroCells56.setIfInBounds 0 (.pointer (some ⟨b, 0, none⟩))) TabT)) := (Below.refl _ _).alloc (Nat.le_refl _) _
  have HT0 : Hid (TabAt (w2.alloc (.cells (Tryz.zeroCells56.setIfInBounds 0 (.pointer (some ⟨b, 0, none⟩))) TabT)) w2.heap.size l 0) := Lib.hid ⟨_, Blk.new _ _ _, by rw [Array.size_setIfInBounds]; exact zero_size, fun j hj => by omega⟩
  have HC0 := Lib.hid (HCH2.out.keep hal)
  have HB3 := Lib.hid (HB2.out.trans (hal.mono HB2.out.size))
  clear hal
  generalize w2.alloc (.cells (Tryz.zeroCells56.setIfInBounds 0 (.pointer (some ⟨b, 0, none⟩))) TabT) = w3 at *
  generalize (Tryz.zeroCells56.setIfInBounds 0 (.pointer (some ⟨b, 0, none⟩))) = zc at *
  have htl : w.heap.size ≤ w2.heap.size := HB2.out.size
  generalize w2.heap.size = tb at *
  go_wp2_with fail
  go_loopw [33] (fun vi wr => ∃ i : Nat, i ≤ 256 ∧ vi = .int .i64 i ∧ Below w.heap.size w wr ∧ TabAt wr tb l i ∧ ChAt wr b l) (fun vi _ => 256 - (RowKit.intOf vi).toNat)
  case atStart => exact ⟨0, by omega, rfl, HB3.out, HT0.out, HC0.out⟩
  case round =>
    obtain ⟨i, hi, rfl, hb, htab, hch⟩ := hrel
    by_cases hlt : i < 256
    · have HB := Lib.hid hb
      have HTB := Lib.hid (htab.keep (Below.refl _ _).drew)
      have j1 : (i : Int) < 256 := by omega
      have j2 : (0 : Int) ≤ (i : Int) := by omega
      have hu : IntKind.u8.wrap (i : Int) = (i : Int) := IntWalk.u8_in _ (by omega)
      have hcv : (convert 35 9 (.slice (some ⟨wr.heap.size, 0, none⟩) 1 1)).run Tryz.prog (wr.drew.alloc (.cells #[.int .u8 (i : Int)] 5)) = _ := byte_conv wr.drew i hlt
      have hal : Below wr.drew.heap.size wr.drew (wr.drew.alloc (.cells #[.int .u8 (i : Int)] 5)) := (Below.refl _ _).alloc (Nat.le_refl _) _
      have hdr : Below wr.heap.size wr wr.drew := (Below.refl _ _).drew
      have HTX := Lib.hid (ctext_any b l ⟨#[UInt8.ofNat i]⟩ _ ((hch.keep hdr).keep hal) (by unfold maxLen; show (1 : Nat) ≤ _; omega))
      have HT1 := Lib.hid ((htab.keep hdr).keep hal)
      have HC1 := Lib.hid ((hch.keep hdr).keep hal)
      have HB1 := Lib.hid ((hb.trans (hdr.mono hb.size)).trans (hal.mono hb.size))
      obtain ⟨x, hx⟩ := HT1.out.cell i hlt
      have hfz : (wr.drew.alloc (.cells #[.int .u8 (i : Int)] 5)).frozen? ⟨tb, 1 + i, none⟩ = false := by
        obtain ⟨cs, h1, _, _⟩ := HT1.out
        exact Blk.frz h1 _
      have HT2 := Lib.hid (HT1.out.put hlt)
      clear hb htab hch hal hdr
      obtain ⟨W, hW⟩ : ∃ W, wr.drew.alloc (.cells #[.int .u8 (i : Int)] 5) = W := ⟨_, rfl⟩
      rw [hW] at hcv HTX HT1 HC1 HB1 hx hfz HT2
      go_wp2_with fail
      go_region_law (go_simp; go_at_call 33; refine HTX.out.mono ?_; rintro _ _ ⟨⟨kk, rfl⟩, rfl⟩)
      all_goals
        go_wp2_with fail
        go_roundw
        case rel => exact ⟨i + 1, by omega, by go_num, below_set HB1.out tb (1 + i) _ htl, HT2.out, HC1.out.setTab HT1.out⟩
        case measure => simp [RowKit.intOf]; omega
    · obtain rfl : i = 256 := by omega
      have HB := Lib.hid hb
      have HTB := Lib.hid htab
      have HCB := Lib.hid hch
      clear hb htab hch
      go_wp2_with fail
      go_returns
      exact ⟨HB.out, tb, rfl, HCB.out.valid, HTB.out⟩
end Go.Proofs.YtkfjmcidcnpijaaGreatDoor.Sg
