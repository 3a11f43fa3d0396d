/- Joined of: G29, G30. -/
import Derived.Test.YtkfjmcidcnpijaaGreatDoorG28
/- Walks: (*charset.Charset).Text, slices.IndexFunc with single.New's test. -/
namespace Go.Proofs.YtkfjmcidcnpijaaGreatDoor.Sg
open Go.RowKit Pl Go.Lib Go.Maps Go.WideMaps

theorem ChAt.keep {w w' : World} {b : Nat} {l : List RowV} (h : ChAt w b l) (hb : Below w.heap.size w w') : ChAt w' b l := by
  obtain ⟨hv, cs, k, n, h1, h2, h3⟩ := h
  exact ⟨hv, cs, k, n, Blk.ck h1 (.of_below hb), h2, h3.below hb⟩
set_option maxRecDepth 100000 in
set_option maxHeartbeats 1600000 in
theorem ctext_any (b : Nat) (l : List RowV) (code : ByteArray) (w : World) (hc : ChAt w b l) (hs : code.size ≤ maxLen) :
    Calls Tryz.prog 33 #[.pointer (some ⟨b, 0, none⟩), .string code] w fun e w' => (∃ k : Int, e = .returned (.tuple #[.string ((textsF l code.data.toList).getD ⟨#[]⟩), .int .i64 k])) ∧ w = w' := by
  obtain ⟨_, cs, k, n, h1, h2, h3⟩ := hc
  have c3 : w.cell? ⟨b, 3, none⟩ = some (.map (some k)) := by rw [h1.cell]; exact h2
  have hlk := h3.lookOk 97 Tryz.underlying97 code hs
  have hlk : (Instr.lookup 97 (.map (some k)) (.string code) true).run Tryz.prog w = .ok (.tuple #[.string ((textsF l code.data.toList).getD ⟨#[]⟩), .bool (textsF l code.data.toList).isSome]) w := hlk
  have hq : ∀ w, (binOp .eql 53 (.pointer (some ⟨b, 0, none⟩)) (.pointer none)).run Tryz.prog w = .ok (.bool false) w := fun _ => rfl
  clear h1 h2 h3
  generalize textsF l code.data.toList = X at *
  cases X with
  | none =>
    have hlk : (Instr.lookup 97 (.map (some k)) (.string code) true).run Tryz.prog w = .ok (.tuple #[.string ⟨#[]⟩, .bool false]) w := hlk
    go_enter Tryz.func33, Tryz.ntmps33
    go_wp2_with fail
    go_returns
    exact ⟨⟨_, rfl⟩, rfl⟩
  | some t =>
    have hlk : (Instr.lookup 97 (.map (some k)) (.string code) true).run Tryz.prog w = .ok (.tuple #[.string t, .bool true]) w := hlk
    go_enter Tryz.func33, Tryz.ntmps33
    go_wp2_with fail
    go_returns
    exact ⟨⟨_, rfl⟩, rfl⟩
set_option maxRecDepth 100000 in
theorem notone_any (r : RowV) (hr : r.code.size ≤ maxLen) (w : World) :
    Calls Tryz.prog 32 #[rowV r] w fun e w' => e = .returned (.bool (decide (r.code.size ≠ 1))) ∧ Below w.heap.size w w' := by
  obtain ⟨code, text, flag⟩ := r
  unfold maxLen at hr
  have hr : code.size ≤ 2 ^ 63 - 1 := hr
  obtain ⟨W, hW⟩ : ∃ W, w.alloc (.cells #[.string code, .string text, .int .i64 flag] 50) = W := ⟨_, rfl⟩
  have hb : Below w.heap.size w W := hW ▸ (Below.refl _ _).alloc (Nat.le_refl _) _
  have hk : Blk W w.heap.size 50 #[.string code, .string text, .int .i64 flag] := hW ▸ Blk.new _ _ _
  have k0 : W.cell? ⟨w.heap.size, 0, none⟩ = some (.string code) := by rw [hk.cell]; rfl
  have HB := Lib.hid hb
  clear hb hk
  go_enter Tryz.func32, Tryz.ntmps32
  by_cases h : code.size = 1
  · have e1 : ((code.size : Int) != 1) = false := by simp [h]
    have e2 : decide (code.size ≠ 1) = false := by simp [h]
    show Code.wp _ _ _ _ _
    go_wp2_with fail
    go_returns
    exact ⟨rfl, HB.out⟩
  · have e1 : ((code.size : Int) != 1) = true := by simp; omega
    have e2 : decide (code.size ≠ 1) = true := by simp [h]
    go_wp2_with fail
    go_returns
    exact ⟨rfl, HB.out⟩
/-- The first row whose code is not a single byte. -/
def idxGo : Nat → List RowV → Int
  | _, [] => -1
  | i, r :: t => if r.code.size ≠ 1 then (i : Int) else idxGo (i + 1) t
theorem idxGo_at (l : List RowV) (i : Nat) (hi : i < l.length) : idxGo i (l.drop i) = if l[i].code.size ≠ 1 then (i : Int) else idxGo (i + 1) (l.drop (i + 1)) := by
  rw [List.drop_eq_getElem_cons hi]
  rfl
set_option maxRecDepth 100000 in
set_option maxHeartbeats 1600000 in
theorem indexF_any (A : Option Addr) (c : Nat) (l : List RowV) (w : World) (hR : RowsAt w A l) (hn : l.length ≤ 1000000) (hS : ∀ r ∈ l, r.code.size ≤ maxLen) :
    Calls Tryz.prog 31 #[.slice A l.length c, .func (.func 32) #[] #[]] w fun e w' => e = .returned (.int .i64 (idxGo 0 l)) ∧ Below w.heap.size w w' := by
  obtain ⟨Z, hZ⟩ : ∃ Z, idxGo 0 l = Z := ⟨_, rfl⟩
  rw [hZ]
  have HR := Lib.hid hR
  have HS := Lib.hid hS
  have HZ := Lib.hid hZ
  clear hR hS hZ
  go_enter Tryz.func31, Tryz.ntmps31
  go_wp2_with fail
  go_loopw [8] (fun vi wr => ∃ i : Nat, i ≤ l.length ∧ vi = .int .i64 i ∧ Below w.heap.size w wr ∧ idxGo i (l.drop i) = Z) (fun vi _ => l.length - (RowKit.intOf vi).toNat)
  case atStart => exact ⟨0, Nat.zero_le _, rfl, Below.refl _ _, HZ.out⟩
  case round =>
    obtain ⟨i, hi, rfl, hb, hz⟩ := hrel
    by_cases hlt : i < l.length
    · obtain ⟨bk, o, rfl, hbk, q0, q1, q2⟩ := (HR.out.keep hb).at_ hlt
      have hsz := HS.out l[i] (List.getElem_mem hlt)
      rw [idxGo_at l i hlt] at hz
      have HN := Lib.hid (notone_any l[i] hsz wr)
      generalize l[i] = r at *
      have HB := Lib.hid hb
      have j1 : (i : Int) < (l.length : Int) := by omega
      have j2 : (0 : Int) ≤ (i : Int) := by omega
      have HZ2 := Lib.hid hz
      clear hb hz hbk hsz
      by_cases h1 : r.code.size = 1
      · have h2 : decide (r.code.size ≠ 1) = false := by simp [h1]
        rw [h2] at HN
        have hz : idxGo (i + 1) (l.drop (i + 1)) = Z := by rw [← HZ2.out, if_neg (by simp [h1])]
        have HZ3 := Lib.hid hz
        clear h1 h2 hz
        go_wp2_with fail
        refine HN.out.mono ?_
        rintro _ w1 ⟨rfl, hb1⟩
        have HB1 := Lib.hid (HB.out.trans (hb1.mono HB.out.size))
        clear hb1 q0 q1 q2
        go_wp2_with fail
        go_roundw
        case rel => exact ⟨i + 1, by omega, by go_num, HB1.out, HZ3.out⟩
        case measure => simp [RowKit.intOf]; omega
      · have h2 : decide (r.code.size ≠ 1) = true := by simp [h1]
        rw [h2] at HN
        have hz : Z = (i : Int) := by rw [← HZ2.out, if_pos h1]
        subst hz
        clear h1 h2 HZ2
        go_wp2_with fail
        refine HN.out.mono ?_
        rintro _ w1 ⟨rfl, hb1⟩
        have HB1 := Lib.hid (HB.out.trans (hb1.mono HB.out.size))
        clear hb1 q0 q1 q2
        go_wp2_with fail
        go_returns
        exact ⟨rfl, HB1.out⟩
    · obtain rfl : i = l.length := by omega
      have hz : Z = -1 := by rw [← hz, List.drop_eq_nil_of_le (Nat.le_refl _)]; rfl
      subst hz
      have HB := Lib.hid hb
      clear hb hz
      have jj : decide ((l.length : Int) < (l.length : Int)) = false := decide_eq_false (by omega)
      go_wp2_with fail
      go_returns
      exact ⟨rfl, HB.out⟩
/-- What IndexFunc finds, and what the reference says. -/
theorem idx_one : ∀ (l : List RowV) (i : Nat), (∀ q ∈ l, wrong13 (plainR q) = 0) → oneGo i (l.map plainR) = if 0 ≤ idxGo i l then (idxGo i l + 1, 16) else (0, 0) := by
  intro l
  induction l with
  | nil => intro i _; rfl
  | cons r t ih =>
    intro i h
    obtain ⟨_, e, _⟩ := plainR_valid r (h r (by simp))
    rw [List.map_cons]
    show (if (plainR r).code.size ≠ 1 then ((i : Int) + 1, (16 : Int)) else oneGo (i + 1) (t.map plainR)) = if 0 ≤ (if r.code.size ≠ 1 then (i : Int) else idxGo (i + 1) t) then ((if r.code.size ≠ 1 then (i : Int) else idxGo (i + 1) t) + 1, 16) else (0, 0)
    rw [e]
    show (if r.code.size ≠ 1 then ((i : Int) + 1, (16 : Int)) else oneGo (i + 1) (t.map plainR)) = _
    by_cases hs : r.code.size = 1
    · have hneg : ¬ (r.code.size ≠ 1) := fun h => h hs
      simp only [if_neg hneg]
      exact ih (i + 1) (fun q hq => h q (by simp [hq]))
    · have hpos : r.code.size ≠ 1 := hs
      simp only [if_pos hpos]
      rw [if_pos (by omega)]
theorem idxGo_range : ∀ (l : List RowV) (i : Nat), idxGo i l = -1 ∨ (0 ≤ idxGo i l ∧ idxGo i l < (i : Int) + l.length) := by
  intro l
  induction l with
  | nil => intro i; exact .inl rfl
  | cons r t ih =>
    intro i
    unfold idxGo
    by_cases hs : r.code.size ≠ 1
    · rw [if_pos hs]; right; rw [List.length_cons]; omega
    · rw [if_neg hs]
      rcases ih (i + 1) with h | h
      · exact .inl h
      · right; rw [List.length_cons]; omega
end Go.Proofs.YtkfjmcidcnpijaaGreatDoor.Sg
/- Walk: single.New. -/
namespace Go.Proofs.YtkfjmcidcnpijaaGreatDoor.Sg
open Go.RowKit Pl Go.Lib Go.Maps Go.WideMaps

abbrev TabT : TypeId := 56
theorem zero_size : (Tryz.zeroCells56).size = 257 := by kernel_rfl
/-- A byte's text. -/
def tx (l : List RowV) (j : Nat) : ByteArray := (textsF l [UInt8.ofNat j]).getD ⟨#[]⟩
/-- A table, the first i texts of which are there. -/
def TabAt (w : World) (tb : Nat) (l : List RowV) (i : Nat) : Prop := ∃ cs, Blk w tb TabT cs ∧ cs.size = 257 ∧ ∀ j, j < i → cs[1 + j]? = some (.string (tx l j))
/-- A table of rows. -/
structure TabOk (w : World) (tb : Nat) (l : List RowV) : Prop where
  valid : ∀ q ∈ l, wrong13 (plainR q) = 0
  mem : TabAt w tb l 256
theorem TabAt.keep {w w' : World} {tb i : Nat} {l : List RowV} (h : TabAt w tb l i) (hb : Below w.heap.size w w') : TabAt w' tb l i := by
  obtain ⟨cs, h1, h2, h3⟩ := h
  exact ⟨cs, Blk.ck h1 (.of_below hb), h2, h3⟩
theorem TabOk.keep {w w' : World} {tb : Nat} {l : List RowV} (h : TabOk w tb l) (hb : Below w.heap.size w w') : TabOk w' tb l := ⟨h.valid, h.mem.keep hb⟩
theorem TabAt.cell {w : World} {tb i : Nat} {l : List RowV} (h : TabAt w tb l i) (j : Nat) (hj : j < 256) : ∃ x, w.cell? ⟨tb, 1 + j, none⟩ = some x := by
  obtain ⟨cs, h1, h2, h3⟩ := h
  exact ⟨cs[1 + j]'(by omega), by rw [h1.cell, Array.getElem?_eq_getElem]⟩
theorem TabAt.put {w : World} {tb i : Nat} {l : List RowV} (h : TabAt w tb l i) (hi : i < 256) : TabAt (w.setCell ⟨tb, 1 + i, none⟩ (.string (tx l i))) tb l (i + 1) := by
  obtain ⟨cs, h1, h2, h3⟩ := h
  refine ⟨_, Blk.set h1 (1 + i) _, by simpa using h2, fun j hj => ?_⟩
  by_cases he : j = i
  · subst he
    rw [Array.getElem?_setIfInBounds_self_of_lt (by omega)]
  · rw [Array.getElem?_setIfInBounds_ne (by omega)]
    exact h3 j (by omega)
theorem ChAt.setTab {w : World} {b tb i j : Nat} {l : List RowV} {u : Value} (h : ChAt w b l) (ht : TabAt w tb l i) : ChAt (w.setCell ⟨tb, j, none⟩ u) b l := by
  obtain ⟨hv, cs, k, n, h1, h2, h3⟩ := h
  obtain ⟨ct, t1, _, _⟩ := ht
  have hg : w.grownBy (w.setCell ⟨tb, j, none⟩ u) (some tb) := grown_set w ⟨tb, j, none⟩ u
  obtain ⟨es, clock, hh⟩ := h3.isMap
  refine ⟨hv, cs, k, n, Blk.turn h1 hg (noRow_cells t1 (by decide)), h2, h3.turn hg (fun r e => ?_)⟩
  injection e with e
  subst e
  intro e2
  subst e2
  unfold Blk at t1
  rw [t1] at hh
  cases hh
def SNewP (w : World) (l : List RowV) (e : Ending) (w' : World) : Prop :=
  Below w.heap.size w w' ∧ ((wrong18 (l.map plainR)).2 ≠ 0 → e = .returned (.tuple #[.pointer none, .int .i64 (wrong18 (l.map plainR)).1, .int .i64 (wrong18 (l.map plainR)).2])) ∧
    ((wrong18 (l.map plainR)).2 = 0 → ∃ tb, e = .returned (.tuple #[.pointer (some ⟨tb, 0, none⟩), .int .i64 0, .int .i64 0]) ∧ TabOk w' tb l)
theorem byte_conv (w : World) (i : Nat) (_hi : i < 256) : (convert 35 9 (.slice (some ⟨w.heap.size, 0, none⟩) 1 1)).run Tryz.prog (w.alloc (.cells #[.int .u8 (i : Int)] 5)) = .ok (.string ⟨#[UInt8.ofNat i]⟩) (w.alloc (.cells #[.int .u8 (i : Int)] 5)) := by
  have hk := Blk.new w 5 #[.int .u8 (i : Int)]
  have hcv := run_convert_bytes_arg (P := Tryz.prog) (w.alloc (.cells #[.int .u8 (i : Int)] 5)) 35 5 Tryz.underlying35 Tryz.underlying5 w.heap.size 0 1 1 [(i : Int)] rfl (by
    intro j hj
    obtain rfl : j = 0 := by omega
    rw [hk.cell]; rfl) 9 Tryz.underlying9
  rw [show strOfNums [(i : Int)] = ⟨#[UInt8.ofNat i]⟩ from by
    apply ByteArray.ext
    apply Array.toList_inj.1
    rw [strOfNums_data]
    simp] at hcv
  exact hcv
set_option maxRecDepth 100000 in
set_option maxHeartbeats 3200000 in
theorem singleNew_any (A : Option Addr) (c : Nat) (l : List RowV) (w : World) (hR : RowsAt w A l) (hn : l.length ≤ 1000) (hS : ∀ r ∈ l, r.code.size ≤ 1048576 ∧ r.text.size ≤ 1048576) (hT : Tabs w) :
    Calls Tryz.prog 15 #[smallI, .slice A l.length c] w (SNewP w l) := by
  have HN := Lib.hid (charsetNew_any A c l w hR hn hS hT)
  have HI := Lib.hid (fun (w' : World) (hb : Below w.heap.size w w') => indexF_any A c l w' (hR.keep hb) (by omega) (fun r hr => by have := (hS r hr).1; unfold maxLen; omega))
  have HY : Hid (wrong18 (l.map plainR) = if (wrong17 (l.map plainR)).2 ≠ 0 then wrong17 (l.map plainR) else oneGo 0 (l.map plainR)) := Lib.hid rfl
  unfold SNewP NewP at *
  generalize wrong17 (l.map plainR) = Y at *
  generalize wrong18 (l.map plainR) = Z at *
  clear hR hT hS
  go_enter Tryz.func15, Tryz.ntmps15
  go_wp2_with fail
  refine HN.out.mono ?_
  rintro e w1 ⟨hb1, h1, h2⟩
  by_cases hy : Y.2 = 0
  rotate_left
  · obtain rfl := h1 hy
    have hz : Z = Y := by rw [HY.out, if_pos hy]
    subst hz
    have x1 : (Z.2 != 0) = true := by simp [hy]
    have HE := Lib.hid hy
    have HB1 := Lib.hid hb1
    clear h1 h2 hy hb1
    go_wp2_with fail
    go_returns
    exact ⟨HB1.out, fun _ => rfl, fun h => absurd h HE.out⟩
  obtain ⟨b, rfl, hch⟩ := h2 hy
  have hz : Z = if 0 ≤ idxGo 0 l then (idxGo 0 l + 1, 16) else (0, 0) := by rw [HY.out, if_neg (by simp [hy]), idx_one l 0 hch.valid]
  have HIX := Lib.hid (HI.out w1 hb1)
  have hrg := idxGo_range l 0
  generalize idxGo 0 l = X at *
  have HCH := Lib.hid hch
  have HB1 := Lib.hid hb1
  by_cases hi : 0 ≤ X
  · replace hz : Z = (X + 1, 16) := by rw [hz, if_pos hi]
    subst hz
    have e1 : decide (0 ≤ X) = true := decide_eq_true hi
    have hw : IntKind.i64.wrap (X + 1) = X + 1 := IntWalk.i64_in _ (by omega)
    clear h1 h2 hy hb1 hch hrg HY hi
    go_wp2_with fail
    refine HIX.out.mono ?_
    rintro _ w2 ⟨rfl, hb2⟩
    have HB2 := Lib.hid (HB1.out.trans (hb2.mono HB1.out.size))
    clear hb2
    go_wp2_with fail
    go_returns
    exact ⟨HB2.out, rfl⟩
  replace hz : Z = (0, 0) := by rw [hz, if_neg hi]
  subst hz
  obtain rfl : X = -1 := by omega
  clear h1 h2 hy hb1 hch hrg HY hi
  go_wp2_with fail
  refine HIX.out.mono ?_
  rintro _ w2 ⟨rfl, hb2⟩
  have HB2 := Lib.hid (HB1.out.trans (hb2.mono HB1.out.size))
  have HCH2 := Lib.hid (HCH.out.keep hb2)
  clear hb2
  go_upto_region 8 with fail
  have hal : Below w2.heap.size w2 (w2.alloc (.cells (Tryz.zeroCells56.setIfInBounds 0 (.pointer (some ⟨b, 0, none⟩))) TabT)) := (Below.refl _ _).alloc (Nat.le_refl _) _
  have HT0 : Hid (TabAt (w2.alloc (.cells (Tryz.zeroCells56.setIfInBounds 0 (.pointer (some ⟨b, 0, none⟩))) TabT)) w2.heap.size l 0) := Lib.hid ⟨_, Blk.new _ _ _, by rw [Array.size_setIfInBounds]; exact zero_size, fun j hj => by omega⟩
  have HC0 := Lib.hid (HCH2.out.keep hal)
  have HB3 := Lib.hid (HB2.out.trans (hal.mono HB2.out.size))
  clear hal
  generalize w2.alloc (.cells (Tryz.zeroCells56.setIfInBounds 0 (.pointer (some ⟨b, 0, none⟩))) TabT) = w3 at *
  generalize (Tryz.zeroCells56.setIfInBounds 0 (.pointer (some ⟨b, 0, none⟩))) = zc at *
  have htl : w.heap.size ≤ w2.heap.size := HB2.out.size
  generalize w2.heap.size = tb at *
  go_wp2_with fail
  go_loopw [33] (fun vi wr => ∃ i : Nat, i ≤ 256 ∧ vi = .int .i64 i ∧ Below w.heap.size w wr ∧ TabAt wr tb l i ∧ ChAt wr b l) (fun vi _ => 256 - (RowKit.intOf vi).toNat)
  case atStart => exact ⟨0, by omega, rfl, HB3.out, HT0.out, HC0.out⟩
  case round =>
    obtain ⟨i, hi, rfl, hb, htab, hch⟩ := hrel
    by_cases hlt : i < 256
    · have HB := Lib.hid hb
      have HTB := Lib.hid (htab.keep (Below.refl _ _).drew)
      have j1 : (i : Int) < 256 := by omega
      have j2 : (0 : Int) ≤ (i : Int) := by omega
      have hu : IntKind.u8.wrap (i : Int) = (i : Int) := IntWalk.u8_in _ (by omega)
      have hcv : (convert 35 9 (.slice (some ⟨wr.heap.size, 0, none⟩) 1 1)).run Tryz.prog (wr.drew.alloc (.cells #[.int .u8 (i : Int)] 5)) = _ := byte_conv wr.drew i hlt
      have hal : Below wr.drew.heap.size wr.drew (wr.drew.alloc (.cells #[.int .u8 (i : Int)] 5)) := (Below.refl _ _).alloc (Nat.le_refl _) _
      have hdr : Below wr.heap.size wr wr.drew := (Below.refl _ _).drew
      have HTX := Lib.hid (ctext_any b l ⟨#[UInt8.ofNat i]⟩ _ ((hch.keep hdr).keep hal) (by unfold maxLen; show (1 : Nat) ≤ _; omega))
      have HT1 := Lib.hid ((htab.keep hdr).keep hal)
      have HC1 := Lib.hid ((hch.keep hdr).keep hal)
      have HB1 := Lib.hid ((hb.trans (hdr.mono hb.size)).trans (hal.mono hb.size))
      obtain ⟨x, hx⟩ := HT1.out.cell i hlt
      have hfz : (wr.drew.alloc (.cells #[.int .u8 (i : Int)] 5)).frozen? ⟨tb, 1 + i, none⟩ = false := by
        obtain ⟨cs, h1, _, _⟩ := HT1.out
        exact Blk.frz h1 _
      have HT2 := Lib.hid (HT1.out.put hlt)
      clear hb htab hch hal hdr
      obtain ⟨W, hW⟩ : ∃ W, wr.drew.alloc (.cells #[.int .u8 (i : Int)] 5) = W := ⟨_, rfl⟩
      rw [hW] at hcv HTX HT1 HC1 HB1 hx hfz HT2
      go_wp2_with fail
      go_region_law (go_simp; go_at_call 33; refine HTX.out.mono ?_; rintro _ _ ⟨⟨kk, rfl⟩, rfl⟩)
      all_goals
        go_wp2_with fail
        go_roundw
        case rel => exact ⟨i + 1, by omega, by go_num, below_set HB1.out tb (1 + i) _ htl, HT2.out, HC1.out.setTab HT1.out⟩
        case measure => simp [RowKit.intOf]; omega
    · obtain rfl : i = 256 := by omega
      have HB := Lib.hid hb
      have HTB := Lib.hid htab
      have HCB := Lib.hid hch
      clear hb htab hch
      go_wp2_with fail
      go_returns
      exact ⟨HB.out, tb, rfl, HCB.out.valid, HTB.out⟩
end Go.Proofs.YtkfjmcidcnpijaaGreatDoor.Sg
