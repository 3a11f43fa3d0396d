/- Walks: utf8.put. Written by mkUf.py. -/
import Derived.Test.YtlfhmkjomogkiaaDoorUb
import Derived.Test.YtlfhmkjomogkiaaDoorWbits
import Derived.Test.YtlfhmkjomogkiaaDoorShelf
import Derived.Lib.OthersKept
import Derived.LoopN
namespace Go.Proofs.YtlfhmkjomogkiaaDoor.Utf
open Go.RowKit Pl

abbrev BuilderT : TypeId := 80
abbrev ByteT : TypeId := 5
theorem byteCells_length (l : List UInt8) : (Lib.byteCells l).length = l.length := by simp [Lib.byteCells]
theorem byteCells_append (l m : List UInt8) : Lib.byteCells (l ++ m) = Lib.byteCells l ++ Lib.byteCells m := by simp [Lib.byteCells]
theorem bld_below {T e : TypeId} {B b : Nat} {bs : List Value} {w w1 : World} (h : Lib.IsBuilderF T e B b bs w) (hb : Below w.heap.size w w1) : Lib.IsBuilderF T e B b bs w1 := by
  have one : ∀ {p : Value}, Lib.BuilderAtF T e B b p bs w → Lib.BuilderAtF T e B b p bs w1 := by
    intro p h
    have hlt := h.lt
    obtain ⟨h1, v, hv, hown, hne⟩ := h
    refine ⟨h1, v, (hb.block b hlt).trans hv, ?_, hne⟩
    exact hown.kept (row := none) ⟨hb.os, hb.tape, hb.output, hb.size, fun k hk _ => hb.block k hk⟩ (Classical.em _)
  rcases h with h | h
  · exact .inl (one h)
  · exact .inr (one h)
theorem bld_at {T e : TypeId} {B b : Nat} {bs : List Value} {w : World} (h : Lib.IsBuilderF T e B b bs w) : B ≤ b ∧ b < w.heap.size := by
  rcases h with h | h <;> exact ⟨h.1, h.lt⟩
theorem cells_nats (l : List Nat) (h : ∀ n ∈ l, n < 256) : Lib.byteCells (l.map UInt8.ofNat) = l.map fun n : Nat => Value.int .u8 n := by
  simp only [Lib.byteCells, List.map_map]
  apply List.map_congr_left
  intro n hn
  show Value.int .u8 ((UInt8.ofNat n).toNat : Int) = _
  rw [of_u8 n (h n hn)]
/-- An or of a mark and less than it leaves free is their sum. -/
theorem or_mark (a i y : Nat) (hy : y < 2 ^ i) (h : a * 2 ^ i ≤ 255) (h2 : 2 ^ i ≤ 256) : bits .or .i64 ((a * 2 ^ i : Nat) : Int) (y : Int) = ((a * 2 ^ i + y : Nat) : Int) := by
  rw [i64_or_nat (a * 2 ^ i) y (by omega) (by omega), or_low a y i hy]
theorem and_63 (y : Nat) (h : y ≤ 1114111) : bits .and .i64 (y : Int) 63 = ((y % 64 : Nat) : Int) := by
  have h2 := i64_and_nat y 63 (by omega) (by omega)
  rw [show (63 : Nat) = 2 ^ 6 - 1 from rfl, Nat.and_two_pow_sub_one_eq_mod] at h2
  exact h2
theorem wrap_u8 (y : Nat) (h : y ≤ 255) : IntKind.u8.wrap (y : Int) = (y : Int) := by
  rw [IntKind.wrap_u8]; omega
/-- What put leaves. -/
def PutPost (B b : Nat) (bs more : List UInt8) (w : World) (e : Ending) (w' : World) : Prop :=
  e = .returned (.tuple #[]) ∧ Lib.IsBuilderF BuilderT ByteT B b (Lib.byteCells (bs ++ more)) w' ∧ Below B w w'
theorem rowCell {w : World} (h : RL w) (i : Nat) : w.cell? ⟨0, i, none⟩ = rowsCells[i]? := by
  obtain ⟨t, fr, h⟩ := h
  exact cell_of_row w 0 i rowsCells t fr h
set_option maxRecDepth 100000 in
set_option maxHeartbeats 3200000 in
theorem put_1 (B b : Nat) (pre : List UInt8) (x : Nat) (_hs : scal x = true) (x0 : 0 ≤ x) (x1 : x ≤ 127) (w : World) (hRL : RL w)
    (hI : Lib.IsBuilderF BuilderT ByteT B b (Lib.byteCells pre) w) (hBw : B ≤ w.heap.size) (hlen : pre.length ≤ 1000000) :
    Calls Tryd.prog 45 #[.pointer (some ⟨b, 0, none⟩), .int .i32 x] w (PutPost B b pre (uch x) w) := by
  have hu : ulen (x : Int) = 1 := ulen_1 (by omega) (by omega)
  have HLen := Lib.hid (len_any (x : Int) w hRL)
  rw [hu] at HLen
  have hch : uch (x : Int) = [x].map UInt8.ofNat := by
    unfold uch
    rw [show ((x : Int)).toNat = x from rfl, uchN_1 (by omega)]
  obtain ⟨Y0, hY0⟩ : ∃ Y : Nat, x = Y := ⟨_, rfl⟩
  have kor0 : bits .or .i64 0 ((x : Int)) = (Y0 : Int) := by rw [← hY0]; simpa using or_mark 0 7 (x) (by omega) (by decide) (by decide)
  have ku0 : IntKind.u8.wrap (Y0 : Int) = (Y0 : Int) := wrap_u8 Y0 (by omega)
  have ky0 : Y0 ≤ 255 := by omega
  have HC : Hid (Lib.byteCells (pre ++ uch (x : Int)) = Lib.byteCells pre ++ [.int .u8 (Y0 : Int)]) := by
    show _ = _
    rw [byteCells_append, hch, hY0, cells_nats _ (by simp; omega)]
    simp
  have HPL := Lib.hid hlen
  have hat := bld_at hI
  have kx : IntKind.i64.wrap (x : Int) = (x : Int) := IntWalk.i64_in _ (by omega)
  clear hu hch hlen hY0 
  go_enter Tryd.func45, Tryd.ntmps45
  go_wp2_with fail
  refine HLen.out.mono ?_
  rintro e w1 ⟨rfl, hb1⟩
  have c1 : w1.cell? ⟨0, 1, none⟩ = some (.int .i64 0) := rowCell (hRL.since hb1) 1
  have hI0 := bld_below hI hb1
  have hB0 := Lib.hid (hb1.mono hBw)
  have hz := hb1.size
  have hRL1 := (hRL.since hb1).pos
  clear hb1 hRL hI HLen
  go_wp2_with fail
  have k1 : IntKind.i64.wrap 0 = 0 := by decide
  have k2 : IntKind.i64.wrap 0 = 0 := by decide
  go_still_tail 14, (by kernel_rfl)
  change wpList _ _ _ _ _ w1.drew
  clear k1 k2 c1 kx kor0 ku0
  have hI1 := bld_below hI0 ((Below.refl _ _).drew)
  have hB1 : Hid (Below B w w1.drew) := Lib.hid hB0.out.drew
  clear hI0 hB0
  go_wp2_with (go_at_call 55; refine (writeByte_k B b _ _ _ hI1 (by simp [byteCells_length]; have := HPL.out; omega) (by have h := hB1.out.size; omega)).mono ?_; rintro e w2 ⟨rfl, ha2, hb2, _⟩)
  have hI2 : Lib.IsBuilderF BuilderT ByteT B b _ w2 := .inr ha2
  have hz2 := hb2.size
  have hB2 := Lib.hid (hB1.out.trans hb2)
  clear ha2 hb2 hI1
  refine wp_loop_rounds 5 ?_
  rw [rounds_succ]
  go_wp2
  go_returns
  exact ⟨rfl, by rw [HC.out]; exact hI2, hB2.out⟩
set_option maxRecDepth 100000 in
set_option maxHeartbeats 3200000 in
theorem put_2 (B b : Nat) (pre : List UInt8) (x : Nat) (_hs : scal x = true) (x0 : 128 ≤ x) (x1 : x ≤ 2047) (w : World) (hRL : RL w)
    (hI : Lib.IsBuilderF BuilderT ByteT B b (Lib.byteCells pre) w) (hBw : B ≤ w.heap.size) (hlen : pre.length ≤ 1000000) :
    Calls Tryd.prog 45 #[.pointer (some ⟨b, 0, none⟩), .int .i32 x] w (PutPost B b pre (uch x) w) := by
  have hu : ulen (x : Int) = 2 := ulen_2 (by omega) (by omega)
  have HLen := Lib.hid (len_any (x : Int) w hRL)
  rw [hu] at HLen
  have hch : uch (x : Int) = [192 + x / 64, 128 + x % 64].map UInt8.ofNat := by
    unfold uch
    rw [show ((x : Int)).toNat = x from rfl, uchN_2 (by omega) (by omega)]
  obtain ⟨Y0, hY0⟩ : ∃ Y : Nat, 192 + x / 64 = Y := ⟨_, rfl⟩
  have kor0 : bits .or .i64 192 ((x : Int) / 64) = (Y0 : Int) := by rw [← hY0]; exact or_mark 6 5 (x / 64) (by omega) (by decide) (by decide)
  have ku0 : IntKind.u8.wrap (Y0 : Int) = (Y0 : Int) := wrap_u8 Y0 (by omega)
  have ky0 : Y0 ≤ 255 := by omega
  obtain ⟨Z1, hZ1⟩ : ∃ Z : Nat, x % 64 = Z := ⟨_, rfl⟩
  obtain ⟨Y1, hY1⟩ : ∃ Y : Nat, 128 + Z1 = Y := ⟨_, rfl⟩
  have kand1 : bits .and .i64 ((x : Int)) 63 = (Z1 : Int) := by rw [← hZ1]; exact and_63 (x) (by omega)
  have kor1 : bits .or .i64 128 (Z1 : Int) = (Y1 : Int) := by rw [← hY1]; exact or_mark 2 6 Z1 (by omega) (by decide) (by decide)
  have ku1 : IntKind.u8.wrap (Y1 : Int) = (Y1 : Int) := wrap_u8 Y1 (by omega)
  have ky1 : Y1 ≤ 255 := by omega
  have HC : Hid (Lib.byteCells (pre ++ uch (x : Int)) = Lib.byteCells pre ++ [.int .u8 (Y0 : Int)] ++ [.int .u8 (Y1 : Int)]) := by
    show _ = _
    rw [byteCells_append, hch, hY0, hZ1, hY1, cells_nats _ (by simp; omega)]
    simp
  have HPL := Lib.hid hlen
  have hat := bld_at hI
  have kx : IntKind.i64.wrap (x : Int) = (x : Int) := IntWalk.i64_in _ (by omega)
  clear hu hch hlen hY0 hZ1 hY1
  go_enter Tryd.func45, Tryd.ntmps45
  go_wp2_with fail
  refine HLen.out.mono ?_
  rintro e w1 ⟨rfl, hb1⟩
  have c1 : w1.cell? ⟨0, 4, none⟩ = some (.int .i64 192) := rowCell (hRL.since hb1) 4
  have hI0 := bld_below hI hb1
  have hB0 := Lib.hid (hb1.mono hBw)
  have hz := hb1.size
  have hRL1 := (hRL.since hb1).pos
  clear hb1 hRL hI HLen
  go_wp2_with fail
  have k1 : IntKind.i64.wrap 1 = 1 := by decide
  have k2 : IntKind.i64.wrap 6 = 6 := by decide
  go_still_tail 14, (by kernel_rfl)
  change wpList _ _ _ _ _ w1.drew
  clear k1 k2 c1 kx kor0 ku0
  have hI1 := bld_below hI0 ((Below.refl _ _).drew)
  have hB1 : Hid (Below B w w1.drew) := Lib.hid hB0.out.drew
  clear hI0 hB0
  go_wp2_with (go_at_call 55; refine (writeByte_k B b _ _ _ hI1 (by simp [byteCells_length]; have := HPL.out; omega) (by have h := hB1.out.size; omega)).mono ?_; rintro e w2 ⟨rfl, ha2, hb2, _⟩)
  have hI2 : Lib.IsBuilderF BuilderT ByteT B b _ w2 := .inr ha2
  have hz2 := hb2.size
  have hB2 := Lib.hid (hB1.out.trans hb2)
  clear ha2 hb2 hI1
  refine wp_loop_rounds 5 ?_
  rw [rounds_succ]
  go_wp2_with (go_at_call 55; refine (writeByte_k B b _ _ _ hI2 (by simp [byteCells_length]; have := HPL.out; omega) (by have h := hB2.out.size; omega)).mono ?_; rintro e w3 ⟨rfl, ha3, hb3, _⟩)
  have hI3 : Lib.IsBuilderF BuilderT ByteT B b _ w3 := .inr ha3
  have hz3 := hb3.size
  have hB3 := Lib.hid (hB2.out.trans hb3)
  clear ha3 hb3 hI2
  rw [rounds_succ]
  go_wp2
  go_returns
  exact ⟨rfl, by rw [HC.out]; exact hI3, hB3.out⟩
set_option maxRecDepth 100000 in
set_option maxHeartbeats 3200000 in
theorem put_3 (B b : Nat) (pre : List UInt8) (x : Nat) (hs : scal x = true) (x0 : 2048 ≤ x) (x1 : x ≤ 65535) (w : World) (hRL : RL w)
    (hI : Lib.IsBuilderF BuilderT ByteT B b (Lib.byteCells pre) w) (hBw : B ≤ w.heap.size) (hlen : pre.length ≤ 1000000) :
    Calls Tryd.prog 45 #[.pointer (some ⟨b, 0, none⟩), .int .i32 x] w (PutPost B b pre (uch x) w) := by
  have hu : ulen (x : Int) = 3 := ulen_3 hs (by omega) (by omega)
  have HLen := Lib.hid (len_any (x : Int) w hRL)
  rw [hu] at HLen
  have hch : uch (x : Int) = [224 + x / 4096, 128 + x / 64 % 64, 128 + x % 64].map UInt8.ofNat := by
    unfold uch
    rw [show ((x : Int)).toNat = x from rfl, uchN_3 (by omega) (by omega)]
  obtain ⟨Y0, hY0⟩ : ∃ Y : Nat, 224 + x / 4096 = Y := ⟨_, rfl⟩
  have kor0 : bits .or .i64 224 ((x : Int) / 4096) = (Y0 : Int) := by rw [← hY0]; exact or_mark 14 4 (x / 4096) (by omega) (by decide) (by decide)
  have ku0 : IntKind.u8.wrap (Y0 : Int) = (Y0 : Int) := wrap_u8 Y0 (by omega)
  have ky0 : Y0 ≤ 255 := by omega
  obtain ⟨Z1, hZ1⟩ : ∃ Z : Nat, x / 64 % 64 = Z := ⟨_, rfl⟩
  obtain ⟨Y1, hY1⟩ : ∃ Y : Nat, 128 + Z1 = Y := ⟨_, rfl⟩
  have kand1 : bits .and .i64 ((x : Int) / 64) 63 = (Z1 : Int) := by rw [← hZ1]; exact and_63 (x / 64) (by omega)
  have kor1 : bits .or .i64 128 (Z1 : Int) = (Y1 : Int) := by rw [← hY1]; exact or_mark 2 6 Z1 (by omega) (by decide) (by decide)
  have ku1 : IntKind.u8.wrap (Y1 : Int) = (Y1 : Int) := wrap_u8 Y1 (by omega)
  have ky1 : Y1 ≤ 255 := by omega
  obtain ⟨Z2, hZ2⟩ : ∃ Z : Nat, x % 64 = Z := ⟨_, rfl⟩
  obtain ⟨Y2, hY2⟩ : ∃ Y : Nat, 128 + Z2 = Y := ⟨_, rfl⟩
  have kand2 : bits .and .i64 ((x : Int)) 63 = (Z2 : Int) := by rw [← hZ2]; exact and_63 (x) (by omega)
  have kor2 : bits .or .i64 128 (Z2 : Int) = (Y2 : Int) := by rw [← hY2]; exact or_mark 2 6 Z2 (by omega) (by decide) (by decide)
  have ku2 : IntKind.u8.wrap (Y2 : Int) = (Y2 : Int) := wrap_u8 Y2 (by omega)
  have ky2 : Y2 ≤ 255 := by omega
  have HC : Hid (Lib.byteCells (pre ++ uch (x : Int)) = Lib.byteCells pre ++ [.int .u8 (Y0 : Int)] ++ [.int .u8 (Y1 : Int)] ++ [.int .u8 (Y2 : Int)]) := by
    show _ = _
    rw [byteCells_append, hch, hY0, hZ1, hY1, hZ2, hY2, cells_nats _ (by simp; omega)]
    simp
  have HPL := Lib.hid hlen
  have hat := bld_at hI
  have kx : IntKind.i64.wrap (x : Int) = (x : Int) := IntWalk.i64_in _ (by omega)
  clear hu hch hlen hY0 hZ1 hY1 hZ2 hY2
  clear hs
  go_enter Tryd.func45, Tryd.ntmps45
  go_wp2_with fail
  refine HLen.out.mono ?_
  rintro e w1 ⟨rfl, hb1⟩
  have c1 : w1.cell? ⟨0, 7, none⟩ = some (.int .i64 224) := rowCell (hRL.since hb1) 7
  have hI0 := bld_below hI hb1
  have hB0 := Lib.hid (hb1.mono hBw)
  have hz := hb1.size
  have hRL1 := (hRL.since hb1).pos
  clear hb1 hRL hI HLen
  go_wp2_with fail
  have k1 : IntKind.i64.wrap 2 = 2 := by decide
  have k2 : IntKind.i64.wrap 12 = 12 := by decide
  go_still_tail 14, (by kernel_rfl)
  change wpList _ _ _ _ _ w1.drew
  clear k1 k2 c1 kx kor0 ku0
  have hI1 := bld_below hI0 ((Below.refl _ _).drew)
  have hB1 : Hid (Below B w w1.drew) := Lib.hid hB0.out.drew
  clear hI0 hB0
  go_wp2_with (go_at_call 55; refine (writeByte_k B b _ _ _ hI1 (by simp [byteCells_length]; have := HPL.out; omega) (by have h := hB1.out.size; omega)).mono ?_; rintro e w2 ⟨rfl, ha2, hb2, _⟩)
  have hI2 : Lib.IsBuilderF BuilderT ByteT B b _ w2 := .inr ha2
  have hz2 := hb2.size
  have hB2 := Lib.hid (hB1.out.trans hb2)
  clear ha2 hb2 hI1
  refine wp_loop_rounds 5 ?_
  rw [rounds_succ]
  go_wp2_with (go_at_call 55; refine (writeByte_k B b _ _ _ hI2 (by simp [byteCells_length]; have := HPL.out; omega) (by have h := hB2.out.size; omega)).mono ?_; rintro e w3 ⟨rfl, ha3, hb3, _⟩)
  have hI3 : Lib.IsBuilderF BuilderT ByteT B b _ w3 := .inr ha3
  have hz3 := hb3.size
  have hB3 := Lib.hid (hB2.out.trans hb3)
  clear ha3 hb3 hI2
  rw [rounds_succ]
  go_wp2_with (go_at_call 55; refine (writeByte_k B b _ _ _ hI3 (by simp [byteCells_length]; have := HPL.out; omega) (by have h := hB3.out.size; omega)).mono ?_; rintro e w4 ⟨rfl, ha4, hb4, _⟩)
  have hI4 : Lib.IsBuilderF BuilderT ByteT B b _ w4 := .inr ha4
  have hz4 := hb4.size
  have hB4 := Lib.hid (hB3.out.trans hb4)
  clear ha4 hb4 hI3
  rw [rounds_succ]
  go_wp2
  go_returns
  exact ⟨rfl, by rw [HC.out]; exact hI4, hB4.out⟩
set_option maxRecDepth 100000 in
set_option maxHeartbeats 3200000 in
theorem put_4 (B b : Nat) (pre : List UInt8) (x : Nat) (hs : scal x = true) (x0 : 65536 ≤ x) (x1 : x ≤ 1114111) (w : World) (hRL : RL w)
    (hI : Lib.IsBuilderF BuilderT ByteT B b (Lib.byteCells pre) w) (hBw : B ≤ w.heap.size) (hlen : pre.length ≤ 1000000) :
    Calls Tryd.prog 45 #[.pointer (some ⟨b, 0, none⟩), .int .i32 x] w (PutPost B b pre (uch x) w) := by
  have hu : ulen (x : Int) = 4 := ulen_4 hs (by omega)
  have HLen := Lib.hid (len_any (x : Int) w hRL)
  rw [hu] at HLen
  have hch : uch (x : Int) = [240 + x / 262144, 128 + x / 4096 % 64, 128 + x / 64 % 64, 128 + x % 64].map UInt8.ofNat := by
    unfold uch
    rw [show ((x : Int)).toNat = x from rfl, uchN_4 (by omega)]
  obtain ⟨Y0, hY0⟩ : ∃ Y : Nat, 240 + x / 262144 = Y := ⟨_, rfl⟩
  have kor0 : bits .or .i64 240 ((x : Int) / 262144) = (Y0 : Int) := by rw [← hY0]; exact or_mark 30 3 (x / 262144) (by omega) (by decide) (by decide)
  have ku0 : IntKind.u8.wrap (Y0 : Int) = (Y0 : Int) := wrap_u8 Y0 (by omega)
  have ky0 : Y0 ≤ 255 := by omega
  obtain ⟨Z1, hZ1⟩ : ∃ Z : Nat, x / 4096 % 64 = Z := ⟨_, rfl⟩
  obtain ⟨Y1, hY1⟩ : ∃ Y : Nat, 128 + Z1 = Y := ⟨_, rfl⟩
  have kand1 : bits .and .i64 ((x : Int) / 4096) 63 = (Z1 : Int) := by rw [← hZ1]; exact and_63 (x / 4096) (by omega)
  have kor1 : bits .or .i64 128 (Z1 : Int) = (Y1 : Int) := by rw [← hY1]; exact or_mark 2 6 Z1 (by omega) (by decide) (by decide)
  have ku1 : IntKind.u8.wrap (Y1 : Int) = (Y1 : Int) := wrap_u8 Y1 (by omega)
  have ky1 : Y1 ≤ 255 := by omega
  obtain ⟨Z2, hZ2⟩ : ∃ Z : Nat, x / 64 % 64 = Z := ⟨_, rfl⟩
  obtain ⟨Y2, hY2⟩ : ∃ Y : Nat, 128 + Z2 = Y := ⟨_, rfl⟩
  have kand2 : bits .and .i64 ((x : Int) / 64) 63 = (Z2 : Int) := by rw [← hZ2]; exact and_63 (x / 64) (by omega)
  have kor2 : bits .or .i64 128 (Z2 : Int) = (Y2 : Int) := by rw [← hY2]; exact or_mark 2 6 Z2 (by omega) (by decide) (by decide)
  have ku2 : IntKind.u8.wrap (Y2 : Int) = (Y2 : Int) := wrap_u8 Y2 (by omega)
  have ky2 : Y2 ≤ 255 := by omega
  obtain ⟨Z3, hZ3⟩ : ∃ Z : Nat, x % 64 = Z := ⟨_, rfl⟩
  obtain ⟨Y3, hY3⟩ : ∃ Y : Nat, 128 + Z3 = Y := ⟨_, rfl⟩
  have kand3 : bits .and .i64 ((x : Int)) 63 = (Z3 : Int) := by rw [← hZ3]; exact and_63 (x) (by omega)
  have kor3 : bits .or .i64 128 (Z3 : Int) = (Y3 : Int) := by rw [← hY3]; exact or_mark 2 6 Z3 (by omega) (by decide) (by decide)
  have ku3 : IntKind.u8.wrap (Y3 : Int) = (Y3 : Int) := wrap_u8 Y3 (by omega)
  have ky3 : Y3 ≤ 255 := by omega
  have HC : Hid (Lib.byteCells (pre ++ uch (x : Int)) = Lib.byteCells pre ++ [.int .u8 (Y0 : Int)] ++ [.int .u8 (Y1 : Int)] ++ [.int .u8 (Y2 : Int)] ++ [.int .u8 (Y3 : Int)]) := by
    show _ = _
    rw [byteCells_append, hch, hY0, hZ1, hY1, hZ2, hY2, hZ3, hY3, cells_nats _ (by simp; omega)]
    simp
  have HPL := Lib.hid hlen
  have hat := bld_at hI
  have kx : IntKind.i64.wrap (x : Int) = (x : Int) := IntWalk.i64_in _ (by omega)
  clear hu hch hlen hY0 hZ1 hY1 hZ2 hY2 hZ3 hY3
  clear hs
  go_enter Tryd.func45, Tryd.ntmps45
  go_wp2_with fail
  refine HLen.out.mono ?_
  rintro e w1 ⟨rfl, hb1⟩
  have c1 : w1.cell? ⟨0, 10, none⟩ = some (.int .i64 240) := rowCell (hRL.since hb1) 10
  have hI0 := bld_below hI hb1
  have hB0 := Lib.hid (hb1.mono hBw)
  have hz := hb1.size
  have hRL1 := (hRL.since hb1).pos
  clear hb1 hRL hI HLen
  go_wp2_with fail
  have k1 : IntKind.i64.wrap 3 = 3 := by decide
  have k2 : IntKind.i64.wrap 18 = 18 := by decide
  go_still_tail 14, (by kernel_rfl)
  change wpList _ _ _ _ _ w1.drew
  clear k1 k2 c1 kx kor0 ku0
  have hI1 := bld_below hI0 ((Below.refl _ _).drew)
  have hB1 : Hid (Below B w w1.drew) := Lib.hid hB0.out.drew
  clear hI0 hB0
  go_wp2_with (go_at_call 55; refine (writeByte_k B b _ _ _ hI1 (by simp [byteCells_length]; have := HPL.out; omega) (by have h := hB1.out.size; omega)).mono ?_; rintro e w2 ⟨rfl, ha2, hb2, _⟩)
  have hI2 : Lib.IsBuilderF BuilderT ByteT B b _ w2 := .inr ha2
  have hz2 := hb2.size
  have hB2 := Lib.hid (hB1.out.trans hb2)
  clear ha2 hb2 hI1
  refine wp_loop_rounds 5 ?_
  rw [rounds_succ]
  go_wp2_with (go_at_call 55; refine (writeByte_k B b _ _ _ hI2 (by simp [byteCells_length]; have := HPL.out; omega) (by have h := hB2.out.size; omega)).mono ?_; rintro e w3 ⟨rfl, ha3, hb3, _⟩)
  have hI3 : Lib.IsBuilderF BuilderT ByteT B b _ w3 := .inr ha3
  have hz3 := hb3.size
  have hB3 := Lib.hid (hB2.out.trans hb3)
  clear ha3 hb3 hI2
  rw [rounds_succ]
  go_wp2_with (go_at_call 55; refine (writeByte_k B b _ _ _ hI3 (by simp [byteCells_length]; have := HPL.out; omega) (by have h := hB3.out.size; omega)).mono ?_; rintro e w4 ⟨rfl, ha4, hb4, _⟩)
  have hI4 : Lib.IsBuilderF BuilderT ByteT B b _ w4 := .inr ha4
  have hz4 := hb4.size
  have hB4 := Lib.hid (hB3.out.trans hb4)
  clear ha4 hb4 hI3
  rw [rounds_succ]
  go_wp2_with (go_at_call 55; refine (writeByte_k B b _ _ _ hI4 (by simp [byteCells_length]; have := HPL.out; omega) (by have h := hB4.out.size; omega)).mono ?_; rintro e w5 ⟨rfl, ha5, hb5, _⟩)
  have hI5 : Lib.IsBuilderF BuilderT ByteT B b _ w5 := .inr ha5
  have hz5 := hb5.size
  have hB5 := Lib.hid (hB4.out.trans hb5)
  clear ha5 hb5 hI4
  rw [rounds_succ]
  go_wp2
  go_returns
  exact ⟨rfl, by rw [HC.out]; exact hI5, hB5.out⟩
end Go.Proofs.YtlfhmkjomogkiaaDoor.Utf
