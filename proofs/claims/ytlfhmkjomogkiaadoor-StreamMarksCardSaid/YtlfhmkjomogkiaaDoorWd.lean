/- Walks: wide.unit.put. -/
import Derived.Test.YtlfhmkjomogkiaaDoorWb
import Derived.Test.YtlfhmkjomogkiaaDoorRd
import Derived.Test.YtlfhmkjomogkiaaDoorShelf
import Derived.Lib.OthersKept
namespace Go.Proofs.YtlfhmkjomogkiaaDoor
open Go.RowKit Pl

abbrev BuilderT : TypeId := 80
abbrev ByteT : TypeId := 5

theorem byteCells_length (l : List UInt8) : (Lib.byteCells l).length = l.length := by simp [Lib.byteCells]
theorem byteCells_append (l m : List UInt8) : Lib.byteCells (l ++ m) = Lib.byteCells l ++ Lib.byteCells m := by simp [Lib.byteCells]
theorem byte_of (n i : Nat) : ((UInt8.ofNat (n / 256 ^ i)).toNat : Int) = (n : Int) / 2 ^ (8 * i) % 256 := by
  rw [UInt8.toNat_ofNat']
  rw [show ((2 : Int) ^ (8 * i)) = ((256 ^ i : Nat) : Int) from by rw [Int.natCast_pow, Int.pow_mul]; rfl]
  rw [← Int.natCast_ediv]
  rfl
theorem put_step_little (size n j : Nat) (pre : List UInt8) (h : j < size) :
    Lib.byteCells (pre ++ (unitB size false n).take (j + 1)) = Lib.byteCells (pre ++ (unitB size false n).take j) ++ [.int .u8 ((n : Int) / 2 ^ (8 * j) % 256)] := by
  rw [take_snoc_l _ j (by rw [unitB_length]; exact h), ← List.append_assoc, byteCells_append (pre ++ _), unitB_get_little size n j h]
  simp only [Lib.byteCells, List.map_cons, List.map_nil]; rw [byte_of]
theorem put_step_big (size n j : Nat) (pre : List UInt8) (h : j < size) :
    Lib.byteCells (pre ++ (unitB size true n).take (j + 1)) = Lib.byteCells (pre ++ (unitB size true n).take j) ++ [.int .u8 ((n : Int) / 2 ^ (8 * (size - 1 - j)) % 256)] := by
  rw [take_snoc_l _ j (by rw [unitB_length]; exact h), ← List.append_assoc, byteCells_append (pre ++ _), unitB_get_big size n j h]
  simp only [Lib.byteCells, List.map_cons, List.map_nil]; rw [byte_of]
theorem unit_full (size n : Nat) (big : Bool) : (unitB size big n).take size = unitB size big n := List.take_of_length_le (by rw [unitB_length]; exact Nat.le_refl _)
theorem List.length_flatMap_unit (size : Nat) (big : Bool) (l : List Nat) : (l.flatMap (unitB size big)).length = l.length * size := by
  induction l with
  | nil => simp
  | cons a l ih => simp [ih, unitB_length, Nat.succ_mul]; omega

theorem put_little (size : Nat) (hz : 2 ≤ size) (hz4 : size ≤ 4) (B b g c : Nat) (bs : List UInt8) (ns : List Nat) (w : World)
    (hI : Lib.IsBuilderF BuilderT ByteT B b (Lib.byteCells bs) w) (hBw : B ≤ w.heap.size) (hg : Blk w g 3 (ns.map fun n : Nat => Value.int .i64 n).toArray) (hgb : g ≠ b)
    (hn : ∀ n ∈ ns, n ≤ 4294967295) (hlen : bs.length + ns.length * 4 ≤ 1000000) :
    Calls Tryd.prog 88 #[.agg #[.int .i64 size, .bool false], .pointer (some ⟨b, 0, none⟩), .slice (some ⟨g, 0, none⟩) ns.length c] w fun e w' =>
      e = .returned (.tuple #[]) ∧ Lib.IsBuilderF BuilderT ByteT B b (Lib.byteCells (bs ++ ns.flatMap (unitB size false))) w' ∧ Below B w w' ∧ Lib.OthersKept ByteT (some b) w w' := by
  have hB : B ≤ b := by rcases hI with h | h <;> exact h.1
  have hbl : b < w.heap.size := by rcases hI with h | h <;> exact h.lt
  go_enter Tryd.func88, Tryd.ntmps88
  go_wp2
  go_loopw [12] (fun i wr => ∃ k : Nat, k ≤ ns.length ∧ i = .int .i64 k ∧ Lib.IsBuilderF BuilderT ByteT B b (Lib.byteCells (bs ++ (ns.take k).flatMap (unitB size false))) wr ∧
      Below B w wr ∧ Lib.OthersKept ByteT (some b) w wr ∧ Blk wr w.heap.size 121 #[.int .i64 size, .bool false]) (fun i _ => ns.length - (intOf i).toNat)
  case atStart =>
    exact ⟨0, Nat.zero_le _, rfl, by simpa using hI.alloc _, (Below.refl _ _).alloc hBw _, (Lib.OthersKept.refl _ _ _).alloc _, Blk.new _ _ _⟩
  case round =>
    obtain ⟨k, hk, rfl, hI', hb', ho', hbox⟩ := hrel
    have hcs := hg.others ho' hgb (by decide)
    obtain ⟨wo, rfl⟩ : ∃ wo : World, wo = wr := ⟨_, rfl⟩
    by_cases hlt : k < ns.length
    · have hc0 : wo.cell? ⟨g, k, none⟩ = some (.int .i64 ns[k]) := by rw [hcs.cell]; simp [hlt]
      have hc1 : wo.cell? ⟨w.heap.size, 0, none⟩ = some (.int .i64 size) := by rw [hbox.cell]; simp
      have hc2 : wo.cell? ⟨w.heap.size, 1, none⟩ = some (.bool false) := by rw [hbox.cell]; simp
      obtain ⟨n, hnn⟩ : ∃ n, ns[k] = n := ⟨_, rfl⟩
      have hnb : (n : Int) ≤ 4294967295 := by have := hn ns[k] (List.getElem_mem hlt); omega
      have hfm := flatMap_snoc (unitB size false) ns k hlt
      rw [hnn] at hc0 hfm
      have hws : w.heap.size < wo.heap.size := hbox.lt
      have hlen2 : (bs ++ (ns.take k).flatMap (unitB size false)).length ≤ 1000000 := by
        rw [List.length_append, List.length_flatMap_unit, List.length_take]
        have : (min k ns.length) * size ≤ ns.length * 4 := Nat.mul_le_mul (Nat.min_le_right _ _) hz4
        omega
      have HF := Lib.hid hfm; clear hnn hfm
      have HI' := Lib.hid hI'; have HB' := Lib.hid hb'; have HO' := Lib.hid ho'; have HX := Lib.hid hbox; have HL := Lib.hid hlen2; clear hI' hb' ho' hbox hcs hI hg hlen2
      go_wp2
      go_loopw [18] (fun i wr => ∃ j : Nat, j ≤ size ∧ i = .int .i64 j ∧ Lib.IsBuilderF BuilderT ByteT B b (Lib.byteCells (bs ++ (ns.take k).flatMap (unitB size false) ++ (unitB size false n).take j)) wr ∧
        Below B wo wr ∧ Lib.OthersKept ByteT (some b) wo wr) (fun i _ => size - (intOf i).toNat)
      case atStart => exact ⟨0, Nat.zero_le _, rfl, by simpa using HI'.out, Below.refl _ _, Lib.OthersKept.refl _ _ _⟩
      case round =>
        obtain ⟨j, hj, rfl, hI2, hb2, ho2⟩ := hrel
        have hbox := HX.out.others ho2 (by omega) (by decide)
        have hc0 : wr.cell? ⟨w.heap.size, 0, none⟩ = some (.int .i64 size) := by rw [hbox.cell]; simp
        have hc1 : wr.cell? ⟨w.heap.size, 1, none⟩ = some (.bool false) := by rw [hbox.cell]; simp
        have hbw := hb2.size
        have HI2 := Lib.hid hI2; have HB2 := Lib.hid hb2; have HO2 := Lib.hid ho2; have HX2 := Lib.hid hbox; clear hI2 hb2 ho2 hbox
        by_cases hjl : j < size
        · have hst := put_step_little size n j (bs ++ (ns.take k).flatMap (unitB size false)) hjl
          have HS := Lib.hid hst; clear hst
          go_wp2_with (go_at_call 55; refine (writeByte_k B b _ _ _ HI2.out (by rw [byteCells_length, List.length_append, List.length_take]; have := HL.out; omega) (by omega)).mono ?_; rintro e w2 ⟨rfl, hI3, hb3, ho3⟩)
          go_roundw
          case rel => exact ⟨j + 1, by omega, by go_num, by rw [HS.out]; exact .inr hI3, HB2.out.trans hb3, HO2.out.trans ho3⟩
          case measure => simp [intOf]; omega
        · obtain rfl : j = size := by omega
          go_wp2
          go_roundw
          case rel => exact ⟨k + 1, by omega, by go_num, by rw [HF.out, ← List.append_assoc]; have h := HI2.out; rw [unit_full] at h; exact h, HB'.out.trans HB2.out, HO'.out.trans HO2.out, HX2.out⟩
          case measure => simp [intOf]; omega
    · go_wp2
      go_returns
      refine ⟨rfl, ?_, hb', ho'⟩
      rw [List.take_of_length_le (by omega)] at hI'
      exact hI'
theorem put_big (size : Nat) (hz : 2 ≤ size) (hz4 : size ≤ 4) (B b g c : Nat) (bs : List UInt8) (ns : List Nat) (w : World)
    (hI : Lib.IsBuilderF BuilderT ByteT B b (Lib.byteCells bs) w) (hBw : B ≤ w.heap.size) (hg : Blk w g 3 (ns.map fun n : Nat => Value.int .i64 n).toArray) (hgb : g ≠ b)
    (hn : ∀ n ∈ ns, n ≤ 4294967295) (hlen : bs.length + ns.length * 4 ≤ 1000000) :
    Calls Tryd.prog 88 #[.agg #[.int .i64 size, .bool true], .pointer (some ⟨b, 0, none⟩), .slice (some ⟨g, 0, none⟩) ns.length c] w fun e w' =>
      e = .returned (.tuple #[]) ∧ Lib.IsBuilderF BuilderT ByteT B b (Lib.byteCells (bs ++ ns.flatMap (unitB size true))) w' ∧ Below B w w' ∧ Lib.OthersKept ByteT (some b) w w' := by
  have hB : B ≤ b := by rcases hI with h | h <;> exact h.1
  have hbl : b < w.heap.size := by rcases hI with h | h <;> exact h.lt
  go_enter Tryd.func88, Tryd.ntmps88
  go_wp2
  go_loopw [12] (fun i wr => ∃ k : Nat, k ≤ ns.length ∧ i = .int .i64 k ∧ Lib.IsBuilderF BuilderT ByteT B b (Lib.byteCells (bs ++ (ns.take k).flatMap (unitB size true))) wr ∧
      Below B w wr ∧ Lib.OthersKept ByteT (some b) w wr ∧ Blk wr w.heap.size 121 #[.int .i64 size, .bool true]) (fun i _ => ns.length - (intOf i).toNat)
  case atStart =>
    exact ⟨0, Nat.zero_le _, rfl, by simpa using hI.alloc _, (Below.refl _ _).alloc hBw _, (Lib.OthersKept.refl _ _ _).alloc _, Blk.new _ _ _⟩
  case round =>
    obtain ⟨k, hk, rfl, hI', hb', ho', hbox⟩ := hrel
    have hcs := hg.others ho' hgb (by decide)
    obtain ⟨wo, rfl⟩ : ∃ wo : World, wo = wr := ⟨_, rfl⟩
    by_cases hlt : k < ns.length
    · have hc0 : wo.cell? ⟨g, k, none⟩ = some (.int .i64 ns[k]) := by rw [hcs.cell]; simp [hlt]
      have hc1 : wo.cell? ⟨w.heap.size, 0, none⟩ = some (.int .i64 size) := by rw [hbox.cell]; simp
      have hc2 : wo.cell? ⟨w.heap.size, 1, none⟩ = some (.bool true) := by rw [hbox.cell]; simp
      obtain ⟨n, hnn⟩ : ∃ n, ns[k] = n := ⟨_, rfl⟩
      have hnb : (n : Int) ≤ 4294967295 := by have := hn ns[k] (List.getElem_mem hlt); omega
      have hfm := flatMap_snoc (unitB size true) ns k hlt
      rw [hnn] at hc0 hfm
      have hws : w.heap.size < wo.heap.size := hbox.lt
      have hlen2 : (bs ++ (ns.take k).flatMap (unitB size true)).length ≤ 1000000 := by
        rw [List.length_append, List.length_flatMap_unit, List.length_take]
        have : (min k ns.length) * size ≤ ns.length * 4 := Nat.mul_le_mul (Nat.min_le_right _ _) hz4
        omega
      have HF := Lib.hid hfm; clear hnn hfm
      have HI' := Lib.hid hI'; have HB' := Lib.hid hb'; have HO' := Lib.hid ho'; have HX := Lib.hid hbox; have HL := Lib.hid hlen2; clear hI' hb' ho' hbox hcs hI hg hlen2
      go_wp2
      go_loopw [18] (fun i wr => ∃ j : Nat, j ≤ size ∧ i = .int .i64 j ∧ Lib.IsBuilderF BuilderT ByteT B b (Lib.byteCells (bs ++ (ns.take k).flatMap (unitB size true) ++ (unitB size true n).take j)) wr ∧
        Below B wo wr ∧ Lib.OthersKept ByteT (some b) wo wr) (fun i _ => size - (intOf i).toNat)
      case atStart => exact ⟨0, Nat.zero_le _, rfl, by simpa using HI'.out, Below.refl _ _, Lib.OthersKept.refl _ _ _⟩
      case round =>
        obtain ⟨j, hj, rfl, hI2, hb2, ho2⟩ := hrel
        have hbox := HX.out.others ho2 (by omega) (by decide)
        have hc0 : wr.cell? ⟨w.heap.size, 0, none⟩ = some (.int .i64 size) := by rw [hbox.cell]; simp
        have hc1 : wr.cell? ⟨w.heap.size, 1, none⟩ = some (.bool true) := by rw [hbox.cell]; simp
        have hbw := hb2.size
        have HI2 := Lib.hid hI2; have HB2 := Lib.hid hb2; have HO2 := Lib.hid ho2; have HX2 := Lib.hid hbox; clear hI2 hb2 ho2 hbox
        by_cases hjl : j < size
        · have hst := put_step_big size n j (bs ++ (ns.take k).flatMap (unitB size true)) hjl
          have HS := Lib.hid hst; clear hst
          go_wp2_with (go_at_call 55; refine (writeByte_k B b _ _ _ HI2.out (by rw [byteCells_length, List.length_append, List.length_take]; have := HL.out; omega) (by omega)).mono ?_; rintro e w2 ⟨rfl, hI3, hb3, ho3⟩)
          go_roundw
          case rel => exact ⟨j + 1, by omega, by go_num, by rw [HS.out]; exact .inr hI3, HB2.out.trans hb3, HO2.out.trans ho3⟩
          case measure => simp [intOf]; omega
        · obtain rfl : j = size := by omega
          go_wp2
          go_roundw
          case rel => exact ⟨k + 1, by omega, by go_num, by rw [HF.out, ← List.append_assoc]; have h := HI2.out; rw [unit_full] at h; exact h, HB'.out.trans HB2.out, HO'.out.trans HO2.out, HX2.out⟩
          case measure => simp [intOf]; omega
    · go_wp2
      go_returns
      refine ⟨rfl, ?_, hb', ho'⟩
      rw [List.take_of_length_le (by omega)] at hI'
      exact hI'

end Go.Proofs.YtlfhmkjomogkiaaDoor
