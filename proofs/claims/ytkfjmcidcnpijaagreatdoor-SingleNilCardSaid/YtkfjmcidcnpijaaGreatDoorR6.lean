/- Walks: strings.ContainsAny at one byte. -/
import Derived.Test.YtkfjmcidcnpijaaGreatDoorR5
import Derived.Test.YtkfjmcidcnpijaaGreatDoorKM
namespace Go.Proofs.YtkfjmcidcnpijaaGreatDoor.Mf
open Go.RowKit Go.Lib

abbrev spS : ByteArray := ⟨#[32, 9]⟩
set_option maxRecDepth 100000 in
theorem dec_fin : ∀ n : Fin 128, Utf8.decode ⟨#[UInt8.ofNat (n.val + 128)]⟩ 0 = (65533, 1) := by decide
theorem dec_one (c : UInt8) (h : ¬ c.toNat < 128) : Utf8.decode ⟨#[c]⟩ 0 = (65533, 1) := by
  have hc := c.toNat_lt
  have h1 := dec_fin ⟨c.toNat - 128, by omega⟩
  have e : UInt8.ofNat (c.toNat - 128 + 128) = c := by rw [show c.toNat - 128 + 128 = c.toNat by omega]; simp
  simp only [e] at h1
  exact h1
set_option maxRecDepth 100000 in
theorem indexRune_bad (w : World) : Calls Tryz.prog 102 #[.string spS, .int .i32 65533] w fun e w' => e = .returned (.int .i64 (-1)) ∧ Below w.heap.size w w' := by
  go_enter Tryz.func102, Tryz.ntmps102
  go_wp2_with fail
  go_loopw [5] (fun _ wr => ∃ pos : Nat, pos ≤ 2 ∧ wr.heap[w.heap.size]? = some (.stringIter spS pos) ∧ Below w.heap.size w wr) (fun _ wr => match wr.heap[w.heap.size]? with | some (.stringIter _ p) => 2 - p | _ => 0)
  case atStart => exact ⟨0, Nat.zero_le _, World.iter_heap _ _ _, (Below.refl _ _).alloc (Nat.le_refl _) _⟩
  case round =>
    obtain ⟨pos, hp, hit, hb⟩ := hrel
    have hklt : w.heap.size < wr.heap.size := (Array.getElem?_eq_some_iff.1 hit).1
    have HB := Lib.hid hb
    by_cases h2 : pos < 2
    · obtain ⟨r, hr, hnx⟩ : ∃ r : Nat, r < 100 ∧ ∀ ty, (Instr.next (.pointer (some ⟨w.heap.size, 0, none⟩)) true ty).run Tryz.prog wr = .ok (.tuple #[.bool true, .int .i64 pos, .int .i32 r]) (wr.iterAt w.heap.size spS (pos + 1)) := by
        rcases (by omega : pos = 0 ∨ pos = 1) with rfl | rfl
        · exact ⟨32, by decide, fun ty => run_next_ascii_at wr w.heap.size spS 0 ty hit (by decide) (by decide)⟩
        · exact ⟨9, by decide, fun ty => run_next_ascii_at wr w.heap.size spS 1 ty hit (by decide) (by decide)⟩
      have a1 : ((r : Int) == 65533) = false := by rw [beq_eq_false_iff_ne]; omega
      have hit2 := iterAt_heap wr w.heap.size spS pos (pos + 1) hit
      have hb2 := below_iterAt hb (Nat.le_refl w.heap.size) spS (pos + 1)
      have HIT := Lib.hid hit
      have HIT2 := Lib.hid hit2
      have HB2 := Lib.hid hb2
      clear hb hit hit2 hb2 hr
      go_wp2_with fail
      go_roundw
      case rel => exact ⟨pos + 1, by omega, HIT2.out, HB2.out⟩
      case measure => rw [HIT2.out, HIT.out]; simp only; omega
    · have hnx := fun ty => run_next_end_at (P := Tryz.prog) wr w.heap.size spS pos ty hit (by show ¬ pos < 2; exact h2)
      clear hb hit
      go_wp2_with fail
      go_returns
      exact ⟨rfl, HB.out⟩
theorem shouldUse_any (n : Nat) (w : World) (hn : n ≤ 8) : Calls Tryz.prog 103 #[.int .i64 n] w fun e w' => e = .returned (.bool false) ∧ w = w' := by
  have a1 : decide ((8 : Int) < (n : Int)) = false := decide_eq_false (by omega)
  go_enter Tryz.func103, Tryz.ntmps103
  go_wp2_with fail
  go_returns
  exact ⟨rfl, rfl⟩
theorem info256c : (Tryz.prog.info? (lays150_ren.t 116)).map (fun i => (i.zero, i.size)) = some (some (.agg (Array.replicate 256 (.bool false))), 256) := by kernel_rfl
set_option maxRecDepth 100000 in
theorem indexAny_bad (c : UInt8) (hc : ¬ c.toNat < 128) (w : World) : Calls Tryz.prog 77 #[.string ⟨#[c]⟩, .string spS] w fun e w' => e = .returned (.int .i64 (-1)) ∧ Below w.heap.size w w' := by
  have hdec := dec_one c hc
  obtain ⟨s, hs⟩ : ∃ s : ByteArray, (⟨#[c]⟩ : ByteArray) = s := ⟨_, rfl⟩
  have hs1 : s.size = 1 := by rw [← hs]; rfl
  rw [hs] at hdec ⊢
  have HSU := Lib.hid (shouldUse_any 1 w (by decide))
  have HD := Lib.hid hdec
  clear hs hdec hc
  go_enter Tryz.func77, Tryz.ntmps77
  go_wp2_with fail
  refine HSU.out.mono ?_
  rintro _ _ ⟨rfl, rfl⟩
  go_wp2_with fail
  go_loopw [9, 10] (fun _ _ wr => ∃ pos : Nat, pos ≤ 1 ∧ wr.heap[w.heap.size]? = some (.stringIter s pos) ∧ Below w.heap.size w wr) (fun _ _ wr => match wr.heap[w.heap.size]? with | some (.stringIter _ p) => 1 - p | _ => 0)
  case atStart => exact ⟨0, Nat.zero_le _, World.iter_heap _ _ _, (Below.refl _ _).alloc (Nat.le_refl _) _⟩
  case round =>
    obtain ⟨pos, hp, hit, hb⟩ := hrel
    have hklt : w.heap.size < wr.heap.size := (Array.getElem?_eq_some_iff.1 hit).1
    have HB := Lib.hid hb
    by_cases h2 : pos < 1
    · obtain rfl : pos = 0 := by omega
      have hnx := fun ty => run_next_any_at (P := Tryz.prog) wr w.heap.size s 0 ty hit (by omega)
      rw [HD.out] at hnx
      replace hnx : ∀ ty, (Instr.next (.pointer (some ⟨w.heap.size, 0, none⟩)) true ty).run Tryz.prog wr = .ok (.tuple #[.bool true, .int .i64 0, .int .i32 65533]) (wr.iterAt w.heap.size s 1) := hnx
      have hit2 := iterAt_heap wr w.heap.size s 0 1 hit
      have hb2 := below_iterAt hb (Nat.le_refl w.heap.size) s 1
      have HIT := Lib.hid hit
      have HIT2 := Lib.hid hit2
      have HB2 := Lib.hid hb2
      have hsz : (wr.iterAt w.heap.size s 1).heap.size = wr.heap.size := iterAt_size wr w.heap.size s 1
      clear hb hit hit2 hb2
      go_wp2_with fail
      refine (indexRune_bad _).mono ?_
      rintro _ w2 ⟨rfl, hb3⟩
      go_wp2_with fail
      go_roundw
      case rel => exact ⟨1, by omega, (hb3.block _ (by rw [hsz]; exact hklt)).trans HIT2.out, HB2.out.trans (hb3.mono HB2.out.size)⟩
      case measure => rw [(hb3.block _ (by rw [hsz]; exact hklt)).trans HIT2.out, HIT.out]; simp only; omega
    · have hnx := fun ty => run_next_end_at (P := Tryz.prog) wr w.heap.size s pos ty hit (by omega)
      clear hb hit
      go_wp2_with fail
      go_returns
      exact ⟨rfl, HB.out⟩
theorem containsAny_any (c : UInt8) (w : World) : Calls Tryz.prog 56 #[.string ⟨#[c]⟩, .string spS] w fun e w' => e = .returned (.bool (sp c)) ∧ Below w.heap.size w w' := by
  by_cases hc : c.toNat < 128
  · have h := Any.strings_ContainsAny_laid lays150 info256c ⟨#[c]⟩ spS w (by show 1 < _; decide) (by decide) (by
      intro j b hj
      have := List.mem_of_getElem? hj
      have e : b = c := by simpa using this
      rw [e]; exact hc) (ascii_of_all (by decide))
    have e : Lib.containsAny ((⟨#[c]⟩ : ByteArray).data.toList) spS.data.toList = sp c := by
      have h2 : ([32, 9] : List UInt8).contains c = sp c := congrFun sp_set c
      show decide (0 ≤ (if ([32, 9] : List UInt8).contains c then (0 : Int) else if (-1 : Int) == -1 then -1 else -1 + 1)) = sp c
      rw [h2]
      cases sp c <;> rfl
    rw [e] at h
    exact h
  · have hsp : sp c = false := by
      rw [sp_nat]
      simp
      omega
    rw [hsp]
    have HI := Lib.hid (indexAny_bad c hc w)
    clear hc hsp
    go_enter Tryz.func56, Tryz.ntmps56
    go_wp2_with fail
    refine HI.out.mono ?_
    rintro _ w2 ⟨rfl, hb3⟩
    go_wp2_with fail
    go_returns
    exact ⟨rfl, hb3⟩
end Go.Proofs.YtkfjmcidcnpijaaGreatDoor.Mf
