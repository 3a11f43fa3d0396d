/- The library's TrimSuffix, TrimRight, Cut at one byte, as lines wants them. -/
import Derived.Test.YtkfjmcidcnpijaaGreatDoorL1
namespace Go.Proofs.YtkfjmcidcnpijaaGreatDoor.Mf
open Go.RowKit Go.Shelf

theorem idx_tw (c : UInt8) : ∀ l : List UInt8, (Lib.indexByte l c = -1 ∧ l.takeWhile (· != c) = l ∧ l.all (· != c) = true) ∨
    (Lib.indexByte l c = ((l.takeWhile (· != c)).length : Int) ∧ l = l.takeWhile (· != c) ++ c :: l.drop ((l.takeWhile (· != c)).length + 1)) := by
  intro l
  induction l with
  | nil => left; exact ⟨rfl, rfl, rfl⟩
  | cons b t ih =>
    unfold Lib.indexByte
    rw [List.takeWhile_cons]
    by_cases h : b = c
    · right
      subst h
      simp
    · have h1 : (b == c) = false := by simp [h]
      have h2 : (b != c) = true := by simp [h]
      simp only [h1, h2, if_true]
      rcases ih with ⟨i1, i2, i3⟩ | ⟨i1, i2⟩
      · left
        rw [i1]
        refine ⟨rfl, by rw [i2], ?_⟩
        rw [List.all_cons, h2, i3]; rfl
      · right
        have hge := Lib.indexByte_ge t c
        rw [i1]
        have hne : (((t.takeWhile (· != c)).length : Int) == -1) = false := by rw [beq_eq_false_iff_ne]; omega
        rw [hne]
        refine ⟨by simp, ?_⟩
        rw [List.length_cons, List.cons_append, List.drop_succ_cons, ← i2]
/-- A line without its line feed. -/
def strip (l : List UInt8) : List UInt8 := Lib.trimSuffix l [10]
theorem strip_lf (t : List UInt8) : strip (t ++ [10]) = t := by
  unfold strip Lib.trimSuffix Lib.hasSuffix
  rw [if_pos (List.isSuffixOf_iff_suffix.2 (List.suffix_append t [10]))]
  simp
theorem strip_no (t : List UInt8) (h : t.all (· != 10) = true) : strip t = t := by
  unfold strip Lib.trimSuffix Lib.hasSuffix
  rw [if_neg]
  intro h2
  obtain ⟨u, hu⟩ := List.isSuffixOf_iff_suffix.1 h2
  rw [← hu, List.all_append] at h
  simp at h
theorem take_len (P : UInt8 → Bool) (l : List UInt8) : l.take (l.takeWhile P).length = l.takeWhile P := (List.prefix_iff_eq_take.1 (List.takeWhile_prefix P)).symm
theorem trimSuffix_any (s : ByteArray) (hs : s.size ≤ 1000000) (w : World) : Calls Tryz.prog 71 #[.string s, .string ⟨#[10]⟩] w fun e w' => e = .returned (.string ⟨(strip s.data.toList).toArray⟩) ∧ w = w' :=
  (Any.strings_TrimSuffix lays102 s ⟨#[10]⟩ w (by omega)).mono fun _ _ hh => ⟨hh.1, hh.2.symm⟩
theorem info256r : (Tryz.prog.info? (lays162_ren.t 116)).map (fun i => (i.zero, i.size)) = some (some (.agg (Array.replicate 256 (.bool false))), 256) := by kernel_rfl
theorem trimRight_any (s : ByteArray) (hs : s.size ≤ 1000000) (w : World) : Calls Tryz.prog 73 #[.string s, .string ⟨#[32, 9]⟩] w fun e w' => e = .returned (.string ⟨(rtrim s.data.toList).toArray⟩) ∧ Below w.heap.size w w' := by
  have h := Any.strings_TrimRight_laid lays162 info256r s ⟨#[32, 9]⟩ w (by omega) (by decide) (ascii_of_all (by decide))
  have e : Lib.trimRightS s.data.toList ((⟨#[32, 9]⟩ : ByteArray).data.toList) = rtrim s.data.toList := by
    unfold rtrim
    rw [← sp_set]
    rfl
  rw [e] at h
  exact h
theorem sliteIndexByte_any (s : ByteArray) (c : UInt8) (w : World) : Calls Tryz.prog 123 #[.string s, .int .u8 (c.toNat : Int)] w fun e w' => e = .returned (.int .i64 (Lib.indexByte s.data.toList c)) ∧ w = w' := by
  have h := Any.stringslite_IndexByte { lays137 with } s (c.toNat : Int) w
  have e : ((c.toNat : Int)).toNat.toUInt8 = c := by simp
  rw [e] at h
  exact h.mono fun _ _ hh => ⟨hh.1, hh.2.symm⟩
set_option maxRecDepth 100000 in
theorem index35_any (s : ByteArray) (w : World) : Calls Tryz.prog 125 #[.string s, .string ⟨#[35]⟩] w fun e w' => e = .returned (.int .i64 (Lib.indexByte s.data.toList 35)) ∧ w = w' := by
  have HS := Lib.hid (sliteIndexByte_any s 35 w)
  change Hid (Calls _ _ #[.string s, .int .u8 35] _ _) at HS
  by_cases h : s.data.toList = [35]
  · have hs : s = ⟨#[35]⟩ := ba_ext h
    subst hs
    clear HS h
    go_enter Tryz.func125, Tryz.ntmps125
    go_wp2_with fail
    go_returns
    exact ⟨rfl, rfl⟩
  · have hb : (([35] : List UInt8) == s.toList) = false := by
      rw [ByteArray.toList_eq, beq_eq_false_iff_ne]
      exact fun e => h e.symm
    clear h
    generalize Lib.indexByte s.data.toList 35 = Z at *
    go_enter Tryz.func125, Tryz.ntmps125
    go_wp2_with fail
    refine HS.out.mono ?_
    rintro _ _ ⟨rfl, rfl⟩
    go_wp2_with fail
    go_returns
    exact ⟨rfl, rfl⟩
end Go.Proofs.YtkfjmcidcnpijaaGreatDoor.Mf
