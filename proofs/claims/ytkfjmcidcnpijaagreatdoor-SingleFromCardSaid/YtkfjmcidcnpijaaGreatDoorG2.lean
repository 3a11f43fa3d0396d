/- Words for memory: rows of a file of mappings; walk: Few. -/
import Derived.Test.YtkfjmcidcnpijaaGreatDoorRd
import Derived.Test.YtkfjmcidcnpijaaGreatDoorWi
import Derived.Test.YtkfjmcidcnpijaaGreatDoorG1
namespace Go.Proofs.YtkfjmcidcnpijaaGreatDoor.Sg
open Go.RowKit Pl

/-- A row: code, text, flag. -/
structure RowV where
  code : ByteArray
  text : ByteArray
  flag : Int
/-- A slice of rows. -/
def RowsAt (w : World) (A : Option Addr) (l : List RowV) : Prop :=
  l ≠ [] → ∃ b o, A = some ⟨b, o, none⟩ ∧ b < w.heap.size ∧ ∀ i (h : i < l.length), w.cell? ⟨b, o + i * 3, none⟩ = some (.string l[i].code) ∧ w.cell? ⟨b, o + i * 3 + 1, none⟩ = some (.string l[i].text) ∧ w.cell? ⟨b, o + i * 3 + 2, none⟩ = some (.int .i64 l[i].flag)
theorem RowsAt.keep {w w' : World} {A : Option Addr} {l : List RowV} (h : RowsAt w A l) (hb : Below w.heap.size w w') : RowsAt w' A l := fun hn => by
  obtain ⟨b, o, e, hlt, hc⟩ := h hn
  refine ⟨b, o, e, Nat.lt_of_lt_of_le hlt hb.size, fun i hi => ?_⟩
  obtain ⟨h0, h1, h2⟩ := hc i hi
  exact ⟨(hb.cell (p := ⟨b, o + i * 3, none⟩) hlt).trans h0, (hb.cell (p := ⟨b, o + i * 3 + 1, none⟩) hlt).trans h1, (hb.cell (p := ⟨b, o + i * 3 + 2, none⟩) hlt).trans h2⟩
theorem RowsAt.at_ {w : World} {A : Option Addr} {l : List RowV} (h : RowsAt w A l) {i : Nat} (hi : i < l.length) : ∃ b o, A = some ⟨b, o, none⟩ ∧ b < w.heap.size ∧ w.cell? ⟨b, o + i * 3, none⟩ = some (.string l[i].code) ∧ w.cell? ⟨b, o + i * 3 + 1, none⟩ = some (.string l[i].text) ∧ w.cell? ⟨b, o + i * 3 + 2, none⟩ = some (.int .i64 l[i].flag) := by
  obtain ⟨b, o, e, hlt, hc⟩ := h (by intro he; rw [he] at hi; exact absurd hi (by simp))
  exact ⟨b, o, e, hlt, hc i hi⟩
/-- Rows that are not too many, or too great. -/
def fewR (l : List RowV) : Bool := l.all (fun r => decide (r.code.size ≤ 200) && decide (r.text.size ≤ 200)) && decide (l.length ≤ 40)
theorem few_any (A : Option Addr) (c : Nat) (l : List RowV) (w : World) (hR : RowsAt w A l) (hn : l.length ≤ 1000000000000000) (hS : ∀ r ∈ l, r.code.size ≤ maxLen ∧ r.text.size ≤ maxLen) :
    Calls Tryz.prog 13 #[.slice A l.length c] w fun e w' => e = .returned (.bool (fewR l)) ∧ w = w' := by
  have HR := Lib.hid hR
  have HS := Lib.hid hS
  obtain ⟨F, hF⟩ : ∃ F, fewR l = F := ⟨_, rfl⟩
  rw [hF]
  have HFB := Lib.hid hF
  clear hR hS hF
  go_enter Tryz.func13, Tryz.ntmps13
  go_wp2
  go_loop [3] (fun i => ∃ j : Nat, j ≤ l.length ∧ i = .int .i64 j ∧ (l.take j).all (fun r => decide (r.code.size ≤ 200) && decide (r.text.size ≤ 200)) = true) (fun i => l.length - (intOf i).toNat)
  case atStart => exact ⟨0, Nat.zero_le _, rfl, rfl⟩
  case round =>
    obtain ⟨j, hj, rfl, hall⟩ := hrel
    by_cases hlt : j < l.length
    · obtain ⟨b, o, rfl, hb, hc0, hc1, _⟩ := HR.out.at_ hlt
      have hsz := HS.out l[j] (List.getElem_mem hlt)
      have hin : l[j] ∈ l := List.getElem_mem hlt
      have htk : l.take (j + 1) = l.take j ++ [l[j]] := List.take_succ_eq_append_getElem hlt
      generalize l[j] = r at *
      obtain ⟨code, text, flag⟩ := r
      have HTK := Lib.hid htk; have HALL := Lib.hid hall; have HIN := Lib.hid hin
      clear htk hall hb hin
      unfold maxLen at hsz
      obtain ⟨hs1, hs2⟩ := hsz
      have hs1 : code.size ≤ 2 ^ 63 - 1 := hs1
      have hs2 : text.size ≤ 2 ^ 63 - 1 := hs2
      have hbad : ¬ (code.size ≤ 200 ∧ text.size ≤ 200) → F = false := by
        intro hn
        rw [← HFB.out]
        unfold fewR
        rw [Bool.and_eq_false_iff]
        left
        rw [List.all_eq_false]
        refine ⟨_, HIN.out, ?_⟩
        show ¬ (decide (code.size ≤ 200) && decide (text.size ≤ 200)) = true
        simpa using hn
      have HBad := Lib.hid hbad
      clear hbad
      by_cases h1 : 200 < code.size
      · have i1 : (200 : Int) < code.size := by omega
        go_wp2
        go_returns
        exact ⟨by rw [HBad.out (by omega)]; rfl, rfl⟩
      · have i1 : decide ((200 : Int) < code.size) = false := decide_eq_false (by omega)
        by_cases h2 : 200 < text.size
        · have i2 : (200 : Int) < text.size := by omega
          go_wp2
          go_returns
          exact ⟨by rw [HBad.out (by omega)]; rfl, rfl⟩
        · have i2 : decide ((200 : Int) < text.size) = false := decide_eq_false (by omega)
          go_wp2
          go_round
          case rel => exact ⟨j + 1, by omega, by go_num, by rw [HTK.out, List.all_append, HALL.out]; simp; omega⟩
          case measure => simp [intOf]; omega
    · obtain rfl : j = l.length := by omega
      rw [List.take_of_length_le (Nat.le_refl _)] at hall
      have he : F = decide (l.length ≤ 40) := by rw [← HFB.out]; unfold fewR; rw [hall]; rfl
      clear hall HFB
      by_cases h20 : l.length ≤ 40
      · rw [decide_eq_true h20] at he
        subst he
        have i1 : (l.length : Int) ≤ 40 := by omega
        go_wp2
        go_returns
        exact ⟨rfl, rfl⟩
      · rw [decide_eq_false h20] at he
        subst he
        have i1 : decide ((l.length : Int) ≤ 40) = false := decide_eq_false (by omega)
        go_wp2
        go_returns
        exact ⟨rfl, rfl⟩
end Go.Proofs.YtkfjmcidcnpijaaGreatDoor.Sg
