/- Plain words: what is printed, and what is read of it. -/
import Derived.Test.YtkfjmcidcnpijaaGreatDoorTD
import Derived.Test.YtkfjmcidcnpijaaGreatDoorFJ
namespace Go.Proofs.YtkfjmcidcnpijaaGreatDoor.Mf
open Go.RowKit Pl Go.Lib
/-- A row as it is read. -/
def toL (r : RowV) : LRow := ⟨r.code.data.toList, runesL r.text.data.toList, r.flag⟩
theorem runes_okR (l : List UInt8) : (runesL l).all okR = true := by
  rw [List.all_eq_true]
  intro r hr
  have := runesL_scal l r hr
  unfold okR
  exact decide_eq_true this
theorem runes_chars (l : List UInt8) : Chars (runesL l) := fun r hr => by
  have := runesL_scal l r hr
  exact ⟨this.1, this.2.2⟩
theorem wrong_toL (r : RowV) (hv : validD r.text.data.toList = true) : wrongL (toL r) = chkR r := by
  rw [wrongL_eq]
  unfold toL chkR chkV
  rw [if_pos (runes_okR _), runeCount_eq, dl]
  by_cases h : 1 ≤ r.code.size ∧ r.code.size ≤ 4 ∧ 1 ≤ (runesL r.text.data.toList).length ∧ (runesL r.text.data.toList).length ≤ 18
  · rw [if_pos h, if_pos (show 1 ≤ r.code.size ∧ r.code.size ≤ 4 ∧ 1 ≤ (runesL r.text.data.toList).length ∧ (runesL r.text.data.toList).length ≤ 18 ∧ validD r.text.data.toList = true from ⟨h.1, h.2.1, h.2.2.1, h.2.2.2, hv⟩)]
  · rw [if_neg h, if_neg (show ¬ (1 ≤ r.code.size ∧ r.code.size ≤ 4 ∧ 1 ≤ (runesL r.text.data.toList).length ∧ (runesL r.text.data.toList).length ≤ 18 ∧ validD r.text.data.toList = true) from fun h2 => h ⟨h2.1, h2.2.1, h2.2.2.1, h2.2.2.2.1⟩)]
theorem chk_toL {r : RowV} (h : chkR r = 0) : wrongL (toL r) = 0 := by rw [wrong_toL r (chkV_facts h).2.2.1, h]
theorem charU_eq : ∀ l, charU l = charG w4 l
  | [] => rfl
  | r :: t => by show [60, 85] ++ wrt r.toNat 4 ++ [62] ++ charU t = _; rw [charU_eq t]; rfl
theorem codeU_eq : ∀ l, codeU l = codeG w2 [92, 120] l
  | [] => rfl
  | r :: t => by show [92, 120] ++ wrt r.toNat 2 ++ codeU t = _; rw [codeU_eq t]; rfl
theorem codeL_eq : ∀ l, codeL l = codeG w2 [] l
  | [] => rfl
  | r :: t => by show wrt r.toNat 2 ++ codeL t = _; rw [codeL_eq t]; rfl
theorem markL_eq : ∀ l m, markL m l = markG w4 m l
  | [], _ => rfl
  | r :: t, m => by show m ++ wrt r.toNat 4 ++ markL [43] t = _; rw [markL_eq t]; rfl
theorem ucmL_eq {r : RowV} (h : chkR r = 0) : ucmL r = lineC w4 w2 (toL r).code (toL r).text (flagB (toL r).flag) ++ [10] := by
  obtain ⟨_, _, _, h4⟩ := chkV_facts h
  unfold ucmL ucmLine lineC toL flagB
  rw [charU_eq, codeU_eq, Lib.decDigits_one (show r.flag.toNat < 10 by omega)]
  simp
theorem uniL_eq {r : RowV} (h : chkR r = 0) : uniL r = lineU w4 w2 [9] (toL r).code (toL r).text ++ [10] := by
  obtain ⟨_, h2, _, _⟩ := chkV_facts h
  unfold uniL uniLine lineU toL
  rw [codeL_eq, markL_eq]
  simp only
  cases ht : runesL r.text.data.toList with
  | nil => rw [ht] at h2; simp at h2
  | cons x t => rw [markG_cons w4 [9, 48, 120]]; simp
theorem row_back {r : RowV} (h : chkR r = 0) : (⟨(toL r).code.toArray⟩ : ByteArray) = r.code ∧ (⟨(textB (toL r).text).toArray⟩ : ByteArray) = r.text := by
  obtain ⟨_, _, h3, _⟩ := chkV_facts h
  have e := textB_runes _ r.text.data.toList (Nat.le_refl _) h3
  refine ⟨ba_ext (by simp [toL]), ba_ext ?_⟩
  show textB (runesL r.text.data.toList) = _
  exact e
theorem rdR_of {w : World} {A : Option Addr} {l : List RowV} (h : RowsAt w A l) (hl : ∀ r ∈ l, chkR r = 0) : RdR w A (l.map toL) := by
  intro h0
  rw [List.length_map] at h0
  obtain ⟨b, o, e, hb, hc⟩ := h (by intro he; rw [he] at h0; simp at h0)
  refine ⟨b, o, e, hb, fun k hk => ?_⟩
  rw [List.length_map] at hk
  obtain ⟨c0, c1, c2⟩ := hc k hk
  obtain ⟨e1, e2⟩ := row_back (hl _ (List.getElem_mem hk))
  rw [List.getElem_map, e1, e2]
  exact ⟨c0, c1, c2⟩
theorem flat_map {α : Type} {f : RowV → List UInt8} {g : LRow → List UInt8} : ∀ (l : List RowV), (∀ r ∈ l, f r = g (toL r)) → l.flatMap f = (l.map toL).flatMap g
  | [], _ => rfl
  | r :: t, h => by
    rw [List.map_cons, List.flatMap_cons, List.flatMap_cons, h r List.mem_cons_self, flat_map (α := α) t (fun x hx => h x (List.mem_cons_of_mem _ hx))]
/-- THE STAGE'S THEOREM, of what is printed. -/
theorem back_ucm (l : List RowV) (hn : l.length ≤ 4096) (h : ∀ r ∈ l, chkR r = 0) : readL oneC (l.flatMap ucmL) = (l.map toL, 0, 0) := by
  rw [flat_map (α := Unit) (g := fun x => lineC w4 w2 x.code x.text (flagB x.flag) ++ [10]) l (fun r hr => ucmL_eq (h r hr))]
  exact read_ucm w4_dig w2_dig _ (by rw [List.length_map]; exact hn) (fun x hx => by
    obtain ⟨r, hr, rfl⟩ := List.mem_map.1 hx
    exact chk_toL (h r hr))
theorem chkN_ok {r : RowV} : chkN r = 0 ↔ chkR r = 0 ∧ r.flag = 0 := by
  unfold chkN
  by_cases h : chkR r = 0 ∧ r.flag ≠ 0
  · rw [if_pos h]; constructor
    · intro h2; cases h2
    · intro h2; exact absurd h2.2 h.2
  · rw [if_neg h]
    constructor
    · intro h2; exact ⟨h2, by by_cases hf : r.flag = 0; exact hf; exact absurd ⟨h2, hf⟩ h⟩
    · intro h2; exact h2.1
theorem back_uni (l : List RowV) (hn : l.length ≤ 4096) (h : ∀ r ∈ l, chkN r = 0) : readL oneU (l.flatMap uniL) = (l.map toL, 0, 0) := by
  rw [flat_map (α := Unit) (g := fun x => lineU w4 w2 [9] x.code x.text ++ [10]) l (fun r hr => uniL_eq (chkN_ok.1 (h r hr)).1)]
  exact read_uni w4_dig w2_dig [9] (by simp) (by decide) (by decide) _ (by rw [List.length_map]; exact hn) (fun x hx => by
    obtain ⟨r, hr, rfl⟩ := List.mem_map.1 hx
    exact ⟨chk_toL (chkN_ok.1 (h r hr)).1, (chkN_ok.1 (h r hr)).2⟩)
theorem printP_bad (f : RowV → Int) (line : RowV → List UInt8) (l : List RowV) (h : ¬ ∀ r ∈ l, f r = 0) : printP f line l = ([], (firstBad f 0 l).1, (firstBad f 0 l).2) ∧ (firstBad f 0 l).2 ≠ 0 := by
  have h2 : (firstBad f 0 l).2 ≠ 0 := fun e => h ((firstBad_ok f l 0).1 e)
  unfold printP
  rw [if_neg h2]
  exact ⟨rfl, h2⟩
end Go.Proofs.YtkfjmcidcnpijaaGreatDoor.Mf
