/- Words for the law MapfilePrints: what is wrong, and what is printed, of one row. -/
import Derived.Test.YtopaoejapnakiaaGreatDoorB1
import Derived.Test.YtopaoejapnakiaaGreatDoorQ3
import Derived.Test.YtopaoejapnakiaaGreatDoorQ5
namespace Go.Proofs.YtopaoejapnakiaaGreatDoor.Mf
open Go.RowKit Pl Go.Lib
theorem plain_wrong (r : RowV) : wrongL ⟨(plainR r).code.data.toList, (plainR r).text, (plainR r).flag⟩ = chkR r := by
  unfold plainR
  by_cases hv : validD r.text.data.toList = true
  · rw [if_pos hv]
    exact wrong_toL r hv
  · rw [if_neg hv]
    have h1 : chkR r = 11 := by
      unfold chkR chkV
      rw [if_neg (fun h => hv h.2.2.2.2)]
    rw [h1]
    rfl
theorem wrong_at (r : RowV) (hs : r.code.size ≤ 200 ∧ r.text.size ≤ 200) (w : World) (A : Option Addr) (c : Nat) (h : TextAt w (.slice A (plainR r).text.length c) (plainR r).text) :
    Calls Tryz.prog 23 #[.agg #[.string (plainR r).code, .slice A (plainR r).text.length c, .int .i64 (plainR r).flag]] w fun e w' => e = .returned (.int .i64 (chkR r)) ∧ Below w.heap.size w w' := by
  have hl := runesL_le r.text.data.toList
  rw [dl] at hl
  have h1 : (plainR r).code.data.toList.length ≤ 1048576 := by
    unfold plainR
    split
    · rw [dl]; have := hs.1; show r.code.size ≤ _; omega
    · decide
  have h2 : (plainR r).text.length ≤ 1048576 := by
    unfold plainR
    split
    · have := hs.2; show (runesL r.text.data.toList).length ≤ _; omega
    · decide
  have hc := wrong13_any (plainR r).code.data.toList _ (plainR r).text (plainR r).flag w h h1 h2
  rw [plain_wrong r] at hc
  have e : (⟨(plainR r).code.data.toList.toArray⟩ : ByteArray) = (plainR r).code := ba_ext (by simp)
  rw [e] at hc
  exact hc
theorem plain_ok {r : RowV} (h : chkR r = 0) : plainR r = ⟨r.code, runesL r.text.data.toList, r.flag⟩ := by
  unfold plainR
  rw [if_pos (chkV_facts h).2.2.1]
theorem printC_at (r : RowV) (h0 : chkR r = 0) (w : World) (A : Option Addr) (c : Nat) (h : Rd w A (plainR r).text.length (i32s (plainR r).text)) {U : ByteArray} (hU : U.data.toList = ucmL r) :
    Calls Tryz.prog 26 #[.agg #[.string (plainR r).code, .slice A (plainR r).text.length c, .int .i64 (plainR r).flag], .bool true] w fun e w' => e = .returned (.string U) ∧ Below w.heap.size w w' := by
  rw [plain_ok h0] at h ⊢
  obtain ⟨⟨_, h1⟩, ⟨_, h2⟩, _, h4⟩ := chkV_facts h0
  have hc := printC_any r.code (runesL r.text.data.toList) r.flag.toNat A c w (by omega) (by omega) (runes_chars _) (by omega) h
  have e : lineRC r.code (runesL r.text.data.toList) r.flag.toNat = ucmL r := by rw [ucmL_eq h0]; rfl
  rw [show ((r.flag.toNat : Nat) : Int) = r.flag by omega, e] at hc
  have e2 : (⟨(ucmL r).toArray⟩ : ByteArray) = U := ba_ext hU.symm
  rw [e2] at hc
  exact hc
theorem printU_at (r : RowV) (h0 : chkR r = 0) (w : World) (A : Option Addr) (c : Nat) (h : Rd w A (plainR r).text.length (i32s (plainR r).text)) {U : ByteArray} (hU : U.data.toList = uniL r) :
    Calls Tryz.prog 26 #[.agg #[.string (plainR r).code, .slice A (plainR r).text.length c, .int .i64 (plainR r).flag], .bool false] w fun e w' => e = .returned (.string U) ∧ Below w.heap.size w w' := by
  rw [plain_ok h0] at h ⊢
  obtain ⟨⟨_, h1⟩, ⟨_, h2⟩, _, h4⟩ := chkV_facts h0
  have hc := printU_any r.code (runesL r.text.data.toList) r.flag.toNat A c w (by omega) (by omega) (runes_chars _) (by omega) h
  have e : lineRU r.code (runesL r.text.data.toList) = uniL r := by rw [uniL_eq h0]; rfl
  rw [show ((r.flag.toNat : Nat) : Int) = r.flag by omega, e] at hc
  have e2 : (⟨(uniL r).toArray⟩ : ByteArray) = U := ba_ext hU.symm
  rw [e2] at hc
  exact hc
theorem firstBad_pos (f : RowV → Int) : ∀ (l : List RowV) (i : Nat), (firstBad f i l = (0, 0)) ∨ (0 < (firstBad f i l).1 ∧ (firstBad f i l).2 ≠ 0)
  | [], _ => .inl rfl
  | r :: t, i => by
    unfold firstBad
    by_cases h : f r = 0
    · rw [if_pos h]; exact firstBad_pos f t (i + 1)
    · rw [if_neg h]; exact .inr ⟨by show (0 : Int) < (i : Int) + 1; omega, h⟩
theorem firstBad_snoc (f : RowV → Int) (r : RowV) : ∀ (l : List RowV) (i : Nat), firstBad f i (l ++ [r]) = if (firstBad f i l).1 = 0 then (if f r = 0 then (0, 0) else (((i + l.length : Nat) : Int) + 1, f r)) else firstBad f i l
  | [], i => by
    show (if f r = 0 then (0, 0) else _) = if (0 : Int) = 0 then _ else _
    rw [if_pos rfl]
    rfl
  | x :: t, i => by
    rw [List.cons_append]
    unfold firstBad
    by_cases h : f x = 0
    · rw [if_pos h, if_pos h, firstBad_snoc f r t (i + 1), List.length_cons, show i + 1 + t.length = i + (t.length + 1) by omega]
    · rw [if_neg h, if_neg h, if_neg (by show ¬ ((i : Int) + 1 = 0); omega)]
/-- The first row that is wrong, so far. -/
def fb (f : RowV → Int) (l : List RowV) (i : Nat) : Int × Int := firstBad f 0 (l.take i)
theorem fb_succ (f : RowV → Int) (l : List RowV) (i : Nat) (h : i < l.length) : fb f l (i + 1) = if (fb f l i).1 = 0 then (if f l[i] = 0 then (0, 0) else ((i : Int) + 1, f l[i])) else fb f l i := by
  unfold fb
  rw [List.take_succ_eq_append_getElem h, firstBad_snoc, List.length_take, Nat.min_eq_left (Nat.le_of_lt h), Nat.zero_add]
theorem fb_pos (f : RowV → Int) (l : List RowV) (i : Nat) : fb f l i = (0, 0) ∨ (0 < (fb f l i).1 ∧ (fb f l i).2 ≠ 0) := firstBad_pos f _ 0
theorem fb_ok (f : RowV → Int) (l : List RowV) (i : Nat) (h : (fb f l i).1 = 0) : ∀ r ∈ l.take i, f r = 0 := by
  rcases fb_pos f l i with h2 | h2
  · exact (firstBad_ok f (l.take i) 0).1 (by unfold fb at h2; rw [h2])
  · omega
end Go.Proofs.YtopaoejapnakiaaGreatDoor.Mf
