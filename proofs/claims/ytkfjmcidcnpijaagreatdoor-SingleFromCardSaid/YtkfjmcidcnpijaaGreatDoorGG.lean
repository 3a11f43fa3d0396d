/- Joined of: G24, G22, G23, G25, G26, G27. -/
import Derived.Test.YtkfjmcidcnpijaaGreatDoorGD
import Derived.Test.YtkfjmcidcnpijaaGreatDoorGB
import Derived.Test.YtkfjmcidcnpijaaGreatDoorSh
import Derived.Lib.Bytealg
import Derived.Deep.RegionHeld3
/- Plain: what charset.New has taken of rows, and which row it does not take: as the reference says. -/
namespace Go.Proofs.YtkfjmcidcnpijaaGreatDoor.Sg
open Go.RowKit Pl Go.Lib

/-- A row as a value. -/
abbrev rowV (r : RowV) : Value := .agg #[.string r.code, .string r.text, .int .i64 r.flag]
/-- The texts by codes, for decoding. -/
def hasCode (t : List UInt8) (q : RowV) : Bool := q.flag != 1 && t == q.code.data.toList
def textsF (pre : List RowV) : List UInt8 → Option ByteArray := fun t => (pre.find? (hasCode t)).map (·.text)
/-- Is a text a beginning of a code, shorter than n? -/
def pfx (n : Nat) (code t : List UInt8) : Bool := decide (t.length < n) && t.isPrefixOf code
def hasHead (t : List UInt8) (q : RowV) : Bool := q.flag != 1 && pfx q.code.data.toList.length q.code.data.toList t
def headsF (pre : List RowV) : List UInt8 → Option Bool := fun t => if pre.any (hasHead t) = true then some true else none
def headsK (code : List UInt8) (i : Nat) (g : List UInt8 → Option Bool) : List UInt8 → Option Bool := fun t => if pfx i code t = true then some true else g t
/-- What decodes answers. -/
def errD (f : List UInt8 → Option ByteArray) (g : List UInt8 → Option Bool) (code : List UInt8) : Int :=
  if (f code).isSome = true then 12 else if (g code).isSome = true then 10 else if (List.range code.length).any (fun i => (f (code.take i)).isSome) = true then 10 else 0
theorem textsF_some (pre : List RowV) (t : List UInt8) : (textsF pre t).isSome = pre.any (hasCode t) := by
  unfold textsF
  rw [Option.isSome_map]
  induction pre with
  | nil => rfl
  | cons a l ih =>
    rw [List.find?_cons, List.any_cons]
    cases h : hasCode t a with
    | true => rfl
    | false => rw [Bool.false_or, ← ih]
theorem headsF_some (pre : List RowV) (t : List UInt8) : (headsF pre t).isSome = pre.any (hasHead t) := by
  unfold headsF
  cases h : pre.any (hasHead t) <;> simp
theorem textsF_snoc (pre : List RowV) (r : RowV) (h1 : r.flag ≠ 1) (h : (textsF pre r.code.data.toList).isSome = false) : (fun t => if t = r.code.data.toList then some r.text else textsF pre t) = textsF (pre ++ [r]) := by
  funext t
  unfold textsF at *
  rw [List.find?_append]
  by_cases ht : t = r.code.data.toList
  · subst ht
    rw [if_pos rfl]
    cases hf : pre.find? (hasCode r.code.data.toList) with
    | none => simp [hasCode, h1]
    | some a => rw [hf] at h; simp at h
  · rw [if_neg ht]
    cases hf : pre.find? (hasCode t) with
    | none => simp [hasCode, ht]
    | some a => rfl
theorem textsF_skip (pre : List RowV) (r : RowV) (h1 : r.flag = 1) : textsF (pre ++ [r]) = textsF pre := by
  funext t
  unfold textsF
  rw [List.find?_append]
  have : hasCode t r = false := by simp [hasCode, h1]
  cases hf : pre.find? (hasCode t) <;> simp [this]
theorem headsF_skip (pre : List RowV) (r : RowV) (h1 : r.flag = 1) : headsF (pre ++ [r]) = headsF pre := by
  funext t
  unfold headsF
  rw [List.any_append]
  have : hasHead t r = false := by simp [hasHead, h1]
  simp [this]
theorem headsF_snoc (pre : List RowV) (r : RowV) (h1 : r.flag ≠ 1) : headsK r.code.data.toList r.code.data.toList.length (headsF pre) = headsF (pre ++ [r]) := by
  funext t
  unfold headsK headsF
  rw [List.any_append]
  have h2 : [r].any (hasHead t) = pfx r.code.data.toList.length r.code.data.toList t := by
    show (hasHead t r || false) = _
    rw [Bool.or_false]
    unfold hasHead
    have h3 : (r.flag != 1) = true := by simp [h1]
    rw [h3, Bool.true_and]
  rw [h2]
  cases pfx r.code.data.toList.length r.code.data.toList t <;> cases pre.any (hasHead t) <;> rfl
theorem headsK_zero (code : List UInt8) (g : List UInt8 → Option Bool) : headsK code 0 g = g := by
  funext t
  simp [headsK, pfx]
theorem pre_iff_take (t code : List UInt8) : t.isPrefixOf code = true ↔ t.length ≤ code.length ∧ t = code.take t.length := by
  rw [List.isPrefixOf_iff_prefix, List.prefix_iff_eq_take]
  constructor
  · intro h
    exact ⟨by have h2 := congrArg List.length h; simp at h2; omega, h⟩
  · exact fun h => h.2
theorem pfx_succ (code t : List UInt8) (i : Nat) (hi : i < code.length) : pfx (i + 1) code t = true ↔ t = code.take i ∨ pfx i code t = true := by
  unfold pfx
  rw [Bool.and_eq_true, Bool.and_eq_true, decide_eq_true_eq, decide_eq_true_eq, pre_iff_take]
  constructor
  · rintro ⟨h1, h2, h3⟩
    by_cases he : t.length = i
    · left; rw [← he]; exact h3
    · exact .inr ⟨by omega, h2, h3⟩
  · rintro (h | ⟨h1, h2, h3⟩)
    · have hl : t.length = i := by rw [h, List.length_take]; omega
      exact ⟨by omega, by omega, by rw [hl]; exact h⟩
    · exact ⟨by omega, h2, h3⟩
theorem headsK_succ (code : List UInt8) (i : Nat) (hi : i < code.length) (g : List UInt8 → Option Bool) : (fun t => if t = code.take i then some true else headsK code i g t) = headsK code (i + 1) g := by
  funext t
  unfold headsK
  by_cases h : pfx (i + 1) code t = true
  · rw [if_pos h]
    rcases (pfx_succ code t i hi).1 h with h2 | h2
    · rw [if_pos h2]
    · rw [if_pos h2]; simp
  · rw [if_neg h, if_neg (fun h2 => h ((pfx_succ code t i hi).2 (.inl h2))), if_neg (fun h2 => h ((pfx_succ code t i hi).2 (.inr h2)))]
theorem plainR_valid (r : RowV) (h : wrong13 (plainR r) = 0) : validD r.text.data.toList = true ∧ plainR r = ⟨r.code, runesL r.text.data.toList, r.flag⟩ ∧ 1 ≤ r.code.size ∧ r.code.size ≤ 4 ∧ 1 ≤ (runesL r.text.data.toList).length ∧ (runesL r.text.data.toList).length ≤ 18 := by
  have hv : validD r.text.data.toList = true := by
    by_cases hv : validD r.text.data.toList = true
    · exact hv
    · unfold plainR at h
      rw [if_neg hv] at h
      exact absurd h (by decide)
  have hp : plainR r = ⟨r.code, runesL r.text.data.toList, r.flag⟩ := by unfold plainR; rw [if_pos hv]
  refine ⟨hv, hp, ?_⟩
  rw [hp] at h
  unfold wrong13 at h
  by_cases hs : 1 ≤ r.code.size ∧ r.code.size ≤ 4 ∧ 1 ≤ (runesL r.text.data.toList).length ∧ (runesL r.text.data.toList).length ≤ 18
  · exact hs
  · rw [if_neg hs] at h
    exact absurd h (by decide)
theorem any_map_congr {α β : Type} (f : α → β) (p : β → Bool) (q : α → Bool) : ∀ (l : List α), (∀ x ∈ l, p (f x) = q x) → (l.map f).any p = l.any q := by
  intro l
  induction l with
  | nil => intro _; rfl
  | cons a l ih =>
    intro h
    rw [List.map_cons, List.any_cons, List.any_cons, h a (by simp), ih (fun x hx => h x (by simp [hx]))]
theorem any_or2 {α : Type} (p q : α → Bool) : ∀ l : List α, (l.any fun x => p x || q x) = (l.any p || l.any q) := by
  intro l
  induction l with
  | nil => rfl
  | cons a l ih => rw [List.any_cons, List.any_cons, List.any_cons, ih]; cases p a <;> cases q a <;> cases l.any p <;> cases l.any q <;> rfl
theorem rowErr_eq (pre : List RowV) (r : RowV) (hp : ∀ q ∈ pre, wrong13 (plainR q) = 0) (hr : wrong13 (plainR r) = 0) :
    rowErr (pre.map plainR) (plainR r) = if 18 < (nfd (runesL r.text.data.toList)).length then 11 else if r.flag = 1 then 0 else errD (textsF pre) (headsF pre) r.code.data.toList := by
  obtain ⟨_, e, _⟩ := plainR_valid r hr
  have h1 : rowErr1 (plainR r) = if 18 < (nfd (runesL r.text.data.toList)).length then 11 else 0 := by
    unfold rowErr1
    rw [hr, e]
    simp
  unfold rowErr
  rw [h1]
  by_cases hk : 18 < (nfd (runesL r.text.data.toList)).length
  · rw [if_pos hk, if_pos (by decide), if_pos hk]
  rw [if_neg hk, if_neg (by decide), if_neg hk, e]
  show (if r.flag = 1 then (0 : Int) else _) = _
  by_cases hf : r.flag = 1
  · rw [if_pos hf, if_pos hf]
  rw [if_neg hf, if_neg hf]
  have hs : (pre.map plainR).any (sameC ⟨r.code, runesL r.text.data.toList, r.flag⟩) = pre.any (hasCode r.code.data.toList) := by
    refine any_map_congr _ _ _ _ fun q hq => ?_
    obtain ⟨_, eq, _⟩ := plainR_valid q (hp q hq)
    rw [eq]
    show ((q.flag != 1) && (q.code.toList == r.code.toList)) = ((q.flag != 1) && (r.code.data.toList == q.code.data.toList))
    rw [ba_toList, ba_toList, BEq.comm]
  rw [hs, ← textsF_some]
  unfold errD
  by_cases hh : (textsF pre r.code.data.toList).isSome = true
  · rw [if_pos hh, if_pos hh]
  rw [if_neg hh, if_neg hh]
  have hno : ∀ q ∈ pre, q.flag ≠ 1 → r.code.data.toList ≠ q.code.data.toList := by
    intro q hq hqf he
    rw [textsF_some] at hh
    apply hh
    rw [List.any_eq_true]
    exact ⟨q, hq, by simp [hasCode, hqf, he]⟩
  have hc : (pre.map plainR).any (preC ⟨r.code, runesL r.text.data.toList, r.flag⟩) = (pre.any (hasHead r.code.data.toList) || pre.any fun q => q.flag != 1 && pfx r.code.data.toList.length r.code.data.toList q.code.data.toList) := by
    rw [← any_or2]
    refine any_map_congr _ _ _ _ fun q hq => ?_
    obtain ⟨_, eq, _⟩ := plainR_valid q (hp q hq)
    rw [eq]
    show ((q.flag != 1) && (r.code.data.toList.isPrefixOf q.code.data.toList || q.code.data.toList.isPrefixOf r.code.data.toList)) = (((q.flag != 1) && pfx q.code.data.toList.length q.code.data.toList r.code.data.toList) || ((q.flag != 1) && pfx r.code.data.toList.length r.code.data.toList q.code.data.toList))
    by_cases hqf : q.flag = 1
    · simp [hqf]
    have hne := hno q hq hqf
    have hd : ∀ a b : List UInt8, a ≠ b → a.isPrefixOf b = pfx b.length b a := by
      intro a b hab
      unfold pfx
      by_cases ha : a.isPrefixOf b = true
      · have h2 := (pre_iff_take a b).1 ha
        have hl : a.length < b.length := by
          rcases Nat.lt_or_eq_of_le h2.1 with h3 | h3
          · exact h3
          · exact absurd (by rw [h2.2, h3, List.take_length]) hab
        rw [ha, decide_eq_true hl]; rfl
      · have ha : a.isPrefixOf b = false := Bool.eq_false_iff.2 ha
        rw [ha, Bool.and_false]
    rw [hd _ _ hne, hd _ _ (Ne.symm hne)]
    have : (q.flag != 1) = true := by simp [hqf]
    rw [this, Bool.true_and, Bool.true_and, Bool.true_and]
  rw [hc, headsF_some]
  have ht : (List.range r.code.data.toList.length).any (fun i => (textsF pre (r.code.data.toList.take i)).isSome) = pre.any fun q => q.flag != 1 && pfx r.code.data.toList.length r.code.data.toList q.code.data.toList := by
    rw [Bool.eq_iff_iff, List.any_eq_true, List.any_eq_true]
    constructor
    · rintro ⟨i, hi, h⟩
      rw [textsF_some, List.any_eq_true] at h
      obtain ⟨q, hq, h⟩ := h
      unfold hasCode at h
      rw [Bool.and_eq_true, beq_iff_eq] at h
      refine ⟨q, hq, ?_⟩
      rw [List.mem_range] at hi
      rw [h.1, Bool.true_and]
      unfold pfx
      have hl : q.code.data.toList.length = i := by rw [← h.2, List.length_take]; omega
      rw [Bool.and_eq_true, decide_eq_true_eq, pre_iff_take, hl]
      exact ⟨hi, by omega, h.2.symm⟩
    · rintro ⟨q, hq, h⟩
      rw [Bool.and_eq_true] at h
      obtain ⟨h1, h2⟩ := h
      unfold pfx at h2
      rw [Bool.and_eq_true, decide_eq_true_eq, pre_iff_take] at h2
      refine ⟨q.code.data.toList.length, List.mem_range.2 h2.1, ?_⟩
      rw [textsF_some, List.any_eq_true]
      refine ⟨q, hq, ?_⟩
      unfold hasCode
      rw [h1, Bool.true_and, beq_iff_eq]
      exact h2.2.2.symm
  rw [ht]
  cases pre.any (hasHead r.code.data.toList) <;> cases (pre.any fun q => q.flag != 1 && pfx r.code.data.toList.length r.code.data.toList q.code.data.toList) <;> simp
/-- A byte's text. -/
theorem text_back (s : ByteArray) (h : validD s.data.toList = true) : runesBytes (runesL s.data.toList) = s := by
  refine ByteArray.ext (Array.toList_inj.1 ?_)
  rw [runesBytes_eq _ (fun r hr => ⟨(runesL_scal _ r hr).1, (runesL_scal _ r hr).2.2⟩), textB_runes _ _ (Nat.le_refl _) h]
theorem text_eq (code : ByteArray) : ∀ (l : List RowV), (∀ q ∈ l, wrong13 (plainR q) = 0) → (textsF l code.data.toList).getD ⟨#[]⟩ = runesBytes ((textOf code (l.map plainR)).getD []) := by
  intro l
  induction l with
  | nil => intro _; rfl
  | cons q l ih =>
    intro h
    obtain ⟨hv, eq, _⟩ := plainR_valid q (h q (by simp))
    have ih := ih (fun x hx => h x (by simp [hx]))
    unfold textsF at *
    rw [List.find?_cons, List.map_cons, eq]
    show _ = runesBytes ((if ((q.flag != 1) && (q.code.toList == code.toList)) = true then some (runesL q.text.data.toList) else textOf code (l.map plainR)).getD [])
    rw [ba_toList, ba_toList]
    unfold hasCode at *
    rw [BEq.comm (a := q.code.data.toList)]
    by_cases hc : ((q.flag != 1) && (code.data.toList == q.code.data.toList)) = true
    · rw [hc]
      exact (text_back _ hv).symm
    · have hc' : ((q.flag != 1) && (code.data.toList == q.code.data.toList)) = false := by simpa using hc
      rw [hc']
      exact ih
theorem oneR_scal (r : Int) (h : 0 ≤ r ∧ r ≤ 1114111) : ∀ x ∈ oneR r, 0 ≤ x ∧ x ≤ 1114111 := by
  intro x
  unfold oneR
  repeat' split
  all_goals
    intro hx
    simp only [List.mem_cons, List.not_mem_nil, or_false] at hx
    omega
theorem nfd_good (l : List Int) (h0 : 0 < l.length) (hs : scal l) (h18 : (nfd l).length ≤ 18) : goodKey (nfd l) := by
  refine ⟨?_, h18, sortRef_rising _, ?_⟩
  · intro h
    have h2 : (nfd l).length = (l.flatMap oneR).length := sortRef_len _
    rw [h] at h2
    cases l with
    | nil => simp at h0
    | cons a l =>
      have := (oneR_len a).1
      simp only [List.flatMap_cons, List.length_append, List.length_nil] at h2
      omega
  · intro r hr
    have hr : r ∈ l.flatMap oneR := (sortRef_mem _ _).1 hr
    obtain ⟨a, ha, hr⟩ := List.mem_flatMap.1 hr
    exact oneR_scal a (hs a ha) r hr
theorem scal_runes (l : List UInt8) : scal (runesL l) := fun r hr => ⟨(runesL_scal l r hr).1, (runesL_scal l r hr).2.2⟩
end Go.Proofs.YtkfjmcidcnpijaaGreatDoor.Sg
/- Walk: mapfile.Check: it answers as the reference does of the plain row. -/
namespace Go.Proofs.YtkfjmcidcnpijaaGreatDoor.Sg
open Go.RowKit Pl Go.Lib

theorem chk_eq (r : RowV) : wrong13 (plainR r) = if 1 ≤ r.code.size ∧ r.code.size ≤ 4 ∧ 1 ≤ runeCount r.text ∧ runeCount r.text ≤ 18 ∧ validD r.text.data.toList = true then (if r.flag = 0 ∨ r.flag = 1 ∨ r.flag = 3 then 0 else 16) else 11 := by
  rw [runeCount_eq]
  unfold plainR
  by_cases hv : validD r.text.data.toList = true
  · rw [if_pos hv]
    unfold wrong13
    simp only [hv, and_true]
  · rw [if_neg hv, if_neg (fun h => hv h.2.2.2.2)]
    rfl
theorem count_any (s : ByteArray) (hs : s.size ≤ 1048576) (w : World) : Calls Tryz.prog 41 #[.string s] w fun e w' => e = .returned (.int .i64 (runeCount s)) ∧ Below w.heap.size w w' := by
  refine (runeCount_any s w (by omega)).mono ?_
  rintro _ w1 ⟨rfl, pos, rfl⟩
  exact ⟨rfl, (Below.refl _ _).alloc (Nat.le_refl _) _⟩
set_option maxRecDepth 100000 in
set_option maxHeartbeats 1600000 in
theorem check_any (r : RowV) (h1 : r.code.size ≤ 1048576) (h2 : r.text.size ≤ 1048576) (w : World) (hT : Tabs w) :
    Calls Tryz.prog 28 #[rowV r] w fun e w' => e = .returned (.int .i64 (wrong13 (plainR r))) ∧ Below w.heap.size w w' := by
  rw [chk_eq]
  obtain ⟨code, text, flag⟩ := r
  have h1 : code.size ≤ 1048576 := h1
  have h2 : text.size ≤ 1048576 := h2
  have hn0 := runesL_le text.data.toList
  rw [← runeCount_eq, show text.data.toList.length = text.size from by simp] at hn0
  have hV := fun (w : World) (hT : Tabs w) => validString_any text w (by omega) hT
  have hC := fun (w : World) => count_any text h2 w
  generalize validD text.data.toList = V at *
  generalize runeCount text = n at *
  have HV := Lib.hid hV
  have HC := Lib.hid hC
  obtain ⟨W, hW⟩ : ∃ W, w.alloc (.cells #[.string code, .string text, .int .i64 flag] 50) = W := ⟨_, rfl⟩
  have hb : Below w.heap.size w W := hW ▸ (Below.refl _ _).alloc (Nat.le_refl _) _
  have hk : Blk W w.heap.size 50 #[.string code, .string text, .int .i64 flag] := hW ▸ Blk.new _ _ _
  have HK := Lib.hid hk
  have HB := Lib.hid hb
  have HT := Lib.hid (hT.keep hb)
  have c0 : W.cell? ⟨w.heap.size, 0, none⟩ = some (.string code) := by rw [hk.cell]; rfl
  have c1 : W.cell? ⟨w.heap.size, 1, none⟩ = some (.string text) := by rw [hk.cell]; rfl
  have c2 : W.cell? ⟨w.heap.size, 2, none⟩ = some (.int .i64 flag) := by rw [hk.cell]; rfl
  clear hT hb hk hV hC
  obtain ⟨Z, hZ⟩ : ∃ Z : Int, (if 1 ≤ code.size ∧ code.size ≤ 4 ∧ 1 ≤ n ∧ n ≤ 18 ∧ V = true then (if flag = 0 ∨ flag = 1 ∨ flag = 3 then 0 else 16) else 11) = Z := ⟨_, rfl⟩
  show Calls _ _ _ _ fun e w' => e = .returned (.int .i64 (if 1 ≤ code.size ∧ code.size ≤ 4 ∧ 1 ≤ n ∧ n ≤ 18 ∧ V = true then (if flag = 0 ∨ flag = 1 ∨ flag = 3 then 0 else 16) else 11)) ∧ _
  rw [hZ]
  have HZ := Lib.hid hZ
  clear hZ
  go_enter Tryz.func28, Tryz.ntmps28
  go_wp2_with fail
  refine (HC.out W).mono ?_
  rintro _ w1 ⟨rfl, hb1⟩
  have d0 := (hb1.cell (p := ⟨w.heap.size, 0, none⟩) HK.out.lt).trans c0
  have d1 := (hb1.cell (p := ⟨w.heap.size, 1, none⟩) HK.out.lt).trans c1
  have d2 := (hb1.cell (p := ⟨w.heap.size, 2, none⟩) HK.out.lt).trans c2
  have HT1 := Lib.hid (HT.out.keep hb1)
  have HB1 := Lib.hid (HB.out.trans (hb1.mono HB.out.size))
  have HK1 := Lib.hid (HK.out.below hb1 HK.out.lt)
  clear c0 c1 c2 hb1
  by_cases a1 : code.size < 1
  · have b1 : decide ((code.size : Int) < 1) = true := decide_eq_true (by omega)
    have hZ : Z = 11 := by rw [← HZ.out, if_neg (fun h => by omega)]
    subst hZ
    clear a1
    go_wp2_with fail
    go_returns
    exact ⟨rfl, HB1.out⟩
  have b1 : decide ((code.size : Int) < 1) = false := decide_eq_false (by omega)
  by_cases a2 : 4 < code.size
  · have b2 : decide ((4 : Int) < (code.size : Int)) = true := decide_eq_true (by omega)
    have hZ : Z = 11 := by rw [← HZ.out, if_neg (fun h => by omega)]
    subst hZ
    clear a1 a2
    go_wp2_with fail
    go_returns
    exact ⟨rfl, HB1.out⟩
  have b2 : decide ((4 : Int) < (code.size : Int)) = false := decide_eq_false (by omega)
  by_cases a3 : n < 1
  · have b3 : decide ((n : Int) < 1) = true := decide_eq_true (by omega)
    have hZ : Z = 11 := by rw [← HZ.out, if_neg (fun h => by omega)]
    subst hZ
    clear a1 a2 a3
    go_wp2_with fail
    go_returns
    exact ⟨rfl, HB1.out⟩
  have b3 : decide ((n : Int) < 1) = false := decide_eq_false (by omega)
  by_cases a4 : 18 < n
  · have b4 : decide ((18 : Int) < (n : Int)) = true := decide_eq_true (by omega)
    have hZ : Z = 11 := by rw [← HZ.out, if_neg (fun h => by omega)]
    subst hZ
    clear a1 a2 a3 a4
    go_wp2_with fail
    go_returns
    exact ⟨rfl, HB1.out⟩
  have b4 : decide ((18 : Int) < (n : Int)) = false := decide_eq_false (by omega)
  have hZ2 : Z = if V = true then (if flag = 0 ∨ flag = 1 ∨ flag = 3 then 0 else 16) else 11 := by
    rw [← HZ.out]
    by_cases hV : V = true
    · rw [if_pos hV, if_pos ⟨by omega, by omega, by omega, by omega, hV⟩]
    · rw [if_neg hV, if_neg (fun h => hV h.2.2.2.2)]
  have HZ2 := Lib.hid hZ2
  clear a1 a2 a3 a4 hZ2
  go_wp2_with fail
  refine (HV.out w1 HT1.out).mono ?_
  rintro _ w2 ⟨rfl, hb2⟩
  have e2 := (hb2.cell (p := ⟨w.heap.size, 2, none⟩) HK1.out.lt).trans d2
  have HB2 := Lib.hid (HB1.out.trans (hb2.mono HB1.out.size))
  clear d0 d1 d2 hb2
  cases V with
  | false =>
    have hZ : Z = 11 := HZ2.out
    subst hZ
    go_wp2_with fail
    go_returns
    exact ⟨rfl, HB2.out⟩
  | true =>
    have hZ : Z = if flag = 0 ∨ flag = 1 ∨ flag = 3 then 0 else 16 := HZ2.out
    clear b1 b2 b3 b4 h1 h2 hn0
    by_cases f0 : flag = 0
    · replace hZ : Z = 0 := by rw [hZ, if_pos (.inl f0)]
      subst hZ
      have g0 : (flag != 0) = false := by simp [f0]
      clear f0
      go_wp2_with fail
      go_returns
      exact ⟨rfl, HB2.out⟩
    have g0 : (flag != 0) = true := by simp [f0]
    by_cases f1 : flag = 1
    · replace hZ : Z = 0 := by rw [hZ, if_pos (.inr (.inl f1))]
      subst hZ
      have g1 : (flag != 1) = false := by simp [f1]
      clear f0 f1
      go_wp2_with fail
      go_returns
      exact ⟨rfl, HB2.out⟩
    have g1 : (flag != 1) = true := by simp [f1]
    by_cases f3 : flag = 3
    · replace hZ : Z = 0 := by rw [hZ, if_pos (.inr (.inr f3))]
      subst hZ
      have g3 : (flag != 3) = false := by simp [f3]
      clear f0 f1 f3
      go_wp2_with fail
      go_returns
      exact ⟨rfl, HB2.out⟩
    replace hZ : Z = 16 := by rw [hZ, if_neg (by omega)]
    subst hZ
    have g3 : (flag != 3) = true := by simp [f3]
    clear f0 f1 f3
    go_wp2_with fail
    go_returns
    exact ⟨rfl, HB2.out⟩
end Go.Proofs.YtkfjmcidcnpijaaGreatDoor.Sg
/- Walks: cmp.Compare, cmp.Or, strings.Compare, charset.better (which of two rows goes ahead: any answer will do here). -/
namespace Go.Proofs.YtkfjmcidcnpijaaGreatDoor.Sg
open Go.RowKit Pl Go.Lib

set_option maxRecDepth 100000 in
theorem isNaN_any (a : Int) (w : World) : Calls Tryz.prog 88 #[.int .i64 a] w fun e w' => e = .returned (.bool false) ∧ w = w' := by
  have h : (a != a) = false := by simp
  go_enter Tryz.func88, Tryz.ntmps88
  go_wp2
  go_returns
  exact ⟨by simp, rfl⟩
set_option maxRecDepth 100000 in
theorem compareI_any (a b : Int) (w : World) : Calls Tryz.prog 65 #[.int .i64 a, .int .i64 b] w fun e w' => (∃ k : Int, e = .returned (.int .i64 k)) ∧ w = w' := by
  have HN := Lib.hid (fun a => isNaN_any a w)
  go_enter Tryz.func65, Tryz.ntmps65
  go_wp2_with fail
  refine (HN.out a).mono ?_
  rintro _ _ ⟨rfl, rfl⟩
  go_wp2_with fail
  refine (HN.out b).mono ?_
  rintro _ _ ⟨rfl, rfl⟩
  by_cases h1 : a < b
  · have h1 : decide (a < b) = true := decide_eq_true h1
    go_wp2_with fail
    go_returns
    exact ⟨⟨_, rfl⟩, rfl⟩
  have h1 : decide (a < b) = false := decide_eq_false h1
  by_cases h2 : b < a
  · have h2 : decide (b < a) = true := decide_eq_true h2
    go_wp2_with fail
    go_returns
    exact ⟨⟨_, rfl⟩, rfl⟩
  have h2 : decide (b < a) = false := decide_eq_false h2
  go_wp2_with fail
  go_returns
  exact ⟨⟨_, rfl⟩, rfl⟩
set_option maxRecDepth 100000 in
theorem compareStr_any (a b : ByteArray) (w : World) : Calls Tryz.prog 89 #[.string a, .string b] w fun e w' => e = .returned (.int .i64 (Lib.compareBytes a.data.toList b.data.toList)) ∧ w = w' := by
  go_enter Tryz.func89, Tryz.ntmps89
  go_wp2
  rw [run_callFunc_extern Tryz.func121 (by kernel_rfl) (by kernel_rfl) (by kernel_rfl) (e := Extern.BytealgCompare.compare) (by kernel_rfl), Lib.run_compareString]
  simp only [Result.andThen]
  rw [Oper.upon_value]
  go_wp2
  go_ret
  exact ⟨rfl, rfl⟩
set_option maxRecDepth 100000 in
theorem compareS_any (a b : ByteArray) (w : World) : Calls Tryz.prog 67 #[.string a, .string b] w fun e w' => (∃ k : Int, e = .returned (.int .i64 k)) ∧ w = w' := by
  have HC := Lib.hid (compareStr_any a b w)
  go_enter Tryz.func67, Tryz.ntmps67
  go_wp2_with fail
  refine HC.out.mono ?_
  rintro _ _ ⟨rfl, rfl⟩
  go_wp2_with fail
  go_returns
  exact ⟨⟨_, rfl⟩, rfl⟩
set_option maxRecDepth 100000 in
theorem or_any (b : Nat) (x y z : Int) (c : Nat) (w : World) (h0 : w.cell? ⟨b, 0, none⟩ = some (.int .i64 x)) (h1 : w.cell? ⟨b, 1, none⟩ = some (.int .i64 y)) (h2 : w.cell? ⟨b, 2, none⟩ = some (.int .i64 z)) :
    Calls Tryz.prog 66 #[.slice (some ⟨b, 0, none⟩) 3 c] w fun e w' => (∃ k : Int, e = .returned (.int .i64 k)) ∧ w = w' := by
  go_enter Tryz.func66, Tryz.ntmps66
  go_wp2
  go_loop [8] (fun i => ∃ j : Nat, j ≤ 3 ∧ i = .int .i64 j) (fun i => 3 - (RowKit.intOf i).toNat)
  case atStart => exact ⟨0, by omega, rfl⟩
  case round =>
    obtain ⟨j, hj, rfl⟩ := hrel
    by_cases hlt : j < 3
    · obtain ⟨q, hq⟩ : ∃ q : Int, w.cell? ⟨b, j, none⟩ = some (.int .i64 q) := by
        rcases (by omega : j = 0 ∨ j = 1 ∨ j = 2) with rfl | rfl | rfl
        · exact ⟨_, h0⟩
        · exact ⟨_, h1⟩
        · exact ⟨_, h2⟩
      clear h0 h1 h2
      have j0 : (0 : Int) ≤ (j : Int) := by omega
      have j1 : (j : Int) < 3 := by omega
      by_cases hz : q = 0
      · subst hz
        go_wp2
        go_round
        case rel => exact ⟨j + 1, by omega, by go_num⟩
        case measure => simp [RowKit.intOf]; omega
      · have hz : (q != 0) = true := by simp [hz]
        go_wp2
        go_returns
        exact ⟨⟨_, rfl⟩, rfl⟩
    · obtain rfl : j = 3 := by omega
      clear h0 h1 h2
      go_wp2
      go_returns
      exact ⟨⟨_, rfl⟩, rfl⟩
theorem or_new (x y z : Int) (c : Nat) (w : World) : Calls Tryz.prog 66 #[.slice (some ⟨w.heap.size, 0, none⟩) 3 c] (w.alloc (.cells #[.int .i64 x, .int .i64 y, .int .i64 z] IntE)) fun e w' => (∃ k : Int, e = .returned (.int .i64 k)) ∧ w.alloc (.cells #[.int .i64 x, .int .i64 y, .int .i64 z] IntE) = w' :=
  or_any _ x y z c _ (by rw [(Blk.new w IntE _).cell]; rfl) (by rw [(Blk.new w IntE _).cell]; rfl) (by rw [(Blk.new w IntE _).cell]; rfl)
set_option maxRecDepth 100000 in
set_option maxHeartbeats 1600000 in
theorem better_any (r q : RowV) (hr : r.code.size ≤ maxLen) (hq : q.code.size ≤ maxLen) (w : World) :
    Calls Tryz.prog 46 #[rowV r, rowV q] w fun e w' => (∃ k : Bool, e = .returned (.bool k)) ∧ Below w.heap.size w w' := by
  obtain ⟨ca, ta, fa⟩ := r
  obtain ⟨cb, tb, fb⟩ := q
  have HI := Lib.hid (fun w => compareI_any fa fb w)
  have HS := Lib.hid (fun w => compareS_any ca cb w)
  have HO := Lib.hid (fun x y z c w => or_new x y z c w)
  unfold maxLen at hr hq
  obtain ⟨W, hW⟩ : ∃ W, w.alloc (.cells #[.string ca, .string ta, .int .i64 fa] 50) = W := ⟨_, rfl⟩
  have hb : Below w.heap.size w W := hW ▸ (Below.refl _ _).alloc (Nat.le_refl _) _
  have hk : Blk W w.heap.size 50 #[.string ca, .string ta, .int .i64 fa] := hW ▸ Blk.new _ _ _
  obtain ⟨V, hV⟩ : ∃ V, W.alloc (.cells #[.string cb, .string tb, .int .i64 fb] 50) = V := ⟨_, rfl⟩
  have hb2 : Below W.heap.size W V := hV ▸ (Below.refl _ _).alloc (Nat.le_refl _) _
  have hk2 : Blk V W.heap.size 50 #[.string cb, .string tb, .int .i64 fb] := hV ▸ Blk.new _ _ _
  have hk := hk.below hb2 hk.lt
  have HB := Lib.hid (hb.trans (hb2.mono hb.size))
  have a0 : V.cell? ⟨w.heap.size, 0, none⟩ = some (.string ca) := by rw [hk.cell]; rfl
  have a2 : V.cell? ⟨w.heap.size, 2, none⟩ = some (.int .i64 fa) := by rw [hk.cell]; rfl
  have b0 : V.cell? ⟨W.heap.size, 0, none⟩ = some (.string cb) := by rw [hk2.cell]; rfl
  have b2 : V.cell? ⟨W.heap.size, 2, none⟩ = some (.int .i64 fb) := by rw [hk2.cell]; rfl
  have HK := Lib.hid hk
  have HK2 := Lib.hid hk2
  have hr : ca.size ≤ 2 ^ 63 - 1 := hr
  have hq : cb.size ≤ 2 ^ 63 - 1 := hq
  clear hb hk hb2 hk2
  go_enter Tryz.func46, Tryz.ntmps46
  go_wp2_with fail
  refine (HI.out V).mono ?_
  rintro _ _ ⟨⟨k1, rfl⟩, rfl⟩
  go_wp2_with fail
  have hal : ∀ o, (V.drew.alloc o).cell? ⟨w.heap.size, 0, none⟩ = some (.string ca) ∧ (V.drew.alloc o).cell? ⟨W.heap.size, 0, none⟩ = some (.string cb) := fun o =>
    have h : Below V.heap.size V (V.drew.alloc o) := (Below.refl _ _).drew.alloc (Nat.le_refl _) _
    ⟨(h.cell (p := ⟨w.heap.size, 0, none⟩) HK.out.lt).trans a0, (h.cell (p := ⟨W.heap.size, 0, none⟩) HK2.out.lt).trans b0⟩
  have HAL := Lib.hid hal
  clear hal
  go_region_held3 (fun w' => w'.cell? ⟨w.heap.size, 0, none⟩ = some (.string ca) ∧ w'.cell? ⟨W.heap.size, 0, none⟩ = some (.string cb)) (first | exact ⟨a0, b0⟩ | exact HAL.out _) (first | (go_at_call 67; refine (HS.out _).mono ?_; rintro _ _ ⟨⟨k2, rfl⟩, rfl⟩) | (go_at_call 66; refine (HO.out k1 (IntKind.i64.wrap ((ca.size : Int) - cb.size)) k2 3 V.drew).mono ?_; rintro _ _ ⟨⟨k3, rfl⟩, rfl⟩))
  go_wp2_with fail
  go_returns
  exact ⟨⟨_, rfl⟩, HB.out.drew.alloc HB.out.size _⟩
end Go.Proofs.YtkfjmcidcnpijaaGreatDoor.Sg
/- The memory of charset.New while it runs: the struct and its maps; walk: (*charset.Charset).decodes. -/
namespace Go.Proofs.YtkfjmcidcnpijaaGreatDoor.Sg
open Go.RowKit Pl Go.Lib Go.Maps Go.WideMaps

abbrev ChT : TypeId := 102
/-- Rows of cells are left as they are (maps may turn). -/
def CK (w w' : World) : Prop := ∀ (g : Nat) (cs : Array Value) (t : TypeId) (fz : Nat × Nat), w.heap[g]? = some (Obj.cells cs t fz) → w'.heap[g]? = some (Obj.cells cs t fz)
theorem CK.refl (w : World) : CK w w := fun _ _ _ _ h => h
theorem CK.trans {a b c : World} (h1 : CK a b) (h2 : CK b c) : CK a c := fun g cs t fz h => h2 g cs t fz (h1 g cs t fz h)
theorem CK.of_below {w w' : World} (h : Below w.heap.size w w') : CK w w' := fun g _ _ _ hg => (h.block g (Array.getElem?_eq_some_iff.1 hg).1).trans hg
theorem CK.of_map {w w' : World} {r : Nat} {es clock} (hm : w.heap[r]? = some (.map es clock)) (hg : w.grownBy w' (some r)) : CK w w' := fun g cs t fz h =>
  (hg.block g (Array.getElem?_eq_some_iff.1 h).1 (fun e => by injection e with e; subst e; rw [hm] at h; cases h)).trans h
theorem Blk.ck {w w' : World} {g : Nat} {t : TypeId} {cs : Array Value} (h : Blk w g t cs) (hk : CK w w') : Blk w' g t cs := hk g cs t (0, 0) h
theorem own_ck {w w' : World} {B e sz n : Nat} {v : Value} {xs : List Value} (h : w.ownsRow B e sz v n xs) (hk : CK w w') : w'.ownsRow B e sz v n xs := by
  refine ⟨h.1, ?_⟩
  rcases h.2 with h1 | ⟨g, cap, cur, e1, hg, hh, h4⟩
  · exact .inl h1
  · exact .inr ⟨g, cap, cur, e1, hg, hk _ _ _ _ hh, h4⟩
def chC (H : Nat) (p : Option Addr) (vr vk vc : Value) : Array Value := #[.pointer p, smallI, vr, .map (some H), .map (some (H + 1)), vk, vc]
structure HS (H : Nat) (w0 w : World) (n : Nat) (cs : Array Value) (f : List UInt8 → Option ByteArray) (g : List UInt8 → Option Bool) (h : List UInt8 → Option Int) : Prop where
  blk : Blk w (H + 2) ChT cs
  texts : SMap elS w H n f
  heads : SMap elB w (H + 1) n g
  at_ : SMap elI w (H + 3) n h
  below : Below H w0 w
  size : H + 4 ≤ w.heap.size
section
variable {H : Nat} {w0 w w' : World} {n : Nat} {cs : Array Value} {f : List UInt8 → Option ByteArray} {g : List UInt8 → Option Bool} {h : List UInt8 → Option Int}
theorem HS.keep (s : HS H w0 w n cs f g h) (hb : Below w.heap.size w w') : HS H w0 w' n cs f g h :=
  ⟨Blk.ck s.blk (.of_below hb), s.texts.below hb, s.heads.below hb, s.at_.below hb, s.below.trans (hb.mono (Nat.le_trans (by omega) s.size)), Nat.le_trans s.size hb.size⟩
theorem HS.mono {m : Nat} (s : HS H w0 w n cs f g h) (hm : n ≤ m) : HS H w0 w m cs f g h := ⟨s.blk, s.texts.mono hm, s.heads.mono hm, s.at_.mono hm, s.below, s.size⟩
/-- 'texts[code] = text'. -/
theorem HS.putText (s : HS H w0 w n cs f g h) (hn : n < maxLen) (k : ByteArray) (hk : k.size ≤ maxLen) (x : ByteArray) (hx : x.size ≤ maxLen) :
    ∃ w', (Instr.mapUpdate 97 (.map (some H)) (.string k) (.string x)).run Tryz.prog w = .ok () w' ∧ HS H w0 w' (n + 1) cs (fun t => if t = k.data.toList then some x else f t) g h ∧ CK w w' := by
  obtain ⟨w', hrun, hm, hg⟩ := s.texts.store 97 Tryz.underlying97 k hk x hx hn
  obtain ⟨es, clock, hh⟩ := s.texts.isMap
  exact ⟨w', hrun, ⟨Blk.ck s.blk (.of_map hh hg), hm, (s.heads.turn hg (fun r e => by injection e with e; omega)).mono (Nat.le_succ _), (s.at_.turn hg (fun r e => by injection e with e; omega)).mono (Nat.le_succ _),
    below_grown s.below hg (Nat.le_trans (by omega) s.size) (fun k e => by injection e with e; omega), Nat.le_trans s.size hg.size⟩, .of_map hh hg⟩
/-- 'heads[code] = true'. -/
theorem HS.putHead (s : HS H w0 w n cs f g h) (hn : n < maxLen) (k : ByteArray) (hk : k.size ≤ maxLen) :
    ∃ w', (Instr.mapUpdate 98 (.map (some (H + 1))) (.string k) (.bool true)).run Tryz.prog w = .ok () w' ∧ HS H w0 w' (n + 1) cs f (fun t => if t = k.data.toList then some true else g t) h ∧ CK w w' := by
  obtain ⟨w', hrun, hm, hg⟩ := s.heads.store 98 Tryz.underlying98 k hk true trivial hn
  obtain ⟨es, clock, hh⟩ := s.heads.isMap
  exact ⟨w', hrun, ⟨Blk.ck s.blk (.of_map hh hg), (s.texts.turn hg (fun r e => by injection e with e; omega)).mono (Nat.le_succ _), hm, (s.at_.turn hg (fun r e => by injection e with e; omega)).mono (Nat.le_succ _),
    below_grown s.below hg (Nat.le_trans (by omega) s.size) (fun k e => by injection e with e; omega), Nat.le_trans s.size hg.size⟩, .of_map hh hg⟩
/-- 'at[key] = i'. -/
theorem HS.putAt (s : HS H w0 w n cs f g h) (hn : n < maxLen) (k : ByteArray) (hk : k.size ≤ maxLen) (x : Int) (hx : 0 ≤ x ∧ x ≤ 1000000000) :
    ∃ w', (Instr.mapUpdate 103 (.map (some (H + 3))) (.string k) (.int .i64 x)).run Tryz.prog w = .ok () w' ∧ HS H w0 w' (n + 1) cs f g (fun t => if t = k.data.toList then some x else h t) ∧ CK w w' := by
  obtain ⟨w', hrun, hm, hg⟩ := s.at_.store 103 Tryz.underlying103 k hk x hx hn
  obtain ⟨es, clock, hh⟩ := s.at_.isMap
  exact ⟨w', hrun, ⟨Blk.ck s.blk (.of_map hh hg), (s.texts.turn hg (fun r e => by injection e with e; omega)).mono (Nat.le_succ _), (s.heads.turn hg (fun r e => by injection e with e; omega)).mono (Nat.le_succ _), hm,
    below_grown s.below hg (Nat.le_trans (by omega) s.size) (fun k e => by injection e with e; omega), Nat.le_trans s.size hg.size⟩, .of_map hh hg⟩
/-- A text looked up, with ok. -/
theorem HS.lookText (s : HS H w0 w n cs f g h) (k : ByteArray) (hk : k.size ≤ maxLen) : (Instr.lookup 97 (.map (some H)) (.string k) true).run Tryz.prog w = .ok (.tuple #[.string ((f k.data.toList).getD ⟨#[]⟩), .bool (f k.data.toList).isSome]) w :=
  s.texts.lookOk 97 Tryz.underlying97 k hk
theorem HS.lookHead (s : HS H w0 w n cs f g h) (k : ByteArray) (hk : k.size ≤ maxLen) : (Instr.lookup 98 (.map (some (H + 1))) (.string k) false).run Tryz.prog w = .ok (.bool ((g k.data.toList).getD false)) w :=
  s.heads.look 98 Tryz.underlying98 k hk
theorem HS.lookAt (s : HS H w0 w n cs f g h) (k : ByteArray) (hk : k.size ≤ maxLen) : (Instr.lookup 103 (.map (some (H + 3))) (.string k) true).run Tryz.prog w = .ok (.tuple #[.int .i64 ((h k.data.toList).getD 0), .bool (h k.data.toList).isSome]) w :=
  s.at_.lookOk 103 Tryz.underlying103 k hk
end
/-- Heads are true or not there. -/
def TrueOnly (g : List UInt8 → Option Bool) : Prop := ∀ t, g t = none ∨ g t = some true
theorem take_data (code : ByteArray) (i : Nat) : (code.extract 0 i).data.toList = code.data.toList.take i := by
  simp [ByteArray.data_extract]
def DecP (H : Nat) (w0 w : World) (n : Nat) (cs : Array Value) (f : List UInt8 → Option ByteArray) (g : List UInt8 → Option Bool) (h : List UInt8 → Option Int) (r : RowV) (e : Ending) (w' : World) : Prop :=
  e = .returned (.int .i64 (errD f g r.code.data.toList)) ∧ CK w w' ∧ ∃ f' g', HS H w0 w' (n + 5) cs f' g' h ∧ (errD f g r.code.data.toList = 0 → f' = (fun t => if t = r.code.data.toList then some r.text else f t) ∧ g' = headsK r.code.data.toList r.code.data.toList.length g)
theorem code_len (code : ByteArray) : code.data.toList.length = code.size := Array.length_toList
set_option maxRecDepth 100000 in
set_option maxHeartbeats 3200000 in
theorem decodes_any (H : Nat) (w0 w : World) (n : Nat) (p : Option Addr) (vr vk vc : Value) (f : List UInt8 → Option ByteArray) (g : List UInt8 → Option Bool) (h : List UInt8 → Option Int) (r : RowV)
    (hs : HS H w0 w n (chC H p vr vk vc) f g h) (hg : TrueOnly g) (hc : r.code.size ≤ 4) (ht : r.text.size ≤ 1048576) (hn : n ≤ 1000000) :
    Calls Tryz.prog 64 #[.pointer (some ⟨H + 2, 0, none⟩), rowV r] w (DecP H w0 w n (chC H p vr vk vc) f g h r) := by
  obtain ⟨code, text, flag⟩ := r
  have hc : code.size ≤ 4 := hc
  have ht : text.size ≤ 1048576 := ht
  have hcm : code.size ≤ maxLen := by unfold maxLen; omega
  obtain ⟨W, hW⟩ : ∃ W, w.alloc (.cells #[.string code, .string text, .int .i64 flag] 50) = W := ⟨_, rfl⟩
  have hb : Below w.heap.size w W := hW ▸ (Below.refl _ _).alloc (Nat.le_refl _) _
  have hk : Blk W w.heap.size 50 #[.string code, .string text, .int .i64 flag] := hW ▸ Blk.new _ _ _
  have HK := Lib.hid hk
  have HCK := Lib.hid (CK.of_below hb)
  have hs := hs.keep hb
  have HSW := Lib.hid hs
  have HSD := Lib.hid (hs.keep (Below.refl _ _).drew)
  have k0 : W.drew.cell? ⟨w.heap.size, 0, none⟩ = some (.string code) := by rw [hk.drew.cell]; rfl
  have t3 : W.drew.cell? ⟨H + 2, 3, none⟩ = some (.map (some H)) := by rw [hs.blk.drew.cell]; rfl
  have hl1 := HSD.out.lookText code hcm
  unfold DecP
  show Calls _ _ _ _ fun e w' => e = .returned (.int .i64 (errD f g code.data.toList)) ∧ CK w w' ∧ ∃ f' g', HS H w0 w' (n + 5) (chC H p vr vk vc) f' g' h ∧ (errD f g code.data.toList = 0 → f' = (fun t => if t = code.data.toList then some text else f t) ∧ g' = headsK code.data.toList code.data.toList.length g)
  obtain ⟨Z, hZ⟩ : ∃ Z, errD f g code.data.toList = Z := ⟨_, rfl⟩
  rw [hZ]
  have HZ := Lib.hid hZ
  have HT := Lib.hid (hg code.data.toList)
  clear hZ hb hk hs hg
  go_enter Tryz.func64, Tryz.ntmps64
  go_wp2_with fail
  cases hf : (f code.data.toList).isSome
  rotate_left
  · rw [hf] at hl1
    have hz : Z = 12 := by rw [← HZ.out]; unfold errD; rw [if_pos hf]
    subst hz
    go_region_held3 (fun w' => w'.cell? ⟨w.heap.size, 0, none⟩ = some (.string code) ∧ w'.cell? ⟨H + 2, 3, none⟩ = some (.map (some H))) (exact ⟨k0, t3⟩) (fail)
    go_wp2_with fail
    go_returns
    exact ⟨rfl, HCK.out.trans (.of_below (Below.refl _ _).drew), _, _, (HSD.out.mono (by omega)), fun h => by cases h⟩
  rw [hf] at hl1
  have HF := Lib.hid hf
  clear hf
  go_region_held3 (fun w' => w'.cell? ⟨w.heap.size, 0, none⟩ = some (.string code) ∧ w'.cell? ⟨H + 2, 3, none⟩ = some (.map (some H))) (exact ⟨k0, t3⟩) (fail)
  have HSD2 := Lib.hid (HSD.out.keep (Below.refl _ _).drew)
  have HCK2 : Hid (CK W W.drew.drew) := Lib.hid (CK.of_below (Below.refl _ _).drew.drew)
  have k0 : W.drew.drew.cell? ⟨w.heap.size, 0, none⟩ = some (.string code) := k0
  have t4 : W.drew.drew.cell? ⟨H + 2, 4, none⟩ = some (.map (some (H + 1))) := by rw [HSD2.out.blk.cell]; rfl
  have hl2 := HSD2.out.lookHead code hcm
  clear hl1 t3
  rcases HT.out with hg1 | hg1
  rotate_left
  · rw [hg1] at hl2
    have hl2 : (Instr.lookup 98 (.map (some (H + 1))) (.string code) false).run Tryz.prog W.drew.drew = .ok (.bool true) W.drew.drew := hl2
    have hz : Z = 10 := by rw [← HZ.out]; unfold errD; rw [if_neg (by rw [HF.out]; decide), if_pos (by rw [hg1]; rfl)]
    subst hz
    go_wp2_with fail
    go_region_held3 (fun w' => w'.cell? ⟨w.heap.size, 0, none⟩ = some (.string code) ∧ w'.cell? ⟨H + 2, 4, none⟩ = some (.map (some (H + 1)))) (exact ⟨k0, t4⟩) (fail)
    go_wp2_with fail
    go_returns
    exact ⟨rfl, HCK.out.trans HCK2.out, _, _, (HSD2.out.mono (by omega)), fun h => by cases h⟩
  rw [hg1] at hl2
  have hl2 : (Instr.lookup 98 (.map (some (H + 1))) (.string code) false).run Tryz.prog W.drew.drew = .ok (.bool false) W.drew.drew := hl2
  have hz : Z = if (List.range code.data.toList.length).any (fun i => (f (code.data.toList.take i)).isSome) = true then 10 else 0 := by
    rw [← HZ.out]; unfold errD; rw [if_neg (by rw [HF.out]; decide), if_neg (by rw [hg1]; decide)]
  rw [code_len] at hz
  have HZ2 := Lib.hid hz
  clear hg1 hz
  go_wp2_with fail
  go_region_held3 (fun w' => w'.cell? ⟨w.heap.size, 0, none⟩ = some (.string code) ∧ w'.cell? ⟨H + 2, 4, none⟩ = some (.map (some (H + 1)))) (exact ⟨k0, t4⟩) (fail)
  clear hl2 t4
  have HK0 := Lib.hid k0
  go_wp2_with fail
  clear k0
  go_loopw [32] (fun vi wr => ∃ i : Nat, i ≤ code.size ∧ vi = .int .i64 i ∧ Drew W wr ∧ ∀ j, j < i → (f (code.data.toList.take j)).isSome = false) (fun vi _ => code.size - (RowKit.intOf vi).toNat)
  case atStart => exact ⟨0, Nat.zero_le _, rfl, ⟨2, rfl⟩, fun j hj => by omega⟩
  case round =>
    obtain ⟨i, hi, rfl, hdr, hno⟩ := hrel
    have HNO := Lib.hid hno
    have HDR := Lib.hid hdr
    have hbw : Below W.heap.size W wr.drew := (hdr.below _).drew
    have hs := HSW.out.keep hbw
    have HSR := Lib.hid hs
    have hk0 : wr.drew.cell? ⟨w.heap.size, 0, none⟩ = some (.string code) := by rw [(Blk.ck HK.out (.of_below hbw)).cell]; rfl
    have HCR := Lib.hid (HCK.out.trans (.of_below hbw))
    clear hno hdr hbw
    by_cases hlt : i < code.size
    · have t3 : wr.drew.cell? ⟨H + 2, 3, none⟩ = some (.map (some H)) := by rw [hs.blk.cell]; rfl
      have hl := hs.lookText (code.extract 0 i) (by rw [ByteArray.size_extract]; omega)
      rw [take_data] at hl
      have j1 : (i : Int) < (code.size : Int) := by omega
      have j2 : (0 : Int) ≤ (i : Int) := by omega
      have j3 : (i : Int) ≤ (code.size : Int) := by omega
      clear hs
      cases hfi : (f (code.data.toList.take i)).isSome
      · rw [hfi] at hl
        have HFI := Lib.hid hfi
        clear hfi
        go_wp2_with fail
        go_region_held3 (fun w' => w'.cell? ⟨w.heap.size, 0, none⟩ = some (.string code) ∧ w'.cell? ⟨H + 2, 3, none⟩ = some (.map (some H))) (exact ⟨hk0, t3⟩) (fail)
        go_wp2_with fail
        go_roundw
        case rel => exact ⟨i + 1, by omega, by go_num, (by obtain ⟨m, rfl⟩ := HDR.out; exact ⟨m + 1, rfl⟩), fun j hj => by { by_cases hji : j = i; exact hji ▸ HFI.out; exact HNO.out j (by omega) }⟩
        case measure => simp [RowKit.intOf]; omega
      · rw [hfi] at hl
        have hz : Z = 10 := by rw [HZ2.out, if_pos (by rw [List.any_eq_true]; exact ⟨i, List.mem_range.2 hlt, hfi⟩)]
        subst hz
        clear hfi
        go_wp2_with fail
        go_region_held3 (fun w' => w'.cell? ⟨w.heap.size, 0, none⟩ = some (.string code) ∧ w'.cell? ⟨H + 2, 3, none⟩ = some (.map (some H))) (exact ⟨hk0, t3⟩) (fail)
        go_wp2_with fail
        go_returns
        exact ⟨rfl, HCR.out, _, _, (HSR.out.mono (by omega)), fun h => by cases h⟩
    · obtain rfl : i = code.size := by omega
      have hz : Z = 0 := by
        rw [HZ2.out, if_neg]
        rw [List.any_eq_true]
        rintro ⟨j, hj, h⟩
        rw [HNO.out j (List.mem_range.1 hj)] at h
        cases h
      subst hz
      have hk1 : wr.drew.cell? ⟨w.heap.size, 1, none⟩ = some (.string text) := by rw [(Blk.ck HK.out (.of_below ((HDR.out.below _).drew))).cell]; rfl
      have t3 : wr.drew.cell? ⟨H + 2, 3, none⟩ = some (.map (some H)) := by rw [hs.blk.cell]; rfl
      obtain ⟨w1, hup, hs1, hck1⟩ := hs.putText (by unfold maxLen; omega) code hcm text (by unfold maxLen; omega)
      have HS1 := Lib.hid hs1
      have HC1 := Lib.hid (HCR.out.trans hck1)
      have m0 : w1.cell? ⟨w.heap.size, 0, none⟩ = some (.string code) := by rw [(Blk.ck (Blk.ck HK.out (.of_below ((HDR.out.below _).drew))) hck1).cell]; rfl
      have m1 : w1.cell? ⟨w.heap.size, 1, none⟩ = some (.string text) := by rw [(Blk.ck (Blk.ck HK.out (.of_below ((HDR.out.below _).drew))) hck1).cell]; rfl
      have m3 : w1.cell? ⟨H + 2, 3, none⟩ = some (.map (some H)) := by rw [hs1.blk.cell]; rfl
      have HK1 := Lib.hid (Blk.ck (Blk.ck HK.out (.of_below ((HDR.out.below _).drew))) hck1)
      clear hs hs1 hck1
      have jj : decide ((code.size : Int) < (code.size : Int)) = false := decide_eq_false (by omega)
      go_wp2_with fail
      go_region_held3 (fun w' => w'.cell? ⟨w.heap.size, 0, none⟩ = some (.string code) ∧ w'.cell? ⟨w.heap.size, 1, none⟩ = some (.string text) ∧ w'.cell? ⟨H + 2, 3, none⟩ = some (.map (some H))) (first | exact ⟨hk0, hk1, t3⟩ | exact ⟨m0, m1, m3⟩) (fail)
      clear hup hk0 hk1 t3
      go_wp2_with fail
      clear m0 m1 m3
      go_loopw [60] (fun vi wr => ∃ i : Nat, i ≤ code.size ∧ vi = .int .i64 i ∧ CK w1 wr ∧ HS H w0 wr (n + 1 + i) (chC H p vr vk vc) (fun t => if t = code.data.toList then some text else f t) (headsK code.data.toList i g) h) (fun vi _ => code.size - (RowKit.intOf vi).toNat)
      case atStart => exact ⟨0, Nat.zero_le _, rfl, .refl _, by rw [headsK_zero]; exact HS1.out⟩
      case round =>
        obtain ⟨i, hi, rfl, hck, hs⟩ := hrel
        have HSQ := Lib.hid hs
        have HCQ := Lib.hid (hck.trans (.of_below (Below.refl _ _).drew))
        have HCE := Lib.hid hck
        have hsd := hs.keep (Below.refl _ _).drew
        clear hs hck
        by_cases hlt : i < code.size
        · have k0 : wr.drew.cell? ⟨w.heap.size, 0, none⟩ = some (.string code) := by rw [(Blk.ck HK1.out HCQ.out).cell]; rfl
          have t4 : wr.drew.cell? ⟨H + 2, 4, none⟩ = some (.map (some (H + 1))) := by rw [hsd.blk.cell]; rfl
          obtain ⟨w2, hup, hs2, hck2⟩ := hsd.putHead (by unfold maxLen; omega) (code.extract 0 i) (by rw [ByteArray.size_extract]; omega)
          rw [take_data, headsK_succ _ _ (by rw [code_len]; exact hlt)] at hs2
          have n0 : w2.cell? ⟨w.heap.size, 0, none⟩ = some (.string code) := by rw [(Blk.ck (Blk.ck HK1.out HCQ.out) hck2).cell]; rfl
          have n4 : w2.cell? ⟨H + 2, 4, none⟩ = some (.map (some (H + 1))) := by rw [hs2.blk.cell]; rfl
          have HS2 := Lib.hid hs2
          have HC2 := Lib.hid (HCQ.out.trans hck2)
          have j1 : (i : Int) < (code.size : Int) := by omega
          have j2 : (0 : Int) ≤ (i : Int) := by omega
          have j3 : (i : Int) ≤ (code.size : Int) := by omega
          clear hsd hs2 hck2
          go_wp2_with fail
          go_region_held3 (fun w' => w'.cell? ⟨w.heap.size, 0, none⟩ = some (.string code) ∧ w'.cell? ⟨H + 2, 4, none⟩ = some (.map (some (H + 1)))) (first | exact ⟨k0, t4⟩ | exact ⟨n0, n4⟩) (fail)
          go_wp2_with fail
          go_roundw
          case rel => exact ⟨i + 1, by omega, by go_num, HC2.out, HS2.out⟩
          case measure => simp [RowKit.intOf]; omega
        · obtain rfl : i = code.size := by omega
          clear hsd
          have jj : decide ((code.size : Int) < (code.size : Int)) = false := decide_eq_false (by omega)
          go_wp2_with fail
          go_returns
          first | exact ⟨rfl, HC1.out.trans HCE.out, HSQ.out.mono (by omega)⟩ | exact ⟨rfl, HC1.out.trans HCE.out, by rw [code_len]; exact HSQ.out.mono (by omega)⟩ | exact ⟨HC1.out.trans HCE.out, HSQ.out.mono (by omega)⟩
end Go.Proofs.YtkfjmcidcnpijaaGreatDoor.Sg
/- Walk: (*charset.Charset).row. -/
namespace Go.Proofs.YtkfjmcidcnpijaaGreatDoor.Sg
open Go.RowKit Pl Go.Lib Go.Maps Go.WideMaps

theorem nfd_pos (l : List Int) (h0 : 0 < l.length) : 0 < (nfd l).length := by
  have h2 : (nfd l).length = (l.flatMap oneR).length := sortRef_len _
  rw [h2]
  cases l with
  | nil => simp at h0
  | cons a l =>
    have := (oneR_len a).1
    simp only [List.flatMap_cons, List.length_append]
    omega
/-- What row answers. -/
def rowE (f : List UInt8 → Option ByteArray) (g : List UInt8 → Option Bool) (r : RowV) : Int :=
  if wrong13 (plainR r) ≠ 0 then wrong13 (plainR r) else if 18 < (nfd (runesL r.text.data.toList)).length then 11 else if r.flag = 1 then 0 else errD f g r.code.data.toList
structure RowOk (w : World) (r : RowV) (f f' : List UInt8 → Option ByteArray) (g g' : List UInt8 → Option Bool) (v : Value) (w' : World) : Prop where
  own : w'.ownsRow w.heap.size RuneT 1 v (nfd (runesL r.text.data.toList)).length (i32s (nfd (runesL r.text.data.toList)))
  texts : f' = if r.flag = 1 then f else fun t => if t = r.code.data.toList then some r.text else f t
  heads : g' = if r.flag = 1 then g else headsK r.code.data.toList r.code.data.toList.length g
def RowP (H : Nat) (w0 w : World) (n : Nat) (cs : Array Value) (f : List UInt8 → Option ByteArray) (g : List UInt8 → Option Bool) (h : List UInt8 → Option Int) (r : RowV) (e : Ending) (w' : World) : Prop :=
  ∃ v, e = .returned (.tuple #[v, .int .i64 (rowE f g r)]) ∧ CK w w' ∧ ∃ f' g', HS H w0 w' (n + 5) cs f' g' h ∧ (rowE f g r = 0 → RowOk w r f f' g g' v w')
set_option maxRecDepth 100000 in
set_option maxHeartbeats 3200000 in
theorem row_any (H : Nat) (w0 w : World) (n : Nat) (p : Option Addr) (vr vk vc : Value) (f : List UInt8 → Option ByteArray) (g : List UInt8 → Option Bool) (h : List UInt8 → Option Int) (r : RowV)
    (hs : HS H w0 w n (chC H p vr vk vc) f g h) (hg : TrueOnly g) (hT : Tabs w) (hc : r.code.size ≤ 1048576) (ht : r.text.size ≤ 1048576) (hn : n ≤ 1000000) :
    Calls Tryz.prog 45 #[.pointer (some ⟨H + 2, 0, none⟩), rowV r] w (RowP H w0 w n (chC H p vr vk vc) f g h r) := by
  have hE : rowE f g r = if wrong13 (plainR r) ≠ 0 then wrong13 (plainR r) else if 18 < (nfd (runesL r.text.data.toList)).length then 11 else if r.flag = 1 then 0 else errD f g r.code.data.toList := rfl
  have hck := fun (W : World) (hT : Tabs W) => check_any r hc ht W hT
  have hpv := plainR_valid r
  generalize wrong13 (plainR r) = X at *
  obtain ⟨code, text, flag⟩ := r
  have hc : code.size ≤ 1048576 := hc
  have ht : text.size ≤ 1048576 := ht
  obtain ⟨W, hW⟩ : ∃ W, w.alloc (.cells #[.string code, .string text, .int .i64 flag] 50) = W := ⟨_, rfl⟩
  have hb : Below w.heap.size w W := hW ▸ (Below.refl _ _).alloc (Nat.le_refl _) _
  have hk : Blk W w.heap.size 50 #[.string code, .string text, .int .i64 flag] := hW ▸ Blk.new _ _ _
  have k0 : W.cell? ⟨w.heap.size, 0, none⟩ = some (.string code) := by rw [hk.cell]; rfl
  have k1 : W.cell? ⟨w.heap.size, 1, none⟩ = some (.string text) := by rw [hk.cell]; rfl
  have k2 : W.cell? ⟨w.heap.size, 2, none⟩ = some (.int .i64 flag) := by rw [hk.cell]; rfl
  have HK := Lib.hid hk
  have HB := Lib.hid hb
  have HS0 := Lib.hid (hs.keep hb)
  have HC := Lib.hid (hck W (hT.keep hb))
  have HE := Lib.hid hE
  have HPV := Lib.hid hpv
  have HG := Lib.hid hg
  unfold RowP
  generalize rowE f g ⟨code, text, flag⟩ = Z at *
  clear hb hk hs hck hE hT hpv hg
  go_enter Tryz.func45, Tryz.ntmps45
  go_wp2_with fail
  refine HC.out.mono ?_
  rintro _ w1 ⟨rfl, hb1⟩
  have hb01 := HB.out.trans (hb1.mono HB.out.size)
  by_cases hX : X = 0
  rotate_left
  · have x1 : (X != 0) = true := by simp [hX]
    have hz : Z = X := by rw [HE.out, if_pos hX]
    subst hz
    have HX := Lib.hid hX
    have HS1 := Lib.hid (HS0.out.keep hb1)
    have HB1 := Lib.hid hb01
    clear hX hb1 hb01
    go_wp2_with fail
    go_returns
    exact ⟨_, rfl, .of_below HB1.out, _, _, HS1.out.mono (by omega), fun h => absurd h HX.out⟩
  subst hX
  obtain ⟨_, _, hz1, hz2, hz3, hz4⟩ := HPV.out rfl
  have hz : Z = if 18 < (nfd (runesL text.data.toList)).length then 11 else if flag = 1 then 0 else errD f g code.data.toList := by rw [HE.out, if_neg (by decide)]
  have hb2 : Below W.heap.size W w1.drew := hb1.drew
  have k0 := (hb2.cell (p := ⟨w.heap.size, 0, none⟩) HK.out.lt).trans k0
  have k1 := (hb2.cell (p := ⟨w.heap.size, 1, none⟩) HK.out.lt).trans k1
  have k2 := (hb2.cell (p := ⟨w.heap.size, 2, none⟩) HK.out.lt).trans k2
  have hs2 := HS0.out.keep hb2
  have t1 : w1.drew.cell? ⟨H + 2, 1, none⟩ = some smallI := by rw [hs2.blk.cell]; rfl
  obtain ⟨cv, w2, hcv, hb3, hta⟩ := conv_text text ht w1.drew
  obtain ⟨Ac, cc, rfl, hrd⟩ := hta.rd
  have hb02 : Below w.heap.size w w2 := (hb01.drew).trans (hb3.mono hb01.size)
  have hs3 := hs2.keep hb3
  have q1 : w2.cell? ⟨H + 2, 1, none⟩ = some smallI := by rw [hs3.blk.cell]; rfl
  have hlt : w.heap.size < w1.drew.heap.size := Nat.lt_of_lt_of_le HK.out.lt hb2.size
  have m0 := (hb3.cell (p := ⟨w.heap.size, 0, none⟩) hlt).trans k0
  have m1 := (hb3.cell (p := ⟨w.heap.size, 1, none⟩) hlt).trans k1
  have m2 := (hb3.cell (p := ⟨w.heap.size, 2, none⟩) hlt).trans k2
  have hlt2 : w.heap.size < w2.heap.size := Nat.lt_of_lt_of_le hlt hb3.size
  have HN := Lib.hid (nfd_any Ac cc (runesL text.data.toList) w2 hrd (by omega))
  have hpos := nfd_pos (runesL text.data.toList) hz3
  have HS3 := Lib.hid hs3
  have HB02 := Lib.hid hb02
  have hz1' : code.size ≤ 4 := hz2
  have x1 : ((0 : Int) != 0) = false := rfl
  clear hz1 hz2 hz3 hz4 hb1 hb2 hs2 hs3 hb3 hta hrd hb02 hb01
  generalize hK : nfd (runesL text.data.toList) = K at *
  generalize hL : runesL text.data.toList = L at *
  have HKE : Hid (nfd (runesL text.data.toList) = K) := Lib.hid (by rw [hL]; exact hK)
  clear hK hL
  have HZ := Lib.hid hz
  clear hz
  go_wp2_with fail
  have hmeth266 : ∀ w, (method 266 69 (.agg #[]) "NFD").run Tryz.prog w = .ok (175, .agg #[]) w := fun _ => rfl
  have hmeth340 : ∀ w, (method 340 69 (.agg #[]) "NFD").run Tryz.prog w = .ok (175, .agg #[]) w := fun _ => rfl
  go_cut [7] (fun s7 wx => ∃ g3 c3, s7 = .slice (some ⟨g3, 0, none⟩) K.length c3 ∧ Below w2.heap.size w2 wx ∧ wx.ownsRow w2.heap.size RuneT 1 (.slice (some ⟨g3, 0, none⟩) K.length c3) K.length (i32s K))
  case first =>
    go_region_law (go_simp; go_at_call 175; refine HN.out.mono ?_; rintro _ w3 ⟨v3, rfl, ho3, hb3⟩; obtain ⟨g3, c3, rfl⟩ := own_pos ho3 hpos)
    all_goals
      go_wp2_with fail
      go_meet
      exact ⟨_, _, rfl, hb3, ho3⟩
  case rest =>
  obtain ⟨g3, c3, rfl, hb3, ho3⟩ := hcut
  have HS4 := Lib.hid (HS3.out.keep hb3)
  have n1 := (hb3.cell (p := ⟨w.heap.size, 1, none⟩) hlt2).trans m1
  have n0 := (hb3.cell (p := ⟨w.heap.size, 0, none⟩) hlt2).trans m0
  have n2 := (hb3.cell (p := ⟨w.heap.size, 2, none⟩) hlt2).trans m2
  have hb03 := HB02.out.trans (hb3.mono HB02.out.size)
  have HB03 := Lib.hid hb03
  have HOW := Lib.hid (own_low (B := w.heap.size) ho3 HB02.out.size)
  clear k0 k1 k2 t1 hcv q1 m0 m1 m2 hlt hlt2 hb3 ho3 hb03
  by_cases h18 : 18 < K.length
  · have x2 : decide ((18 : Int) < (K.length : Int)) = true := decide_eq_true (by omega)
    have hz : Z = 11 := by rw [HZ.out, if_pos h18]
    subst hz
    clear h18
    go_wp2_with fail
    go_returns
    exact ⟨_, rfl, .of_below HB03.out, _, _, HS4.out.mono (by omega), fun h => by cases h⟩
  have x2 : decide ((18 : Int) < (K.length : Int)) = false := decide_eq_false (by omega)
  have hz : Z = if flag = 1 then 0 else errD f g code.data.toList := by rw [HZ.out, if_neg h18]
  by_cases hf : flag = 1
  · have x3 : (flag == 1) = true := by simp [hf]
    replace hz : Z = 0 := by rw [hz, if_pos hf]
    subst hz
    have HF := Lib.hid hf
    clear hf h18
    go_wp2_with fail
    go_returns
    exact ⟨.slice (some ⟨g3, 0, none⟩) K.length c3, rfl, .of_below HB03.out, _, _, HS4.out.mono (by omega), ⟨by { show wc.ownsRow _ RuneT 1 _ (nfd (runesL text.data.toList)).length (i32s (nfd (runesL text.data.toList))); rw [HKE.out]; exact HOW.out }, by rw [if_pos HF.out], by rw [if_pos HF.out]⟩⟩
  have x3 : (flag == 1) = false := by simp [hf]
  replace hz : Z = errD f g code.data.toList := by rw [hz, if_neg hf]
  subst hz
  have HF := Lib.hid hf
  clear hf h18
  have HD := Lib.hid (decodes_any H w0 wc n p vr vk vc f g h ⟨code, text, flag⟩ HS4.out HG.out hz1' ht hn)
  go_wp2_with fail
  refine HD.out.mono ?_
  rintro _ w4 ⟨rfl, hck4, f', g', hs4, hfg⟩
  have HS5 := Lib.hid hs4
  have HFG := Lib.hid hfg
  have HCK4 := Lib.hid hck4
  clear hs4 hfg hck4 n0 n1 n2
  go_wp2_with fail
  go_returns
  exact ⟨.slice (some ⟨g3, 0, none⟩) K.length c3, rfl, (CK.of_below HB03.out).trans HCK4.out, f', g', HS5.out, fun h0 => ⟨by { show w4.ownsRow _ RuneT 1 _ (nfd (runesL text.data.toList)).length (i32s (nfd (runesL text.data.toList))); rw [HKE.out]; exact own_ck HOW.out HCK4.out }, by rw [if_neg HF.out]; exact (HFG.out h0).1, by rw [if_neg HF.out]; exact (HFG.out h0).2⟩⟩
end Go.Proofs.YtkfjmcidcnpijaaGreatDoor.Sg
/- Words for memory: the keys that charset.New has met, each with a row; appended to, and a row replaced. -/
namespace Go.Proofs.YtkfjmcidcnpijaaGreatDoor.Sg
open Go.RowKit Pl Go.Lib Go.Maps Go.WideMaps

abbrev KeyedT : TypeId := 109
theorem infoKeyed : (Tryz.prog.info? KeyedT).map (fun i => (i.zero, i.size, i.bytes)) = some (some (.agg #[.slice none 0 0, .string ⟨#[]⟩, .string ⟨#[]⟩, .int .i64 0]), 4, 64) := by kernel_rfl
/-- A key in memory, its characters, and a row. -/
structure KRow where
  v : Value
  key : List Int
  row : RowV
def kcells (ks : List KRow) : List Value := ks.flatMap fun p => [p.v, .string p.row.code, .string p.row.text, .int .i64 p.row.flag]
theorem kcells_length (ks : List KRow) : (kcells ks).length = ks.length * 4 := by
  unfold kcells
  induction ks with
  | nil => rfl
  | cons a l ih => simp [ih]; omega
theorem kcells_append (a b : List KRow) : kcells (a ++ b) = kcells a ++ kcells b := by simp [kcells]
theorem kcells_at : ∀ (ks : List KRow) (k : Nat) (hk : k < ks.length), (kcells ks)[k * 4]? = some ks[k].v ∧ (kcells ks)[k * 4 + 1]? = some (.string ks[k].row.code) ∧ (kcells ks)[k * 4 + 2]? = some (.string ks[k].row.text) ∧ (kcells ks)[k * 4 + 3]? = some (.int .i64 ks[k].row.flag) := by
  intro ks
  induction ks with
  | nil => intro k hk; simp at hk
  | cons a ps ih =>
    intro k hk
    cases k with
    | zero => exact ⟨rfl, rfl, rfl, rfl⟩
    | succ k =>
      have h := ih k (by simpa using hk)
      have e : kcells (a :: ps) = a.v :: .string a.row.code :: .string a.row.text :: .int .i64 a.row.flag :: kcells ps := rfl
      rw [e, show (k + 1) * 4 = k * 4 + 4 from by omega]
      simpa using h
theorem kcells_set : ∀ (ks : List KRow) (k : Nat) (hk : k < ks.length) (r : RowV), (((kcells ks).set (k * 4 + 1) (.string r.code)).set (k * 4 + 2) (.string r.text)).set (k * 4 + 3) (.int .i64 r.flag) = kcells (ks.set k ⟨ks[k].v, ks[k].key, r⟩) := by
  intro ks
  induction ks with
  | nil => intro k hk; simp at hk
  | cons a ps ih =>
    intro k hk r
    have e : ∀ (b : KRow) (qs : List KRow), kcells (b :: qs) = b.v :: .string b.row.code :: .string b.row.text :: .int .i64 b.row.flag :: kcells qs := fun _ _ => rfl
    cases k with
    | zero => rfl
    | succ k =>
      have h := ih k (by simpa using hk) r
      have hk' : k < ps.length := by simpa using hk
      have h3 : (a :: ps).set (k + 1) ⟨(a :: ps)[k + 1].v, (a :: ps)[k + 1].key, r⟩ = a :: ps.set k ⟨ps[k].v, ps[k].key, r⟩ := rfl
      rw [h3, e, e, ← h, show (k + 1) * 4 = k * 4 + 4 from by omega]
      rfl
theorem own_setS {w : World} {B g i n c sz e : Nat} {xs : List Value} {u : Value} (h : w.ownsRow B e sz (.slice (some ⟨g, 0, none⟩) n c) n xs) : (w.setCell ⟨g, i, none⟩ u).ownsRow B e sz (.slice (some ⟨g, 0, none⟩) n c) n (xs.set i u) := by
  refine ⟨by rw [List.length_set]; exact h.1, ?_⟩
  rcases h.2 with ⟨h1, _⟩ | ⟨g', cap, cur, e1, hg, hh, h2, h3, h4, h5⟩
  · cases h1
  · injection e1 with e2 _ e3
    injection e2 with e2
    injection e2 with e2
    subst e2 e3
    refine .inr ⟨g, c, cur.setIfInBounds i u, rfl, hg, heap_setCell_same w g i cur e u hh, h2, h3, by simpa using h4, ?_⟩
    rw [← h5, Array.toList_setIfInBounds, List.take_set]
theorem own_frozenS {w : World} {B g n c i sz e : Nat} {xs : List Value} (h : w.ownsRow B e sz (.slice (some ⟨g, 0, none⟩) n c) n xs) : w.frozen? ⟨g, i, none⟩ = false := by
  rcases h.2 with ⟨h1, _⟩ | ⟨g', cap, cur, e1, hg, hh, h2, h3, h4, h5⟩
  · cases h1
  · injection e1 with e2 _ e3
    injection e2 with e2
    injection e2 with e2
    subst e2
    exact frozen_of_row w g i cur e hh
theorem own_cellS {w : World} {B g n c i sz e : Nat} {xs : List Value} (h : w.ownsRow B e sz (.slice (some ⟨g, 0, none⟩) n c) n xs) (x : Value) (hx : xs[i]? = some x) : w.cell? ⟨g, i, none⟩ = some x := by
  have h2 := h.cells (g := g) rfl i x hx
  rw [Addr.add_lit, Nat.zero_add] at h2
  exact h2
theorem own_shapeS {w : World} {B n sz : Nat} {e : TypeId} {v : Value} {xs : List Value} (h : w.ownsRow B e sz v n xs) : (v = .slice none 0 0 ∧ n = 0) ∨ ∃ g c, v = .slice (some ⟨g, 0, none⟩) n c := by
  rcases h.2 with h1 | ⟨g, cap, _, e1, _⟩
  · exact .inl h1
  · exact .inr ⟨g, cap, e1⟩
/-- The list of keys. -/
structure KAll (B : Nat) (w : World) (va : Value) (ks : List KRow) : Prop where
  keys : ∀ p ∈ ks, w.ownsRow 0 RuneT 1 p.v p.key.length (i32s p.key)
  own : w.ownsRow B KeyedT 4 va ks.length (kcells ks)
theorem KAll.ck {B : Nat} {w w' : World} {va : Value} {ks : List KRow} (h : KAll B w va ks) (hk : CK w w') : KAll B w' va ks := ⟨fun p hp => own_ck (h.keys p hp) hk, own_ck h.own hk⟩
theorem KAll.keep {B : Nat} {w w' : World} {va : Value} {ks : List KRow} (h : KAll B w va ks) (hb : Below w.heap.size w w') : KAll B w' va ks := h.ck (.of_below hb)
/-- What is low is left. -/
theorem HS.low {H : Nat} {w0 w w' : World} {n : Nat} {cs : Array Value} {f : List UInt8 → Option ByteArray} {g : List UInt8 → Option Bool} {h : List UInt8 → Option Int} (s : HS H w0 w n cs f g h) (hb : Below (H + 4) w w') : HS H w0 w' n cs f g h :=
  ⟨s.blk.below hb (by omega), s.texts.block (hb.block _ (by omega)), s.heads.block (hb.block _ (by omega)), s.at_.block (hb.block _ (by omega)), s.below.trans (hb.mono (by omega)), Nat.le_trans s.size hb.size⟩
section
variable {ops : Array Oper} {rest : List Oper} {oo : Oper} {a : Act} {Q : Exit → Act → World → Prop}
/-- 'all = append(all, keyed{key, r})'. -/
theorem wpList_keyed (w : World) (hgd : oo.guard = none) (s x : Operand) (ho : oo.op = .call { callee := .builtin .append, args := #[s, x], argTypes := #[104, 104] })
    (B : Nat) (v : Value) (ks : List KRow) (hs : a.eval s = v) (hst : KAll B w v ks) (hB : B ≤ w.heap.size) (key : List Int) (g1 n1 c1 : Nat) (r : RowV) (hkey : w.ownsRow 0 RuneT 1 (.slice (some ⟨g1, 0, none⟩) n1 c1) key.length (i32s key))
    (c : Nat) (hx : a.eval x = .slice (some ⟨w.heap.size, 0, none⟩) 1 c) (hsm : ks.length ≤ 1048576)
    (h : ∀ v' w', KAll B w' v' (ks ++ [⟨.slice (some ⟨g1, 0, none⟩) n1 c1, key, r⟩]) → Below B w w' → wpList Tryz.prog ops Q rest (a.put oo.dst v') w') :
    wpList Tryz.prog ops Q (oo :: rest) a (w.alloc (.cells #[.slice (some ⟨g1, 0, none⟩) n1 c1, .string r.code, .string r.text, .int .i64 r.flag] KeyedT)) := by
  obtain ⟨i0, hi, hz0, hz1, hz2⟩ := info_parts infoKeyed
  have hown' := hst.own.alloc (.cells #[.slice (some ⟨g1, 0, none⟩) n1 c1, .string r.code, .string r.text, .int .i64 r.flag] KeyedT)
  have hba : Below w.heap.size w (w.alloc (.cells #[.slice (some ⟨g1, 0, none⟩) n1 c1, .string r.code, .string r.text, .int .i64 r.flag] KeyedT)) := (Below.refl _ _).alloc (Nat.le_refl _) _
  refine wpList_append_own _ hgd s x 104 ho B KeyedT i0 (.agg #[.slice none 0 0, .string ⟨#[]⟩, .string ⟨#[]⟩, .int .i64 0]) 4 64 Tryz.underlying104 hi hz0 hz1 hz2 rfl (by decide) v ks.length (kcells ks) hs hown' ⟨w.heap.size, 0, none⟩ 1 c [.slice (some ⟨g1, 0, none⟩) n1 c1, .string r.code, .string r.text, .int .i64 r.flag] hx rfl ?_ ?_ ?_ ?_ ?_ ?_
  · intro j u hj
    match j, hj with
    | 0, hj => simp at hj; subst hj; simp [Addr.add]
    | 1, hj => simp at hj; subst hj; simp [Addr.add]
    | 2, hj => simp at hj; subst hj; simp [Addr.add]
    | 3, hj => simp at hj; subst hj; simp [Addr.add]
  · intro u hu; simp at hu; rcases hu with rfl | rfl | rfl | rfl <;> rfl
  · unfold maxLen; omega
  · omega
  · simp; omega
  · intro v' w1 hown1 hgrow _
    have hN : NoRow (w.alloc (.cells #[.slice (some ⟨g1, 0, none⟩) n1 c1, .string r.code, .string r.text, .int .i64 r.flag] KeyedT)) v.ownBlock RuneT := noRow_own hown' (by decide)
    refine h v' w1 ⟨?_, ?_⟩ ?_
    · intro p hp
      rcases List.mem_append.1 hp with hp | hp
      · exact own_turn (own_below (hst.keys p hp) hba) hgrow hN
      · obtain rfl : p = ⟨.slice (some ⟨g1, 0, none⟩) n1 c1, key, r⟩ := by simpa using hp
        exact own_turn (own_below hkey hba) hgrow hN
    · rw [kcells_append, List.length_append]; exact hown1
    · exact ((Below.refl B w).alloc hB _).grown hgrow (by simp; omega) (fun k hk => (hst.own.lt k hk).1)
end
/-- 'all[i].best = r'. -/
theorem KAll.put {B g c i : Nat} {w : World} {ks : List KRow} (h : KAll B w (.slice (some ⟨g, 0, none⟩) ks.length c) ks) (hi : i < ks.length) (r : RowV) :
    KAll B (((w.setCell ⟨g, i * 4 + 1, none⟩ (.string r.code)).setCell ⟨g, i * 4 + 2, none⟩ (.string r.text)).setCell ⟨g, i * 4 + 3, none⟩ (.int .i64 r.flag)) (.slice (some ⟨g, 0, none⟩) (ks.set i ⟨ks[i].v, ks[i].key, r⟩).length c) (ks.set i ⟨ks[i].v, ks[i].key, r⟩) := by
  have hN : ∀ w' : World, w'.ownsRow B KeyedT 4 (.slice (some ⟨g, 0, none⟩) ks.length c) ks.length (kcells ks) ∨ True → True := fun _ _ => trivial
  have step : ∀ (w : World) (xs : List Value) (j : Nat) (u : Value), (w.ownsRow B KeyedT 4 (.slice (some ⟨g, 0, none⟩) ks.length c) ks.length xs ∧ ∀ p ∈ ks, w.ownsRow 0 RuneT 1 p.v p.key.length (i32s p.key)) →
      ((w.setCell ⟨g, j, none⟩ u).ownsRow B KeyedT 4 (.slice (some ⟨g, 0, none⟩) ks.length c) ks.length (xs.set j u) ∧ ∀ p ∈ ks, (w.setCell ⟨g, j, none⟩ u).ownsRow 0 RuneT 1 p.v p.key.length (i32s p.key)) := by
    intro w xs j u ⟨h1, h2⟩
    refine ⟨own_setS h1, fun p hp => own_turn (h2 p hp) (grown_set w ⟨g, j, none⟩ u) ?_⟩
    exact noRow_own (v := .slice (some ⟨g, 0, none⟩) ks.length c) h1 (by decide)
  have h3 := step _ _ (i * 4 + 3) (.int .i64 r.flag) (step _ _ (i * 4 + 2) (.string r.text) (step _ _ (i * 4 + 1) (.string r.code) ⟨h.own, h.keys⟩))
  refine ⟨?_, ?_⟩
  · intro p hp
    rcases List.mem_or_eq_of_mem_set hp with hp | rfl
    · exact h3.2 p hp
    · exact h3.2 ks[i] (List.getElem_mem hi)
  · rw [List.length_set, ← kcells_set ks i hi r]; exact h3.1
/-- What is known of the keys. -/
structure KOk (h : List UInt8 → Option Int) (ks : List KRow) : Prop where
  idx : ∀ t i, h t = some i → 0 ≤ i ∧ i < ks.length
  has : ∀ p ∈ ks, (h (runesBytes p.key).data.toList).isSome = true
  good : ∀ p ∈ ks, goodKey p.key ∧ 0 < p.row.code.size ∧ p.row.code.size ≤ 4
  nodup : (ks.map (·.key)).Nodup
theorem KOk.nil : KOk (fun _ => none) [] := ⟨(fun t i h => by cases h), fun p hp => by simp at hp, fun p hp => by simp at hp, List.nodup_nil⟩
theorem KOk.snoc {h : List UInt8 → Option Int} {ks : List KRow} (s : KOk h ks) (p : KRow) (hp : goodKey p.key) (hc : 0 < p.row.code.size ∧ p.row.code.size ≤ 4) (hn : (h (runesBytes p.key).data.toList).isSome = false) :
    KOk (fun t => if t = (runesBytes p.key).data.toList then some (ks.length : Int) else h t) (ks ++ [p]) := by
  refine ⟨?_, ?_, ?_, ?_⟩
  · intro t i hi
    rw [List.length_append]
    by_cases ht : t = (runesBytes p.key).data.toList
    · rw [if_pos ht] at hi
      injection hi with hi
      simp only [List.length_cons, List.length_nil]
      omega
    · rw [if_neg ht] at hi
      have := s.idx t i hi
      simp only [List.length_cons, List.length_nil]
      omega
  · intro q hq
    by_cases ht : (runesBytes q.key).data.toList = (runesBytes p.key).data.toList
    · rw [if_pos ht]; rfl
    · rw [if_neg ht]
      rcases List.mem_append.1 hq with hq | hq
      · exact s.has q hq
      · obtain rfl : q = p := by simpa using hq
        exact absurd rfl ht
  · intro q hq
    rcases List.mem_append.1 hq with hq | hq
    · exact s.good q hq
    · obtain rfl : q = p := by simpa using hq
      exact ⟨hp, hc⟩
  · rw [List.map_append, List.nodup_append]
    refine ⟨s.nodup, by simp, ?_⟩
    intro a ha b hb he
    simp at hb
    subst hb he
    obtain ⟨q, hq, he⟩ := List.mem_map.1 ha
    have := s.has q hq
    rw [he, hn] at this
    cases this
theorem KOk.put {h : List UInt8 → Option Int} {ks : List KRow} (s : KOk h ks) (i : Nat) (hi : i < ks.length) (r : RowV) (hr : 0 < r.code.size ∧ r.code.size ≤ 4) : KOk h (ks.set i ⟨ks[i].v, ks[i].key, r⟩) := by
  have hk : (ks.set i ⟨ks[i].v, ks[i].key, r⟩).map (·.key) = ks.map (·.key) := by
    rw [List.map_set]
    have : (ks.map (·.key))[i]'(by simpa using hi) = ks[i].key := by simp
    show (ks.map (·.key)).set i ks[i].key = _
    rw [← this, List.set_getElem_self]
  refine ⟨fun t j hj => by rw [List.length_set]; exact s.idx t j hj, ?_, ?_, by rw [hk]; exact s.nodup⟩
  · intro p hp
    rcases List.mem_or_eq_of_mem_set hp with hp | rfl
    · exact s.has p hp
    · exact s.has ks[i] (List.getElem_mem hi)
  · intro p hp
    rcases List.mem_or_eq_of_mem_set hp with hp | rfl
    · exact s.good p hp
    · exact ⟨(s.good ks[i] (List.getElem_mem hi)).1, hr⟩
/-- What row answers is what the reference says. -/
theorem rowE_eq (pre : List RowV) (r : RowV) (hp : ∀ q ∈ pre, wrong13 (plainR q) = 0) : rowE (textsF pre) (headsF pre) r = rowErr (pre.map plainR) (plainR r) := by
  unfold rowE
  by_cases h : wrong13 (plainR r) = 0
  · rw [if_neg (by simpa using h), rowErr_eq pre r hp h]
  · rw [if_pos h]
    have h1 : rowErr1 (plainR r) = wrong13 (plainR r) := by unfold rowErr1; rw [if_neg (fun h2 => h h2.1)]
    unfold rowErr
    rw [h1, if_pos h]
theorem rowE_zero {f : List UInt8 → Option ByteArray} {g : List UInt8 → Option Bool} {r : RowV} (h : rowE f g r = 0) : wrong13 (plainR r) = 0 ∧ (nfd (runesL r.text.data.toList)).length ≤ 18 ∧ (r.flag ≠ 1 → (f r.code.data.toList).isSome = false) := by
  unfold rowE at h
  by_cases h1 : wrong13 (plainR r) = 0
  · rw [if_neg (fun h2 => h2 h1)] at h
    by_cases h2 : 18 < (nfd (runesL r.text.data.toList)).length
    · rw [if_pos h2] at h; cases h
    · rw [if_neg h2] at h
      refine ⟨h1, by omega, fun hf => ?_⟩
      rw [if_neg hf] at h
      unfold errD at h
      cases hs : (f r.code.data.toList).isSome
      · rfl
      · rw [hs, if_pos rfl] at h; cases h
  · rw [if_pos h1] at h
    exact absurd h h1
theorem took_texts (pre : List RowV) (r : RowV) (h : rowE (textsF pre) (headsF pre) r = 0) : (if r.flag = 1 then textsF pre else fun t => if t = r.code.data.toList then some r.text else textsF pre t) = textsF (pre ++ [r]) := by
  by_cases hf : r.flag = 1
  · rw [if_pos hf, textsF_skip pre r hf]
  · rw [if_neg hf]; exact textsF_snoc pre r hf ((rowE_zero h).2.2 hf)
theorem took_heads (pre : List RowV) (r : RowV) : (if r.flag = 1 then headsF pre else headsK r.code.data.toList r.code.data.toList.length (headsF pre)) = headsF (pre ++ [r]) := by
  by_cases hf : r.flag = 1
  · rw [if_pos hf, headsF_skip pre r hf]
  · rw [if_neg hf]; exact headsF_snoc pre r hf
theorem wlen_le (r : Nat) : wlen r ≤ 4 := by
  unfold wlen
  split
  · decide
  split
  · decide
  split
  · decide
  · decide
theorem textB_le : ∀ (l : List Int), scal l → (textB l).length ≤ 4 * l.length := by
  intro l
  induction l with
  | nil => intro _; simp [textB]
  | cons a l ih =>
    intro h
    have h1 := h a (by simp)
    have ih := ih (fun x hx => h x (by simp [hx]))
    have h2 : (encodeRune a).length ≤ 4 := by
      obtain ⟨n, rfl⟩ : ∃ n : Nat, a = n := ⟨a.toNat, by omega⟩
      rw [encZ_len n (by omega)]; exact wlen_le n
    have e : textB (a :: l) = encodeRune a ++ textB l := by simp [textB]
    rw [e, List.length_append, List.length_cons]
    omega
theorem runesBytes_le (l : List Int) (h : scal l) : (runesBytes l).size ≤ 4 * l.length := by
  have h1 := textB_le l h
  rw [← runesBytes_eq l h, Array.length_toList] at h1
  exact h1
theorem headsF_true (pre : List RowV) : TrueOnly (headsF pre) := by
  intro t
  unfold headsF
  cases pre.any (hasHead t)
  · exact .inl rfl
  · exact .inr rfl
end Go.Proofs.YtkfjmcidcnpijaaGreatDoor.Sg
