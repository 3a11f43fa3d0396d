/- Walks: (*charset.Charset).Text, slices.IndexFunc with single.New's test. -/
import Derived.Test.YtkfjmcidcnpijaaGreatDoorG28
namespace Go.Proofs.YtkfjmcidcnpijaaGreatDoor.Sg
open Go.RowKit Pl Go.Lib Go.Maps Go.WideMaps

theorem ChAt.keep {w w' : World} {b : Nat} {l : List RowV} (h : ChAt w b l) (hb : Below w.heap.size w w') : ChAt w' b l := by
  obtain ⟨hv, cs, k, n, h1, h2, h3⟩ := h
  exact ⟨hv, cs, k, n, Blk.ck h1 (.of_below hb), h2, h3.below hb⟩
set_option maxRecDepth 100000 in
set_option maxHeartbeats 1600000 in
theorem ctext_any (b : Nat) (l : List RowV) (code : ByteArray) (w : World) (hc : ChAt w b l) (hs : code.size ≤ maxLen) :
    Calls Tryz.prog 33 #[.pointer (some ⟨b, 0, none⟩), .string code] w fun e w' => (∃ k : Int, e = .returned (.tuple #[.string ((textsF l code.data.toList).getD ⟨#[]⟩), .int .i64 k])) ∧ w = w' := by
  obtain ⟨_, cs, k, n, h1, h2, h3⟩ := hc
  have c3 : w.cell? ⟨b, 3, none⟩ = some (.map (some k)) := by rw [h1.cell]; exact h2
  have hlk := h3.lookOk 97 Tryz.underlying97 code hs
  have hlk : (Instr.lookup 97 (.map (some k)) (.string code) true).run Tryz.prog w = .ok (.tuple #[.string ((textsF l code.data.toList).getD ⟨#[]⟩), .bool (textsF l code.data.toList).isSome]) w := hlk
  have hq : ∀ w, (binOp .eql 53 (.pointer (some ⟨b, 0, none⟩)) (.pointer none)).run Tryz.prog w = .ok (.bool false) w := fun _ => rfl
  clear h1 h2 h3
  generalize textsF l code.data.toList = X at *
  cases X with
  | none =>
    have hlk : (Instr.lookup 97 (.map (some k)) (.string code) true).run Tryz.prog w = .ok (.tuple #[.string ⟨#[]⟩, .bool false]) w := hlk
    go_enter Tryz.func33, Tryz.ntmps33
    go_wp2_with fail
    go_returns
    exact ⟨⟨_, rfl⟩, rfl⟩
  | some t =>
    have hlk : (Instr.lookup 97 (.map (some k)) (.string code) true).run Tryz.prog w = .ok (.tuple #[.string t, .bool true]) w := hlk
    go_enter Tryz.func33, Tryz.ntmps33
    go_wp2_with fail
    go_returns
    exact ⟨⟨_, rfl⟩, rfl⟩
set_option maxRecDepth 100000 in
theorem notone_any (r : RowV) (hr : r.code.size ≤ maxLen) (w : World) :
    Calls Tryz.prog 32 #[rowV r] w fun e w' => e = .returned (.bool (decide (r.code.size ≠ 1))) ∧ Below w.heap.size w w' := by
  obtain ⟨code, text, flag⟩ := r
  unfold maxLen at hr
  have hr : code.size ≤ 2 ^ 63 - 1 := hr
  obtain ⟨W, hW⟩ : ∃ W, w.alloc (.cells #[.string code, .string text, .int .i64 flag] 50) = W := ⟨_, rfl⟩
  have hb : Below w.heap.size w W := hW ▸ (Below.refl _ _).alloc (Nat.le_refl _) _
  have hk : Blk W w.heap.size 50 #[.string code, .string text, .int .i64 flag] := hW ▸ Blk.new _ _ _
  have k0 : W.cell? ⟨w.heap.size, 0, none⟩ = some (.string code) := by rw [hk.cell]; rfl
  have HB := Lib.hid hb
  clear hb hk
  go_enter Tryz.func32, Tryz.ntmps32
  by_cases h : code.size = 1
  · have e1 : ((code.size : Int) != 1) = false := by simp [h]
    have e2 : decide (code.size ≠ 1) = false := by simp [h]
    show Code.wp _ _ _ _ _
    go_wp2_with fail
    go_returns
    exact ⟨rfl, HB.out⟩
  · have e1 : ((code.size : Int) != 1) = true := by simp; omega
    have e2 : decide (code.size ≠ 1) = true := by simp [h]
    go_wp2_with fail
    go_returns
    exact ⟨rfl, HB.out⟩
/-- The first row whose code is not a single byte. -/
def idxGo : Nat → List RowV → Int
  | _, [] => -1
  | i, r :: t => if r.code.size ≠ 1 then (i : Int) else idxGo (i + 1) t
theorem idxGo_at (l : List RowV) (i : Nat) (hi : i < l.length) : idxGo i (l.drop i) = if l[i].code.size ≠ 1 then (i : Int) else idxGo (i + 1) (l.drop (i + 1)) := by
  rw [List.drop_eq_getElem_cons hi]
  rfl
set_option maxRecDepth 100000 in
set_option maxHeartbeats 1600000 in
theorem indexF_any (A : Option Addr) (c : Nat) (l : List RowV) (w : World) (hR : RowsAt w A l) (hn : l.length ≤ 1000000) (hS : ∀ r ∈ l, r.code.size ≤ maxLen) :
    Calls Tryz.prog 31 #[.slice A l.length c, .func (.func 32) #[] #[]] w fun e w' => e = .returned (.int .i64 (idxGo 0 l)) ∧ Below w.heap.size w w' := by
  obtain ⟨Z, hZ⟩ : ∃ Z, idxGo 0 l = Z := ⟨_, rfl⟩
  rw [hZ]
  have HR := Lib.hid hR
  have HS := Lib.hid hS
  have HZ := Lib.hid hZ
  clear hR hS hZ
  go_enter Tryz.func31, Tryz.ntmps31
  go_wp2_with fail
  go_loopw [8] (fun vi wr => ∃ i : Nat, i ≤ l.length ∧ vi = .int .i64 i ∧ Below w.heap.size w wr ∧ idxGo i (l.drop i) = Z) (fun vi _ => l.length - (RowKit.intOf vi).toNat)
  case atStart => exact ⟨0, Nat.zero_le _, rfl, Below.refl _ _, HZ.out⟩
  case round =>
    obtain ⟨i, hi, rfl, hb, hz⟩ := hrel
    by_cases hlt : i < l.length
    · obtain ⟨bk, o, rfl, hbk, q0, q1, q2⟩ := (HR.out.keep hb).at_ hlt
      have hsz := HS.out l[i] (List.getElem_mem hlt)
      rw [idxGo_at l i hlt] at hz
      have HN := Lib.hid (notone_any l[i] hsz wr)
      generalize l[i] = r at *
      have HB := Lib.hid hb
      have j1 : (i : Int) < (l.length : Int) := by omega
      have j2 : (0 : Int) ≤ (i : Int) := by omega
      have HZ2 := Lib.hid hz
      clear hb hz hbk hsz
      by_cases h1 : r.code.size = 1
      · have h2 : decide (r.code.size ≠ 1) = false := by simp [h1]
        rw [h2] at HN
        have hz : idxGo (i + 1) (l.drop (i + 1)) = Z := by rw [← HZ2.out, if_neg (by simp [h1])]
        have HZ3 := Lib.hid hz
        clear h1 h2 hz
        go_wp2_with fail
        refine HN.out.mono ?_
        rintro _ w1 ⟨rfl, hb1⟩
        have HB1 := Lib.hid (HB.out.trans (hb1.mono HB.out.size))
        clear hb1 q0 q1 q2
        go_wp2_with fail
        go_roundw
        case rel => exact ⟨i + 1, by omega, by go_num, HB1.out, HZ3.out⟩
        case measure => simp [RowKit.intOf]; omega
      · have h2 : decide (r.code.size ≠ 1) = true := by simp [h1]
        rw [h2] at HN
        have hz : Z = (i : Int) := by rw [← HZ2.out, if_pos h1]
        subst hz
        clear h1 h2 HZ2
        go_wp2_with fail
        refine HN.out.mono ?_
        rintro _ w1 ⟨rfl, hb1⟩
        have HB1 := Lib.hid (HB.out.trans (hb1.mono HB.out.size))
        clear hb1 q0 q1 q2
        go_wp2_with fail
        go_returns
        exact ⟨rfl, HB1.out⟩
    · obtain rfl : i = l.length := by omega
      have hz : Z = -1 := by rw [← hz, List.drop_eq_nil_of_le (Nat.le_refl _)]; rfl
      subst hz
      have HB := Lib.hid hb
      clear hb hz
      have jj : decide ((l.length : Int) < (l.length : Int)) = false := decide_eq_false (by omega)
      go_wp2_with fail
      go_returns
      exact ⟨rfl, HB.out⟩
/-- What IndexFunc finds, and what the reference says. -/
theorem idx_one : ∀ (l : List RowV) (i : Nat), (∀ q ∈ l, wrong13 (plainR q) = 0) → oneGo i (l.map plainR) = if 0 ≤ idxGo i l then (idxGo i l + 1, 16) else (0, 0) := by
  intro l
  induction l with
  | nil => intro i _; rfl
  | cons r t ih =>
    intro i h
    obtain ⟨_, e, _⟩ := plainR_valid r (h r (by simp))
    rw [List.map_cons]
    show (if (plainR r).code.size ≠ 1 then ((i : Int) + 1, (16 : Int)) else oneGo (i + 1) (t.map plainR)) = if 0 ≤ (if r.code.size ≠ 1 then (i : Int) else idxGo (i + 1) t) then ((if r.code.size ≠ 1 then (i : Int) else idxGo (i + 1) t) + 1, 16) else (0, 0)
    rw [e]
    show (if r.code.size ≠ 1 then ((i : Int) + 1, (16 : Int)) else oneGo (i + 1) (t.map plainR)) = _
    by_cases hs : r.code.size = 1
    · have hneg : ¬ (r.code.size ≠ 1) := fun h => h hs
      simp only [if_neg hneg]
      exact ih (i + 1) (fun q hq => h q (by simp [hq]))
    · have hpos : r.code.size ≠ 1 := hs
      simp only [if_pos hpos]
      rw [if_pos (by omega)]
theorem idxGo_range : ∀ (l : List RowV) (i : Nat), idxGo i l = -1 ∨ (0 ≤ idxGo i l ∧ idxGo i l < (i : Int) + l.length) := by
  intro l
  induction l with
  | nil => intro i; exact .inl rfl
  | cons r t ih =>
    intro i
    unfold idxGo
    by_cases hs : r.code.size ≠ 1
    · rw [if_pos hs]; right; rw [List.length_cons]; omega
    · rw [if_neg hs]
      rcases ih (i + 1) with h | h
      · exact .inl h
      · right; rw [List.length_cons]; omega
end Go.Proofs.YtkfjmcidcnpijaaGreatDoor.Sg
