/- Joined of: F1, F2, J1. -/
import Derived.Test.YtkfjmcidcnpijaaGreatDoorRD
import Derived.Test.YtkfjmcidcnpijaaGreatDoorPA
import Derived.Laws.AppendOwnNone
/- Walks: the law's long, head, alike. -/
namespace Go.Proofs.YtkfjmcidcnpijaaGreatDoor.Mf
open Go.RowKit Pl

def longGo : Nat → List UInt8 → Bool
  | _, [] => false
  | n, c :: t => if 500 < (if c = 10 then 0 else n + 1) then true else longGo (if c = 10 then 0 else n + 1) t
theorem longGo_rec (n : Nat) (c : UInt8) (t : List UInt8) : longGo n (c :: t) = if 500 < (if c = 10 then 0 else n + 1) then true else longGo (if c = 10 then 0 else n + 1) t := rfl
theorem long_cut : ∀ (s : List UInt8) (n : Nat), n ≤ 500 → longGo n s = false → ∃ l r, cutL s = l :: r ∧ n + l.length ≤ 500 ∧ ∀ x ∈ r, x.length ≤ 500 := by
  intro s
  induction s with
  | nil => intro n hn _; exact ⟨[], [], rfl, by simpa using hn, by simp⟩
  | cons c t ih =>
    intro n hn h
    rw [longGo_rec] at h
    rw [cutL_rec]
    by_cases hc : c = 10
    · rw [if_pos hc] at h ⊢
      rw [if_neg (by omega)] at h
      obtain ⟨l, r, e, h1, h2⟩ := ih 0 (by omega) h
      refine ⟨[], cutL t, rfl, by simpa using hn, fun x hx => ?_⟩
      rw [e] at hx
      rcases List.mem_cons.1 hx with rfl | hx
      · omega
      · exact h2 x hx
    · rw [if_neg hc] at h ⊢
      by_cases h5 : 500 < n + 1
      · rw [if_pos h5] at h; cases h
      · rw [if_neg h5] at h
        obtain ⟨l, r, e, h1, h2⟩ := ih (n + 1) (by omega) h
        rw [e]
        exact ⟨c :: l, r, rfl, by rw [List.length_cons]; omega, h2⟩
theorem long_all (s : List UInt8) (h : longGo 0 s = false) : ∀ l ∈ cutL s, l.length ≤ 500 := by
  obtain ⟨l, r, e, h1, h2⟩ := long_cut s 0 (by omega) h
  intro x hx
  rw [e] at hx
  rcases List.mem_cons.1 hx with rfl | hx
  · omega
  · exact h2 x hx
theorem lines_cut (s : List UInt8) : cutL s = linesOf s ∨ cutL s = linesOf s ++ [[]] := by
  induction s with
  | nil => right; rfl
  | cons c t ih =>
    rw [linesOf_rec, cutL_rec]
    by_cases hc : c = 10
    · rw [if_pos hc, if_pos hc]
      rcases ih with h | h
      · left; rw [h]
      · right; rw [h]; rfl
    · rw [if_neg hc, if_neg hc]
      by_cases h0 : linesOf t = []
      · left
        have ht : t = [] := by
          by_cases hn : t = []
          · exact hn
          · rw [linesOf_cons t hn] at h0; cases h0
        subst ht
        rfl
      · rcases ih with h | h
        · left; rw [h]
        · right; rw [h, consL_append _ _ _ h0]
theorem lines_long (s : List UInt8) (h : ∀ l ∈ cutL s, l.length ≤ 500) : ∀ l ∈ linesOf s, l.length ≤ 500 := by
  intro l hl
  rcases lines_cut s with e | e
  · exact h l (by rw [e]; exact hl)
  · exact h l (by rw [e]; exact List.mem_append_left _ hl)































































































































/-- Rows that a slice reads as. -/
def RdR (w : World) (A : Option Addr) (l : List LRow) : Prop := 0 < l.length → ∃ g o, A = some ⟨g, o, none⟩ ∧ g < w.heap.size ∧ ∀ k (hk : k < l.length),
  w.cell? ⟨g, o + k * 3, none⟩ = some (.string ⟨l[k].code.toArray⟩) ∧ w.cell? ⟨g, o + k * 3 + 1, none⟩ = some (.string ⟨(textB l[k].text).toArray⟩) ∧ w.cell? ⟨g, o + k * 3 + 2, none⟩ = some (.int .i64 l[k].flag)
theorem RdR.keep {w w' : World} {A : Option Addr} {l : List LRow} (h : RdR w A l) (hb : Below w.heap.size w w') : RdR w' A l := fun h0 => by
  obtain ⟨g, o, e, hg, hc⟩ := h h0
  refine ⟨g, o, e, Nat.lt_of_lt_of_le hg hb.size, fun k hk => ?_⟩
  obtain ⟨c0, c1, c2⟩ := hc k hk
  exact ⟨(hb.cell (p := ⟨g, o + k * 3, none⟩) hg).trans c0, (hb.cell (p := ⟨g, o + k * 3 + 1, none⟩) hg).trans c1, (hb.cell (p := ⟨g, o + k * 3 + 2, none⟩) hg).trans c2⟩
theorem rowcells_at (l : List LRow) : ∀ k (hk : k < l.length), (rowcells l)[k * 3]? = some (.string ⟨l[k].code.toArray⟩) ∧ (rowcells l)[k * 3 + 1]? = some (.string ⟨(textB l[k].text).toArray⟩) ∧ (rowcells l)[k * 3 + 2]? = some (.int .i64 l[k].flag) := by
  induction l with
  | nil => intro k hk; cases hk
  | cons a l ih =>
    intro k hk
    have e : rowcells (a :: l) = [.string ⟨a.code.toArray⟩, .string ⟨(textB a.text).toArray⟩, .int .i64 a.flag] ++ rowcells l := rfl
    rw [e]
    cases k with
    | zero => exact ⟨rfl, rfl, rfl⟩
    | succ k =>
      obtain ⟨h1, h2, h3⟩ := ih k (by simpa using hk)
      have e1 : (k + 1) * 3 = k * 3 + 3 := by omega
      rw [e1]
      refine ⟨?_, ?_, ?_⟩
      · rw [List.getElem?_append_right (by simp)]; simpa using h1
      · rw [List.getElem?_append_right (by simp)]; simpa using h2
      · rw [List.getElem?_append_right (by simp)]; simpa using h3
theorem Rows.rd {B : Nat} {w : World} {v : Value} {l : List LRow} (h : Rows B w v l) : ∃ A c, v = .slice A l.length c ∧ RdR w A l ∧ l.length ≤ c := by
  by_cases hl : 0 < l.length
  · obtain ⟨g, c, e, hg, hc⟩ := h.cells hl
    refine ⟨_, c, e, fun _ => ⟨g, 0, rfl, hg, fun k hk => ?_⟩, ?_⟩
    · obtain ⟨h1, h2, h3⟩ := rowcells_at l k hk
      rw [Nat.zero_add]
      exact ⟨hc _ _ h1, hc _ _ h2, hc _ _ h3⟩
    · rcases (show World.ownsRow w B RowT 3 v l.length (rowcells l) from h).2 with ⟨_, h0⟩ | ⟨g', cap, cur, e2, _, _, h3, _⟩
      · omega
      · rw [e] at e2; injection e2 with _ _ e3; omega
  · obtain ⟨A, c, e⟩ := own_shapeN (show World.ownsRow w B RowT 3 v l.length (rowcells l) from h)
    exact ⟨A, c, e, fun h => absurd h hl, by omega⟩
theorem RdR.pre {w : World} {A : Option Addr} {l u : List LRow} (h : RdR w A (l ++ u)) : RdR w A l := fun h0 => by
  obtain ⟨g, o, e, hg, hc⟩ := h (by rw [List.length_append]; omega)
  refine ⟨g, o, e, hg, fun k hk => ?_⟩
  have h1 := hc k (by rw [List.length_append]; omega)
  rw [List.getElem_append_left hk] at h1
  exact h1





































end Go.Proofs.YtkfjmcidcnpijaaGreatDoor.Mf
/- Walk: the law MapfileFirst. -/
namespace Go.Proofs.YtkfjmcidcnpijaaGreatDoor.Mf
open Go.RowKit Pl

theorem readGo_len (F : List UInt8 → One) : ∀ (b : List (List UInt8)) (i : Nat) (out : List LRow), (readGo F i out b).1.length ≤ out.length + b.length ∧ (readGo F i out b).2.1 ≤ i + b.length := by
  intro b
  induction b with
  | nil => intro i out; exact ⟨Nat.le_refl _, by show (0 : Int) ≤ _; simp⟩
  | cons s t ih =>
    intro i out
    rw [readGo_cons]
    cases F (clean s) with
    | none =>
      obtain ⟨h1, h2⟩ := ih (i + 1) out
      simp only [List.length_cons]
      exact ⟨by omega, by omega⟩
    | err e => exact ⟨Nat.zero_le _, by show (i : Int) + 1 ≤ _; simp only [List.length_cons]; omega⟩
    | row x =>
      obtain ⟨h1, h2⟩ := ih (i + 1) (out ++ [x])
      simp only [List.length_cons, List.length_append, List.length_nil] at h1 h2 ⊢
      exact ⟨by omega, by omega⟩
theorem readL_len (F : List UInt8 → One) (s : List UInt8) : (readL F s).1.length ≤ s.length ∧ (readL F s).2.1 ≤ s.length := by
  unfold readL
  split
  · obtain ⟨h1, h2⟩ := readGo_len F (linesOf s) 0 []
    have := lines_len s
    simp at h1 h2
    exact ⟨by omega, by omega⟩
  · exact ⟨Nat.zero_le _, by show (0 : Int) ≤ _; omega⟩
theorem oneC_ok : ∀ s, oneC s ≠ .err 0 := oneC_ne


















































































































































end Go.Proofs.YtkfjmcidcnpijaaGreatDoor.Mf
/- Walk: the law MapfileJoins. -/
namespace Go.Proofs.YtkfjmcidcnpijaaGreatDoor.Mf
open Go.RowKit Pl

theorem RdR.cells {w : World} {A : Option Addr} {l : List LRow} (h : RdR w A l) (h0 : 0 < l.length) : ∃ g o, A = some ⟨g, o, none⟩ ∧ ∀ j u, (rowcells l)[j]? = some u → w.cell? ((⟨g, o, none⟩ : Addr).add j) = some u := by
  obtain ⟨g, o, e, _, hc⟩ := h h0
  refine ⟨g, o, e, fun j u hj => ?_⟩
  have hlt : j < l.length * 3 := by rw [← rowcells_length]; exact (List.getElem?_eq_some_iff.1 hj).1
  have hk : j / 3 < l.length := by omega
  obtain ⟨c0, c1, c2⟩ := hc (j / 3) hk
  obtain ⟨r0, r1, r2⟩ := rowcells_at l (j / 3) hk
  rw [Addr.add_lit]
  have hm : j % 3 = 0 ∨ j % 3 = 1 ∨ j % 3 = 2 := by omega
  rcases hm with hm | hm | hm
  · have e1 : j = j / 3 * 3 := by omega
    rw [← e1] at c0 r0
    rw [c0, ← r0, hj]
  · have e1 : j = j / 3 * 3 + 1 := by omega
    rw [← e1] at r1
    rw [Nat.add_assoc, ← e1] at c1
    rw [c1, ← r1, hj]
  · have e1 : j = j / 3 * 3 + 2 := by omega
    rw [← e1] at r2
    rw [Nat.add_assoc, ← e1] at c2
    rw [c2, ← r2, hj]
theorem readL_nn {F : List UInt8 → One} (hF : ∀ s, F s ≠ .err 0) (s : List UInt8) : 0 ≤ (readL F s).2.1 := by
  unfold readL
  split
  · have h := readGo_facts hF (linesOf s) 0 []
    by_cases h0 : (readGo F 0 [] (linesOf s)).2.2 = 0
    · rw [h.1 h0]; decide
    · have := (h.2 h0).2.1; omega
  · show (0 : Int) ≤ 0; decide
/-- What a reading answers, its rows as they lie. -/
def ReadAt (w : World) (l : List LRow) (i e : Int) (x : Ending) (w' : World) : Prop := ∃ A c, x = .returned (.tuple #[.slice A l.length c, .int .i64 i, .int .i64 e]) ∧ RdR w' A l ∧ (l = [] → A = none → c = 0) ∧ Below w.heap.size w w'
theorem readAt_of {F : List UInt8 → One} {w w' : World} {s : List UInt8} {l : List LRow} {i e : Int} {x : Ending} (h : readL F s = (l, i, e)) (hr : ReadP F w s x w') : ReadAt w l i e x w' := by
  obtain ⟨v, e1, hrows, hb⟩ := hr
  rw [h] at e1 hrows
  obtain ⟨A, c, e2, hrd, hcap⟩ := hrows.rd
  have hrows2 : Rows w.heap.size w' v l := hrows
  refine ⟨A, c, by rw [e1, e2], hrd, fun h0 hA => ?_, hb⟩
  rcases hrows2.2 with ⟨h1, _⟩ | ⟨g', cap, cur, e3, _⟩
  · rw [e2] at h1
    injection h1
  · rw [e2] at e3
    injection e3 with e4
    rw [hA] at e4
    cases e4
section
variable {ops : Array Oper} {rest : List Oper} {oo : Oper} {a : Act} {Q : Exit → Act → World → Prop}
set_option maxRecDepth 100000 in
/-- 'all = append(all, a...)'. -/
theorem wpList_rows (w : World) (hgd : oo.guard = none) (s x : Operand) (ho : oo.op = .call { callee := .builtin .append, args := #[s, x], argTypes := #[39, 39] })
    (B : Nat) (v : Value) (l : List LRow) (hs : a.eval s = v) (hst : Rows B w v l) (hB : B ≤ w.heap.size) (A : Option Addr) (m : List LRow) (c : Nat) (hx : a.eval x = .slice A m.length c) (hrd : RdR w A m) (h0 : m = [] → A = none → c = 0)
    (hsm : l.length + m.length ≤ 1048576)
    (h : ∀ v' w', Rows B w' v' (l ++ m) → Below B w w' → wpList Tryz.prog ops Q rest (a.put oo.dst v') w') : wpList Tryz.prog ops Q (oo :: rest) a w := by
  obtain ⟨i0, hi, hz0, hz1, hz2⟩ := info_parts infoRow
  cases A with
  | none =>
    have hm : m = [] := by
      cases m with
      | nil => rfl
      | cons y m =>
        obtain ⟨_, _, e, _⟩ := hrd (by simp)
        cases e
    have hc := h0 hm rfl
    subst hm
    subst hc
    rw [List.append_nil] at h
    exact wpList_append_own_none hgd s x 39 ho B RowT i0 3 Tryz.underlying39 hi v l.length (rowcells l) hs hst hx (h v w hst (Below.refl _ _))
  | some ad =>
    refine wpList_append_own_at _ hgd s x 39 ho B RowT i0 (.agg #[.string ⟨#[]⟩, .string ⟨#[]⟩, .int .i64 0]) 3 40 Tryz.underlying39 hi hz0 hz1 hz2 rfl (by decide) v l.length (rowcells l) hs hst ad m.length c (rowcells m) hx (by rw [rowcells_length]) ?_ ?_ ?_ ?_ hB ?_
    · intro j u hj
      have hlen : 0 < m.length := by
        have := (List.getElem?_eq_some_iff.1 hj).1
        rw [rowcells_length] at this
        omega
      obtain ⟨g, o, e, hc⟩ := hrd.cells hlen
      injection e with e
      subst e
      exact hc j u hj
    · intro u hu
      unfold rowcells at hu
      obtain ⟨y, _, hy⟩ := List.mem_flatMap.1 hu
      simp at hy
      rcases hy with rfl | rfl | rfl <;> rfl
    · unfold maxLen; omega
    · omega
    · intro v' w1 hown hgrow _ hat
      refine h v' w1 ?_ ((Below.refl B w).grown hgrow hB (fun k hk => (World.ownsRow.lt hst k hk).1))
      unfold Rows
      rw [rowcells_append, List.length_append]
      exact hown
end


theorem mapU_at (w0 : World) (hO : Okw w0) {b : ByteArray} (hb : b.size ≤ 1000000) {l : List LRow} {i e : Int} (h : readL oneU b.data.toList = (l, i, e)) : ∀ w, Below w0.heap.size w0 w → Calls Tryz.prog 22 #[.string b] w (ReadAt w l i e) :=
  fun w hb0 => (mapU_any b hb w (hO.keep hb0)).mono fun _ _ hr => readAt_of h hr



end Go.Proofs.YtkfjmcidcnpijaaGreatDoor.Mf
