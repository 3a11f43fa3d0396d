/- Walk: the law MapfileJoins. -/
import Derived.Test.YtopaoejapnakiaaGreatDoorF2
import Derived.Laws.AppendOwnNone
namespace Go.Proofs.YtopaoejapnakiaaGreatDoor.Mf
open Go.RowKit Pl

theorem RdR.cells {w : World} {A : Option Addr} {l : List LRow} (h : RdR w A l) (h0 : 0 < l.length) : ∃ g o, A = some ⟨g, o, none⟩ ∧ ∀ j u, (rowcells l)[j]? = some u → w.cell? ((⟨g, o, none⟩ : Addr).add j) = some u := by
  obtain ⟨g, o, e, _, hc⟩ := h h0
  refine ⟨g, o, e, fun j u hj => ?_⟩
  have hlt : j < l.length * 3 := by rw [← rowcells_length]; exact (List.getElem?_eq_some_iff.1 hj).1
  have hk : j / 3 < l.length := by omega
  obtain ⟨c0, c1, c2⟩ := hc (j / 3) hk
  obtain ⟨r0, r1, r2⟩ := rowcells_at l (j / 3) hk
  rw [Addr.add_lit]
  have hm : j % 3 = 0 ∨ j % 3 = 1 ∨ j % 3 = 2 := by omega
  rcases hm with hm | hm | hm
  · have e1 : j = j / 3 * 3 := by omega
    rw [← e1] at c0 r0
    rw [c0, ← r0, hj]
  · have e1 : j = j / 3 * 3 + 1 := by omega
    rw [← e1] at r1
    rw [Nat.add_assoc, ← e1] at c1
    rw [c1, ← r1, hj]
  · have e1 : j = j / 3 * 3 + 2 := by omega
    rw [← e1] at r2
    rw [Nat.add_assoc, ← e1] at c2
    rw [c2, ← r2, hj]
theorem readL_nn {F : List UInt8 → One} (hF : ∀ s, F s ≠ .err 0) (s : List UInt8) : 0 ≤ (readL F s).2.1 := by
  unfold readL
  split
  · have h := readGo_facts hF (linesOf s) 0 []
    by_cases h0 : (readGo F 0 [] (linesOf s)).2.2 = 0
    · rw [h.1 h0]; decide
    · have := (h.2 h0).2.1; omega
  · show (0 : Int) ≤ 0; decide
/-- What a reading answers, its rows as they lie. -/
def ReadAt (w : World) (l : List LRow) (i e : Int) (x : Ending) (w' : World) : Prop := ∃ A c, x = .returned (.tuple #[.slice A l.length c, .int .i64 i, .int .i64 e]) ∧ RdR w' A l ∧ (l = [] → A = none → c = 0) ∧ Below w.heap.size w w'
theorem readAt_of {F : List UInt8 → One} {w w' : World} {s : List UInt8} {l : List LRow} {i e : Int} {x : Ending} (h : readL F s = (l, i, e)) (hr : ReadP F w s x w') : ReadAt w l i e x w' := by
  obtain ⟨v, e1, hrows, hb⟩ := hr
  rw [h] at e1 hrows
  obtain ⟨A, c, e2, hrd, hcap⟩ := hrows.rd
  have hrows2 : Rows w.heap.size w' v l := hrows
  refine ⟨A, c, by rw [e1, e2], hrd, fun h0 hA => ?_, hb⟩
  rcases hrows2.2 with ⟨h1, _⟩ | ⟨g', cap, cur, e3, _⟩
  · rw [e2] at h1
    injection h1
  · rw [e2] at e3
    injection e3 with e4
    rw [hA] at e4
    cases e4
section
variable {ops : Array Oper} {rest : List Oper} {oo : Oper} {a : Act} {Q : Exit → Act → World → Prop}
set_option maxRecDepth 100000 in
/-- 'all = append(all, a...)'. -/
theorem wpList_rows (w : World) (hgd : oo.guard = none) (s x : Operand) (ho : oo.op = .call { callee := .builtin .append, args := #[s, x], argTypes := #[23, 23] })
    (B : Nat) (v : Value) (l : List LRow) (hs : a.eval s = v) (hst : Rows B w v l) (hB : B ≤ w.heap.size) (A : Option Addr) (m : List LRow) (c : Nat) (hx : a.eval x = .slice A m.length c) (hrd : RdR w A m) (h0 : m = [] → A = none → c = 0)
    (hsm : l.length + m.length ≤ 1048576)
    (h : ∀ v' w', Rows B w' v' (l ++ m) → Below B w w' → wpList Tryz.prog ops Q rest (a.put oo.dst v') w') : wpList Tryz.prog ops Q (oo :: rest) a w := by
  obtain ⟨i0, hi, hz0, hz1, hz2⟩ := info_parts infoRow
  cases A with
  | none =>
    have hm : m = [] := by
      cases m with
      | nil => rfl
      | cons y m =>
        obtain ⟨_, _, e, _⟩ := hrd (by simp)
        cases e
    have hc := h0 hm rfl
    subst hm
    subst hc
    rw [List.append_nil] at h
    exact wpList_append_own_none hgd s x 23 ho B RowT i0 3 Tryz.underlying23 hi v l.length (rowcells l) hs hst hx (h v w hst (Below.refl _ _))
  | some ad =>
    refine wpList_append_own_at _ hgd s x 23 ho B RowT i0 (.agg #[.string ⟨#[]⟩, .string ⟨#[]⟩, .int .i64 0]) 3 40 Tryz.underlying23 hi hz0 hz1 hz2 rfl (by decide) v l.length (rowcells l) hs hst ad m.length c (rowcells m) hx (by rw [rowcells_length]) ?_ ?_ ?_ ?_ hB ?_
    · intro j u hj
      have hlen : 0 < m.length := by
        have := (List.getElem?_eq_some_iff.1 hj).1
        rw [rowcells_length] at this
        omega
      obtain ⟨g, o, e, hc⟩ := hrd.cells hlen
      injection e with e
      subst e
      exact hc j u hj
    · intro u hu
      unfold rowcells at hu
      obtain ⟨y, _, hy⟩ := List.mem_flatMap.1 hu
      simp at hy
      rcases hy with rfl | rfl | rfl <;> rfl
    · unfold maxLen; omega
    · omega
    · intro v' w1 hown hgrow _ hat
      refine h v' w1 ?_ ((Below.refl B w).grown hgrow hB (fun k hk => (World.ownsRow.lt hst k hk).1))
      unfold Rows
      rw [rowcells_append, List.length_append]
      exact hown
end
theorem mapC_at (w0 : World) (hO : Okw w0) {b : ByteArray} (hb : b.size ≤ 1000000) {l : List LRow} {i e : Int} (h : readL oneC b.data.toList = (l, i, e)) : ∀ w, Below w0.heap.size w0 w → Calls Tryz.prog 13 #[.string b] w (ReadAt w l i e) :=
  fun w hb0 => (mapC_any b hb w (hO.keep hb0)).mono fun _ _ hr => readAt_of h hr
theorem mapU_at (w0 : World) (hO : Okw w0) {b : ByteArray} (hb : b.size ≤ 1000000) {l : List LRow} {i e : Int} (h : readL oneU b.data.toList = (l, i, e)) : ∀ w, Below w0.heap.size w0 w → Calls Tryz.prog 11 #[.string b] w (ReadAt w l i e) :=
  fun w hb0 => (mapU_any b hb w (hO.keep hb0)).mono fun _ _ hr => readAt_of h hr
theorem alike_at (w0 : World) (A1 A2 : Option Addr) (c1 c2 : Nat) (l : List LRow) (hl : l.length ≤ 1000000) (w : World) (hb : Below w0.heap.size w0 w) (h1 : RdR w A1 l) (h2 : RdR w A2 l) :
    Calls Tryz.prog 16 #[.slice A1 l.length c1, .slice A2 l.length c2] w fun e w' => e = .returned (.bool true) ∧ Below w0.heap.size w0 w' :=
  (alike_any A1 A2 c1 c2 l hl w h1 h2).mono fun _ _ ⟨h, hb'⟩ => ⟨h, hb.trans (hb'.mono hb.size)⟩
end Go.Proofs.YtopaoejapnakiaaGreatDoor.Mf
