/- Walks: strings.Join without a separator; what a decoder answers. -/
import Derived.Test.YtlfhmkjomogkiaaDoorWj
import Derived.Test.YtlfhmkjomogkiaaDoorPlain3
namespace Go.Proofs.YtlfhmkjomogkiaaDoor
open Go.RowKit Pl

/-- All bytes of strings. -/
def allB (ls : List ByteArray) : List UInt8 := ls.flatMap fun s => s.data.toList
theorem join_empty (xs : List (List UInt8)) : Lib.join xs [] = xs.flatten := by
  cases xs with
  | nil => rfl
  | cons x r => rw [Lib.join_cons]; simp [Lib.joinTail]
theorem allB_join (ls : List ByteArray) : Lib.join (ls.map (·.data.toList)) [] = allB ls := by
  rw [join_empty]; unfold allB; rw [List.flatMap_def]
theorem join_any (A : Option Addr) (n c : Nat) (ls : List ByteArray) (w : World) (hR : Rd w A n (strv ls)) (hcap : n ≤ c) (hn : n ≤ 1000000) (hlen : (allB ls).length ≤ 1000000000) :
    Calls Tryd.prog 47 #[.slice A n c, .string ⟨#[]⟩] w fun e w' => e = .returned (.string ⟨(allB ls).toArray⟩) ∧ Below w.heap.size w w' := by
  have hl : ls.length = n := by rw [← hR.1, strv_length]
  rcases Nat.eq_zero_or_pos n with h0 | h0
  · subst h0
    have : ls = [] := List.eq_nil_of_length_eq_zero hl
    subst this
    exact (join_none A c ⟨#[]⟩ w).mono fun e w' ⟨he, hw⟩ => ⟨he, by rw [hw]; exact Below.refl _ _⟩
  · obtain ⟨b, o, rfl, hb, hc⟩ := hR.2 h0
    subst hl
    have h := join_some b o c ls ⟨#[]⟩ w (fun j x hx => hc j (.string x) (by simp [strv, hx])) hb (by omega) hcap (by rw [show (⟨#[]⟩ : ByteArray).data.toList = [] from rfl, allB_join]; omega)
    rw [show (⟨#[]⟩ : ByteArray).data.toList = [] from rfl, allB_join] at h
    exact h

/-- What a decoder answers. -/
def DecPost (w0 : World) (x : List Int × List (Nat × Nat) × Int) (e : Ending) (w' : World) : Prop :=
  ∃ vo vb, e = .returned (.tuple #[vo, vb, .int .i64 x.2.2]) ∧ St w0.heap.size w0 w' vo x.1 vb x.2.1

/-- What a decoder answers, to one who only reads it. -/
def DecRd (w0 : World) (x : List Int × List (Nat × Nat) × Int) (e : Ending) (w' : World) : Prop :=
  ∃ A1 c1 A2 c2, e = .returned (.tuple #[.slice A1 x.1.length c1, .slice A2 x.2.1.length c2, .int .i64 x.2.2]) ∧ Rd w' A1 x.1.length (i32s x.1) ∧ Rd2 w' A2 x.2.1.length (fcells x.2.1) ∧ Below w0.heap.size w0 w'
theorem DecPost.rd {w0 w' : World} {x : List Int × List (Nat × Nat) × Int} {e : Ending} (h : DecPost w0 x e w') : DecRd w0 x e w' := by
  obtain ⟨vo, vb, rfl, hst⟩ := h
  obtain ⟨A1, c1, rfl, hr1⟩ := rd_of_own hst.1
  obtain ⟨A2, c2, rfl, hr2⟩ := rd2_of_own hst.2.1
  exact ⟨A1, c1, A2, c2, rfl, hr1, hr2, hst.2.2.1⟩
theorem Below.since_alloc {w w' : World} {o : Obj} (h : Below (w.alloc o).heap.size (w.alloc o) w') : Below w.heap.size w w' :=
  ((Below.refl w.heap.size w).alloc (Nat.le_refl _) o).trans (h.mono (by simp))
theorem DecPost.since {w w' : World} {o : Obj} {x : List Int × List (Nat × Nat) × Int} {e : Ending} (h : DecPost (w.alloc o) x e w') : ∃ vo vb, e = .returned (.tuple #[vo, vb, .int .i64 x.2.2]) ∧ St (w.heap.size + 1) (w.alloc o) w' vo x.1 vb x.2.1 ∧ Below w.heap.size w w' := by
  obtain ⟨vo, vb, rfl, hst⟩ := h
  rw [show (w.alloc o).heap.size = w.heap.size + 1 from by simp] at hst
  refine ⟨vo, vb, rfl, hst, Below.since_alloc (o := o) ?_⟩
  rw [show (w.alloc o).heap.size = w.heap.size + 1 from by simp]
  exact hst.2.2.1
theorem DecRd.since {w w' : World} {o : Obj} {x : List Int × List (Nat × Nat) × Int} {e : Ending} (h : DecRd (w.alloc o) x e w') : DecRd w x e w' := by
  obtain ⟨A1, c1, A2, c2, rfl, h1, h2, h3⟩ := h
  exact ⟨A1, c1, A2, c2, rfl, h1, h2, Below.since_alloc h3⟩
theorem DecRd.since_drew {w w' : World} {o : Obj} {x : List Int × List (Nat × Nat) × Int} {e : Ending} (h : DecRd (w.alloc o).drew x e w') : DecRd w x e w' := by
  obtain ⟨A1, c1, A2, c2, rfl, h1, h2, h3⟩ := h
  exact ⟨A1, c1, A2, c2, rfl, h1, h2, (((Below.refl w.heap.size w).alloc (Nat.le_refl _) o).drew).trans (h3.mono (by simp [World.drew]))⟩
end Go.Proofs.YtlfhmkjomogkiaaDoor
