/- Walks: strings.Join without a separator; what a decoder answers. -/
import Derived.Test.YtlfhmkjomogkiaaDoorWj
import Derived.Test.YtlfhmkjomogkiaaDoorPlain3
namespace Go.Proofs.YtlfhmkjomogkiaaDoor
open Go.RowKit Pl

/-- All bytes of strings. -/
def allB (ls : List ByteArray) : List UInt8 := ls.flatMap fun s => s.data.toList
theorem join_empty (xs : List (List UInt8)) : Lib.join xs [] = xs.flatten := by
  cases xs with
  | nil => rfl
  | cons x r => rw [Lib.join_cons]; simp [Lib.joinTail]
theorem allB_join (ls : List ByteArray) : Lib.join (ls.map (·.data.toList)) [] = allB ls := by
  rw [join_empty]; unfold allB; rw [List.flatMap_def]
theorem join_any (A : Option Addr) (n c : Nat) (ls : List ByteArray) (w : World) (hR : Rd w A n (strv ls)) (hcap : n ≤ c) (hn : n ≤ 1000000) (hlen : (allB ls).length ≤ 1000000000) :
    Calls Tryd.prog 47 #[.slice A n c, .string ⟨#[]⟩] w fun e w' => e = .returned (.string ⟨(allB ls).toArray⟩) ∧ Below w.heap.size w w' := by
  have hl : ls.length = n := by rw [← hR.1, strv_length]
  rcases Nat.eq_zero_or_pos n with h0 | h0
  · subst h0
    have : ls = [] := List.eq_nil_of_length_eq_zero hl
    subst this
    exact (join_none A c ⟨#[]⟩ w).mono fun e w' ⟨he, hw⟩ => ⟨he, by rw [hw]; exact Below.refl _ _⟩
  · obtain ⟨b, o, rfl, hb, hc⟩ := hR.2 h0
    subst hl
    have h := join_some b o c ls ⟨#[]⟩ w (fun j x hx => hc j (.string x) (by simp [strv, hx])) hb (by omega) hcap (by rw [show (⟨#[]⟩ : ByteArray).data.toList = [] from rfl, allB_join]; omega)
    rw [show (⟨#[]⟩ : ByteArray).data.toList = [] from rfl, allB_join] at h
    exact h

/-- What a decoder answers. -/
def DecPost (w0 : World) (x : List Int × List (Nat × Nat) × Int) (e : Ending) (w' : World) : Prop :=
  ∃ vo vb, e = .returned (.tuple #[vo, vb, .int .i64 x.2.2]) ∧ St w0.heap.size w0 w' vo x.1 vb x.2.1

/-- What a decoder answers, to one who only reads it. -/
def DecRd (w0 : World) (x : List Int × List (Nat × Nat) × Int) (e : Ending) (w' : World) : Prop :=
  ∃ A1 c1 A2 c2, e = .returned (.tuple #[.slice A1 x.1.length c1, .slice A2 x.2.1.length c2, .int .i64 x.2.2]) ∧ Rd w' A1 x.1.length (i32s x.1) ∧ Rd2 w' A2 x.2.1.length (fcells x.2.1) ∧ Below w0.heap.size w0 w'
theorem DecPost.rd {w0 w' : World} {x : List Int × List (Nat × Nat) × Int} {e : Ending} (h : DecPost w0 x e w') : DecRd w0 x e w' := by
  obtain ⟨vo, vb, rfl, hst⟩ := h
  obtain ⟨A1, c1, rfl, hr1⟩ := rd_of_own hst.1
  obtain ⟨A2, c2, rfl, hr2⟩ := rd2_of_own hst.2.1
  exact ⟨A1, c1, A2, c2, rfl, hr1, hr2, hst.2.2.1⟩
theorem Below.since_alloc {w w' : World} {o : Obj} (h : Below (w.alloc o).heap.size (w.alloc o) w') : Below w.heap.size w w' :=
  ((Below.refl w.heap.size w).alloc (Nat.le_refl _) o).trans (h.mono (by simp))
theorem DecPost.since {w w' : World} {o : Obj} {x : List Int × List (Nat × Nat) × Int} {e : Ending} (h : DecPost (w.alloc o) x e w') : ∃ vo vb, e = .returned (.tuple #[vo, vb, .int .i64 x.2.2]) ∧ St (w.heap.size + 1) (w.alloc o) w' vo x.1 vb x.2.1 ∧ Below w.heap.size w w' := by
  obtain ⟨vo, vb, rfl, hst⟩ := h
  rw [show (w.alloc o).heap.size = w.heap.size + 1 from by simp] at hst
  refine ⟨vo, vb, rfl, hst, Below.since_alloc (o := o) ?_⟩
  rw [show (w.alloc o).heap.size = w.heap.size + 1 from by simp]
  exact hst.2.2.1
theorem DecRd.since {w w' : World} {o : Obj} {x : List Int × List (Nat × Nat) × Int} {e : Ending} (h : DecRd (w.alloc o) x e w') : DecRd w x e w' := by
  obtain ⟨A1, c1, A2, c2, rfl, h1, h2, h3⟩ := h
  exact ⟨A1, c1, A2, c2, rfl, h1, h2, Below.since_alloc h3⟩
theorem DecRd.since_drew {w w' : World} {o : Obj} {x : List Int × List (Nat × Nat) × Int} {e : Ending} (h : DecRd (w.alloc o).drew x e w') : DecRd w x e w' := by
  obtain ⟨A1, c1, A2, c2, rfl, h1, h2, h3⟩ := h
  exact ⟨A1, c1, A2, c2, rfl, h1, h2, (((Below.refl w.heap.size w).alloc (Nat.le_refl _) o).drew).trans (h3.mono (by simp [World.drew]))⟩
theorem ba_append (a b : List UInt8) : (⟨a.toArray⟩ : ByteArray) ++ ⟨b.toArray⟩ = ⟨(a ++ b).toArray⟩ := by
  apply ByteArray.ext
  simp [ByteArray.data_append]
theorem ba_size (l : List UInt8) : (⟨l.toArray⟩ : ByteArray).size = l.length := by simp [ByteArray.size]
theorem Rd.str_at {w : World} {A : Option Addr} {n : Nat} {l : List ByteArray} (h : Rd w A n (strv l)) {k : Nat} (hk : k < l.length) :
    ∃ b o, A = some ⟨b, o, none⟩ ∧ b < w.heap.size ∧ w.cell? ⟨b, o + k, none⟩ = some (.string l[k]) := by
  obtain ⟨b, o, e, hlt, hc⟩ := h.2 (by rw [← h.1, strv_length]; omega)
  exact ⟨b, o, e, hlt, hc k _ (by simp [strv, hk])⟩
theorem Rd.str_len {w : World} {A : Option Addr} {n : Nat} {l : List ByteArray} (h : Rd w A n (strv l)) : l.length = n := by rw [← h.1, strv_length]
theorem allB_snoc (l : List ByteArray) (k : Nat) (h : k < l.length) : allB (l.take (k + 1)) = allB (l.take k) ++ l[k].data.toList := flatMap_snoc _ l k h
theorem allB_le (l : List ByteArray) (N : Nat) (h : ∀ s ∈ l, s.size ≤ N) : (allB l).length ≤ N * l.length := by
  induction l with
  | nil => simp [allB]
  | cons a l ih =>
    have h1 := ih (fun s hs => h s (List.mem_cons_of_mem _ hs))
    have h2 := h a (List.mem_cons_self ..)
    unfold allB at *
    simp only [List.flatMap_cons, List.length_append, List.length_cons]
    have : a.data.toList.length = a.size := by simp
    rw [this, Nat.mul_succ]; omega
theorem ba_append_s (a : List UInt8) (s : ByteArray) : (⟨a.toArray⟩ : ByteArray) ++ s = ⟨(a ++ s.data.toList).toArray⟩ := by
  apply ByteArray.ext
  simp [ByteArray.data_append]

end Go.Proofs.YtlfhmkjomogkiaaDoor
