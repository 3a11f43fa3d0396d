/- Contracts: wide.Decode of one, two and three strings, laid new. -/
import Derived.Test.YtlfhmkjomogkiaaWl
import Derived.Test.YtlfhmkjomogkiaaPlain5
namespace Go.Proofs.Ytlfhmkjomogkiaa
open Go.RowKit Pl

/-- What a decoder answers, to one who only reads it. -/
def DecRd (w0 : World) (x : List Int × List (Nat × Nat) × Int) (e : Ending) (w' : World) : Prop :=
  ∃ A1 c1 A2 c2, e = .returned (.tuple #[.slice A1 x.1.length c1, .slice A2 x.2.1.length c2, .int .i64 x.2.2]) ∧ Rd w' A1 x.1.length (i32s x.1) ∧ Rd2 w' A2 x.2.1.length (fcells x.2.1) ∧ Below w0.heap.size w0 w'
theorem DecPost.rd {w0 w' : World} {x : List Int × List (Nat × Nat) × Int} {e : Ending} (h : DecPost w0 x e w') : DecRd w0 x e w' := by
  obtain ⟨vo, vb, rfl, hst⟩ := h
  obtain ⟨A1, c1, rfl, hr1⟩ := rd_of_own hst.1
  obtain ⟨A2, c2, rfl, hr2⟩ := rd2_of_own hst.2.1
  exact ⟨A1, c1, A2, c2, rfl, hr1, hr2, hst.2.2.1⟩
theorem Below.since_alloc {w w' : World} {o : Obj} (h : Below (w.alloc o).heap.size (w.alloc o) w') : Below w.heap.size w w' :=
  ((Below.refl w.heap.size w).alloc (Nat.le_refl _) o).trans (h.mono (by simp))
theorem DecPost.since {w w' : World} {o : Obj} {x : List Int × List (Nat × Nat) × Int} {e : Ending} (h : DecPost (w.alloc o) x e w') : ∃ vo vb, e = .returned (.tuple #[vo, vb, .int .i64 x.2.2]) ∧ St (w.heap.size + 1) (w.alloc o) w' vo x.1 vb x.2.1 ∧ Below w.heap.size w w' := by
  obtain ⟨vo, vb, rfl, hst⟩ := h
  rw [show (w.alloc o).heap.size = w.heap.size + 1 from by simp] at hst
  refine ⟨vo, vb, rfl, hst, Below.since_alloc (o := o) ?_⟩
  rw [show (w.alloc o).heap.size = w.heap.size + 1 from by simp]
  exact hst.2.2.1
theorem DecRd.since {w w' : World} {o : Obj} {x : List Int × List (Nat × Nat) × Int} {e : Ending} (h : DecRd (w.alloc o) x e w') : DecRd w x e w' := by
  obtain ⟨A1, c1, A2, c2, rfl, h1, h2, h3⟩ := h
  exact ⟨A1, c1, A2, c2, rfl, h1, h2, Below.since_alloc h3⟩
theorem dec1 (k pol : Int) (s : ByteArray) (T : TypeId) (hs : s.size ≤ 1000000) (w : World) :
    Calls Try.prog 21 #[.int .i64 k, .int .i64 pol, .slice (some ⟨w.heap.size, 0, none⟩) 1 1] (w.alloc (.cells #[.string s] T)) (DecPost (w.alloc (.cells #[.string s] T)) (kdec k pol s.data.toList)) := by
  have h := wideDecode_any k pol (some ⟨w.heap.size, 0, none⟩) 1 1 [s] (w.alloc (.cells #[.string s] T)) (Rd.of_new w T [.string s] 1 rfl) (Nat.le_refl _) (by decide) (by simp [allB]; exact hs)
  rwa [show allB [s] = s.data.toList from by simp [allB]] at h
theorem dec2 (k pol : Int) (s t : ByteArray) (T : TypeId) (hs : s.size + t.size ≤ 1000000) (w : World) :
    Calls Try.prog 21 #[.int .i64 k, .int .i64 pol, .slice (some ⟨w.heap.size, 0, none⟩) 2 2] (w.alloc (.cells #[.string s, .string t] T)) (DecPost (w.alloc (.cells #[.string s, .string t] T)) (kdec k pol (s.data.toList ++ t.data.toList))) := by
  have h := wideDecode_any k pol (some ⟨w.heap.size, 0, none⟩) 2 2 [s, t] (w.alloc (.cells #[.string s, .string t] T)) (Rd.of_new w T [.string s, .string t] 2 rfl) (Nat.le_refl _) (by decide) (by simp [allB]; exact hs)
  rwa [show allB [s, t] = s.data.toList ++ t.data.toList from by simp [allB]] at h
theorem DecRd.since_drew {w w' : World} {o : Obj} {x : List Int × List (Nat × Nat) × Int} {e : Ending} (h : DecRd (w.alloc o).drew x e w') : DecRd w x e w' := by
  obtain ⟨A1, c1, A2, c2, rfl, h1, h2, h3⟩ := h
  exact ⟨A1, c1, A2, c2, rfl, h1, h2, (((Below.refl w.heap.size w).alloc (Nat.le_refl _) o).drew).trans (h3.mono (by simp [World.drew]))⟩
/-- Bytes parted at a place, with none between. -/
theorem dec_parted (k pol : Int) (s : ByteArray) (a : Nat) (T : TypeId) (hs : s.size ≤ 1000000) (w : World) :
    Calls Try.prog 21 #[.int .i64 k, .int .i64 pol, .slice (some ⟨w.heap.size, 0, none⟩) 3 3] (w.alloc (.cells #[.string (s.extract 0 a), .string ⟨#[]⟩, .string (s.extract a s.size)] T)).drew
      (DecPost (w.alloc (.cells #[.string (s.extract 0 a), .string ⟨#[]⟩, .string (s.extract a s.size)] T)).drew (kdec k pol s.data.toList)) := by
  have he : allB [s.extract 0 a, ⟨#[]⟩, s.extract a s.size] = s.data.toList := by
    simp only [allB, List.flatMap_cons, List.flatMap_nil]
    rw [Lib.extract_to_end, List.append_nil]
    rw [show (s.extract 0 a).data.toList = s.data.toList.take a from by simp [ByteArray.data_extract]]
    rw [List.nil_append, List.take_append_drop]
  have h := wideDecode_any k pol (some ⟨w.heap.size, 0, none⟩) 3 3 [s.extract 0 a, ⟨#[]⟩, s.extract a s.size] (w.alloc (.cells #[.string (s.extract 0 a), .string ⟨#[]⟩, .string (s.extract a s.size)] T)).drew
    (Rd.of_new w T [.string (s.extract 0 a), .string ⟨#[]⟩, .string (s.extract a s.size)] 3 rfl) (Nat.le_refl _) (by decide) (by rw [he]; simpa using hs)
  rwa [he] at h
end Go.Proofs.Ytlfhmkjomogkiaa
