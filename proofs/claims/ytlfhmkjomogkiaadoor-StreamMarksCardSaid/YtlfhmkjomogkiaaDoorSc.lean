/- Walks: Decoder.sure, read. -/
import Derived.Test.YtlfhmkjomogkiaaDoorSa
import Derived.Test.YtlfhmkjomogkiaaDoorSb
import Derived.Test.YtlfhmkjomogkiaaDoorULp
import Derived.Test.YtlfhmkjomogkiaaDoorWl
namespace Go.Proofs.YtlfhmkjomogkiaaDoor.Str
open Go.RowKit Pl

theorem kcut_of (k : Int) (l : List UInt8) (h : 1 ≤ k ∧ k ≤ 5) (h5 : k ≠ 5) : kcut k l = (scut k l, 0) := by
  unfold kcut scut; rw [if_pos (by omega), if_neg h5]
theorem sure_any (B b : Nat) (s : SSt) (v : Value) (t : ByteArray) (w : World) (h : DecAt B b w s v) (hf : sfit s) (ht : t.size ≤ 1000000) (hRL : Utf.RL w) :
    Calls Tryd.prog 60 #[.pointer (some ⟨b, 0, none⟩), .string t] w fun e w' => e = .returned (.int .i64 (scut s.kind t.data.toList)) ∧ Below w.heap.size w w' := by
  have c2 : w.cell? ⟨b, 2, none⟩ = some (.int .i64 s.kind) := by rw [h.1.cell]; rfl
  have hk : 1 ≤ s.kind ∧ s.kind ≤ 5 := ⟨hf.1, hf.2.1⟩
  clear hf h
  by_cases h5 : s.kind = 5
  · have HC := Lib.hid (Utf.cut_any t ht w hRL)
    rw [show scut s.kind t.data.toList = ucut t.data.toList from if_pos h5]
    rw [h5] at c2
    clear hk h5 hRL
    go_enter Tryd.func60, Tryd.ntmps60
    go_wp2_with (go_at_call 28; refine HC.out.mono ?_; rintro e w1 ⟨rfl, hb1⟩)
    go_returns
    exact ⟨rfl, hb1⟩
  · have HC := Lib.hid (cut_any s.kind t (by omega) w)
    rw [kcut_of s.kind _ hk h5] at HC
    have e5 : (s.kind == 5) = false := by simp [h5]
    generalize s.kind = k at *
    clear hk h5 hRL
    go_enter Tryd.func60, Tryd.ntmps60
    go_wp2_with (go_at_call 74; refine HC.out.mono ?_; rintro e w1 ⟨he, hb1⟩; rw [cutEnd] at he; subst he)
    go_returns
    exact ⟨rfl, hb1⟩
theorem read_any (B b : Nat) (s : SSt) (v : Value) (t : ByteArray) (w : World) (h : DecAt B b w s v) (hf : sfit s) (ht : t.size ≤ 1000000) (hRL : Utf.RL w) :
    Calls Tryd.prog 63 #[.pointer (some ⟨b, 0, none⟩), .string t] w (DecPost w (dec (snx s.kind) s.pol t.data.toList)) := by
  have c2 : w.cell? ⟨b, 2, none⟩ = some (.int .i64 s.kind) := by rw [h.1.cell]; rfl
  have c3 : w.cell? ⟨b, 3, none⟩ = some (.int .i64 s.pol) := by rw [h.1.cell]; rfl
  have hlt := h.1.lt
  obtain ⟨h1, h2, h3, h4, _⟩ := hf
  clear h
  by_cases h5 : s.kind = 5
  · have HD := Lib.hid (fun T => Utf.udec1 s.pol t T ht w hRL)
    rw [Utf.udec_of _ _ ⟨h3, h4⟩] at HD
    rw [show snx s.kind = unext from if_pos h5]
    rw [h5] at c2
    generalize s.pol = p at *
    clear h1 h2 h3 h4 h5 hRL
    go_enter Tryd.func63, Tryd.ntmps63
    go_wp2_with fail
    refine (HD.out _).mono ?_
    rintro e w1 hd
    have hd2 := DecPost.up hd
    clear hd
    obtain ⟨vo, vb, rfl, hst⟩ := hd2
    go_wp2
    go_returns
    exact ⟨vo, vb, rfl, hst⟩
  · have hk : (1 ≤ s.kind ∧ s.kind ≤ 4) := by omega
    have HD : Hid (∀ T, Calls Tryd.prog 75 #[.int .i64 s.kind, .int .i64 s.pol, .slice (some ⟨w.heap.size, 0, none⟩) 1 1] (w.alloc (.cells #[.string t] T)).drew (DecPost (w.alloc (.cells #[.string t] T)).drew (dec (snx s.kind) s.pol t.data.toList))) := by
      intro T
      have h := wideDecode_any s.kind s.pol (some ⟨w.heap.size, 0, none⟩) 1 1 [t] (w.alloc (.cells #[.string t] T)).drew (Rd.of_new w T [.string t] 1 rfl) (Nat.le_refl _) (by decide) (by simp [allB]; exact ht)
      rw [show allB [t] = t.data.toList from by simp [allB], kdec, if_pos ⟨hk, h3, h4⟩] at h
      rw [show snx s.kind = wnext (wsize s.kind) (bigOf s.kind) from if_neg h5]
      exact h
    have e5 : (s.kind == 5) = false := by simp [h5]
    generalize snx s.kind = nx at *
    generalize s.kind = k at *
    generalize s.pol = p at *
    clear h1 h2 h3 h4 h5 hRL hk
    go_enter Tryd.func63, Tryd.ntmps63
    go_wp2_with fail
    go_region_held3 (fun w' => w'.cell? ⟨b, 2, none⟩ = some (.int .i64 k) ∧ w'.cell? ⟨b, 3, none⟩ = some (.int .i64 p)) (first | exact ⟨c2, c3⟩ | exact Utf.cell2 (w := w) hlt hlt ((Below.refl w.heap.size w).alloc (Nat.le_refl _) _) ⟨c2, c3⟩ | exact Utf.cell2 (w := w) hlt hlt ((Below.refl w.heap.size w).alloc (Nat.le_refl _) _).drew ⟨c2, c3⟩ | exact Utf.cell2 (w := w) hlt hlt (((Below.refl w.heap.size w).drew).alloc (Nat.le_refl _) _) ⟨c2, c3⟩ | exact Utf.cell2 (w := w) hlt hlt hst.2.2.1 ⟨c2, c3⟩) (first | (go_at_call 75; refine (HD.out _).mono ?_; rintro e w2 hd; have hd2 := DecPost.up_drew hd; clear hd; obtain ⟨vo, vb, rfl, hst⟩ := hd2))
    go_wp2
    go_returns
    exact ⟨vo, vb, rfl, hst⟩
end Go.Proofs.YtlfhmkjomogkiaaDoor.Str
