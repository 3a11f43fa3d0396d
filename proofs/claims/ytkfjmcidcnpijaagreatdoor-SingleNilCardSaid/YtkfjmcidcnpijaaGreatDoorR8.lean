/- Walk: (*reader).ucm. -/
import Derived.Test.YtkfjmcidcnpijaaGreatDoorR7
import Derived.Lib.AtoiErrMem
import Derived.Shelf.Strconv.Atoi
namespace Go.Proofs.YtkfjmcidcnpijaaGreatDoor.Mf
open Go.RowKit

/-- The library's error for what is no numeral. -/












def ErrV (_ : World) : Prop := True
def ErrLt (_ : Nat) : Prop := True
theorem ErrLt.mono {B C : Nat} (_ : ErrLt B) (_ : B ≤ C) : ErrLt C := trivial
theorem ErrV.keep {w w' : World} {B : Nat} (_ : ErrV w) (_ : Below B w w') (_ : ErrLt B) : ErrV w' := trivial
theorem ErrV.lt {w : World} (_ : ErrV w) : ErrLt w.heap.size := trivial
def atoiOk (c : UInt8) : Bool := !isHex c || (match Lib.atoi [c] with | some v => flagK [c] && (v == flagN [c]) | none => !flagK [c] && (flagN [c] == 0))
set_option maxRecDepth 100000 in
theorem atoi_fin : ∀ n : Fin 256, atoiOk (UInt8.ofNat n.val) = true := by decide
theorem atoi_digs (s : List UInt8) : (Lib.atoi (digs 1 s) = some (flagN (digs 1 s)) ∧ flagK (digs 1 s) = true) ∨ (Lib.atoi (digs 1 s) = none ∧ flagK (digs 1 s) = false ∧ flagN (digs 1 s) = 0) := by
  cases s with
  | nil => right; exact ⟨rfl, rfl, rfl⟩
  | cons c t =>
    have h0 : digs 0 t = [] := by cases t <;> rfl
    have hd : digs 1 (c :: t) = if isHex c = true then [c] else [] := by
      unfold digs
      rw [h0]
    by_cases hc : isHex c = true
    · rw [hd, if_pos hc]
      have h1 := atoi_fin ⟨c.toNat, c.toNat_lt⟩
      have e : UInt8.ofNat c.toNat = c := by simp
      simp only [e] at h1
      unfold atoiOk at h1
      rw [hc] at h1
      cases ha : Lib.atoi [c] with
      | none => rw [ha] at h1; right; simp at h1; exact ⟨rfl, h1.1, h1.2⟩
      | some v => rw [ha] at h1; left; simp at h1; exact ⟨by rw [h1.2], h1.1⟩
    · rw [hd, if_neg hc]; right; exact ⟨rfl, rfl, rfl⟩












theorem hasPrefix_any (s p : ByteArray) (w : World) : Calls Tryz.prog 86 #[.string s, .string p] w fun e w' => e = .returned (.bool (preP p.data.toList s.data.toList)) ∧ w = w' :=
  (Any.strings_HasPrefix lays99 s p w).mono fun _ _ hh => ⟨hh.1, hh.2.symm⟩
theorem needs_ok_less (x : RS) (p : List UInt8) (h : (x.needs p).ok = true) : x.ok = true ∧ (x.needs p).s.length + p.length = x.s.length := by
  have h2 : (p.isPrefixOf x.s && x.ok) = true := h
  rw [Bool.and_eq_true] at h2
  exact ⟨h2.2, (word_less x p).2.1 h2.1⟩
theorem rune_ok_less (x : RS) (h : x.rune.ok = true) : x.ok = true := by
  unfold RS.rune at h
  simp only [Bool.and_eq_true] at h
  exact h.1
theorem byte_ok_less (x : RS) (h : x.byte.ok = true) : x.ok = true := by
  unfold RS.byte at h
  simp only [Bool.and_eq_true] at h
  exact h.1
theorem char_less (x : RS) : (charS x).s.length ≤ x.s.length ∧ (charS x).t.length = x.t.length + 1 ∧ (charS x).c = x.c ∧ ((charS x).ok = true → x.ok = true ∧ (charS x).s.length < x.s.length) := by
  unfold charS
  obtain ⟨a1, a2, a3⟩ := needs_less x [60, 85]
  obtain ⟨b1, b2, b3⟩ := rune_less (x.needs [60, 85])
  obtain ⟨c1, c2, c3⟩ := needs_less (x.needs [60, 85]).rune [62]
  refine ⟨by omega, by rw [c3, b2, a3], by rw [c2, b3, a2], fun h => ?_⟩
  obtain ⟨h1, h2⟩ := needs_ok_less _ _ h
  obtain ⟨h3, h4⟩ := needs_ok_less _ _ (rune_ok_less _ h1)
  have h2 : _ + 1 = _ := h2
  exact ⟨h3, by omega⟩
theorem code_less (x : RS) : (codeS x).s.length ≤ x.s.length ∧ (codeS x).c.length = x.c.length + 1 ∧ (codeS x).t = x.t ∧ ((codeS x).ok = true → x.ok = true ∧ (codeS x).s.length < x.s.length) := by
  unfold codeS
  obtain ⟨a1, a2, a3⟩ := needs_less x [92, 120]
  obtain ⟨b1, b2, b3⟩ := byte_le (x.needs [92, 120])
  refine ⟨by omega, by rw [b2, a2], by rw [b3, a3], fun h => ?_⟩
  obtain ⟨h3, h4⟩ := needs_ok_less _ _ (byte_ok_less _ h)
  have h4 : _ + 2 = _ := h4
  exact ⟨h3, by omega⟩
theorem charsS_stop (n : Nat) (x : RS) (h : ¬ (x.ok = true ∧ [60].isPrefixOf x.s = true)) : charsS n x = x := by
  cases n with
  | zero => rfl
  | succ n =>
    show (if _ ∧ _ then _ else _) = _
    rw [if_neg h]
theorem charsS_step (n : Nat) (x : RS) (h : x.ok = true ∧ [60].isPrefixOf x.s = true) : charsS (n + 1) x = charsS n (charS x) := by
  show (if _ ∧ _ then _ else _) = _
  rw [if_pos h]
theorem codesS_stop (n : Nat) (x : RS) (h : ¬ (x.ok = true ∧ [92].isPrefixOf x.s = true)) : codesS n x = x := by
  cases n with
  | zero => rfl
  | succ n =>
    show (if _ ∧ _ then _ else _) = _
    rw [if_neg h]
theorem codesS_step (n : Nat) (x : RS) (h : x.ok = true ∧ [92].isPrefixOf x.s = true) : codesS (n + 1) x = codesS n (codeS x) := by
  show (if _ ∧ _ then _ else _) = _
  rw [if_pos h]









































































































































































































































































































































end Go.Proofs.YtkfjmcidcnpijaaGreatDoor.Mf
