/- Walks: slices.Index, Contains and Clone of strings; policy.New on good keys. -/
import Derived.Test.YtkphecmdilefgaaDoorG19
namespace Go.Proofs.YtkphecmdilefgaaDoor.Sg
open Go.RowKit Pl Go.Lib

/-- Strings as cells. -/
def strs (l : List ByteArray) : List Value := l.map Value.string
theorem strs_length (l : List ByteArray) : (strs l).length = l.length := by simp [strs]
theorem strs_append (a b : List ByteArray) : strs (a ++ b) = strs a ++ strs b := by simp [strs]
theorem infoStr : (Tryd.prog.info? StrT).map (fun i => (i.zero, i.size, i.bytes)) = some (some (.string ⟨#[]⟩), 1, 16) := by kernel_rfl
theorem Rd.str_at {w : World} {A : Option Addr} {n : Nat} {l : List ByteArray} (h : Rd w A n (strs l)) {k : Nat} (hk : k < l.length) :
    ∃ b o, A = some ⟨b, o, none⟩ ∧ b < w.heap.size ∧ w.cell? ⟨b, o + k, none⟩ = some (.string l[k]) := by
  obtain ⟨b, o, e, hlt, hc⟩ := h.2 (by rw [← h.1, strs_length]; omega)
  exact ⟨b, o, e, hlt, hc k _ (by simp [strs, hk])⟩
theorem Rd.str_len {w : World} {A : Option Addr} {n : Nat} {l : List ByteArray} (h : Rd w A n (strs l)) : l.length = n := by rw [← h.1, strs_length]
/-- Is the string among them? -/
def hasS (x : ByteArray) (l : List ByteArray) : Bool := l.any fun y => x.toList == y.toList
set_option maxRecDepth 100000 in
theorem indexS_any (A : Option Addr) (n c : Nat) (l : List ByteArray) (x : ByteArray) (w : World) (h1 : Rd w A n (strs l)) (hsm : n ≤ 1000000000) :
    Calls Tryd.prog 45 #[.slice A n c, .string x] w fun e w' => ∃ i : Int, e = .returned (.int .i64 i) ∧ decide (0 ≤ i) = hasS x l ∧ w' = w := by
  obtain rfl := Rd.str_len h1
  have H1 := Lib.hid h1
  clear h1
  go_enter Tryd.func45, Tryd.ntmps45
  go_wp2
  go_loopw [8] (fun i wr => ∃ k : Nat, k ≤ l.length ∧ i = .int .i64 k ∧ hasS x (l.take k) = false ∧ wr = w) (fun i _ => l.length - (intOf i).toNat)
  case atStart => exact ⟨0, Nat.zero_le _, rfl, rfl, rfl⟩
  case round =>
    obtain ⟨k, hk, rfl, hnot, rfl⟩ := hrel
    have HN := Lib.hid hnot
    clear hnot
    by_cases hlt : k < l.length
    · obtain ⟨b1, o1, rfl, hb1, hc1⟩ := Rd.str_at H1.out hlt
      have htk : l.take (k + 1) = l.take k ++ [l[k]] := List.take_succ_eq_append_getElem hlt
      have hin : l[k] ∈ l := List.getElem_mem hlt
      have j0 : (0 : Int) ≤ (k : Int) := by omega
      have j1 : (k : Int) < (l.length : Int) := by omega
      generalize l[k] = y at *
      have HT := Lib.hid htk; have HI := Lib.hid hin
      clear hb1 htk hin
      cases e3 : x.toList == y.toList
      rotate_left
      · have HE : Hid (hasS x l = true) := Lib.hid (List.any_eq_true.2 ⟨y, HI.out, e3⟩)
        go_wp2
        go_returns
        exact ⟨_, rfl, by rw [HE.out]; exact decide_eq_true (by omega), rfl⟩
      · have HE : Hid (hasS x (l.take (k + 1)) = false) := Lib.hid (by rw [HT.out]; unfold hasS at *; rw [List.any_append, HN.out]; simpa using e3)
        go_wp2
        go_roundw
        case rel => exact ⟨k + 1, by omega, by go_num, HE.out, trivial⟩
        case measure => simp [intOf]; omega
    · obtain rfl : k = l.length := by omega
      rw [List.take_of_length_le (Nat.le_refl _)] at HN
      go_wp2
      go_returns
      exact ⟨_, rfl, by rw [HN.out]; rfl, rfl⟩
theorem containsS_any (A : Option Addr) (n c : Nat) (l : List ByteArray) (x : ByteArray) (w : World) (h1 : Rd w A n (strs l)) (hsm : n ≤ 1000000000) :
    Calls Tryd.prog 34 #[.slice A n c, .string x] w fun e w' => e = .returned (.bool (hasS x l)) ∧ w' = w := by
  have HI := Lib.hid (indexS_any A n c l x w h1 hsm)
  clear h1
  go_enter Tryd.func34, Tryd.ntmps34
  go_wp2_with fail
  refine HI.out.mono ?_
  rintro _ w' ⟨i, rfl, hi, rfl⟩
  have HI := Lib.hid hi
  clear hi
  go_wp2_with fail
  go_returns
  exact ⟨congrArg (fun b => Ending.returned (.bool b)) HI.out, rfl⟩
theorem toList_loop (b : ByteArray) : ∀ (m i : Nat) (r : List UInt8), b.size - i = m → ByteArray.toList.loop b i r = r.reverse ++ b.data.toList.drop i := by
  intro m
  induction m with
  | zero =>
    intro i r h
    unfold ByteArray.toList.loop
    rw [if_neg (by omega), List.drop_eq_nil_of_le (by rw [Array.length_toList]; exact (by omega : b.size ≤ i)), List.append_nil]
  | succ m ih =>
    intro i r h
    unfold ByteArray.toList.loop
    have hi : i < b.data.toList.length := by rw [Array.length_toList]; exact (by omega : i < b.size)
    rw [if_pos (by omega), ih (i + 1) _ (by omega), List.drop_eq_getElem_cons hi]
    have : b.get! i = b.data.toList[i] := by
      obtain ⟨d⟩ := b
      show d[i]! = _
      rw [getElem!_pos d i (by rw [Array.length_toList] at hi; exact hi)]
      rfl
    rw [this]
    simp
theorem ba_toList (b : ByteArray) : b.toList = b.data.toList := by
  unfold ByteArray.toList
  rw [toList_loop b _ 0 [] rfl]
  rfl
theorem hasS_nil (l : List ByteArray) (h : ∀ s ∈ l, 0 < s.size) : hasS ⟨#[]⟩ l = false := by
  unfold hasS
  rw [List.any_eq_false]
  intro s hs
  have := h s hs
  rw [ba_toList, ba_toList]
  intro he
  have he : ([] : List UInt8) = s.data.toList := by simpa using he
  have h2 : s.data.toList.length = s.size := Array.length_toList
  rw [← he] at h2
  simp at h2
  omega
end Go.Proofs.YtkphecmdilefgaaDoor.Sg
