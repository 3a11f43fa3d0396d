/- Words for rows; walks: slices.Index, Contains and Clone of strings, Clone of rows. -/
import Derived.Test.YtkfjmcidcnpijaaGreatDoorGE0
import Derived.Deep.CutRange
import Derived.Deep.DeepCutAuto
import Derived.Deep.RegionLaw
import Derived.Deep.RegionHeld3
namespace Go.Proofs.YtkfjmcidcnpijaaGreatDoor.Sg
open Go.RowKit Pl Go.Lib Go.Maps Go.WideMaps

theorem own_pos {w : World} {B n : Nat} {e : TypeId} {v : Value} {xs : List Value} (h : w.ownsRow B e 1 v n xs) (hn : 0 < n) : ∃ g c, v = .slice (some ⟨g, 0, none⟩) n c := by
  rcases own_shape h with ⟨_, h⟩ | h
  · omega
  · exact h
theorem one_cell (w : World) (x : Value) (T : TypeId) : ∀ j u, [x][j]? = some u → (w.alloc (.cells #[x] T)).cell? ((⟨w.heap.size, 0, none⟩ : Addr).add j) = some u := by
  intro j u hj
  match j, hj with
  | 0, hj => simp at hj; subst hj; simp [Addr.add]
theorem lies_loc {v : Value} {g K m n c : Nat} (h : v.ownBlock = some g ∨ g = K) (hH : m ≤ K) : (Value.slice (some ⟨g, 0, none⟩) n c).ownBlock = v.ownBlock ∨ ∃ j, (Value.slice (some ⟨g, 0, none⟩) n c).ownBlock = some j ∧ m ≤ j := by
  rcases h with h | h
  · exact .inl h.symm
  · exact .inr ⟨g, rfl, by omega⟩
/-- Strings as cells. -/
def strs (l : List ByteArray) : List Value := l.map Value.string
theorem strs_length (l : List ByteArray) : (strs l).length = l.length := by simp [strs]
theorem strs_append (a b : List ByteArray) : strs (a ++ b) = strs a ++ strs b := by simp [strs]
theorem infoStr : (Tryz.prog.info? StrT).map (fun i => (i.zero, i.size, i.bytes)) = some (some (.string ⟨#[]⟩), 1, 16) := by kernel_rfl
theorem Rd.str_at {w : World} {A : Option Addr} {n : Nat} {l : List ByteArray} (h : Rd w A n (strs l)) {k : Nat} (hk : k < l.length) :
    ∃ b o, A = some ⟨b, o, none⟩ ∧ b < w.heap.size ∧ w.cell? ⟨b, o + k, none⟩ = some (.string l[k]) := by
  obtain ⟨b, o, e, hlt, hc⟩ := h.2 (by rw [← h.1, strs_length]; omega)
  exact ⟨b, o, e, hlt, hc k _ (by simp [strs, hk])⟩
theorem Rd.str_len {w : World} {A : Option Addr} {n : Nat} {l : List ByteArray} (h : Rd w A n (strs l)) : l.length = n := by rw [← h.1, strs_length]
/-- Is the string among them? -/
def hasS (x : ByteArray) (l : List ByteArray) : Bool := l.any fun y => x.toList == y.toList
set_option maxRecDepth 100000 in
theorem indexS_any (A : Option Addr) (n c : Nat) (l : List ByteArray) (x : ByteArray) (w : World) (h1 : Rd w A n (strs l)) (hsm : n ≤ 1000000000) :
    Calls Tryz.prog 40 #[.slice A n c, .string x] w fun e w' => ∃ i : Int, e = .returned (.int .i64 i) ∧ decide (0 ≤ i) = hasS x l ∧ w' = w := by
  obtain rfl := Rd.str_len h1
  have H1 := Lib.hid h1
  clear h1
  go_enter Tryz.func40, Tryz.ntmps40
  go_wp2
  go_loopw [8] (fun i wr => ∃ k : Nat, k ≤ l.length ∧ i = .int .i64 k ∧ hasS x (l.take k) = false ∧ wr = w) (fun i _ => l.length - (intOf i).toNat)
  case atStart => exact ⟨0, Nat.zero_le _, rfl, rfl, rfl⟩
  case round =>
    obtain ⟨k, hk, rfl, hnot, rfl⟩ := hrel
    have HN := Lib.hid hnot
    clear hnot
    by_cases hlt : k < l.length
    · obtain ⟨b1, o1, rfl, hb1, hc1⟩ := Rd.str_at H1.out hlt
      have htk : l.take (k + 1) = l.take k ++ [l[k]] := List.take_succ_eq_append_getElem hlt
      have hin : l[k] ∈ l := List.getElem_mem hlt
      have j0 : (0 : Int) ≤ (k : Int) := by omega
      have j1 : (k : Int) < (l.length : Int) := by omega
      generalize l[k] = y at *
      have HT := Lib.hid htk; have HI := Lib.hid hin
      clear hb1 htk hin
      cases e3 : x.toList == y.toList
      rotate_left
      · have HE : Hid (hasS x l = true) := Lib.hid (List.any_eq_true.2 ⟨y, HI.out, e3⟩)
        go_wp2
        go_returns
        exact ⟨_, rfl, by rw [HE.out]; exact decide_eq_true (by omega), rfl⟩
      · have HE : Hid (hasS x (l.take (k + 1)) = false) := Lib.hid (by rw [HT.out]; unfold hasS at *; rw [List.any_append, HN.out]; simpa using e3)
        go_wp2
        go_roundw
        case rel => exact ⟨k + 1, by omega, by go_num, HE.out, trivial⟩
        case measure => simp [intOf]; omega
    · obtain rfl : k = l.length := by omega
      rw [List.take_of_length_le (Nat.le_refl _)] at HN
      go_wp2
      go_returns
      exact ⟨_, rfl, by rw [HN.out]; rfl, rfl⟩
theorem containsS_any (A : Option Addr) (n c : Nat) (l : List ByteArray) (x : ByteArray) (w : World) (h1 : Rd w A n (strs l)) (hsm : n ≤ 1000000000) :
    Calls Tryz.prog 23 #[.slice A n c, .string x] w fun e w' => e = .returned (.bool (hasS x l)) ∧ w' = w := by
  have HI := Lib.hid (indexS_any A n c l x w h1 hsm)
  clear h1
  go_enter Tryz.func23, Tryz.ntmps23
  go_wp2_with fail
  refine HI.out.mono ?_
  rintro _ w' ⟨i, rfl, hi, rfl⟩
  have HI := Lib.hid hi
  clear hi
  go_wp2_with fail
  go_returns
  exact ⟨congrArg (fun b => Ending.returned (.bool b)) HI.out, rfl⟩
theorem toList_loop (b : ByteArray) : ∀ (m i : Nat) (r : List UInt8), b.size - i = m → ByteArray.toList.loop b i r = r.reverse ++ b.data.toList.drop i := by
  intro m
  induction m with
  | zero =>
    intro i r h
    unfold ByteArray.toList.loop
    rw [if_neg (by omega), List.drop_eq_nil_of_le (by rw [Array.length_toList]; exact (by omega : b.size ≤ i)), List.append_nil]
  | succ m ih =>
    intro i r h
    unfold ByteArray.toList.loop
    have hi : i < b.data.toList.length := by rw [Array.length_toList]; exact (by omega : i < b.size)
    rw [if_pos (by omega), ih (i + 1) _ (by omega), List.drop_eq_getElem_cons hi]
    have : b.get! i = b.data.toList[i] := by
      obtain ⟨d⟩ := b
      show d[i]! = _
      rw [getElem!_pos d i (by rw [Array.length_toList] at hi; exact hi)]
      rfl
    rw [this]
    simp
theorem ba_toList (b : ByteArray) : b.toList = b.data.toList := by
  unfold ByteArray.toList
  rw [toList_loop b _ 0 [] rfl]
  rfl
theorem hasS_nil (l : List ByteArray) (h : ∀ s ∈ l, 0 < s.size) : hasS ⟨#[]⟩ l = false := by
  unfold hasS
  rw [List.any_eq_false]
  intro s hs
  have := h s hs
  rw [ba_toList, ba_toList]
  intro he
  have he : ([] : List UInt8) = s.data.toList := by simpa using he
  have h2 : s.data.toList.length = s.size := Array.length_toList
  rw [← he] at h2
  simp at h2
  omega
theorem own_slice {w : World} {B e sz n : Nat} {v : Value} {xs : List Value} (h : w.ownsRow B e sz v n xs) : ∃ A n c, v = .slice A n c := by
  rcases h.2 with ⟨rfl, _⟩ | ⟨g, cap, cur, rfl, _⟩
  · exact ⟨_, _, _, rfl⟩
  · exact ⟨_, _, _, rfl⟩
set_option maxRecDepth 100000 in
theorem cloneS_any (B2 : Nat) (vc : Value) (l : List ByteArray) (w : World) (hc : w.ownsRow B2 StrT 1 vc l.length (strs l)) (hl : l.length ≤ 1000000) :
    Calls Tryz.prog 69 #[vc] w fun e w' => ∃ A n c, e = .returned (.slice A n c) ∧ Below w.heap.size w w' := by
  rcases own_shape hc with ⟨rfl, h1⟩ | ⟨g, c, rfl⟩
  · have hq : ∀ w, (binOp .eql 71 (.slice none 0 0) (.slice none 0 0)).run Tryz.prog w = .ok (.bool true) w := fun _ => rfl
    clear hc
    go_enter Tryz.func69, Tryz.ntmps69
    go_wp2_with fail
    go_returns
    exact ⟨_, _, _, rfl, Below.refl _ _⟩
  have HC := Lib.hid hc
  have HO : Hid ((w.alloc (.cells #[] StrT)).ownsRow w.heap.size StrT 1 (.slice (some ⟨w.heap.size, 0, none⟩) 0 0) 0 []) := World.ownsRow_made w #[] 0 (Nat.le_refl _) (by decide) rfl
  have hq : ∀ w, (binOp .eql 71 (.slice (some ⟨g, 0, none⟩) l.length c) (.slice none 0 0)).run Tryz.prog w = .ok (.bool false) w := fun _ => rfl
  obtain ⟨i0, hi, hz0, hz1, hz2⟩ := info_parts infoStr
  clear hc
  go_enter Tryz.func69, Tryz.ntmps69
  go_wp2_with (at_builtin; go_loud (refine wpList_append_own_at _ rfl _ _ 71 rfl w.heap.size StrT i0 (.string ⟨#[]⟩) 1 16 Tryz.underlying71 hi hz0 hz1 hz2 rfl (by decide) (.slice (some ⟨w.heap.size, 0, none⟩) 0 0) 0 [] rfl HO.out ⟨g, 0, none⟩ l.length c (strs l) rfl (by rw [strs_length, Nat.mul_one]) (fun j u hu => (HC.out.alloc _).cells (g := g) rfl j u hu) (fun u hu => by { obtain ⟨r, _, rfl⟩ := List.mem_map.1 hu; rfl }) (by unfold maxLen; omega) (by omega) (by simp) ?_); intro v w1 ho hgr _ _; obtain ⟨Av, nv, cv, rfl⟩ := own_slice ho)
  have hb1 : Below w.heap.size w w1 := ((Below.refl w.heap.size w).alloc (Nat.le_refl _) _).grown hgr (by simp) (fun k hk => by simp [Value.ownBlock] at hk; omega)
  go_returns
  exact ⟨_, _, _, rfl, hb1⟩
abbrev RowT : TypeId := 50
theorem infoRow : (Tryz.prog.info? RowT).map (fun i => (i.zero, i.size, i.bytes)) = some (some (.agg #[.string ⟨#[]⟩, .string ⟨#[]⟩, .int .i64 0]), 3, 40) := by kernel_rfl
/-- The cells of rows. -/
def rowcells (l : List RowV) : List Value := l.flatMap fun r => [.string r.code, .string r.text, .int .i64 r.flag]
theorem rowcells_length (l : List RowV) : (rowcells l).length = l.length * 3 := by
  unfold rowcells
  induction l with
  | nil => rfl
  | cons a l ih => simp [ih]; omega
theorem rowcells_at : ∀ (l : List RowV) (j : Nat) (u : Value), (rowcells l)[j]? = some u → ∃ (i : Nat) (h : i < l.length), (j = i * 3 ∧ u = .string l[i].code) ∨ (j = i * 3 + 1 ∧ u = .string l[i].text) ∨ (j = i * 3 + 2 ∧ u = .int .i64 l[i].flag)
  | [], j, u, h => by simp [rowcells] at h
  | a :: l, 0, u, h => ⟨0, by simp, .inl ⟨rfl, by simpa [rowcells] using h.symm⟩⟩
  | a :: l, 1, u, h => ⟨0, by simp, .inr (.inl ⟨rfl, by simpa [rowcells] using h.symm⟩)⟩
  | a :: l, 2, u, h => ⟨0, by simp, .inr (.inr ⟨rfl, by simpa [rowcells] using h.symm⟩)⟩
  | a :: l, j + 3, u, h => by
    obtain ⟨i, hi, h⟩ := rowcells_at l j u (by simpa [rowcells] using h)
    refine ⟨i + 1, by simpa using hi, ?_⟩
    rcases h with ⟨h1, h2⟩ | ⟨h1, h2⟩ | ⟨h1, h2⟩
    · exact .inl ⟨by omega, by simpa using h2⟩
    · exact .inr (.inl ⟨by omega, by simpa using h2⟩)
    · exact .inr (.inr ⟨by omega, by simpa using h2⟩)
set_option maxRecDepth 100000 in
theorem cloneRow_any (A : Option Addr) (c : Nat) (l : List RowV) (w : World) (hR : RowsAt w A l) (hl : l.length ≤ 1000000) :
    Calls Tryz.prog 44 #[.slice A l.length c] w fun e w' => ∃ A n c, e = .returned (.slice A n c) ∧ Below w.heap.size w w' := by
  cases A with
  | none =>
    have hn : l = [] := by
      cases l with
      | nil => rfl
      | cons a l => obtain ⟨b, o, h, _⟩ := hR (by simp); cases h
    subst hn
    have hq : ∀ w, (binOp .eql 39 (.slice none 0 c) (.slice none 0 0)).run Tryz.prog w = .ok (.bool true) w := fun _ => rfl
    clear hR
    go_enter Tryz.func44, Tryz.ntmps44
    go_wp2_with fail
    go_returns
    exact ⟨_, _, _, rfl, Below.refl _ _⟩
  | some ad =>
    have hb : Below w.heap.size w (w.alloc (.cells #[] RowT)) := (Below.refl _ _).alloc (Nat.le_refl _) _
    have hcell : ∀ j u, (rowcells l)[j]? = some u → (w.alloc (.cells #[] RowT)).cell? (ad.add j) = some u := by
      intro j u hu
      obtain ⟨i, hi, h⟩ := rowcells_at l j u hu
      obtain ⟨b, o, e, _, c0, c1, c2⟩ := (hR.keep hb).at_ hi
      injection e with e
      subst e
      rw [Addr.add_lit]
      rcases h with ⟨h1, h2⟩ | ⟨h1, h2⟩ | ⟨h1, h2⟩
      · rw [h1, h2]; exact c0
      · rw [h1, h2]; exact c1
      · rw [h1, h2]; exact c2
    have HC := Lib.hid hcell
    have HO : Hid ((w.alloc (.cells #[] RowT)).ownsRow w.heap.size RowT 3 (.slice (some ⟨w.heap.size, 0, none⟩) 0 0) 0 []) := World.ownsRow_made w #[] 0 (Nat.le_refl _) (by decide) rfl
    have hq : ∀ w, (binOp .eql 39 (.slice (some ad) l.length c) (.slice none 0 0)).run Tryz.prog w = .ok (.bool false) w := fun _ => rfl
    obtain ⟨i0, hi, hz0, hz1, hz2⟩ := info_parts infoRow
    clear hR hcell hb
    go_enter Tryz.func44, Tryz.ntmps44
    go_wp2_with (at_builtin; go_loud (refine wpList_append_own_at _ rfl _ _ 39 rfl w.heap.size RowT i0 (.agg #[.string ⟨#[]⟩, .string ⟨#[]⟩, .int .i64 0]) 3 40 Tryz.underlying39 hi hz0 hz1 hz2 rfl (by decide) (.slice (some ⟨w.heap.size, 0, none⟩) 0 0) 0 [] rfl HO.out ad l.length c (rowcells l) rfl (rowcells_length l) HC.out (fun u hu => by { unfold rowcells at hu; obtain ⟨r, _, h⟩ := List.mem_flatMap.1 hu; simp at h; rcases h with rfl | rfl | rfl <;> rfl }) (by unfold maxLen; omega) (by omega) (by simp) ?_); intro v w1 ho hgr _ _; obtain ⟨Av, nv, cv, rfl⟩ := own_slice ho)
    have hb1 : Below w.heap.size w w1 := ((Below.refl w.heap.size w).alloc (Nat.le_refl _) _).grown hgr (by simp) (fun k hk => by simp [Value.ownBlock] at hk; omega)
    go_returns
    exact ⟨_, _, _, rfl, hb1⟩
theorem own_str_rd {w : World} {B g c : Nat} {l : List ByteArray} (h : w.ownsRow B StrT 1 (.slice (some ⟨g, 0, none⟩) l.length c) l.length (strs l)) : Rd w (some ⟨g, 0, none⟩) l.length (strs l) :=
  ⟨strs_length _, fun _ => ⟨g, 0, rfl, (h.lt g rfl).2, fun j x hx => by rw [Nat.zero_add]; exact own_cell h x hx⟩⟩
end Go.Proofs.YtkfjmcidcnpijaaGreatDoor.Sg
