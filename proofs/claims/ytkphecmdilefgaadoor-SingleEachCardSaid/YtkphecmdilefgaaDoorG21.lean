/- Walks: slices.Clone of strings and of rows; policy.New on good keys. -/
import Derived.Test.YtkphecmdilefgaaDoorG20
namespace Go.Proofs.YtkphecmdilefgaaDoor.Sg
open Go.RowKit Pl Go.Lib

theorem own_slice {w : World} {B e sz n : Nat} {v : Value} {xs : List Value} (h : w.ownsRow B e sz v n xs) : ∃ A n c, v = .slice A n c := by
  rcases h.2 with ⟨rfl, _⟩ | ⟨g, cap, cur, rfl, _⟩
  · exact ⟨_, _, _, rfl⟩
  · exact ⟨_, _, _, rfl⟩
set_option maxRecDepth 100000 in
theorem cloneS_any (B2 : Nat) (vc : Value) (l : List ByteArray) (w : World) (hc : w.ownsRow B2 StrT 1 vc l.length (strs l)) (hl : l.length ≤ 1000000) :
    Calls Tryd.prog 53 #[vc] w fun e w' => ∃ A n c, e = .returned (.slice A n c) ∧ Below w.heap.size w w' := by
  rcases own_shape hc with ⟨rfl, h1⟩ | ⟨g, c, rfl⟩
  · have hq : ∀ w, (binOp .eql 87 (.slice none 0 0) (.slice none 0 0)).run Tryd.prog w = .ok (.bool true) w := fun _ => rfl
    clear hc
    go_enter Tryd.func53, Tryd.ntmps53
    go_wp2_with fail
    go_returns
    exact ⟨_, _, _, rfl, Below.refl _ _⟩
  have HC := Lib.hid hc
  have HO : Hid ((w.alloc (.cells #[] StrT)).ownsRow w.heap.size StrT 1 (.slice (some ⟨w.heap.size, 0, none⟩) 0 0) 0 []) := World.ownsRow_made w #[] 0 (Nat.le_refl _) (by decide) rfl
  have hq : ∀ w, (binOp .eql 87 (.slice (some ⟨g, 0, none⟩) l.length c) (.slice none 0 0)).run Tryd.prog w = .ok (.bool false) w := fun _ => rfl
  obtain ⟨i0, hi, hz0, hz1, hz2⟩ := info_parts infoStr
  clear hc
  go_enter Tryd.func53, Tryd.ntmps53
  go_wp2_with (at_builtin; go_loud (refine wpList_append_own_at _ rfl _ _ 87 rfl w.heap.size StrT i0 (.string ⟨#[]⟩) 1 16 Tryd.underlying87 hi hz0 hz1 hz2 rfl (by decide) (.slice (some ⟨w.heap.size, 0, none⟩) 0 0) 0 [] rfl HO.out ⟨g, 0, none⟩ l.length c (strs l) rfl (by rw [strs_length, Nat.mul_one]) (fun j u hu => (HC.out.alloc _).cells (g := g) rfl j u hu) (fun u hu => by { obtain ⟨r, _, rfl⟩ := List.mem_map.1 hu; rfl }) (by unfold maxLen; omega) (by omega) (by simp) ?_); intro v w1 ho hgr _ _; obtain ⟨Av, nv, cv, rfl⟩ := own_slice ho)
  have hb1 : Below w.heap.size w w1 := ((Below.refl w.heap.size w).alloc (Nat.le_refl _) _).grown hgr (by simp) (fun k hk => by simp [Value.ownBlock] at hk; omega)
  go_returns
  exact ⟨_, _, _, rfl, hb1⟩
abbrev RowT : TypeId := 60
theorem infoRow : (Tryd.prog.info? RowT).map (fun i => (i.zero, i.size, i.bytes)) = some (some (.agg #[.string ⟨#[]⟩, .string ⟨#[]⟩, .int .i64 0]), 3, 40) := by kernel_rfl
/-- The cells of rows. -/
def rowcells (l : List RowV) : List Value := l.flatMap fun r => [.string r.code, .string r.text, .int .i64 r.flag]
theorem rowcells_length (l : List RowV) : (rowcells l).length = l.length * 3 := by
  unfold rowcells
  induction l with
  | nil => rfl
  | cons a l ih => simp [ih]; omega
theorem rowcells_at : ∀ (l : List RowV) (j : Nat) (u : Value), (rowcells l)[j]? = some u → ∃ (i : Nat) (h : i < l.length), (j = i * 3 ∧ u = .string l[i].code) ∨ (j = i * 3 + 1 ∧ u = .string l[i].text) ∨ (j = i * 3 + 2 ∧ u = .int .i64 l[i].flag)
  | [], j, u, h => by simp [rowcells] at h
  | a :: l, 0, u, h => ⟨0, by simp, .inl ⟨rfl, by simpa [rowcells] using h.symm⟩⟩
  | a :: l, 1, u, h => ⟨0, by simp, .inr (.inl ⟨rfl, by simpa [rowcells] using h.symm⟩)⟩
  | a :: l, 2, u, h => ⟨0, by simp, .inr (.inr ⟨rfl, by simpa [rowcells] using h.symm⟩)⟩
  | a :: l, j + 3, u, h => by
    obtain ⟨i, hi, h⟩ := rowcells_at l j u (by simpa [rowcells] using h)
    refine ⟨i + 1, by simpa using hi, ?_⟩
    rcases h with ⟨h1, h2⟩ | ⟨h1, h2⟩ | ⟨h1, h2⟩
    · exact .inl ⟨by omega, by simpa using h2⟩
    · exact .inr (.inl ⟨by omega, by simpa using h2⟩)
    · exact .inr (.inr ⟨by omega, by simpa using h2⟩)
set_option maxRecDepth 100000 in
theorem cloneRow_any (A : Option Addr) (c : Nat) (l : List RowV) (w : World) (hR : RowsAt w A l) (hl : l.length ≤ 1000000) :
    Calls Tryd.prog 39 #[.slice A l.length c] w fun e w' => ∃ A n c, e = .returned (.slice A n c) ∧ Below w.heap.size w w' := by
  cases A with
  | none =>
    have hn : l = [] := by
      cases l with
      | nil => rfl
      | cons a l => obtain ⟨b, o, h, _⟩ := hR (by simp); cases h
    subst hn
    have hq : ∀ w, (binOp .eql 22 (.slice none 0 c) (.slice none 0 0)).run Tryd.prog w = .ok (.bool true) w := fun _ => rfl
    clear hR
    go_enter Tryd.func39, Tryd.ntmps39
    go_wp2_with fail
    go_returns
    exact ⟨_, _, _, rfl, Below.refl _ _⟩
  | some ad =>
    have hb : Below w.heap.size w (w.alloc (.cells #[] RowT)) := (Below.refl _ _).alloc (Nat.le_refl _) _
    have hcell : ∀ j u, (rowcells l)[j]? = some u → (w.alloc (.cells #[] RowT)).cell? (ad.add j) = some u := by
      intro j u hu
      obtain ⟨i, hi, h⟩ := rowcells_at l j u hu
      obtain ⟨b, o, e, _, c0, c1, c2⟩ := (hR.keep hb).at_ hi
      injection e with e
      subst e
      rw [Addr.add_lit]
      rcases h with ⟨h1, h2⟩ | ⟨h1, h2⟩ | ⟨h1, h2⟩
      · rw [h1, h2]; exact c0
      · rw [h1, h2]; exact c1
      · rw [h1, h2]; exact c2
    have HC := Lib.hid hcell
    have HO : Hid ((w.alloc (.cells #[] RowT)).ownsRow w.heap.size RowT 3 (.slice (some ⟨w.heap.size, 0, none⟩) 0 0) 0 []) := World.ownsRow_made w #[] 0 (Nat.le_refl _) (by decide) rfl
    have hq : ∀ w, (binOp .eql 22 (.slice (some ad) l.length c) (.slice none 0 0)).run Tryd.prog w = .ok (.bool false) w := fun _ => rfl
    obtain ⟨i0, hi, hz0, hz1, hz2⟩ := info_parts infoRow
    clear hR hcell hb
    go_enter Tryd.func39, Tryd.ntmps39
    go_wp2_with (at_builtin; go_loud (refine wpList_append_own_at _ rfl _ _ 22 rfl w.heap.size RowT i0 (.agg #[.string ⟨#[]⟩, .string ⟨#[]⟩, .int .i64 0]) 3 40 Tryd.underlying22 hi hz0 hz1 hz2 rfl (by decide) (.slice (some ⟨w.heap.size, 0, none⟩) 0 0) 0 [] rfl HO.out ad l.length c (rowcells l) rfl (rowcells_length l) HC.out (fun u hu => by { unfold rowcells at hu; obtain ⟨r, _, h⟩ := List.mem_flatMap.1 hu; simp at h; rcases h with rfl | rfl | rfl <;> rfl }) (by unfold maxLen; omega) (by omega) (by simp) ?_); intro v w1 ho hgr _ _; obtain ⟨Av, nv, cv, rfl⟩ := own_slice ho)
    have hb1 : Below w.heap.size w w1 := ((Below.refl w.heap.size w).alloc (Nat.le_refl _) _).grown hgr (by simp) (fun k hk => by simp [Value.ownBlock] at hk; omega)
    go_returns
    exact ⟨_, _, _, rfl, hb1⟩
theorem own_str_rd {w : World} {B g c : Nat} {l : List ByteArray} (h : w.ownsRow B StrT 1 (.slice (some ⟨g, 0, none⟩) l.length c) l.length (strs l)) : Rd w (some ⟨g, 0, none⟩) l.length (strs l) :=
  ⟨strs_length _, fun _ => ⟨g, 0, rfl, (h.lt g rfl).2, fun j x hx => by rw [Nat.zero_add]; exact own_cell h x hx⟩⟩
set_option maxRecDepth 100000 in
theorem policyNew_any (B1 B2 : Nat) (vcs vks : Value) (cs : List ByteArray) (ks : List (Value × List Int)) (w : World) (hC : w.ownsRow B1 StrT 1 vcs cs.length (strs cs)) (hK : KeysV B2 w vks ks) (hlen : cs.length = ks.length)
    (hc0 : ∀ s ∈ cs, 0 < s.size) (h0 : ∀ p ∈ ks, goodKey p.2) (hd : (ks.map (·.2)).Nodup) (hn : ks.length ≤ 1000) :
    Calls Tryd.prog 42 #[smallI, vcs, vks] w fun e w' => ∃ p, e = .returned (.tuple #[.pointer p, .int .i64 0]) ∧ Below w.heap.size w w' := by
  have HN := Lib.hid (coverNew_any B2 vks ks w hK h0 hd hn)
  have hq2 := hasS_nil cs hc0
  obtain ⟨A1, c1, rfl, hrd⟩ : ∃ A c, vcs = .slice A cs.length c ∧ Rd w A cs.length (strs cs) := by
    rcases own_shape hC with ⟨rfl, h⟩ | ⟨g, c, rfl⟩
    · exact ⟨none, 0, by rw [h], ⟨strs_length _, fun h2 => by omega⟩⟩
    · exact ⟨_, _, rfl, own_str_rd hC⟩
  obtain ⟨A2, c2, rfl⟩ : ∃ A c, vks = .slice A ks.length c := by
    rcases own_shape hK.2 with ⟨rfl, h⟩ | ⟨g, c, rfl⟩
    · exact ⟨none, 0, by rw [h]⟩
    · exact ⟨_, _, rfl⟩
  have HC := Lib.hid hC
  have HR := Lib.hid hrd
  have e1 : ((cs.length : Int) == (ks.length : Int)) = true := by simp [hlen]
  have e2 : ((cs.length : Int) != (ks.length : Int)) = false := by simp [hlen]
  have HLEN := Lib.hid hlen
  clear hC hK hc0 h0 hd hrd hlen
  go_enter Tryd.func42, Tryd.ntmps42
  go_wp2_with fail
  refine HN.out.mono ?_
  rintro _ w1 ⟨rfl, hb1⟩
  have HX := Lib.hid (containsS_any A1 cs.length c1 cs ⟨#[]⟩ w1 (HR.out.keep hb1) (by have := HLEN.out; omega))
  have HCL := Lib.hid (cloneS_any B1 _ cs w1 (own_below HC.out hb1) (by have := HLEN.out; omega))
  go_wp2_with fail
  refine HX.out.mono ?_
  rintro _ _ ⟨rfl, rfl⟩
  go_wp2_with fail
  refine HCL.out.mono ?_
  rintro _ w2 ⟨v2, n2, k2, rfl, hb2⟩
  go_wp2_with fail
  go_returns
  exact ⟨_, rfl, (hb1.trans (hb2.mono hb1.size)).alloc (Nat.le_trans hb1.size hb2.size) _⟩
end Go.Proofs.YtkphecmdilefgaaDoor.Sg
