/- Walks: (*single.Table).Bytes with its test, single.pick. -/
import Derived.Test.YtkphecmdilefgaaDoorG34
import Derived.Deep.RegionLaw
namespace Go.Proofs.YtkphecmdilefgaaDoor.Sg
open Go.RowKit Pl Go.Lib

/-- Is a text a byte's? -/
def isB (l : List RowV) (cs : List Int) (n : Nat) : Bool := !(tx l n).toList.isEmpty && decide (runesL (tx l n).data.toList = cs)
def bytesOf (l : List RowV) (cs : List Int) : List Nat := (List.range 256).filter (isB l cs)
set_option maxRecDepth 100000 in
set_option maxHeartbeats 3200000 in
theorem isB_any (kt kl tb : Nat) (l : List RowV) (A : Option Addr) (c : Nat) (cs : List Int) (n : Nat) (hn : n < 256) (w : World) (h : TabOk w tb l) (hN : ∀ b : UInt8, (tx l b.toNat).size ≤ 1000) (hkt : w.cell? ⟨kt, 0, none⟩ = some (.pointer (some ⟨tb, 0, none⟩))) (hkl : w.cell? ⟨kl, 0, none⟩ = some (.slice A cs.length c)) (hkb : kl < w.heap.size)
    (hR : Rd w A cs.length (i32s cs)) (hcs : cs.length ≤ 1000000) :
    Calls Tryd.prog 31 #[.int .u8 (n : Int), .pointer (some ⟨kt, 0, none⟩), .pointer (some ⟨kl, 0, none⟩)] w fun e w' => e = .returned (.bool (isB l cs n)) ∧ Below w.heap.size w w' := by
  obtain ⟨ct, h1, h2, h3⟩ := h.mem
  have hc : w.cell? ⟨tb, 1 + n, none⟩ = some (.string (tx l n)) := by rw [h1.cell]; exact h3 _ hn
  have hsz : (tx l n).size ≤ 1000 := by
    have := hN (UInt8.ofNat n)
    rw [UInt8.toNat_ofNat_of_lt' (by show n < 256; exact hn)] at this
    exact this
  unfold isB
  generalize tx l n = t at *
  have j0 : (0 : Int) ≤ (n : Int) := by omega
  have j1 : (n : Int) < 256 := by omega
  have HR := Lib.hid hR
  clear h h1 h2 h3 hN hR
  cases he : t.toList.isEmpty
  rotate_left
  · have hE : (!true && decide (runesL t.data.toList = cs)) = false := rfl
    rw [hE]
    clear hE
    go_enter Tryd.func31, Tryd.ntmps31
    go_wp2_with fail
    go_quiet (fail)
    go_wp2_with fail
    go_returns
    exact ⟨rfl, bdN (Below.refl _ _) _⟩
  · obtain ⟨v, w2, hcv, hb2, htx⟩ := conv_text t (by omega) w.drew
    obtain ⟨Ac, cc, rfl, hrd⟩ := htx.rd
    have hE : (!false && decide (runesL t.data.toList = cs)) = decide (runesL t.data.toList = cs) := rfl
    rw [hE]
    have hlen := runesL_le t.data.toList
    rw [code_len] at hlen
    generalize runesL t.data.toList = K at *
    have hb02 : Below w.heap.size w w2 := (Below.refl _ _).drew.trans hb2
    have hkl2 : w2.cell? ⟨kl, 0, none⟩ = some (.slice A cs.length c) := (hb02.cell (p := ⟨kl, 0, none⟩) hkb).trans hkl
    have HEQ := Lib.hid (equal_any Ac K.length cc K A cs.length c cs w2 hrd (HR.out.keep hb02) (by omega))
    have HB2 := Lib.hid hb02
    obtain ⟨Z, hZ⟩ : ∃ Z, decide (K = cs) = Z := ⟨_, rfl⟩
    rw [hZ] at HEQ ⊢
    clear hE hlen htx hrd hb2 hb02 hsz hZ
    go_enter Tryd.func31, Tryd.ntmps31
    go_wp2_with fail
    go_region_law (go_simp; go_at_call 32; refine HEQ.out.mono ?_; rintro _ w3 ⟨rfl, m, rfl⟩)
    all_goals
      go_wp2_with fail
      go_returns
      exact ⟨rfl, bdN HB2.out m⟩
end Go.Proofs.YtkphecmdilefgaaDoor.Sg
