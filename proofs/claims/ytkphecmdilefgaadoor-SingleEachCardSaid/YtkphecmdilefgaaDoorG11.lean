/- Walk: inkhornref17's Text. -/
import Derived.Test.YtkphecmdilefgaaDoorG10a
import Derived.Laws.BytesArg
namespace Go.Proofs.YtkphecmdilefgaaDoor.Sg
open Go.RowKit Pl Go.Lib

/-- The text of a code for decoding. -/
def textOf (code : ByteArray) : List RRow → Option (List Int)
  | [] => none
  | r :: t => if ((r.flag != 1) && (r.code.toList == code.toList)) = true then some r.text else textOf code t
theorem textOf_at (code : ByteArray) (l : List RRow) (i : Nat) (hi : i < l.length) : textOf code (l.drop i) = if ((l[i].flag != 1) && (l[i].code.toList == code.toList)) = true then some l[i].text else textOf code (l.drop (i + 1)) := by
  rw [List.drop_eq_getElem_cons hi]
  rfl
/-- What Text answers. -/
def TextPost (w : World) (x : Option (List Int)) (e : Ending) (w' : World) : Prop :=
  ∃ v, e = .returned (.tuple #[v, .bool x.isSome]) ∧ TextAt w' v (x.getD []) ∧ Below w.heap.size w w'
set_option maxRecDepth 100000 in
set_option maxHeartbeats 1600000 in
theorem text_any (A : Option Addr) (c : Nat) (l : List RRow) (code : ByteArray) (w : World) (hR : RefsAt w A l) (hn : l.length ≤ 1048576) :
    Calls Tryd.prog 33 #[.slice A l.length c, .string code] w (TextPost w (textOf code l)) := by
  obtain ⟨Z, hZ⟩ : ∃ Z, textOf code l = Z := ⟨_, rfl⟩
  rw [hZ]
  have HR := Lib.hid hR
  have HZ : Hid (textOf code (l.drop 0) = Z) := Lib.hid hZ
  clear hR hZ
  go_enter Tryd.func33, Tryd.ntmps33
  go_wp2
  go_loopw [6] (fun vi wr => ∃ i : Nat, i ≤ l.length ∧ vi = .int .i64 i ∧ textOf code (l.drop i) = Z ∧ Drew w wr) (fun vi _ => l.length - (intOf vi).toNat)
  case atStart => exact ⟨0, Nat.zero_le _, rfl, HZ.out, 0, rfl⟩
  case round =>
    obtain ⟨i, hi, rfl, hz, m, rfl⟩ := hrel
    by_cases hlt : i < l.length
    · rw [textOf_at code l i hlt] at hz
      obtain ⟨bk, o, v, rfl, hbk, c0, c1, c2, htx⟩ := HR.out.at_ hlt
      obtain ⟨r, hr⟩ : ∃ r, l[i] = r := ⟨_, rfl⟩
      rw [hr] at hz c0 c2 htx
      obtain ⟨rc, rt, rf⟩ := r
      have hz : (if ((rf != 1) && (rc.toList == code.toList)) = true then some rt else textOf code (l.drop (i + 1))) = Z := hz
      have HTX := Lib.hid htx
      obtain ⟨At, ct, rfl, _⟩ := htx.rd
      have j0 : (0 : Int) ≤ (i : Int) := by omega
      have j1 : (i : Int) < (l.length : Int) := by omega
      clear hr htx
      cases hf : (rf != 1)
      · rw [hf, Bool.false_and, if_neg (by decide)] at hz
        have HZI := Lib.hid hz
        clear hz
        go_wp2_with fail
        go_roundw
        case rel => exact ⟨i + 1, by omega, by go_num, HZI.out, _, by first | rfl | exact World.drewN_drewN _ _ _⟩
        case measure => simp [intOf]; omega
      · cases he : (rc.toList == code.toList)
        · rw [hf, he, Bool.true_and, if_neg (by decide)] at hz
          have HZI := Lib.hid hz
          clear hz
          go_wp2_with fail
          go_roundw
          case rel => exact ⟨i + 1, by omega, by go_num, HZI.out, _, by first | rfl | exact World.drewN_drewN _ _ _⟩
          case measure => simp [intOf]; omega
        · rw [hf, he, Bool.true_and, if_pos rfl] at hz
          subst hz
          go_wp2_with fail
          go_returns
          exact ⟨_, rfl, HTX.out.keep (bdN (Below.refl _ _) _), bdN (Below.refl _ _) _⟩
    · obtain rfl : i = l.length := by omega
      rw [List.drop_eq_nil_of_le (Nat.le_refl _)] at hz
      have hz : none = Z := hz
      subst hz
      go_wp2_with fail
      go_returns
      exact ⟨_, rfl, .inl ⟨rfl, rfl⟩, bdN (Below.refl _ _) _⟩
end Go.Proofs.YtkphecmdilefgaaDoor.Sg
