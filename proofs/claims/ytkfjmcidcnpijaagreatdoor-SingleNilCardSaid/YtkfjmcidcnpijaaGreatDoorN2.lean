/- Plain: the program's way to tell a hex digit; what lies in memory where a line is read. -/
import Derived.Test.YtkfjmcidcnpijaaGreatDoorN1
import Derived.Lib.Bytealg
import Derived.Lib.Case
namespace Go.Proofs.YtkfjmcidcnpijaaGreatDoor.Mf

def hexU : List UInt8 := [48, 49, 50, 51, 52, 53, 54, 55, 56, 57, 65, 66, 67, 68, 69, 70]
def hexL : List UInt8 := [48, 49, 50, 51, 52, 53, 54, 55, 56, 57, 97, 98, 99, 100, 101, 102]
theorem lower_hex : Lib.toLowerA hexU = hexL := by decide
theorem hex_ascii : ∀ (j : Nat) (b : UInt8), hexU[j]? = some b → b.toNat < 128 := fun _ b hb => of_decide_eq_true (List.all_eq_true.1 (by decide : hexU.all (fun b => decide (b.toNat < 128)) = true) b (List.mem_of_getElem? hb))
def idxU (c : UInt8) : Int := Lib.indexByte hexU c
def idxL (c : UInt8) : Int := Lib.indexByte hexL c
def idxOk (c : UInt8) : Bool := match hexV c with
  | some v => (idxU c == (v : Int)) || (idxU c == -1 && idxL c == (v : Int))
  | none => idxU c == -1 && idxL c == -1
set_option maxRecDepth 100000 in
theorem idx_fin : ∀ n : Fin 256, idxOk (UInt8.ofNat n.val) = true := by decide
theorem idx_some (c : UInt8) {v : Nat} (h : hexV c = some v) : (idxU c = (v : Int)) ∨ (idxU c = -1 ∧ idxL c = (v : Int)) := by
  have h1 := idx_fin ⟨c.toNat, c.toNat_lt⟩
  have e : UInt8.ofNat c.toNat = c := by simp
  simp only [e] at h1
  unfold idxOk at h1
  rw [h] at h1
  simpa using h1
theorem idx_none (c : UInt8) (h : hexV c = none) : idxU c = -1 ∧ idxL c = -1 := by
  have h1 := idx_fin ⟨c.toNat, c.toNat_lt⟩
  have e : UInt8.ofNat c.toNat = c := by simp
  simp only [e] at h1
  unfold idxOk at h1
  rw [h] at h1
  simpa using h1
/-- What hex answers. -/
def hexP (s : List UInt8) : Int × Bool := if s.all isHex = true then ((numOf s : Nat), !s.isEmpty) else (0, false)
end Go.Proofs.YtkfjmcidcnpijaaGreatDoor.Mf
