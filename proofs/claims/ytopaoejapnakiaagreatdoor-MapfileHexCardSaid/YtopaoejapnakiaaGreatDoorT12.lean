/- Walk: inkhornlaw13.small. -/
import Derived.Test.YtopaoejapnakiaaGreatDoorT6
import Derived.Test.YtopaoejapnakiaaGreatDoorPA
namespace Go.Proofs.YtopaoejapnakiaaGreatDoor.Mf
open Go.RowKit Pl Go.Lib
/-- A row of bytes that '[]byte(s)' laid, written to since. -/
def FrozL (w : World) (X : Nat) (L : List UInt8) (z : List Value) : Prop := w.heap[X]? = some (.cells (u8s L ++ z).toArray ByteT ((u8s L ++ z).length, (u8s L ++ z).length + 1))
theorem u8s_len (L : List UInt8) : (u8s L).length = L.length := by simp [u8s]
theorem frozL_of {w : World} {X : Nat} {s : ByteArray} {cap : Nat} (h : Froz w X (bytesRow s cap)) : ∃ z, FrozL w X s.data.toList z := by
  refine ⟨List.replicate (cap - s.size) (Value.int .u8 0), ?_⟩
  have e : bytesRow s cap = (u8s s.data.toList ++ List.replicate (cap - s.size) (Value.int .u8 0)).toArray := by
    unfold bytesRow u8s
    apply Array.ext'
    simp
  unfold Froz at h
  unfold FrozL
  rw [h, e]
  simp
theorem FrozL.cell {w : World} {X : Nat} {L : List UInt8} {z : List Value} (h : FrozL w X L z) {i : Nat} (hi : i < L.length) : w.cell? ⟨X, i, none⟩ = some (.int .u8 (L[i].toNat : Int)) := by
  have h2 := cell_of_row w X i _ ByteT _ h
  rw [h2]
  simp only [List.getElem?_toArray]
  rw [List.getElem?_append_left (by rw [u8s_len]; exact hi)]
  simp [u8s, hi]
theorem FrozL.frz {w : World} {X : Nat} {L : List UInt8} {z : List Value} (h : FrozL w X L z) {i : Nat} (hi : i < L.length) : w.frozen? ⟨X, i, none⟩ = false := by
  unfold FrozL at h
  simp only [World.frozen?, h, Bool.and_eq_false_iff]
  left
  simp [u8s_len]
  omega
theorem FrozL.set {w : World} {X : Nat} {L : List UInt8} {z : List Value} (h : FrozL w X L z) {i : Nat} (hi : i < L.length) (b : UInt8) : FrozL (w.setCell ⟨X, i, none⟩ (.int .u8 (b.toNat : Int))) X (L.set i b) z := by
  unfold FrozL at h ⊢
  rw [setCell_eq_setRow w X i _ ByteT _ _ h, setRow_heap w X _ _ ByteT _ h]
  have e : u8s (L.set i b) = (u8s L).set i (.int .u8 (b.toNat : Int)) := by simp [u8s, List.map_set]
  rw [e]
  simp [u8s_len, hi]
/-- Small digits, so far. -/
def lowTo (L : List UInt8) (i : Nat) : List UInt8 := (L.take i).map lowB ++ L.drop i
theorem lowTo_len (L : List UInt8) (i : Nat) (h : i ≤ L.length) : (lowTo L i).length = L.length := by unfold lowTo; simp; omega
theorem lowTo_at (L : List UInt8) (i : Nat) (h : i < L.length) (h2 : i < (lowTo L i).length) : (lowTo L i)[i] = L[i] := by
  have h3 : (lowTo L i)[i]? = some L[i] := by
    unfold lowTo
    rw [List.getElem?_append_right (by simp; omega), List.length_map, List.length_take, Nat.min_eq_left (Nat.le_of_lt h), Nat.sub_self, List.getElem?_drop, Nat.add_zero]
    exact List.getElem?_eq_getElem h
  rw [List.getElem?_eq_getElem h2] at h3
  exact Option.some.inj h3
theorem lowTo_succ (L : List UInt8) (i : Nat) (h : i < L.length) : lowTo L (i + 1) = (lowTo L i).set i (lowB L[i]) := by
  unfold lowTo
  have hl : ((L.take i).map lowB).length = i := by simp; omega
  rw [List.take_succ_eq_append_getElem h, List.map_append, List.set_append_right _ _ (by omega), hl, Nat.sub_self, List.drop_eq_getElem_cons h]
  simp only [List.set_cons_zero, List.append_assoc, List.cons_append, List.map_cons, List.map_nil, List.nil_append]
theorem lowTo_end (L : List UInt8) : lowTo L L.length = L.map lowB := by unfold lowTo; simp
theorem lowB_no {c : UInt8} (h : ¬ (65 ≤ c.toNat ∧ c.toNat ≤ 70)) : lowB c = c := by
  unfold lowB
  rw [if_neg]
  rw [UInt8.le_iff_toNat_le, UInt8.le_iff_toNat_le]
  exact h
theorem lowB_yes {c : UInt8} (h : 65 ≤ c.toNat ∧ c.toNat ≤ 70) : ((lowB c).toNat : Int) = (c.toNat : Int) + 32 := by
  unfold lowB
  rw [if_pos (by rw [UInt8.le_iff_toNat_le, UInt8.le_iff_toNat_le]; exact h), UInt8.toNat_add]
  have : (32 : UInt8).toNat = 32 := rfl
  rw [this]
  omega
set_option maxRecDepth 100000 in
set_option maxHeartbeats 800000 in
theorem small_any (s : ByteArray) (hs : s.size ≤ 1000000) (w : World) :
    Calls Tryz.prog 22 #[.string s] w fun e w' => e = .returned (.string ⟨(s.data.toList.map lowB).toArray⟩) ∧ Below w.heap.size w w' := by
  obtain ⟨w2, cap, hrun, hfz, hl2, hs2⟩ := bytes_at w s
  obtain ⟨z, hfl⟩ := frozL_of hfz
  have HF := Lib.hid hfl
  have HL2 := Lib.hid hl2
  have hsl : s.data.toList.length = s.size := Array.length_toList
  clear hfz hfl hl2 hs2
  go_enter Tryz.func22, Tryz.ntmps22
  go_wp2_with fail
  obtain ⟨X, hXX⟩ : ∃ X, w.heap.size = X := ⟨_, rfl⟩
  have HX := Lib.hid hXX
  rw [hXX] at HF ⊢
  clear hXX hrun
  go_loopw [4] (fun vi wr => ∃ i : Nat, i ≤ s.size ∧ vi = .int .i64 i ∧ FrozL wr X (lowTo s.data.toList i) z ∧ Below w.heap.size w wr) (fun vi _ => s.size - (RowKit.intOf vi).toNat)
  case atStart => exact ⟨0, Nat.zero_le _, rfl, HF.out, HL2.out⟩
  case round =>
    obtain ⟨i, hi, rfl, hf, hl⟩ := hrel
    have HFI := Lib.hid hf
    have HLI := Lib.hid hl
    by_cases hlt : i < s.size
    · have a1 : decide ((i : Int) < (s.size : Int)) = true := decide_eq_true (by omega)
      have j0 : (0 : Int) ≤ (i : Int) := by omega
      have j1 : (i : Int) < (s.size : Int) := by omega
      have hkw : IntKind.i64.wrap ((i : Int) + 1) = (i : Int) + 1 := IntWalk.i64_in _ (by omega)
      have hll : i < s.data.toList.length := by rw [hsl]; exact hlt
      have hl3 : i < (lowTo s.data.toList i).length := by rw [lowTo_len _ _ (by omega)]; exact hll
      have hc := hf.cell hl3
      rw [lowTo_at _ _ hll] at hc
      have hfr := hf.frz hl3
      have HSU := Lib.hid (lowTo_succ s.data.toList i hll)
      have HSE : Hid ((lowTo s.data.toList i).set i s.data.toList[i] = lowTo s.data.toList i) := Lib.hid (by
        have h := List.set_getElem_self hl3
        rwa [lowTo_at _ _ hll hl3] at h)
      have HST := Lib.hid (hf.set hl3 (lowB s.data.toList[i]))
      clear hf hl
      generalize s.data.toList[i] = c at *
      clear hl3
      have hc256 := c.toNat_lt
      by_cases hA : 65 ≤ c.toNat
      · have b1 : decide ((65 : Int) ≤ (c.toNat : Int)) = true := decide_eq_true (by omega)
        by_cases hB : c.toNat ≤ 70
        · have b2 : decide ((c.toNat : Int) ≤ 70) = true := decide_eq_true (by omega)
          have hw8 : IntKind.u8.wrap ((c.toNat : Int) + 32) = (c.toNat : Int) + 32 := IntWalk.u8_in _ (by omega)
          have HLB := Lib.hid (lowB_yes ⟨hA, hB⟩)
          clear hA hB hc256
          go_wp2_with fail
          go_roundw
          case rel =>
            refine ⟨i + 1, by omega, by go_num, ?_, below_set HLI.out X i _ (by rw [HX.out]; exact Nat.le_refl _)⟩
            rw [HSU.out]
            have h := HST.out
            rw [HLB.out] at h
            exact h
          case measure => simp [RowKit.intOf]; omega
        · have b2 : decide ((c.toNat : Int) ≤ 70) = false := decide_eq_false (by omega)
          have HLB := Lib.hid (lowB_no (c := c) (by omega))
          clear hA hB hc256
          go_wp2_with fail
          go_roundw
          case rel =>
            refine ⟨i + 1, by omega, by go_num, ?_, HLI.out⟩
            rw [HSU.out, HLB.out, HSE.out]
            exact HFI.out
          case measure => simp [RowKit.intOf]; omega
      · have b1 : decide ((65 : Int) ≤ (c.toNat : Int)) = false := decide_eq_false (by omega)
        have HLB := Lib.hid (lowB_no (c := c) (by omega))
        clear hA hc256
        go_wp2_with fail
        go_roundw
        case rel =>
          refine ⟨i + 1, by omega, by go_num, ?_, HLI.out⟩
          rw [HSU.out, HLB.out, HSE.out]
          exact HFI.out
        case measure => simp [RowKit.intOf]; omega
    · obtain rfl : i = s.size := by omega
      have a1 : decide ((s.size : Int) < (s.size : Int)) = false := decide_eq_false (by omega)
      have he := lowTo_end s.data.toList
      rw [hsl] at he
      rw [he] at hf
      have hml : (s.data.toList.map lowB).length = s.size := by rw [List.length_map, hsl]
      have hcv := run_convert_bytes_back (P := Tryz.prog) wr 64 9 ByteT ⟨X, 0, none⟩ cap (s.data.toList.map lowB) Tryz.underlying64 Tryz.underlying5 Tryz.underlying9 (fun j hj => by
        have h := hf.cell hj
        rw [Addr.add_lit, Nat.zero_add, h])
      rw [hml] at hcv
      clear hf hl he hml
      go_wp2_with fail
      go_returns
      exact ⟨rfl, HLI.out⟩
end Go.Proofs.YtopaoejapnakiaaGreatDoor.Mf
