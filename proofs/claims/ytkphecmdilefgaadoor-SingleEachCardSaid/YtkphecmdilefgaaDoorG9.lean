/- Walks: inkhornref17's begins, inkhornref13's Wrong. -/
import Derived.Test.YtkphecmdilefgaaDoorG8
namespace Go.Proofs.YtkphecmdilefgaaDoor.Sg
open Go.RowKit Pl Go.Lib

def preB (s h : ByteArray) : Bool := h.data.toList.isPrefixOf s.data.toList
theorem pre_eq (s h : ByteArray) (hl : h.size ≤ s.size) : ((s.extract 0 h.size).toList == h.toList) = preB s h := by
  unfold preB
  have h1 : (s.extract 0 h.size).toList = s.data.toList.take h.size := by rw [extract_toList]; simp
  have h2 : h.data.toList.length = h.size := by simp
  rw [h1, ByteArray.toList_eq, Bool.eq_iff_iff, beq_iff_eq, List.isPrefixOf_iff_prefix]
  constructor
  · intro he; rw [← he]; exact List.take_prefix _ _
  · intro hp; have := List.prefix_iff_eq_take.1 hp; rw [h2] at this; exact this.symm
theorem begins_any (s h : ByteArray) (hs : s.size ≤ maxLen) (hh : h.size ≤ maxLen) (w : World) :
    Calls Tryd.prog 38 #[.string s, .string h] w fun e w' => e = .returned (.bool (preB s h)) ∧ w = w' := by
  unfold maxLen at hs hh
  have hs : s.size ≤ 2 ^ 63 - 1 := hs
  have hh : h.size ≤ 2 ^ 63 - 1 := hh
  by_cases hl : h.size ≤ s.size
  · have i1 : (h.size : Int) ≤ (s.size : Int) := by omega
    have i2 := pre_eq s h hl
    generalize preB s h = p at *
    clear hl
    go_enter Tryd.func38, Tryd.ntmps38
    go_wp2
    go_returns
    exact ⟨by first | rfl | (rw [i2]; rfl) | (rw [← i2]; rfl), rfl⟩
  · have i1 : decide ((h.size : Int) ≤ (s.size : Int)) = false := decide_eq_false (by omega)
    have i1n : decide (h.size ≤ s.size) = false := decide_eq_false hl
    have i2 : preB s h = false := by
      unfold preB
      rw [Bool.eq_false_iff]
      intro hp
      have := (List.isPrefixOf_iff_prefix.1 hp).length_le
      simp at this
      omega
    rw [i2]
    clear hl i2
    go_enter Tryd.func38, Tryd.ntmps38
    go_wp2
    go_returns
    exact ⟨rfl, rfl⟩
/-- What is wrong with a row of characters. -/
def wrong13 (x : RRow) : Int :=
  if 1 ≤ x.code.size ∧ x.code.size ≤ 4 ∧ 1 ≤ x.text.length ∧ x.text.length ≤ 18 then (if x.flag = 0 ∨ x.flag = 1 ∨ x.flag = 3 then 0 else 16) else 11
def scalR (l : List Int) : Prop := ∀ r ∈ l, 0 ≤ r ∧ (r < 55296 ∨ 57343 < r) ∧ r ≤ 1114111
set_option maxRecDepth 100000 in
set_option maxHeartbeats 1600000 in
theorem wrong13_any (code : ByteArray) (v : Value) (text : List Int) (flag : Int) (w : World) (hT : TextAt w v text) (hc : code.size ≤ maxLen) (hl : text.length ≤ 1048576) (hsc : scalR text) :
    Calls Tryd.prog 36 #[rval code v flag] w fun e w' => e = .returned (.int .i64 (wrong13 ⟨code, text, flag⟩)) ∧ Below w.heap.size w w' := by
  obtain ⟨A, c, rfl, hr⟩ := hT.rd
  unfold maxLen at hc
  have hc : code.size ≤ 2 ^ 63 - 1 := hc
  obtain ⟨W, hW⟩ : ∃ W, w.alloc (.cells #[.string code, .slice A text.length c, .int .i64 flag] RefT) = W := ⟨_, rfl⟩
  have hb : Below w.heap.size w W := hW ▸ (Below.refl _ _).alloc (Nat.le_refl _) _
  have hk : Blk W w.heap.size RefT #[.string code, .slice A text.length c, .int .i64 flag] := hW ▸ Blk.new _ _ _
  have HR := Lib.hid (hr.keep hb)
  have HB := Lib.hid hb
  have k0 : W.cell? ⟨w.heap.size, 0, none⟩ = some (.string code) := by rw [hk.cell]; rfl
  have k1 : W.cell? ⟨w.heap.size, 1, none⟩ = some (.slice A text.length c) := by rw [hk.cell]; rfl
  have k2 : W.cell? ⟨w.heap.size, 2, none⟩ = some (.int .i64 flag) := by rw [hk.cell]; rfl
  have HSC := Lib.hid hsc
  clear hT hr hb hk hsc
  unfold wrong13
  by_cases hz : 1 ≤ code.size ∧ code.size ≤ 4 ∧ 1 ≤ text.length ∧ text.length ≤ 18
  · have a1 : decide ((code.size : Int) < 1) = false := decide_eq_false (by omega)
    have a2 : decide ((4 : Int) < (code.size : Int)) = false := decide_eq_false (by omega)
    have a3 : decide ((text.length : Int) < 1) = false := decide_eq_false (by omega)
    have a4 : decide ((18 : Int) < (text.length : Int)) = false := decide_eq_false (by omega)
    rw [if_pos hz]
    clear hz
    obtain ⟨F, hF⟩ : ∃ F : Int, (if flag = 0 ∨ flag = 1 ∨ flag = 3 then 0 else 16) = F := ⟨_, rfl⟩
    show Calls _ _ _ _ fun e w' => e = .returned (.int .i64 (if flag = 0 ∨ flag = 1 ∨ flag = 3 then 0 else 16)) ∧ _
    rw [hF]
    have HF := Lib.hid hF
    clear hF
    go_enter Tryd.func36, Tryd.ntmps36
    go_wp2_with fail
    go_loopw [3] (fun i wr => ∃ j : Nat, j ≤ text.length ∧ i = .int .i64 j ∧ wr = W) (fun i _ => text.length - (intOf i).toNat)
    case atStart => exact ⟨0, Nat.zero_le _, rfl, rfl⟩
    case round =>
      obtain ⟨j, hj, rfl, rfl⟩ := hrel
      by_cases hlt : j < text.length
      · obtain ⟨bk, o, rfl, hbk, c0⟩ := HR.out.i32_at hlt
        obtain ⟨s1, s2, s3⟩ := HSC.out text[j] (List.getElem_mem hlt)
        generalize text[j] = r at *
        have b1 : decide (r < 0) = false := decide_eq_false (by omega)
        have b2 : decide (1114111 < r) = false := decide_eq_false (by omega)
        clear hbk
        rcases s2 with s2 | s2
        · have b3 : decide (55296 ≤ r) = false := decide_eq_false (by omega)
          clear s1 s2 s3
          go_wp2_with fail
          go_roundw
          case rel => exact ⟨j + 1, by omega, by go_num, by trivial⟩
          case measure => simp [intOf]; omega
        · have b3 : decide (55296 ≤ r) = true := decide_eq_true (by omega)
          have b4 : decide (r ≤ 57343) = false := decide_eq_false (by omega)
          clear s1 s2 s3
          go_wp2_with fail
          go_roundw
          case rel => exact ⟨j + 1, by omega, by go_num, by trivial⟩
          case measure => simp [intOf]; omega
      · obtain rfl : j = text.length := by omega
        by_cases h0 : flag = 0
        · have f0 : (flag != 0) = false := by simp [h0]
          have hF : F = 0 := by rw [← HF.out, if_pos (.inl h0)]
          clear h0
          go_wp2_with fail
          go_returns
          exact ⟨by rw [hF]; rfl, HB.out⟩
        · have f0 : (flag != 0) = true := by simp [h0]
          by_cases h1 : flag = 1
          · have f1 : (flag != 1) = false := by simp [h1]
            have hF : F = 0 := by rw [← HF.out, if_pos (.inr (.inl h1))]
            clear h0 h1
            go_wp2_with fail
            go_returns
            exact ⟨by rw [hF]; rfl, HB.out⟩
          · have f1 : (flag != 1) = true := by simp [h1]
            by_cases h3 : flag = 3
            · have f3 : (flag != 3) = false := by simp [h3]
              have hF : F = 0 := by rw [← HF.out, if_pos (.inr (.inr h3))]
              clear h0 h1 h3
              go_wp2_with fail
              go_returns
              exact ⟨by rw [hF]; rfl, HB.out⟩
            · have f3 : (flag != 3) = true := by simp [h3]
              have hF : F = 16 := by rw [← HF.out, if_neg (by omega)]
              clear h0 h1 h3
              go_wp2_with fail
              go_returns
              exact ⟨by rw [hF]; rfl, HB.out⟩
  · rw [if_neg hz]
    have hcs : (code.size < 1) ∨ (1 ≤ code.size ∧ 4 < code.size) ∨ (1 ≤ code.size ∧ code.size ≤ 4 ∧ text.length < 1) ∨ (1 ≤ code.size ∧ code.size ≤ 4 ∧ 1 ≤ text.length ∧ 18 < text.length) := by omega
    clear hz
    rcases hcs with z1 | ⟨z1, z2⟩ | ⟨z1, z2, z3⟩ | ⟨z1, z2, z3, z4⟩
    · have a1 : decide ((code.size : Int) < 1) = true := decide_eq_true (by omega)
      clear z1
      go_enter Tryd.func36, Tryd.ntmps36
      go_wp2_with fail
      go_returns
      exact ⟨rfl, HB.out⟩
    · have a1 : decide ((code.size : Int) < 1) = false := decide_eq_false (by omega)
      have a2 : decide ((4 : Int) < (code.size : Int)) = true := decide_eq_true (by omega)
      clear z1 z2
      go_enter Tryd.func36, Tryd.ntmps36
      go_wp2_with fail
      go_returns
      exact ⟨rfl, HB.out⟩
    · have a1 : decide ((code.size : Int) < 1) = false := decide_eq_false (by omega)
      have a2 : decide ((4 : Int) < (code.size : Int)) = false := decide_eq_false (by omega)
      have a3 : decide ((text.length : Int) < 1) = true := decide_eq_true (by omega)
      clear z1 z2 z3
      go_enter Tryd.func36, Tryd.ntmps36
      go_wp2_with fail
      go_returns
      exact ⟨rfl, HB.out⟩
    · have a1 : decide ((code.size : Int) < 1) = false := decide_eq_false (by omega)
      have a2 : decide ((4 : Int) < (code.size : Int)) = false := decide_eq_false (by omega)
      have a3 : decide ((text.length : Int) < 1) = false := decide_eq_false (by omega)
      have a4 : decide ((18 : Int) < (text.length : Int)) = true := decide_eq_true (by omega)
      clear z1 z2 z3 z4
      go_enter Tryd.func36, Tryd.ntmps36
      go_wp2_with fail
      go_returns
      exact ⟨rfl, HB.out⟩
end Go.Proofs.YtkphecmdilefgaaDoor.Sg
