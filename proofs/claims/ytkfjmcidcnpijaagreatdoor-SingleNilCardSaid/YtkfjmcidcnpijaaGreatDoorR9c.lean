/- Walk: mapfile.Check. -/
import Derived.Test.YtkfjmcidcnpijaaGreatDoorR9
import Derived.Test.YtkfjmcidcnpijaaGreatDoorKM
namespace Go.Proofs.YtkfjmcidcnpijaaGreatDoor.Mf
open Go.RowKit Pl Go.Lib

theorem count_any (s : ByteArray) (hs : s.size ≤ 1048576) (w : World) : Calls Tryz.prog 41 #[.string s] w fun e w' => e = .returned (.int .i64 (runeCount s)) ∧ Below w.heap.size w w' := by
  refine (Any.utf8_RuneCountInString lays195 s w (by omega)).mono ?_
  rintro _ w1 ⟨rfl, pos, rfl⟩
  exact ⟨rfl, (Below.refl _ _).alloc (Nat.le_refl _) _⟩
theorem validString_any (s : ByteArray) (w : World) (hs : s.size ≤ 9223372036854775807) (hT : TabsM w) :
    Calls Tryz.prog 42 #[.string s] w fun e w' => e = .returned (.bool (Lib.validD s.data.toList)) ∧ Below w.heap.size w w' := Any.utf8_ValidString lays196 s w hs hT
set_option maxRecDepth 100000 in
set_option maxHeartbeats 1600000 in
theorem check_any : CheckC := by
  intro code text flag w h1 h2 hT
  unfold chkV
  have hn0 := runesL_le text.data.toList
  rw [← runeCount_eq, show text.data.toList.length = text.size from by simp] at hn0
  have hV := fun (w : World) (hT : TabsM w) => validString_any text w (by omega) hT
  have hC := fun (w : World) => count_any text h2 w
  generalize validD text.data.toList = V at *
  generalize runeCount text = n at *
  have HV := Lib.hid hV
  have HC := Lib.hid hC
  obtain ⟨W, hW⟩ : ∃ W, w.alloc (.cells #[.string code, .string text, .int .i64 flag] 50) = W := ⟨_, rfl⟩
  have hb : Below w.heap.size w W := hW ▸ (Below.refl _ _).alloc (Nat.le_refl _) _
  have hk : Blk W w.heap.size 50 #[.string code, .string text, .int .i64 flag] := hW ▸ Blk.new _ _ _
  have HK := Lib.hid hk
  have HB := Lib.hid hb
  have HT := Lib.hid (hT.keep hb)
  have c0 : W.cell? ⟨w.heap.size, 0, none⟩ = some (.string code) := by rw [hk.cell]; rfl
  have c1 : W.cell? ⟨w.heap.size, 1, none⟩ = some (.string text) := by rw [hk.cell]; rfl
  have c2 : W.cell? ⟨w.heap.size, 2, none⟩ = some (.int .i64 flag) := by rw [hk.cell]; rfl
  clear hT hb hk hV hC
  obtain ⟨Z, hZ⟩ : ∃ Z : Int, (if 1 ≤ code.size ∧ code.size ≤ 4 ∧ 1 ≤ n ∧ n ≤ 18 ∧ V = true then (if flag = 0 ∨ flag = 1 ∨ flag = 3 then 0 else 16) else 11) = Z := ⟨_, rfl⟩
  show Calls _ _ _ _ fun e w' => e = .returned (.int .i64 (if 1 ≤ code.size ∧ code.size ≤ 4 ∧ 1 ≤ n ∧ n ≤ 18 ∧ V = true then (if flag = 0 ∨ flag = 1 ∨ flag = 3 then 0 else 16) else 11)) ∧ _
  rw [hZ]
  have HZ := Lib.hid hZ
  clear hZ
  go_enter Tryz.func28, Tryz.ntmps28
  go_wp2_with fail
  refine (HC.out W).mono ?_
  rintro _ w1 ⟨rfl, hb1⟩
  have d0 := (hb1.cell (p := ⟨w.heap.size, 0, none⟩) HK.out.lt).trans c0
  have d1 := (hb1.cell (p := ⟨w.heap.size, 1, none⟩) HK.out.lt).trans c1
  have d2 := (hb1.cell (p := ⟨w.heap.size, 2, none⟩) HK.out.lt).trans c2
  have HT1 := Lib.hid (HT.out.keep hb1)
  have HB1 := Lib.hid (HB.out.trans (hb1.mono HB.out.size))
  have HK1 := Lib.hid (HK.out.below hb1 HK.out.lt)
  clear c0 c1 c2 hb1
  by_cases a1 : code.size < 1
  · have b1 : decide ((code.size : Int) < 1) = true := decide_eq_true (by omega)
    have hZ : Z = 11 := by rw [← HZ.out, if_neg (fun h => by omega)]
    subst hZ
    clear a1
    go_wp2_with fail
    go_returns
    exact ⟨rfl, HB1.out⟩
  have b1 : decide ((code.size : Int) < 1) = false := decide_eq_false (by omega)
  by_cases a2 : 4 < code.size
  · have b2 : decide ((4 : Int) < (code.size : Int)) = true := decide_eq_true (by omega)
    have hZ : Z = 11 := by rw [← HZ.out, if_neg (fun h => by omega)]
    subst hZ
    clear a1 a2
    go_wp2_with fail
    go_returns
    exact ⟨rfl, HB1.out⟩
  have b2 : decide ((4 : Int) < (code.size : Int)) = false := decide_eq_false (by omega)
  by_cases a3 : n < 1
  · have b3 : decide ((n : Int) < 1) = true := decide_eq_true (by omega)
    have hZ : Z = 11 := by rw [← HZ.out, if_neg (fun h => by omega)]
    subst hZ
    clear a1 a2 a3
    go_wp2_with fail
    go_returns
    exact ⟨rfl, HB1.out⟩
  have b3 : decide ((n : Int) < 1) = false := decide_eq_false (by omega)
  by_cases a4 : 18 < n
  · have b4 : decide ((18 : Int) < (n : Int)) = true := decide_eq_true (by omega)
    have hZ : Z = 11 := by rw [← HZ.out, if_neg (fun h => by omega)]
    subst hZ
    clear a1 a2 a3 a4
    go_wp2_with fail
    go_returns
    exact ⟨rfl, HB1.out⟩
  have b4 : decide ((18 : Int) < (n : Int)) = false := decide_eq_false (by omega)
  have hZ2 : Z = if V = true then (if flag = 0 ∨ flag = 1 ∨ flag = 3 then 0 else 16) else 11 := by
    rw [← HZ.out]
    by_cases hV : V = true
    · rw [if_pos hV, if_pos ⟨by omega, by omega, by omega, by omega, hV⟩]
    · rw [if_neg hV, if_neg (fun h => hV h.2.2.2.2)]
  have HZ2 := Lib.hid hZ2
  clear a1 a2 a3 a4 hZ2
  go_wp2_with fail
  refine (HV.out w1 HT1.out).mono ?_
  rintro _ w2 ⟨rfl, hb2⟩
  have e2 := (hb2.cell (p := ⟨w.heap.size, 2, none⟩) HK1.out.lt).trans d2
  have HB2 := Lib.hid (HB1.out.trans (hb2.mono HB1.out.size))
  clear d0 d1 d2 hb2
  cases V with
  | false =>
    have hZ : Z = 11 := HZ2.out
    subst hZ
    go_wp2_with fail
    go_returns
    exact ⟨rfl, HB2.out⟩
  | true =>
    have hZ : Z = if flag = 0 ∨ flag = 1 ∨ flag = 3 then 0 else 16 := HZ2.out
    clear b1 b2 b3 b4 h1 h2 hn0
    by_cases f0 : flag = 0
    · replace hZ : Z = 0 := by rw [hZ, if_pos (.inl f0)]
      subst hZ
      have g0 : (flag != 0) = false := by simp [f0]
      clear f0
      go_wp2_with fail
      go_returns
      exact ⟨rfl, HB2.out⟩
    have g0 : (flag != 0) = true := by simp [f0]
    by_cases f1 : flag = 1
    · replace hZ : Z = 0 := by rw [hZ, if_pos (.inr (.inl f1))]
      subst hZ
      have g1 : (flag != 1) = false := by simp [f1]
      clear f0 f1
      go_wp2_with fail
      go_returns
      exact ⟨rfl, HB2.out⟩
    have g1 : (flag != 1) = true := by simp [f1]
    by_cases f3 : flag = 3
    · replace hZ : Z = 0 := by rw [hZ, if_pos (.inr (.inr f3))]
      subst hZ
      have g3 : (flag != 3) = false := by simp [f3]
      clear f0 f1 f3
      go_wp2_with fail
      go_returns
      exact ⟨rfl, HB2.out⟩
    replace hZ : Z = 16 := by rw [hZ, if_neg (by omega)]
    subst hZ
    have g3 : (flag != 3) = true := by simp [f3]
    clear f0 f1 f3
    go_wp2_with fail
    go_returns
    exact ⟨rfl, HB2.out⟩
end Go.Proofs.YtkfjmcidcnpijaaGreatDoor.Mf
