/- The statement UtfOrder: its walk. -/
import Derived.Test.YtlfhmkjomogkiaaDoorUk
import Derived.Test.YtlfhmkjomogkiaaDoorU4
namespace Go.Proofs.YtlfhmkjomogkiaaDoor.Utf
open Go.RowKit Pl

theorem enc1 (r : Int) (T : TypeId) (w : World) (hRL : RL w) :
    Calls Tryd.prog 19 #[.slice (some ⟨w.heap.size, 0, none⟩) 1 1] (w.alloc (.cells #[.int .i32 r] T)) fun e w' => encEnd (uenc [r]) e ∧ Below w.heap.size w w' :=
  (encode_any (some ⟨w.heap.size, 0, none⟩) 1 1 [r] (by simp) (w.alloc (.cells #[.int .i32 r] T)) (hRL.since (by go_grown)) (Rd.of_new w T [.int .i32 r] 1 rfl)).mono fun e w' ⟨he, hb⟩ => ⟨he, Below.since_alloc hb⟩
set_option maxRecDepth 100000 in
set_option maxHeartbeats 3200000 in
theorem utfOrder_law (a b : Int) (_ha : -2147483648 ≤ a) (_ha2 : a ≤ 2147483647) (_hb : -2147483648 ≤ b) (_hb2 : b ≤ 2147483647) (w : World) (hRL : RL w) :
    Calls Tryd.prog 6 #[.int .i32 a, .int .i32 b] w fun e w' => e = .returned (.bool true) ∧ Below w.heap.size w w' := by
  have HA := Lib.hid awake_any
  have HRL := Lib.hid hRL
  have HE1 := Lib.hid (fun T w h => enc1 a T w h)
  have HE2 := Lib.hid (fun T w h => enc1 b T w h)
  have HS1 := Lib.hid (scalar_any a)
  have HS2 := Lib.hid (scalar_any b)
  clear hRL
  by_cases hs : scal a = true ∧ scal b = true
  · obtain ⟨ha, hb⟩ := hs
    rw [show uenc [a] = (uch a, 0) from by simp [uenc, ha]] at HE1
    rw [show uenc [b] = (uch b, 0) from by simp [uenc, hb]] at HE2
    have HLen := Lib.hid (fun w h => len_any a w h)
    rw [show ulen a = (uch a).length from by unfold ulen; rw [if_pos ha]] at HLen
    have la := uch_le a
    have lb := uch_le b
    have hlt := less_uch ha hb
    have hpre : a ≠ b → ¬ (({ data := (uch b).toArray } : ByteArray).extract 0 (uch a).length).toList = uch a := by
      intro hne h
      rw [Lib.toList_data, Lib.extract_data] at h
      exact hne (uch_prefix ha hb (by simpa using h))
    generalize uch a = x at *
    generalize uch b = y at *
    have hsame : (!Op.bytesLess x y == decide (a < b)) = false := by rw [hlt]; simp
    clear HS1 HS2 ha hb hlt
    have hcase : (a == b) = true ∨ ((a == b) = false ∧ (((x.length : Int) ≤ y.length ∧ ((({ data := y.toArray } : ByteArray).extract 0 x.length).toList == x) = false) ∨ y.length < x.length)) := by
      by_cases hab : a = b
      · exact .inl (by simp [hab])
      · refine .inr ⟨by simp [hab], ?_⟩
        have := hpre hab
        by_cases hl : x.length ≤ y.length
        · exact .inl ⟨by omega, by rw [beq_eq_false_iff_ne]; exact this⟩
        · exact .inr (by omega)
    clear hpre
    rcases hcase with hab | ⟨hab, ⟨hl, hne⟩ | hl⟩
    all_goals
      go_enter Tryd.func6, Tryd.ntmps6
      go_wp2_with fail
      refine (HE1.out _ _ HRL.out).mono ?_
      rintro e w1 ⟨he, hb1⟩
      rw [encEnd] at he
      subst he
      have HB1 := Lib.hid hb1
      clear hb1
      go_wp2_with fail
      refine (HE2.out _ _ (HRL.out.since HB1.out)).mono ?_
      rintro e w2 ⟨he, hb2⟩
      rw [encEnd] at he
      subst he
      have HB2 := Lib.hid (HB1.out.trans (hb2.mono HB1.out.size))
      clear hb2
      go_wp2_with fail
      go_at_call 22
      refine (HLen.out _ (HRL.out.since HB2.out)).mono ?_
      rintro e w3 ⟨rfl, hb3⟩
      have HB3 := Lib.hid (HB2.out.trans (hb3.mono HB2.out.size))
      clear hb3
      go_wp2_with (go_at_call 16; refine (HA.out _ (HRL.out.since HB3.out)).mono ?_; rintro e w4 ⟨rfl, hb4⟩)
      go_returns
      exact ⟨rfl, HB3.out.trans (hb4.mono HB3.out.size)⟩
  · have hE : ∀ r, (uenc [r]).2 = if scal r then 0 else 11 := by
      intro r
      unfold uenc
      simp only [List.all_cons, List.all_nil, Bool.and_true]
      split <;> rfl
    have h1 := hE a
    have h2 := hE b
    obtain ⟨X, hX⟩ : ∃ X, uenc [a] = X := ⟨_, rfl⟩
    obtain ⟨Y, hY⟩ : ∃ X, uenc [b] = X := ⟨_, rfl⟩
    rw [hX] at HE1 h1
    rw [hY] at HE2 h2
    obtain ⟨x, xe⟩ := X
    obtain ⟨y, ye⟩ := Y
    clear hE hX hY
    cases hsa : scal a
    · rw [hsa, if_neg (by decide)] at h1
      have h1' : xe = 11 := h1
      subst h1'
      rw [hsa] at HS1
      clear hs h1 h2 hsa
      go_enter Tryd.func6, Tryd.ntmps6
      go_wp2_with fail
      refine (HE1.out _ _ HRL.out).mono ?_
      rintro e w1 ⟨he, hb1⟩
      rw [encEnd] at he
      subst he
      have HB1 := Lib.hid hb1
      clear hb1
      go_wp2_with fail
      refine (HE2.out _ _ (HRL.out.since HB1.out)).mono ?_
      rintro e w2 ⟨he, hb2⟩
      rw [encEnd] at he
      subst he
      have HB2 := Lib.hid (HB1.out.trans (hb2.mono HB1.out.size))
      clear hb2
      go_wp2_with fail
      go_at_call 20
      refine (HS1.out _).mono ?_
      rintro e w3 ⟨rfl, rfl⟩
      go_wp2_with (go_at_call 16; refine (HA.out _ (HRL.out.since HB2.out)).mono ?_; rintro e w4 ⟨rfl, hb4⟩)
      go_returns
      exact ⟨rfl, HB2.out.trans (hb4.mono HB2.out.size)⟩
    · have hsb : scal b = false := by
        cases h : scal b
        · rfl
        · exact absurd ⟨hsa, h⟩ hs
      rw [hsa, if_pos rfl] at h1
      rw [hsb, if_neg (by decide)] at h2
      have h1' : xe = 0 := h1
      have h2' : ye = 11 := h2
      subst h1' h2'
      rw [hsa] at HS1
      rw [hsb] at HS2
      clear hs h1 h2 hsa hsb
      go_enter Tryd.func6, Tryd.ntmps6
      go_wp2_with fail
      refine (HE1.out _ _ HRL.out).mono ?_
      rintro e w1 ⟨he, hb1⟩
      rw [encEnd] at he
      subst he
      have HB1 := Lib.hid hb1
      clear hb1
      go_wp2_with fail
      refine (HE2.out _ _ (HRL.out.since HB1.out)).mono ?_
      rintro e w2 ⟨he, hb2⟩
      rw [encEnd] at he
      subst he
      have HB2 := Lib.hid (HB1.out.trans (hb2.mono HB1.out.size))
      clear hb2
      go_wp2_with fail
      go_at_call 20
      refine (HS1.out _).mono ?_
      rintro e w3 ⟨rfl, rfl⟩
      go_wp2_with fail
      go_at_call 20
      refine (HS2.out _).mono ?_
      rintro e w3 ⟨rfl, rfl⟩
      go_wp2_with (go_at_call 16; refine (HA.out _ (HRL.out.since HB2.out)).mono ?_; rintro e w4 ⟨rfl, hb4⟩)
      go_returns
      exact ⟨rfl, HB2.out.trans (hb4.mono HB2.out.size)⟩
end Go.Proofs.YtlfhmkjomogkiaaDoor.Utf
