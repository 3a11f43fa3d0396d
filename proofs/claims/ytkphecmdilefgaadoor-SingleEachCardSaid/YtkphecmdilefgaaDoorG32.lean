/- Walk: (*single.Table).Decode. -/
import Derived.Test.YtkphecmdilefgaaDoorG31
namespace Go.Proofs.YtkphecmdilefgaaDoor.Sg
open Go.RowKit Pl Go.Lib

def DecPostT (w : World) (x : List UInt8 × List Nat × Int) (e : Ending) (w' : World) : Prop :=
  ∃ v, e = .returned (.tuple #[.string ⟨x.1.toArray⟩, v, .int .i64 x.2.2]) ∧ w'.ownsRow w.heap.size FaultT 2 v x.2.1.length (flts x.2.1) ∧ Below w.heap.size w w'
set_option maxRecDepth 100000 in
theorem decodeT_kind (tb : Nat) (pol : Int) (hp : pol < 1 ∨ 3 < pol) (s : ByteArray) (w : World) :
    Calls Tryd.prog 12 #[.pointer (some ⟨tb, 0, none⟩), .int .i64 pol, .string s] w fun e w' => e = .returned (.tuple #[.string ⟨#[]⟩, .slice none 0 0, .int .i64 16]) ∧ w = w' := by
  have hq : ∀ w, (binOp .eql 30 (.pointer (some ⟨tb, 0, none⟩)) (.pointer none)).run Tryd.prog w = .ok (.bool false) w := fun _ => rfl
  by_cases h : pol < 1
  · have e1 : decide (pol < 1) = true := decide_eq_true h
    clear h hp
    go_enter Tryd.func12, Tryd.ntmps12
    go_wp2_with fail
    go_returns
    exact ⟨rfl, rfl⟩
  · have e1 : decide (pol < 1) = false := decide_eq_false h
    have e2 : decide (3 < pol) = true := decide_eq_true (by omega)
    clear h hp
    go_enter Tryd.func12, Tryd.ntmps12
    go_wp2_with fail
    go_returns
    exact ⟨rfl, rfl⟩
set_option maxRecDepth 100000 in
set_option maxHeartbeats 6400000 in
theorem decodeT_any (tb : Nat) (l : List RowV) (pol : Int) (hp1 : 1 ≤ pol) (hp3 : pol ≤ 3) (s : ByteArray) (w : World) (hT : TabOk w tb l) (hs : s.size ≤ 1000) (hB : ∀ b : UInt8, (tx l b.toNat).size ≤ 1000) :
    Calls Tryd.prog 12 #[.pointer (some ⟨tb, 0, none⟩), .int .i64 pol, .string s] w (DecPostT w (decGo (fun b => (tx l b.toNat).data.toList) pol 0 s.data.toList)) := by
  obtain ⟨Z, hZ⟩ : ∃ Z, decGo (fun b => (tx l b.toNat).data.toList) pol 0 s.data.toList = Z := ⟨_, rfl⟩
  rw [hZ]
  have hq : ∀ w, (binOp .eql 30 (.pointer (some ⟨tb, 0, none⟩)) (.pointer none)).run Tryd.prog w = .ok (.bool false) w := fun _ => rfl
  have e1 : decide (pol < 1) = false := decide_eq_false (by omega)
  have e2 : decide (3 < pol) = false := decide_eq_false (by omega)
  have HT := Lib.hid hT
  have HB := Lib.hid hB
  have HZ : Hid (decGo (fun b => (tx l b.toNat).data.toList) pol 0 (s.data.toList.drop 0) = Z) := Lib.hid hZ
  have hl : s.data.toList.length = s.size := by simp
  have HFB := Lib.hid (fresh_builder w)
  have HBW0 : Hid (Below w.heap.size w (w.alloc (.cells #[.pointer none, .slice none 0 0] BuilT))) := Lib.hid ((Below.refl _ _).alloc (Nat.le_refl _) _)
  clear hT hB hZ hp1 hp3
  go_enter Tryd.func12, Tryd.ntmps12
  go_wp2_with fail
  go_loopw [10, 26] (fun vf vi wr => ∃ (i : Nat) (o : List UInt8) (f : List Nat), i ≤ s.size ∧ vi = .int .i64 i ∧ Lib.IsBuilderF BuilT ByteT w.heap.size w.heap.size (Lib.byteCells o) wr ∧ o.length ≤ 2000 * i ∧ f.length ≤ i ∧ wr.ownsRow w.heap.size FaultT 2 vf f.length (flts f) ∧ Below w.heap.size w wr ∧
      (o ++ (decGo (fun b => (tx l b.toNat).data.toList) pol i (s.data.toList.drop i)).1, f ++ (decGo (fun b => (tx l b.toNat).data.toList) pol i (s.data.toList.drop i)).2.1, (decGo (fun b => (tx l b.toNat).data.toList) pol i (s.data.toList.drop i)).2.2) = Z) (fun _ vi _ => s.size - (RowKit.intOf vi).toNat)
  case atStart => exact ⟨0, [], [], Nat.zero_le _, rfl, HFB.out, by simp, by simp, World.ownsRow_nil _ _ _ _, HBW0.out, by rw [List.nil_append, List.nil_append]; exact HZ.out⟩
  case round =>
    obtain ⟨i, o, f, hi, rfl, hbl, hol, hfl, ho, hb, hz⟩ := hrel
    by_cases hlt : i < s.size
    · rw [decGo_at _ pol s.data.toList i (by rw [hl]; exact hlt)] at hz
      have hbt := byte_at s i hlt
      have hby := byteT_any tb l s.data.toList[i] wr (HT.out.keep hb)
      have hbs := HB.out s.data.toList[i]
      rw [hbt] at hby hz hbs
      obtain ⟨⟨r1, r2, r3⟩, hrq⟩ : ∃ R, decGo (fun b => (tx l b.toNat).data.toList) pol (i + 1) (s.data.toList.drop (i + 1)) = R := ⟨_, rfl⟩
      rw [hrq] at hz
      have HRQ := Lib.hid hrq
      have HBL := Lib.hid hbl
      have HO := Lib.hid ho
      have HBW := Lib.hid hb
      clear hrq hbt hbl ho hb
      obtain ⟨tt, htt⟩ : ∃ t, tx l s[i].toNat = t := ⟨_, rfl⟩
      rw [htt] at hby hz hbs
      clear htt
      have H15 := Lib.hid hby
      have hz1 : tt.data.toList.length = tt.size := by simp
      have j0 : (0 : Int) ≤ (i : Int) := by omega
      have j1 : (i : Int) < (s.size : Int) := by omega
      have hsz : w.heap.size ≤ wr.heap.size := HBW.out.size
      clear hby
      by_cases ht : tt.data.toList = []
      · rw [if_neg (by simp [ht])] at hz
        have hte : tt.toList.isEmpty = true := by rw [ByteArray.toList_eq, ht]; rfl
        rw [hte] at H15
        have HTE := Lib.hid ht
        have HZ2 := Lib.hid hz
        clear ht hz hte
        go_wp2_with fail
        refine H15.out.mono ?_
        rintro _ w1 ⟨rfl, m, rfl⟩
        have HWS := Lib.hid (writeString_k w.heap.size w.heap.size (Lib.byteCells o) tt (wr.drewN m) (builder_keep HBL.out (bdN (Below.refl _ _) m)) (by rw [Lib.byteCells_length]; omega) hsz)
        go_wp2_with fail
        refine HWS.out.mono ?_
        rintro _ w2 ⟨rfl, hb2, hbb, hot⟩
        have HO2 := Lib.hid (own_others (own_below HO.out (bdN (Below.refl _ _) m)) hot (by decide) (fun cs t fz hh => by have := builder_type (builder_keep HBL.out (bdN (Below.refl _ _) m)) cs t fz hh; subst this; decide))
        have HBL2 : Hid (Lib.IsBuilderF BuilT ByteT w.heap.size w.heap.size (Lib.byteCells o) w2) := Lib.hid (.inr (by rw [Lib.strCells_eq, HTE.out] at hb2; simpa [Lib.byteCells] using hb2))
        have HBW2 := Lib.hid ((bdN HBW.out m).trans hbb)
        clear hb2 hbb hot HWS H15 HBL HO HBW
        by_cases hp : pol = 1
        · have p1 : (pol == 1) = true := by simp [hp]
          have hz : (o ++ [], f ++ [i], (17 : Int)) = Z := by rw [← HZ2.out, if_pos hp]
          rw [List.append_nil] at hz
          subst hz
          have HBS := Lib.hid (fun (w3 : World) (h3 : Lib.IsBuilderF BuilT ByteT w.heap.size w.heap.size (Lib.byteCells o) w3) (hsz : w.heap.size ≤ w3.heap.size) => builderString_k w.heap.size w.heap.size o w3 h3 hsz)
          clear hp
          go_wp2_with (at_builtin; go_loud (refine wpList_fault w2 rfl _ _ rfl w.heap.size w.heap.size (Lib.byteCells o) u10 f rfl HO2.out HBL2.out HBW2.out.size i _ rfl (by omega) ?_); intro v3 w3 ho3 hbl3 hb3; have HO3 := Lib.hid ho3; have HBL3 := Lib.hid hbl3; have HBW3 := Lib.hid (HBW2.out.trans hb3); clear ho3 hbl3 hb3)
          refine (HBS.out _ HBL3.out HBW3.out.size).mono ?_
          rintro _ w4 ⟨rfl, hbl4, hb4, hot4⟩
          have HO4 := Lib.hid (own_others HO3.out hot4 (by decide) (fun cs t fz hh => by have := builder_type HBL3.out cs t fz hh; subst this; decide))
          have HBW4 := Lib.hid (HBW3.out.trans hb4)
          obtain ⟨A3, n3, c3, rfl⟩ := own_slice HO4.out
          clear hbl4 hb4 hot4
          go_wp2_with fail
          go_returns
          exact ⟨_, rfl, HO4.out, HBW4.out⟩
        · have p1 : (pol == 1) = false := by simp [hp]
          have hz := HZ2.out
          rw [if_neg hp] at hz
          by_cases hp2 : pol = 2
          · have p2 : (pol == 2) = true := by simp [hp2]
            rw [if_pos hp2] at hz
            have HZ3 := Lib.hid hz
            have HWR := Lib.hid (fun (w3 : World) (h3 : Lib.IsBuilderF BuilT ByteT w.heap.size w.heap.size (Lib.byteCells o) w3) (hsz : w.heap.size ≤ w3.heap.size) => writeRune_k w.heap.size w.heap.size (Lib.byteCells o) 65533 (by decide) (by decide) w3 h3 (by rw [Lib.byteCells_length]; omega) hsz)
            clear hp hp2 hz
            go_wp2_with (at_builtin; go_loud (refine wpList_fault w2 rfl _ _ rfl w.heap.size w.heap.size (Lib.byteCells o) u10 f rfl HO2.out HBL2.out HBW2.out.size i _ rfl (by omega) ?_); intro v3 w3 ho3 hbl3 hb3; have HO3 := Lib.hid ho3; have HBL3 := Lib.hid hbl3; have HBW3 := Lib.hid (HBW2.out.trans hb3); clear ho3 hbl3 hb3)
            refine (HWR.out _ HBL3.out HBW3.out.size).mono ?_
            rintro _ w4 ⟨rfl, hbl4, hb4, hot4⟩
            have HO4 := Lib.hid (own_others HO3.out hot4 (by decide) (fun cs t fz hh => by have := builder_type HBL3.out cs t fz hh; subst this; decide))
            have HBW4 := Lib.hid (HBW3.out.trans hb4)
            have HBL4 : Hid (Lib.IsBuilderF BuilT ByteT w.heap.size w.heap.size (Lib.byteCells (o ++ [239, 191, 189])) w4) := Lib.hid (.inr (by rw [bad_cells, byteCells_append] at hbl4; exact hbl4))
            clear hbl4 hb4 hot4
            go_wp2_with fail
            go_roundw
            case rel =>
              refine ⟨i + 1, o ++ [239, 191, 189], f ++ [i], by omega, by go_num, HBL4.out, by simp; omega, by simp; omega, HO4.out, HBW4.out, ?_⟩
              rw [HRQ.out, List.append_assoc, List.append_assoc]; exact HZ3.out
            case measure => simp [RowKit.intOf]; omega
          · have p2 : (pol == 2) = false := by simp [hp2]
            rw [if_neg hp2, List.nil_append] at hz
            have HZ3 := Lib.hid hz
            clear hp hp2 hz
            go_wp2_with (at_builtin; go_loud (refine wpList_fault w2 rfl _ _ rfl w.heap.size w.heap.size (Lib.byteCells o) u10 f rfl HO2.out HBL2.out HBW2.out.size i _ rfl (by omega) ?_); intro v3 w3 ho3 hbl3 hb3; have HO3 := Lib.hid ho3; have HBL3 := Lib.hid hbl3; have HBW3 := Lib.hid (HBW2.out.trans hb3); clear ho3 hbl3 hb3)
            go_roundw
            case rel => exact ⟨i + 1, o, f ++ [i], by omega, by go_num, HBL3.out, by omega, by simp; omega, HO3.out, HBW3.out, by rw [HRQ.out, List.append_assoc]; exact HZ3.out⟩
            case measure => simp [RowKit.intOf]; omega
      · rw [if_pos ht] at hz
        have HZ2 := Lib.hid hz
        have hte : tt.toList.isEmpty = false := by rw [ByteArray.toList_eq]; simpa using ht
        rw [hte] at H15
        clear hz ht hte
        go_wp2_with fail
        refine H15.out.mono ?_
        rintro _ w1 ⟨rfl, m, rfl⟩
        have HWS := Lib.hid (writeString_k w.heap.size w.heap.size (Lib.byteCells o) tt (wr.drewN m) (builder_keep HBL.out (bdN (Below.refl _ _) m)) (by rw [Lib.byteCells_length]; omega) hsz)
        go_wp2_with fail
        refine HWS.out.mono ?_
        rintro _ w2 ⟨rfl, hb2, hbb, hot⟩
        have HO2 := Lib.hid (own_others (own_below HO.out (bdN (Below.refl _ _) m)) hot (by decide) (fun cs t fz hh => by have := builder_type (builder_keep HBL.out (bdN (Below.refl _ _) m)) cs t fz hh; subst this; decide))
        have HBL2 : Hid (Lib.IsBuilderF BuilT ByteT w.heap.size w.heap.size (Lib.byteCells (o ++ tt.data.toList)) w2) := Lib.hid (.inr (by rw [Lib.strCells_eq, byteCells_append] at hb2; exact hb2))
        have HBW2 := Lib.hid ((bdN HBW.out m).trans hbb)
        clear hb2 hbb hot HWS H15 HBL HO HBW
        go_wp2_with fail
        go_roundw
        case rel => exact ⟨i + 1, o ++ tt.data.toList, f, by omega, by go_num, HBL2.out, by simp; omega, by omega, HO2.out, HBW2.out, by rw [HRQ.out, List.append_assoc]; exact HZ2.out⟩
        case measure => simp [RowKit.intOf]; omega
    · obtain rfl : i = s.size := by omega
      rw [List.drop_eq_nil_of_le (by rw [hl]; exact Nat.le_refl _)] at hz
      have hz : (o ++ [], f ++ [], (0 : Int)) = Z := hz
      rw [List.append_nil, List.append_nil] at hz
      subst hz
      have HBL := Lib.hid hbl
      have HO := Lib.hid ho
      have HBW := Lib.hid hb
      have HBS := Lib.hid (builderString_k w.heap.size w.heap.size o wr hbl hb.size)
      have jj : decide ((s.size : Int) < (s.size : Int)) = false := decide_eq_false (by omega)
      clear ho hb hbl
      obtain ⟨A3, n3, c3, rfl⟩ := own_slice HO.out
      go_wp2_with fail
      refine HBS.out.mono ?_
      rintro _ w4 ⟨rfl, hbl4, hb4, hot4⟩
      have HO4 := Lib.hid (own_others HO.out hot4 (by decide) (fun cs t fz hh => by have := builder_type HBL.out cs t fz hh; subst this; decide))
      have HBW4 := Lib.hid (HBW.out.trans hb4)
      clear hbl4 hb4 hot4
      go_wp2_with fail
      go_returns
      exact ⟨_, rfl, HO4.out, HBW4.out⟩
end Go.Proofs.YtkphecmdilefgaaDoor.Sg
