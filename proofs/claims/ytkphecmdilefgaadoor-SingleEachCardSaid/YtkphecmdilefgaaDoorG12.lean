/- Walks: inkhornref18's Byte, Decode. -/
import Derived.Test.YtkphecmdilefgaaDoorG11
import Derived.Laws.BytesArg
namespace Go.Proofs.YtkphecmdilefgaaDoor.Sg
open Go.RowKit Pl Go.Lib

abbrev IntT : TypeId := 3
theorem infoInt : (Tryd.prog.info? IntT).map (fun i => (i.zero, i.size, i.bytes)) = some (some (.int .i64 0), 1, 8) := by kernel_rfl
/-- Numbers as cells. -/
def i64s (l : List Nat) : List Value := l.map fun (n : Nat) => Value.int .i64 (n : Int)
theorem i64s_append (a b : List Nat) : i64s (a ++ b) = i64s a ++ i64s b := by simp [i64s]
theorem ba_size (l : List UInt8) : (⟨l.toArray⟩ : ByteArray).size = l.length := by show l.toArray.size = _; simp
theorem byte_at (s : ByteArray) (i : Nat) (h : i < s.size) : s.data.toList[i]'(by simpa using h) = s[i] := by simp; rfl
theorem textback {w : World} {v : Value} {t : List Int} (h : TextAt w v t) : (convert 50 9 v).run Tryd.prog w = .ok (.string (runesBytes t)) w := by
  rcases h with ⟨rfl, rfl⟩ | ⟨g, c, cur, rfl, hg, ht⟩
  · exact run_convert_runes_nil w 50 9 21 0 0 Tryd.underlying50 Tryd.underlying21 Tryd.underlying9
  · have h := run_convert_runes (P := Tryd.prog) w 50 9 21 ⟨g, 0, none⟩ t.length c t (Nat.le_refl _) Tryd.underlying50 Tryd.underlying21 Tryd.underlying9 (by
      intro j hj
      rw [Addr.add_lit, Nat.zero_add, cell_of_row w g j cur RuneT (0, 0) hg]
      have h2 : (cur.toList.take t.length)[j]? = some (.int .i32 (t.getD j 0)) := by
        rw [ht]
        simp [i32s, List.getElem?_eq_getElem hj]
      rw [List.getElem?_take, if_pos hj] at h2
      simpa using h2)
    rw [List.take_length] at h
    exact h
/-- A byte's text. -/
def byteS (l : List RRow) (b : UInt8) : ByteArray := runesBytes ((textOf ⟨#[b]⟩ l).getD [])
theorem byte18_any (A : Option Addr) (c : Nat) (l : List RRow) (b : UInt8) (w : World) (hR : RefsAt w A l) (hn : l.length ≤ 1048576) :
    Calls Tryd.prog 17 #[.slice A l.length c, .int .u8 (b.toNat : Int)] w fun e w' => e = .returned (.string (byteS l b)) ∧ Below w.heap.size w w' := by
  obtain ⟨W, hW⟩ : ∃ W, w.alloc (.cells #[.int .u8 (b.toNat : Int)] 5) = W := ⟨_, rfl⟩
  have hb : Below w.heap.size w W := hW ▸ (Below.refl _ _).alloc (Nat.le_refl _) _
  have hk : Blk W w.heap.size 5 #[.int .u8 (b.toNat : Int)] := hW ▸ Blk.new _ _ _
  have hcv := run_convert_bytes_arg (P := Tryd.prog) W 48 5 Tryd.underlying48 Tryd.underlying5 w.heap.size 0 1 1 [(b.toNat : Int)] rfl (by
    intro i hi
    obtain rfl : i = 0 := by omega
    rw [hk.cell]; rfl) 9 Tryd.underlying9
  rw [show strOfNums [(b.toNat : Int)] = ⟨#[b]⟩ from by
    apply ByteArray.ext
    apply Array.toList_inj.1
    rw [strOfNums_data]
    simp] at hcv
  unfold byteS
  have HT := Lib.hid (text_any A c l ⟨#[b]⟩ W (hR.keep hb) hn)
  have HB := Lib.hid hb
  generalize textOf ⟨#[b]⟩ l = X at *
  clear hb hk hR
  go_enter Tryd.func17, Tryd.ntmps17
  go_wp2_with fail
  refine HT.out.mono ?_
  rintro _ w1 ⟨v, rfl, htx, hb1⟩
  have hcb := textback htx
  have HB1 := Lib.hid (HB.out.trans (hb1.mono HB.out.size))
  clear htx hb1 HT hcv
  go_wp2_with fail
  go_returns
  exact ⟨rfl, HB1.out⟩
/-- What bytes are, by each policy: the text's bytes, the places of faults, the error. -/
def decGo (B : UInt8 → List UInt8) (pol : Int) : Nat → List UInt8 → List UInt8 × List Nat × Int
  | _, [] => ([], [], 0)
  | i, b :: t => if B b ≠ [] then (B b ++ (decGo B pol (i + 1) t).1, (decGo B pol (i + 1) t).2.1, (decGo B pol (i + 1) t).2.2)
    else if pol = 1 then ([], [i], 17)
    else ((if pol = 2 then [239, 191, 189] else []) ++ (decGo B pol (i + 1) t).1, i :: (decGo B pol (i + 1) t).2.1, (decGo B pol (i + 1) t).2.2)
section
variable {ops : Array Oper} {rest : List Oper} {oo : Oper} {a : Act} {Q : Exit → Act → World → Prop}
/-- 'faults = append(faults, i)'. -/
theorem wpList_int (w : World) (hgd : oo.guard = none) (s x : Operand) (ho : oo.op = .call { callee := .builtin .append, args := #[s, x], argTypes := #[39, 39] })
    (B : Nat) (v : Value) (l : List Nat) (hs : a.eval s = v) (hst : w.ownsRow B IntT 1 v l.length (i64s l)) (hB : B ≤ w.heap.size) (n : Nat)
    (c : Nat) (hx : a.eval x = .slice (some ⟨w.heap.size, 0, none⟩) 1 c) (hsm : l.length ≤ 1048576)
    (h : ∀ v' w', w'.ownsRow B IntT 1 v' (l ++ [n]).length (i64s (l ++ [n])) → Below B w w' → wpList Tryd.prog ops Q rest (a.put oo.dst v') w') : wpList Tryd.prog ops Q (oo :: rest) a (w.alloc (.cells #[.int .i64 (n : Int)] IntT)) := by
  obtain ⟨i0, hi, hz0, hz1, hz2⟩ := info_parts infoInt
  have hown' := hst.alloc (.cells #[.int .i64 (n : Int)] IntT)
  refine wpList_append_own _ hgd s x 39 ho B IntT i0 (.int .i64 0) 1 8 Tryd.underlying39 hi hz0 hz1 hz2 rfl (by decide) v l.length (i64s l) hs hown' ⟨w.heap.size, 0, none⟩ 1 c [.int .i64 (n : Int)] hx rfl ?_ ?_ ?_ ?_ ?_ ?_
  · intro j u hj
    match j, hj with
    | 0, hj => simp at hj; subst hj; simp [Addr.add]
  · intro u hu; simp at hu; subst hu; rfl
  · unfold maxLen; omega
  · omega
  · simp; omega
  · intro v' w1 hown1 hgrow _
    refine h v' w1 (by rw [i64s_append, List.length_append]; exact hown1) ?_
    exact ((Below.refl B w).alloc hB _).grown hgrow (by simp; omega) (fun k hk => (hst.lt k hk).1)
end
/-- What Decode answers. -/
def DecPost18 (w : World) (x : List UInt8 × List Nat × Int) (e : Ending) (w' : World) : Prop :=
  ∃ v, e = .returned (.tuple #[.string ⟨x.1.toArray⟩, v, .int .i64 x.2.2]) ∧ w'.ownsRow w.heap.size IntT 1 v x.2.1.length (i64s x.2.1) ∧ Below w.heap.size w w'
theorem decGo_at (B : UInt8 → List UInt8) (pol : Int) (s : List UInt8) (i : Nat) (hi : i < s.length) : decGo B pol i (s.drop i) = if B s[i] ≠ [] then (B s[i] ++ (decGo B pol (i + 1) (s.drop (i + 1))).1, (decGo B pol (i + 1) (s.drop (i + 1))).2.1, (decGo B pol (i + 1) (s.drop (i + 1))).2.2)
    else if pol = 1 then ([], [i], 17)
    else ((if pol = 2 then [239, 191, 189] else []) ++ (decGo B pol (i + 1) (s.drop (i + 1))).1, i :: (decGo B pol (i + 1) (s.drop (i + 1))).2.1, (decGo B pol (i + 1) (s.drop (i + 1))).2.2) := by
  rw [List.drop_eq_getElem_cons hi]
  rfl
theorem ba_app (u : List UInt8) (t : ByteArray) : (⟨u.toArray⟩ : ByteArray) ++ t = ⟨(u ++ t.data.toList).toArray⟩ := by
  apply ByteArray.ext
  simp [ByteArray.data_append]
theorem bad_text : runesBytes [65533] = ⟨#[239, 191, 189]⟩ := by decide +kernel
set_option maxRecDepth 100000 in
set_option maxHeartbeats 3200000 in
theorem decode18_any (A : Option Addr) (c : Nat) (l : List RRow) (pol : Int) (s : ByteArray) (w : World) (hR : RefsAt w A l) (hn : l.length ≤ 1048576) (hs : s.size ≤ 1000) (hB : ∀ b, (byteS l b).size ≤ 1000) :
    Calls Tryd.prog 13 #[.slice A l.length c, .int .i64 pol, .string s] w (DecPost18 w (decGo (fun b => (byteS l b).data.toList) pol 0 s.data.toList)) := by
  obtain ⟨Z, hZ⟩ : ∃ Z, decGo (fun b => (byteS l b).data.toList) pol 0 s.data.toList = Z := ⟨_, rfl⟩
  rw [hZ]
  have HR := Lib.hid hR
  have HB := Lib.hid hB
  have HZ : Hid (decGo (fun b => (byteS l b).data.toList) pol 0 (s.data.toList.drop 0) = Z) := Lib.hid hZ
  have hl : s.data.toList.length = s.size := by simp
  clear hR hB hZ
  go_enter Tryd.func13, Tryd.ntmps13
  go_wp2
  go_loopw [9, 10, 11] (fun vo vf vi wr => ∃ (i : Nat) (o : List UInt8) (f : List Nat), i ≤ s.size ∧ vi = .int .i64 i ∧ vo = .string ⟨o.toArray⟩ ∧ o.length ≤ 2000 * i ∧ f.length ≤ i ∧ wr.ownsRow w.heap.size IntT 1 vf f.length (i64s f) ∧ Below w.heap.size w wr ∧
      (o ++ (decGo (fun b => (byteS l b).data.toList) pol i (s.data.toList.drop i)).1, f ++ (decGo (fun b => (byteS l b).data.toList) pol i (s.data.toList.drop i)).2.1, (decGo (fun b => (byteS l b).data.toList) pol i (s.data.toList.drop i)).2.2) = Z) (fun _ _ vi _ => s.size - (intOf vi).toNat)
  case atStart => exact ⟨0, [], [], Nat.zero_le _, rfl, rfl, by simp, by simp, World.ownsRow_nil _ _ _ _, Below.refl _ _, by rw [List.nil_append, List.nil_append]; exact HZ.out⟩
  case round =>
    obtain ⟨i, o, f, hi, rfl, rfl, hol, hfl, ho, hb, hz⟩ := hrel
    have HO := Lib.hid ho
    have HBW := Lib.hid hb
    have hz0 : (⟨o.toArray⟩ : ByteArray).size = o.length := ba_size o
    by_cases hlt : i < s.size
    · rw [decGo_at _ pol s.data.toList i (by rw [hl]; exact hlt)] at hz
      have hbt := byte_at s i hlt
      have h18 := byte18_any A c l s.data.toList[i] wr (HR.out.keep hb) hn
      have hbs := HB.out s.data.toList[i]
      rw [hbt] at h18 hz hbs
      obtain ⟨⟨r1, r2, r3⟩, hrq⟩ : ∃ R, decGo (fun b => (byteS l b).data.toList) pol (i + 1) (s.data.toList.drop (i + 1)) = R := ⟨_, rfl⟩
      rw [hrq] at hz
      have HRQ := Lib.hid hrq
      clear hrq
      generalize byteS l s[i] = t at *
      have H18 := Lib.hid h18
      have hba := ba_app o t
      have hz1 : t.data.toList.length = t.size := by simp
      clear h18 ho hb hbt
      have j0 : (0 : Int) ≤ (i : Int) := by omega
      have j1 : (i : Int) < (s.size : Int) := by omega
      have hz2 : (⟨o.toArray⟩ ++ t).size = o.length + t.size := by rw [ByteArray.size_append, hz0]
      by_cases ht : t.data.toList = []
      · rw [if_neg (by simp [ht])] at hz
        have hte : t.toList.isEmpty = true := by rw [ByteArray.toList_eq, ht]; rfl
        rw [ht, List.append_nil] at hba
        clear ht hz2 hz1
        go_wp2_with fail
        refine H18.out.mono ?_
        rintro _ w1 ⟨rfl, hb1⟩
        have HO1 := Lib.hid (own_below HO.out hb1)
        have HB1 := Lib.hid (HBW.out.trans (hb1.mono HBW.out.size))
        clear hb1 HO HBW H18
        by_cases hp1 : pol = 1
        · have p1 : (pol == 1) = true := by simp [hp1]
          rw [if_pos hp1, List.append_nil] at hz
          subst hz
          clear hp1
          go_wp2_with (at_builtin; go_loud (refine wpList_int w1 rfl _ _ rfl w.heap.size u10 f rfl HO1.out HB1.out.size i _ rfl (by omega) ?_); intro v2 w2 ho2 hb2)
          go_returns
          exact ⟨v2, rfl, ho2, HB1.out.trans hb2⟩
        · have p1 : (pol == 1) = false := by simp [hp1]
          rw [if_neg hp1] at hz
          by_cases hp2 : pol = 2
          · have p2 : (pol == 2) = true := by simp [hp2]
            rw [if_pos hp2] at hz
            have HZ2 := Lib.hid hz
            clear hp1 hp2 hz
            go_wp2_with (at_builtin; go_loud (refine wpList_int w1 rfl _ _ rfl w.heap.size u10 f rfl HO1.out HB1.out.size i _ rfl (by omega) ?_); intro v2 w2 ho2 hb2; have HO2 := Lib.hid ho2; have HB2 := Lib.hid (HB1.out.trans hb2); clear ho2 hb2; have hcv := conv_one 65533 w2.heap.size (w2.alloc (.cells #[.int .i32 65533] 21)) (by rw [(Blk.new w2 _ _).cell]; rfl); rw [show runesBytes [((65533 : Nat) : Int)] = ⟨#[239, 191, 189]⟩ from bad_text] at hcv; have hcv : (convert 50 9 (.slice (some ⟨w2.heap.size, 0, none⟩) 1 1)).run Tryd.prog (w2.alloc (.cells #[.int .i32 65533] 21)) = .ok (.string ⟨#[239, 191, 189]⟩) (w2.alloc (.cells #[.int .i32 65533] 21)) := hcv)
            go_roundw
            case rel =>
              refine ⟨i + 1, o ++ [239, 191, 189], f ++ [i], by omega, by go_num, by rw [ba_app], by simp; omega, by simp; omega, HO2.out.alloc _, HB2.out.alloc HB2.out.size _, ?_⟩
              rw [HRQ.out, List.append_assoc, List.append_assoc]; exact HZ2.out
            case measure => simp [intOf]; omega
          · have p2 : (pol == 2) = false := by simp [hp2]
            rw [if_neg hp2, List.nil_append] at hz
            have HZ2 := Lib.hid hz
            clear hp1 hp2 hz
            go_wp2_with (at_builtin; go_loud (refine wpList_int w1 rfl _ _ rfl w.heap.size u10 f rfl HO1.out HB1.out.size i _ rfl (by omega) ?_); intro v2 w2 ho2 hb2)
            go_roundw
            case rel => exact ⟨i + 1, o, f ++ [i], by omega, by go_num, rfl, by omega, by simp; omega, ho2, HB1.out.trans hb2, by rw [HRQ.out, List.append_assoc]; exact HZ2.out⟩
            case measure => simp [intOf]; omega
      · rw [if_pos ht] at hz
        have HZ2 := Lib.hid hz
        have hte : t.toList.isEmpty = false := by rw [ByteArray.toList_eq]; simpa using ht
        clear hz ht
        go_wp2_with fail
        refine H18.out.mono ?_
        rintro _ w1 ⟨rfl, hb1⟩
        have HO1 := Lib.hid (own_below HO.out hb1)
        have HB1 := Lib.hid (HBW.out.trans (hb1.mono HBW.out.size))
        clear hb1 HO HBW H18
        go_wp2_with fail
        go_roundw
        case rel => exact ⟨i + 1, o ++ t.data.toList, f, by omega, by go_num, rfl, by simp; omega, by omega, HO1.out, HB1.out, by rw [HRQ.out, List.append_assoc]; exact HZ2.out⟩
        case measure => simp [intOf]; omega
    · obtain rfl : i = s.size := by omega
      rw [List.drop_eq_nil_of_le (by rw [hl]; exact Nat.le_refl _)] at hz
      have hz : (o ++ [], f ++ [], (0 : Int)) = Z := hz
      rw [List.append_nil, List.append_nil] at hz
      subst hz
      clear ho hb
      go_wp2_with fail
      go_returns
      exact ⟨_, rfl, HO.out, HBW.out⟩
end Go.Proofs.YtkphecmdilefgaaDoor.Sg
