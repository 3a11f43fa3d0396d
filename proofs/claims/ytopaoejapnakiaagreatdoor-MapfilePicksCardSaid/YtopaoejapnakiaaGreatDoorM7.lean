/- Words: a row of strings that the call makes; walk: inkhornref13.Lines. -/
import Derived.Test.YtopaoejapnakiaaGreatDoorMB
import Derived.Laws.OwnMore
import Derived.OwnWalk
namespace Go.Proofs.YtopaoejapnakiaaGreatDoor.Mf
open Go.RowKit

abbrev StrT : TypeId := 9
theorem infoStr : (Tryz.prog.info? StrT).map (fun i => (i.zero, i.size, i.bytes)) = some (some (.string ⟨#[]⟩), 1, 16) := by kernel_rfl
def strsL (l : List (List UInt8)) : List Value := l.map fun b => Value.string ⟨b.toArray⟩
theorem strsL_append (a b : List (List UInt8)) : strsL (a ++ b) = strsL a ++ strsL b := by simp [strsL]
theorem own_keep {w w' : World} {B e sz n : Nat} {v : Value} {xs : List Value} (h : w.ownsRow B e sz v n xs) (hb : Below w.heap.size w w') : w'.ownsRow B e sz v n xs := by
  refine ⟨h.1, ?_⟩
  rcases h.2 with h1 | ⟨g, cap, cur, e1, hg, hh, h4⟩
  · exact .inl h1
  · exact .inr ⟨g, cap, cur, e1, hg, (hb.block g (Array.getElem?_eq_some_iff.1 hh).1).trans hh, h4⟩
theorem own_shapeN {w : World} {B n sz : Nat} {e : TypeId} {v : Value} {xs : List Value} (h : w.ownsRow B e sz v n xs) : ∃ A c, v = .slice A n c := by
  rcases h.2 with ⟨rfl, h0⟩ | ⟨g, cap, _, e1, _⟩
  · exact ⟨none, 0, by rw [h0]⟩
  · exact ⟨_, _, e1⟩
section
variable {ops : Array Oper} {rest : List Oper} {oo : Oper} {a : Act} {Q : Exit → Act → World → Prop}
/-- 'out = append(out, line)'. -/
theorem wpList_line (w : World) (hgd : oo.guard = none) (s x : Operand) (ho : oo.op = .call { callee := .builtin .append, args := #[s, x], argTypes := #[57, 57] })
    (B : Nat) (v : Value) (l : List (List UInt8)) (hs : a.eval s = v) (hst : w.ownsRow B StrT 1 v l.length (strsL l)) (hB : B ≤ w.heap.size) (b : ByteArray)
    (c : Nat) (hx : a.eval x = .slice (some ⟨w.heap.size, 0, none⟩) 1 c) (hsm : l.length ≤ 1048576)
    (h : ∀ v' w', w'.ownsRow B StrT 1 v' (l ++ [b.data.toList]).length (strsL (l ++ [b.data.toList])) → Below B w w' → wpList Tryz.prog ops Q rest (a.put oo.dst v') w') : wpList Tryz.prog ops Q (oo :: rest) a (w.alloc (.cells #[.string b] StrT)) := by
  obtain ⟨i0, hi, hz0, hz1, hz2⟩ := info_parts infoStr
  have hown' := hst.alloc (.cells #[.string b] StrT)
  refine wpList_append_own _ hgd s x 57 ho B StrT i0 (.string ⟨#[]⟩) 1 16 Tryz.underlying57 hi hz0 hz1 hz2 rfl (by decide) v l.length (strsL l) hs hown' ⟨w.heap.size, 0, none⟩ 1 c [.string b] hx rfl ?_ ?_ ?_ ?_ ?_ ?_
  · intro j u hj
    match j, hj with
    | 0, hj => simp at hj; subst hj; simp [Addr.add]
  · intro u hu; simp at hu; subst hu; rfl
  · unfold maxLen; omega
  · omega
  · simp; omega
  · intro v' w1 hown1 hgrow _
    refine h v' w1 ?_ (((Below.refl B w).alloc hB _).grown hgrow (by simp; omega) (fun k hk => (hst.lt k hk).1))
    rw [strsL_append, List.length_append]
    exact hown1
end
theorem lines_push (line t : List UInt8) (h : line.all (· != 10) = true) : linesOf (line ++ 10 :: t) = line :: linesOf t := by
  have hne : line ++ 10 :: t ≠ [] := by simp
  have hw : (line ++ 10 :: t).takeWhile (· != 10) = line := by
    rw [List.takeWhile_append_of_pos (fun a ha => List.all_eq_true.1 h a ha), List.takeWhile_cons]
    simp
  rw [linesOf_cons _ hne, hw]
  have h2 : (line ++ 10 :: t).drop (line.length + 1) = t := by
    rw [← List.drop_drop, List.drop_left]
    rfl
  rw [h2]
theorem lines_last (line : List UInt8) (h : line.all (· != 10) = true) (hn : line ≠ []) : linesOf line = [line] := by
  rw [linesOf_cons _ hn, while_all _ _ h, List.drop_eq_nil_of_le (by omega), linesOf_nil]
theorem fits_no1 (s : List UInt8) (out rest : List (List UInt8)) (line : List UInt8) (h : linesOf s = out ++ line :: rest) (hl : 512 < line.length) : fits s = false := by
  unfold fits
  rw [h, List.all_append, List.all_cons]
  have : decide (line.length ≤ 512) = false := decide_eq_false (by omega)
  rw [this]
  simp
theorem fits_no2 (s : List UInt8) (out rest : List (List UInt8)) (line : List UInt8) (h : linesOf s = out ++ line :: rest) (hl : out.length = 4096) : fits s = false := by
  unfold fits
  rw [h]
  have : decide ((out ++ line :: rest).length ≤ 4096) = false := decide_eq_false (by rw [List.length_append, List.length_cons]; omega)
  rw [this, Bool.and_false]
theorem ext_any (s : ByteArray) (i j : Nat) : (s.extract i j).data.toList = (s.data.toList.take j).drop i := by
  rw [ByteArray.data_extract, Array.toList_extract, List.extract_eq_take_drop, List.drop_take]
def LinesPost (w : World) (s : List UInt8) (e : Ending) (w' : World) : Prop :=
  (fits s = true → ∃ v, e = .returned (.tuple #[v, .bool true]) ∧ w'.ownsRow w.heap.size StrT 1 v (linesOf s).length (strsL (linesOf s))) ∧ (fits s = false → e = .returned (.tuple #[.slice none 0 0, .bool false])) ∧ Below w.heap.size w w'
set_option maxRecDepth 100000 in
set_option maxHeartbeats 3200000 in
theorem linesR_any (s : ByteArray) (hs : s.size ≤ 1000000) (w : World) :
    Calls Tryz.prog 30 #[.string s] w (LinesPost w s.data.toList) := by
  unfold LinesPost
  obtain ⟨Fs, hF⟩ : ∃ F, fits s.data.toList = F := ⟨_, rfl⟩
  obtain ⟨Ls, hL⟩ : ∃ L, linesOf s.data.toList = L := ⟨_, rfl⟩
  rw [hF, hL]
  have HF := Lib.hid hF
  have HL := Lib.hid hL
  clear hF hL
  go_enter Tryz.func30, Tryz.ntmps30
  go_wp2_with fail
  go_loopw [4, 5, 6] (fun vo vl vi wr => ∃ (i : Nat) (out : List (List UInt8)) (B : ByteArray), i ≤ s.size ∧ vi = .int .i64 i ∧ vl = .string B ∧ B.size ≤ i ∧ B.data.toList.all (· != 10) = true ∧ (i = s.size → B.data.toList = []) ∧ wr.ownsRow w.heap.size StrT 1 vo out.length (strsL out) ∧ Below w.heap.size w wr ∧
      out ++ linesOf (B.data.toList ++ s.data.toList.drop i) = Ls ∧ out.all (fun l => decide (l.length ≤ 512)) = true ∧ out.length ≤ 4096) (fun _ _ vi _ => s.size - (RowKit.intOf vi).toNat)
  case atStart => exact ⟨0, [], ⟨#[]⟩, Nat.zero_le _, rfl, rfl, Nat.le_refl _, rfl, fun _ => rfl, World.ownsRow_nil _ _ _ _, Below.refl _ _, HL.out, rfl, by simp⟩
  case round =>
    obtain ⟨i, out, B, hi, rfl, rfl, hbi, hb10, hend, ho, hb, hls, h512, hlen⟩ := hrel
    have HO := Lib.hid ho
    have HB := Lib.hid hb
    have HLS := Lib.hid hls
    have H10 := Lib.hid hb10
    have H512 := Lib.hid h512
    have HEND := Lib.hid hend
    clear ho hb hls hb10 h512 hend
    by_cases hlt : i < s.size
    · have j0 : (0 : Int) ≤ (i : Int) := by omega
      have j1 : (i : Int) < (s.size : Int) := by omega
      have j2 : (i : Int) ≤ (i : Int) + 1 := by omega
      have j3 : (i : Int) + 1 ≤ (s.size : Int) := by omega
      have hkw : IntKind.i64.wrap ((i : Int) + 1) = (i : Int) + 1 := IntWalk.i64_in _ (by omega)
      have hsw : IntKind.i64.wrap ((s.size : Int) - 1) = (s.size : Int) - 1 := IntWalk.i64_in _ (by omega)
      have hli : i < s.data.toList.length := by rw [bl]; exact hlt
      have hdr : s.data.toList.drop i = s[i] :: s.data.toList.drop (i + 1) := by rw [List.drop_eq_getElem_cons hli, b_at s i hlt]
      have HDR := Lib.hid hdr
      clear hdr
      by_cases h10 : s[i] = 10
      · have b1 : ((s[i].toNat : Int) != 10) = false := by rw [h10]; rfl
        have hp : Ls = out ++ B.data.toList :: linesOf (s.data.toList.drop (i + 1)) := by
          rw [← HLS.out, HDR.out, h10, lines_push _ _ H10.out]
        have HP := Lib.hid hp
        clear h10 hp
        by_cases hb5 : 512 < B.size
        · have b2 : decide ((512 : Int) < (B.size : Int)) = true := decide_eq_true (by omega)
          have hf : Fs = false := by rw [← HF.out]; exact fits_no1 _ _ _ _ (HL.out.trans HP.out) (by rw [bl]; exact hb5)
          subst hf
          clear hb5
          go_wp2_with fail
          go_returns
          exact ⟨rfl, HB.out⟩
        have b2 : decide ((512 : Int) < (B.size : Int)) = false := decide_eq_false (by omega)
        have H5 : Hid (B.data.toList.length ≤ 512) := Lib.hid (by rw [bl]; omega)
        clear hb5
        obtain ⟨Ao, co, rfl⟩ := own_shapeN HO.out
        by_cases h40 : out.length = 4096
        · have b3 : ((out.length : Int) == 4096) = true := by rw [beq_iff_eq]; omega
          have hf : Fs = false := by rw [← HF.out]; exact fits_no2 _ _ _ _ (HL.out.trans HP.out) h40
          subst hf
          clear h40
          go_wp2_with fail
          go_returns
          exact ⟨rfl, HB.out⟩
        have b3 : ((out.length : Int) == 4096) = false := by rw [beq_eq_false_iff_ne]; omega
        go_wp2_with (at_builtin; go_loud (refine wpList_line wr rfl _ _ rfl w.heap.size (.slice Ao out.length co) out rfl HO.out HB.out.size B _ rfl (by omega) ?_); intro v2 w2 ho2 hb2)
        go_roundw
        case rel => exact ⟨i + 1, out ++ [B.data.toList], ⟨#[]⟩, by omega, by go_num, rfl, Nat.zero_le _, rfl, fun _ => rfl, ho2, HB.out.trans hb2, by rw [List.append_assoc]; exact HP.out.symm, by rw [List.all_append, H512.out]; simp only [List.all_cons, List.all_nil, Bool.and_true, Bool.true_and]; exact decide_eq_true H5.out, by rw [List.length_append]; simp; omega⟩
        case measure => simp [RowKit.intOf]; omega
      · have b1 : ((s[i].toNat : Int) != 10) = true := by
          rw [bne_iff_ne]
          intro h
          exact h10 (UInt8.toNat_inj.1 (by have : (10 : UInt8).toNat = 10 := rfl; omega))
        have he1 : (s.extract i (i + 1)).data.toList = [s[i]] := by
          rw [ext_any, List.take_succ_eq_append_getElem hli, List.drop_append, List.drop_eq_nil_of_le (by rw [List.length_take]; omega), List.length_take, b_at s i hlt]
          have : i - min i s.data.toList.length = 0 := by omega
          rw [this]
          rfl
        have HE1 := Lib.hid he1
        have hse : (s.extract i (i + 1)).size = 1 := by rw [← bl, he1]; rfl
        have hsz : (B ++ s.extract i (i + 1)).size = B.size + 1 := by rw [ByteArray.size_append, hse]
        have HSZ := Lib.hid hsz
        have hD : (B ++ s.extract i (i + 1)).data.toList = B.data.toList ++ [s[i]] := by rw [ByteArray.toList_data_append, he1]
        have HDD := Lib.hid hD
        have k0 : ((B.size + (s.extract i (i + 1)).size : Nat) : Int) ≤ 2000000 := by rw [hse]; omega
        have hnn : (B.data.toList ++ [s[i]]).all (· != 10) = true := by
          rw [List.all_append, H10.out]
          simp
          exact h10
        have HNN := Lib.hid hnn
        clear he1 hse hsz hD h10 hnn
        by_cases hl : i < s.size - 1
        · have b2 : decide ((i : Int) < (s.size : Int) - 1) = true := decide_eq_true (by omega)
          go_wp2_with fail
          go_roundw
          case rel => exact ⟨i + 1, out, B ++ s.extract i (i + 1), by omega, by go_num, rfl, by rw [HSZ.out]; omega, by rw [HDD.out]; exact HNN.out, fun h => by omega, HO.out, HB.out, by rw [HDD.out, List.append_assoc, ← HLS.out, HDR.out]; rfl, H512.out, hlen⟩
          case measure => simp [RowKit.intOf]; omega
        · have b2 : decide ((i : Int) < (s.size : Int) - 1) = false := decide_eq_false (by omega)
          have hp : Ls = out ++ [B.data.toList ++ [s[i]]] := by
            rw [← HLS.out, HDR.out, List.drop_eq_nil_of_le (by rw [bl]; omega), lines_last _ HNN.out (by simp)]
          have HP := Lib.hid hp
          clear hp
          obtain ⟨N, hN⟩ : ∃ N, N = B ++ s.extract i (i + 1) := ⟨_, rfl⟩
          have HN := Lib.hid hN
          have hNs : N.size = B.size + 1 := by rw [hN]; exact HSZ.out
          have hNd : N.data.toList = B.data.toList ++ [s[i]] := by rw [hN]; exact HDD.out
          have HND := Lib.hid hNd
          clear hN hNd
          have hm : (B.size : Int) + ((min (i + 1) s.size - i : Nat) : Int) = (N.size : Int) := by omega
          obtain ⟨Ao, co, rfl⟩ := own_shapeN HO.out
          by_cases hb5 : 512 < N.size
          · have b5 : decide ((512 : Int) < (B.size : Int) + ((min (i + 1) s.size - i : Nat) : Int)) = true := decide_eq_true (by omega)
            have hf : Fs = false := by rw [← HF.out]; exact fits_no1 _ out [] N.data.toList (HL.out.trans (HND.out ▸ HP.out)) (by rw [bl]; exact hb5)
            subst hf
            clear hb5 hNs hm
            go_wp2_with fail
            go_returns
            exact ⟨rfl, HB.out⟩
          have b5 : decide ((512 : Int) < (B.size : Int) + ((min (i + 1) s.size - i : Nat) : Int)) = false := decide_eq_false (by omega)
          have H5 : Hid (N.data.toList.length ≤ 512) := Lib.hid (by rw [bl]; omega)
          clear hb5 hNs hm
          by_cases h40 : out.length = 4096
          · have b3 : ((out.length : Int) == 4096) = true := by rw [beq_iff_eq]; omega
            have hf : Fs = false := by rw [← HF.out]; exact fits_no2 _ out [] N.data.toList (HL.out.trans (HND.out ▸ HP.out)) h40
            subst hf
            clear h40
            go_wp2_with fail
            go_returns
            exact ⟨rfl, HB.out⟩
          have b3 : ((out.length : Int) == 4096) = false := by rw [beq_eq_false_iff_ne]; omega
          go_wp2_with (at_builtin; go_loud (refine wpList_line wr rfl _ _ rfl w.heap.size (.slice Ao out.length co) out rfl HO.out HB.out.size _ _ rfl (by omega) ?_); intro v2 w2 ho2 hb2)
          rw [← HN.out] at ho2
          go_roundw
          case rel => exact ⟨i + 1, out ++ [N.data.toList], ⟨#[]⟩, by omega, by go_num, rfl, Nat.zero_le _, rfl, fun _ => rfl, ho2, HB.out.trans hb2, by rw [HND.out, List.drop_eq_nil_of_le (by rw [bl]; omega), HP.out]; simp [linesOf_nil], by rw [List.all_append, H512.out]; simp only [List.all_cons, List.all_nil, Bool.and_true, Bool.true_and]; exact decide_eq_true H5.out, by rw [List.length_append]; simp; omega⟩
          case measure => simp [RowKit.intOf]; omega
    · obtain rfl : i = s.size := by omega
      have hn := HEND.out rfl
      have hls := HLS.out
      rw [hn, List.drop_eq_nil_of_le (by rw [bl]; exact Nat.le_refl _), List.append_nil, linesOf_nil, List.append_nil] at hls
      subst hls
      have hf : Fs = true := by
        rw [← HF.out]
        unfold fits
        rw [HL.out, H512.out]
        simp; omega
      subst hf
      have jj : decide ((s.size : Int) < (s.size : Int)) = false := decide_eq_false (by omega)
      clear hn
      go_wp2_with fail
      go_returns
      exact ⟨⟨_, rfl, HO.out⟩, HB.out⟩
end Go.Proofs.YtopaoejapnakiaaGreatDoor.Mf
