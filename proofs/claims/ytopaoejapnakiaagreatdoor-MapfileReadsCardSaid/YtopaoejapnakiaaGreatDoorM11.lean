/- Words: the two rows of a reading function of the reference; walk: inkhornref13.Ucm. -/
import Derived.Test.YtopaoejapnakiaaGreatDoorM11a
namespace Go.Proofs.YtopaoejapnakiaaGreatDoor.Mf
open Go.RowKit

/-- The block of the answer is zero yet, the row is what was read so far. -/
def At3 (w wx : World) (B : ByteArray) (v : Value) (l : List Int) (f : Int) : Prop :=
  Blk wx w.heap.size RefT #[.string ⟨#[]⟩, .slice none 0 0, .int .i64 0] ∧ Blk wx (w.heap.size + 1) RefT #[.string B, v, .int .i64 f] ∧ wx.ownsRow w.heap.size RuneT 1 v l.length (i32s l) ∧ Below w.heap.size w wx
theorem At3.cells {w wx : World} {B : ByteArray} {v : Value} {l : List Int} {f : Int} (h : At3 w wx B v l f) :
    wx.cell? ⟨w.heap.size, 0, none⟩ = some (.string ⟨#[]⟩) ∧ wx.cell? ⟨w.heap.size, 1, none⟩ = some (.slice none 0 0) ∧ wx.cell? ⟨w.heap.size, 2, none⟩ = some (.int .i64 0) ∧
    wx.cell? ⟨w.heap.size + 1, 0, none⟩ = some (.string B) ∧ wx.cell? ⟨w.heap.size + 1, 1, none⟩ = some v ∧ wx.cell? ⟨w.heap.size + 1, 2, none⟩ = some (.int .i64 f) ∧
    wx.frozen? ⟨w.heap.size, 0, none⟩ = false ∧ wx.frozen? ⟨w.heap.size, 1, none⟩ = false ∧ wx.frozen? ⟨w.heap.size, 2, none⟩ = false ∧
    wx.frozen? ⟨w.heap.size + 1, 0, none⟩ = false ∧ wx.frozen? ⟨w.heap.size + 1, 1, none⟩ = false ∧ wx.frozen? ⟨w.heap.size + 1, 2, none⟩ = false := by
  obtain ⟨h0, h1, _, _⟩ := h
  refine ⟨?_, ?_, ?_, ?_, ?_, ?_, Blk.frz h0 0, Blk.frz h0 1, Blk.frz h0 2, Blk.frz h1 0, Blk.frz h1 1, Blk.frz h1 2⟩
  · rw [h0.cell]; rfl
  · rw [h0.cell]; rfl
  · rw [h0.cell]; rfl
  · rw [h1.cell]; rfl
  · rw [h1.cell]; rfl
  · rw [h1.cell]; rfl
theorem At3.ret {w wx : World} {B : ByteArray} {v : Value} {l : List Int} {f : Int} (h : At3 w wx B v l f) :
    ∃ Wf, (((wx.setCell ⟨w.heap.size, 0, none⟩ (.string B)).setCell ⟨w.heap.size, 1, none⟩ v).setCell ⟨w.heap.size, 2, none⟩ (.int .i64 f)) = Wf ∧ Wf.cell? ⟨w.heap.size, 0, none⟩ = some (.string B) ∧ Wf.cell? ⟨w.heap.size, 1, none⟩ = some v ∧ Wf.cell? ⟨w.heap.size, 2, none⟩ = some (.int .i64 f) ∧ Hid (Below w.heap.size w Wf) ∧ Hid (TextAt Wf v l) := by
  obtain ⟨Wf, e, q0, q1, q2, hb, ht⟩ := ret3 (.string B) v (.int .i64 f) h.1 h.2.2.2 (Nat.le_refl _)
  exact ⟨Wf, e, q0, q1, q2, Lib.hid hb, Lib.hid (ht _ _ (text_of_own h.2.2.1))⟩
theorem At3.code {w wx : World} {B : ByteArray} {v : Value} {l : List Int} {f : Int} (h : At3 w wx B v l f) (C : ByteArray) :
    ∃ V, wx.setCell ⟨w.heap.size + 1, 0, none⟩ (.string C) = V ∧ At3 w V C v l f :=
  ⟨_, rfl, Blk.apart h.1 (by omega), Blk.set h.2.1 0 (.string C), own_set h.2.2.1 h.2.1 (by decide), below_set h.2.2.2 _ _ _ (by omega)⟩
theorem At3.flag {w wx : World} {B : ByteArray} {v : Value} {l : List Int} {f : Int} (h : At3 w wx B v l f) (C : Int) :
    ∃ V, wx.setCell ⟨w.heap.size + 1, 2, none⟩ (.int .i64 C) = V ∧ At3 w V B v l C :=
  ⟨_, rfl, Blk.apart h.1 (by omega), Blk.set h.2.1 2 (.int .i64 C), own_set h.2.2.1 h.2.1 (by decide), below_set h.2.2.2 _ _ _ (by omega)⟩
theorem At3.text {w wx : World} {B : ByteArray} {v : Value} {l : List Int} {f : Int} (h : At3 w wx B v l f) {w2 : World} {v2 : Value} {l2 : List Int} (ho : w2.ownsRow w.heap.size RuneT 1 v2 l2.length (i32s l2)) (hb : Below w.heap.size wx w2) (hk : ∀ g t cs, t ≠ RuneT → Blk wx g t cs → Blk w2 g t cs) :
    ∃ V, w2.setCell ⟨w.heap.size + 1, 1, none⟩ v2 = V ∧ w2.cell? ⟨w.heap.size + 1, 1, none⟩ = some v ∧ w2.frozen? ⟨w.heap.size + 1, 1, none⟩ = false ∧ At3 w V B v2 l2 f := by
  have k0 := hk _ _ _ (by decide) h.1
  have k1 := hk _ _ _ (by decide) h.2.1
  exact ⟨_, rfl, by rw [k1.cell]; rfl, Blk.frz k1 1, Blk.apart k0 (by omega), Blk.set k1 1 v2, own_set ho k1 (by decide), below_set (h.2.2.2.trans hb) _ _ _ (by omega)⟩
theorem At3.alloc {w wx : World} {B : ByteArray} {v : Value} {l : List Int} {f : Int} (h : At3 w wx B v l f) (o : Obj) : At3 w (wx.alloc o) B v l f :=
  ⟨h.1.alloc o, h.2.1.alloc o, h.2.2.1.alloc o, h.2.2.2.alloc h.2.2.2.size o⟩
theorem At3.drew {w wx : World} {B : ByteArray} {v : Value} {l : List Int} {f : Int} (h : At3 w wx B v l f) : At3 w wx.drew B v l f :=
  ⟨h.1.drew, h.2.1.drew, own_keep h.2.2.1 (Below.refl _ _).drew, h.2.2.2.drew⟩
theorem digs_while (n : Nat) : ∀ s, digs n s = (s.takeWhile isHex).take n := by
  induction n with
  | zero => intro s; simp [digs]
  | succ n ih =>
    intro s
    cases s with
    | nil => simp [digs]
    | cons c t =>
      unfold digs
      rw [List.takeWhile_cons]
      by_cases h : isHex c = true
      · rw [if_pos h, if_pos h, List.take_succ_cons, ih]
      · rw [if_neg h, if_neg h]; simp
theorem digs_two (u : List UInt8) : digs 2 u = (digs 7 u).take 2 := by
  rw [digs_while, digs_while, List.take_take]
  rfl
theorem digs_cut (u : List UInt8) : digs 7 (u.take 2) = digs 2 u := by
  rw [digs_while, digs_while, ← List.take_takeWhile, List.take_take]
  rfl
theorem at3_new (w : World) : ∃ W, ((w.alloc (.cells #[.string ⟨#[]⟩, .slice none 0 0, .int .i64 0] 49)).alloc (.cells #[.string ⟨#[]⟩, .slice none 0 0, .int .i64 0] 49)) = W ∧ At3 w W ⟨#[]⟩ (.slice none 0 0) [] 0 := by
  refine ⟨_, rfl, (Blk.new w RefT _).alloc _, ?_, World.ownsRow_nil _ _ _ _, ((Below.refl _ _).alloc (Nat.le_refl _) _).alloc (by simp) _⟩
  have := Blk.new (w.alloc (.cells #[.string ⟨#[]⟩, .slice none 0 0, .int .i64 0] 49)) RefT #[.string ⟨#[]⟩, .slice none 0 0, .int .i64 0]
  rw [World.size_alloc] at this
  exact this
theorem tailC_at (s : ByteArray) (k : Nat) : tailC (s.data.toList.drop k) = if h : k + 2 = s.size then if (s[k]'(by omega)) = 124 ∧ 48 ≤ (s[k + 1]'(by omega)) ∧ (s[k + 1]'(by omega)) ≤ 57 then some (((s[k + 1]'(by omega)).toNat : Int) - 48) else none else none := by
  by_cases h : k + 2 = s.size
  · rw [dif_pos h]
    have h1 : s.data.toList.drop k = [(s[k]'(by omega)), (s[k + 1]'(by omega))] := by
      rw [List.drop_eq_getElem_cons (by rw [bl]; omega), b_at s k (by omega), List.drop_eq_getElem_cons (by rw [bl]; omega), b_at s (k + 1) (by omega), List.drop_eq_nil_of_le (by rw [bl]; omega)]
    rw [h1]
    rfl
  · rw [dif_neg h]
    have h1 : (s.data.toList.drop k).length ≠ 2 := by rw [List.length_drop, bl]; omega
    unfold tailC
    split
    · rename_i e; rw [e] at h1; exact absurd rfl h1
    · rfl
/-- What Ucm answers, its text a slice in each case. -/
def CRefPost2 (w : World) (L : Option (List UInt8 × List Int × Int)) (e : Ending) (w' : World) : Prop :=
  ∃ (rc : ByteArray) (A : Option Addr) (n c : Nat) (fl how : Int), e = .returned (.tuple #[.agg #[.string rc, .slice A n c, .int .i64 fl], .int .i64 how]) ∧ Below w.heap.size w w' ∧ match L with
    | none => how = 0
    | some (k, l, f) => how = 1 ∧ rc = ⟨k.toArray⟩ ∧ TextAt w' (.slice A n c) l ∧ fl = f
set_option maxRecDepth 100000 in
set_option maxHeartbeats 3200000 in
theorem ucmR_any (s : ByteArray) (hs : s.size ≤ 1000000) (w : World) :
    Calls Tryz.prog 32 #[.string s] w (CRefPost2 w (refC s.data.toList)) := by
  obtain ⟨Z, hZ⟩ : ∃ Z, refC s.data.toList = Z := ⟨_, rfl⟩
  rw [hZ]
  rw [refC_eq] at hZ
  obtain ⟨C, hC⟩ : ∃ C, charsF s.data.toList = C := ⟨_, rfl⟩
  rw [hC] at hZ
  have HZ := Lib.hid hZ
  have HC := Lib.hid hC
  clear hZ hC
  obtain ⟨W, hW, hat⟩ := at3_new w
  have HAT := Lib.hid hat
  clear hat
  go_enter Tryz.func32, Tryz.ntmps32
  go_upto_block 0 with fail
  go_cut [5, 6, 7] (fun vi _ _ wx => ∃ (i : Nat) (l : List Int) (v : Value), vi = .int .i64 i ∧ i ≤ s.size ∧ l.length ≤ i ∧ At3 w wx ⟨#[]⟩ v l 0 ∧ C = some (l, s.data.toList.drop i))
  case first =>
    go_wp2_with fail
    go_loopw [5, 6, 7] (fun vi _ _ wx => ∃ (j : Nat) (l : List Int) (v : Value), vi = .int .i64 j ∧ j ≤ s.size ∧ l.length ≤ j ∧ At3 w wx ⟨#[]⟩ v l 0 ∧ (match charsF (s.data.toList.drop j) with | none => none | some (t, u) => some (l ++ t, u)) = C) (fun vi _ _ _ => s.size - (RowKit.intOf vi).toNat)
    case atStart =>
      refine ⟨0, [], .slice none 0 0, rfl, Nat.zero_le _, Nat.zero_le _, HAT.out, ?_⟩
      rw [List.drop_zero, HC.out]
      cases C <;> rfl
    case round =>
      obtain ⟨j, l, v, rfl, hj, hlj, hat, hC⟩ := hrel
      obtain ⟨Av, cv, rfl⟩ := own_shapeN hat.2.2.1
      have HA := Lib.hid hat
      obtain ⟨y0, y1, y2, v0, v1, v2, g0, g1, g2, k0, k1, k2⟩ := hat.cells
      obtain ⟨Wf, hWf, q0, q1, q2, HBF, _⟩ := hat.ret
      rw [charsF_eq] at hC
      have HCC := Lib.hid hC
      clear hat hC k0 k1 k2
      have kw : IntKind.i64.wrap ((j : Int) + 2) = (j : Int) + 2 := IntWalk.i64_in _ (by omega)
      have ht2 := take2_ba s j [60, 85]
      by_cases hx : ¬ (s.data.toList.drop j).take 2 = [60, 85]
      · have hC := HCC.out
        rw [if_neg hx] at hC
        have HC2 : Hid (C = some (l, s.data.toList.drop j)) := Lib.hid (by rw [← hC]; simp)
        clear hC
        by_cases hsz : s.size < j + 2
        · have b1 : decide ((j : Int) + 2 ≤ (s.size : Int)) = false := decide_eq_false (by omega)
          clear hx hsz ht2
          go_wp2_with fail
          go_meet
          exact ⟨j, l, _, rfl, hj, hlj, HA.out, HC2.out⟩
        · have b1 : decide ((j : Int) + 2 ≤ (s.size : Int)) = true := decide_eq_true (by omega)
          have i0 : (0 : Int) ≤ (j : Int) := by omega
          have i1 : (j : Int) ≤ (j : Int) + 2 := by omega
          have i2 : (j : Int) + 2 ≤ (s.size : Int) := by omega
          have b2 : ((s.extract j (j + 2)).toList == [60, 85]) = false := by rw [ht2]; exact decide_eq_false hx
          clear hx hsz ht2
          go_wp2_with fail
          go_meet
          exact ⟨j, l, _, rfl, hj, hlj, HA.out, HC2.out⟩
      have hx := Decidable.not_not.1 hx
      have hsz : j + 2 ≤ s.size := by
        have h2 := congrArg List.length hx
        rw [List.length_take, List.length_drop, bl] at h2
        simp at h2
        omega
      have hC := HCC.out
      rw [if_pos hx, List.drop_drop] at hC
      have b1 : decide ((j : Int) + 2 ≤ (s.size : Int)) = true := decide_eq_true (by omega)
      have i0 : (0 : Int) ≤ (j : Int) := by omega
      have i1 : (j : Int) ≤ (j : Int) + 2 := by omega
      have i2 : (j : Int) + 2 ≤ (s.size : Int) := by omega
      have b2 : ((s.extract j (j + 2)).toList == [60, 85]) = true := by rw [ht2]; exact decide_eq_true hx
      have hh := hexes_any s hs (j + 2) hsz wr
      have jc : ((j + 2 : Nat) : Int) = (j : Int) + 2 := by omega
      rw [jc] at hh
      have hdl := digs_le 7 (s.data.toList.drop (j + 2))
      rw [List.length_drop, bl] at hdl
      have hn7 := digs_len 7 (s.data.toList.drop (j + 2))
      have hnb := numOf_7 (digs 7 (s.data.toList.drop (j + 2))) hn7
      unfold charT runeO at hC
      rw [List.drop_drop] at hC
      obtain ⟨n, hn⟩ : ∃ n, (digs 7 (s.data.toList.drop (j + 2))).length = n := ⟨_, rfl⟩
      obtain ⟨x, hxx⟩ : ∃ x, numOf (digs 7 (s.data.toList.drop (j + 2))) = x := ⟨_, rfl⟩
      rw [hn, hxx] at hh hC
      rw [hn] at hdl hn7
      rw [hxx] at hnb
      have HH := Lib.hid hh
      have HC2 := Lib.hid hC
      clear hh hC hn hxx hx ht2 jc
      have kw2 : IntKind.i64.wrap ((j : Int) + 2 + (n : Int)) = (j : Int) + 2 + (n : Int) := IntWalk.i64_in _ (by omega)
      have kw3 : IntKind.i64.wrap ((j : Int) + (n : Int)) = (j : Int) + (n : Int) := IntWalk.i64_in _ (by omega)
      have kw4 : IntKind.i64.wrap ((j : Int) + (n : Int) + 3) = (j : Int) + (n : Int) + 3 := IntWalk.i64_in _ (by omega)
      by_cases hc : ¬ (4 ≤ n ∧ n ≤ 6)
      · have hC := HC2.out
        rw [if_neg hc] at hC
        have hC : none = C := hC
        have hz := HZ.out
        rw [← hC] at hz
        have hz : none = Z := hz
        subst hz
        clear hC
        by_cases hc4 : n < 4
        · have b5 : decide ((n : Int) < 4) = true := decide_eq_true (by omega)
          clear hc hc4
          go_wp2_with fail
          refine HH.out.mono ?_
          rintro _ _ ⟨rfl, rfl⟩
          go_wp2_with fail
          refine bodyPost_ret (by simp [results, Tryz.results32, go_sem, q0, q1, q2]; try rfl) rfl ?_
          exact ⟨_, _, _, _, _, _, rfl, HBF.out, rfl⟩
        · have b5 : decide ((n : Int) < 4) = false := decide_eq_false (by omega)
          have b6 : decide ((6 : Int) < (n : Int)) = true := decide_eq_true (by omega)
          clear hc hc4
          go_wp2_with fail
          refine HH.out.mono ?_
          rintro _ _ ⟨rfl, rfl⟩
          go_wp2_with fail
          refine bodyPost_ret (by simp [results, Tryz.results32, go_sem, q0, q1, q2]; try rfl) rfl ?_
          exact ⟨_, _, _, _, _, _, rfl, HBF.out, rfl⟩
      have hc := Decidable.not_not.1 hc
      have b5 : decide ((n : Int) < 4) = false := decide_eq_false (by omega)
      have b6 : decide ((6 : Int) < (n : Int)) = false := decide_eq_false (by omega)
      have hC := HC2.out
      rw [if_pos hc] at hC
      have HC3 := Lib.hid hC
      clear hC hc
      by_cases hge : s.size ≤ j + 2 + n
      · have b7 : decide ((s.size : Int) ≤ (j : Int) + 2 + (n : Int)) = true := decide_eq_true (by omega)
        have hC := HC3.out
        rw [List.drop_eq_nil_of_le (by rw [bl]; exact hge)] at hC
        have hC : none = C := hC
        have hz := HZ.out
        rw [← hC] at hz
        have hz : none = Z := hz
        subst hz
        clear hC hge
        go_wp2_with fail
        refine HH.out.mono ?_
        rintro _ _ ⟨rfl, rfl⟩
        go_wp2_with fail
        refine bodyPost_ret (by simp [results, Tryz.results32, go_sem, q0, q1, q2]; try rfl) rfl ?_
        exact ⟨_, _, _, _, _, _, rfl, HBF.out, rfl⟩
      have b7 : decide ((s.size : Int) ≤ (j : Int) + 2 + (n : Int)) = false := decide_eq_false (by omega)
      have hlt : j + 2 + n < s.size := by omega
      have hdr : s.data.toList.drop (j + 2 + n) = s[j + 2 + n] :: s.data.toList.drop (j + 2 + n + 1) := by rw [List.drop_eq_getElem_cons (by rw [bl]; exact hlt), b_at s (j + 2 + n) hlt]
      have i3 : (0 : Int) ≤ (j : Int) + 2 + (n : Int) := by omega
      have i4 : (j : Int) + 2 + (n : Int) < (s.size : Int) := by omega
      have hC := HC3.out
      rw [hdr] at hC
      simp only at hC
      by_cases h62 : ¬ s[j + 2 + n] = 62
      · have b8 : ((s[j + 2 + n].toNat : Int) == 62) = false := by
          rw [beq_eq_false_iff_ne]
          intro h
          exact h62 (UInt8.toNat_inj.1 (by have : (62 : UInt8).toNat = 62 := rfl; omega))
        rw [if_neg h62] at hC
        have hC : none = C := hC
        have hz := HZ.out
        rw [← hC] at hz
        have hz : none = Z := hz
        subst hz
        clear hC hge h62 hdr
        go_wp2_with fail
        refine HH.out.mono ?_
        rintro _ _ ⟨rfl, rfl⟩
        go_wp2_with fail
        refine bodyPost_ret (by simp [results, Tryz.results32, go_sem, q0, q1, q2]; try rfl) rfl ?_
        exact ⟨_, _, _, _, _, _, rfl, HBF.out, rfl⟩
      have h62 := Decidable.not_not.1 h62
      have b8 : ((s[j + 2 + n].toNat : Int) == 62) = true := by rw [h62]; rfl
      rw [if_pos h62] at hC
      have HC4 := Lib.hid hC
      have hxw : IntKind.i32.wrap (x : Int) = (x : Int) := IntWalk.i32_in _ (by omega)
      have HLN : Hid ((l ++ [(x : Int)]).length = l.length + 1) := Lib.hid (by simp)
      clear hC h62 hdr hge hWf q0 q1 q2 HBF
      go_wp2_with fail
      refine HH.out.mono ?_
      rintro _ _ ⟨rfl, rfl⟩
      go_wp2_with (at_builtin; go_loud (refine wpList_rune wr rfl _ _ rfl w.heap.size (.slice Av l.length cv) l rfl HA.out.2.2.1 HA.out.2.2.2.size (x : Int) _ rfl (by omega) ?_); intro v2 w2 ho2 hb2 hkp; obtain ⟨A2, c2, rfl⟩ := own_shapeN ho2; rw [HLN.out] at ho2 ⊢; obtain ⟨V2, hV2, cc, ff, hn2⟩ := HA.out.text (by rw [HLN.out]; exact ho2) hb2 hkp; have HN := Lib.hid hn2; clear ho2 hb2 hkp hn2)
      go_roundw
      case rel =>
        refine ⟨j + n + 3, l ++ [(x : Int)], _, by go_num, by omega, by rw [HLN.out]; omega, HN.out, ?_⟩
        rw [← HC4.out]
        have he : j + 2 + n + 1 = j + n + 3 := by omega
        rw [he]
        cases charsF (s.data.toList.drop (j + n + 3)) with
        | none => rfl
        | some y =>
          obtain ⟨t, u⟩ := y
          simp
      case measure => simp [RowKit.intOf]; omega
  case rest =>
    obtain ⟨i, l, v, rfl, hi, hli, hat, hC⟩ := hcut
    have hz := HZ.out
    rw [hC] at hz
    simp only at hz
    have hg := gap13_any s hs i hi wc
    have hnl : nsp (s.data.toList.drop i) ≤ s.size - i := by
      have h : nsp (s.data.toList.drop i) ≤ (s.data.toList.drop i).length := (List.takeWhile_prefix _).length_le
      rwa [List.length_drop, bl] at h
    rw [List.drop_drop] at hz
    obtain ⟨m, hm⟩ : ∃ m, nsp (s.data.toList.drop i) = m := ⟨_, rfl⟩
    rw [hm] at hg hnl hz
    obtain ⟨k, hk⟩ : ∃ k, i + m = k := ⟨_, rfl⟩
    rw [hk] at hg hz
    have HG := Lib.hid hg
    have HZ2 := Lib.hid hz
    obtain ⟨Av, cv, rfl⟩ := own_shapeN hat.2.2.1
    have HA := Lib.hid hat
    obtain ⟨y0, y1, y2, v0, v1, v2, g0, g1, g2, k0, k1, k2⟩ := hat.cells
    obtain ⟨Wf, hWf, q0, q1, q2, HBF, _⟩ := hat.ret
    clear hg hz hC hm hat k0 k1 k2
    by_cases hl0 : l.length = 0
    · have b1 : ((l.length : Int) == 0) = true := by rw [beq_iff_eq]; omega
      have hz := HZ2.out
      rw [if_pos (List.eq_nil_of_length_eq_zero hl0)] at hz
      have hz : none = Z := hz
      subst hz
      clear hl0
      go_wp2_with fail
      refine HG.out.mono ?_
      rintro _ _ ⟨rfl, rfl⟩
      go_wp2_with fail
      refine bodyPost_ret (by simp [results, Tryz.results32, go_sem, q0, q1, q2]; try rfl) rfl ?_
      exact ⟨_, _, _, _, _, _, rfl, HBF.out, rfl⟩
    have b1 : ((l.length : Int) == 0) = false := by rw [beq_eq_false_iff_ne]; omega
    have hz := HZ2.out
    rw [if_neg (fun h => by rw [h] at hl0; exact hl0 rfl)] at hz
    by_cases hm0 : m = 0
    · have b2 : ((k : Int) == (i : Int)) = true := by rw [beq_iff_eq]; omega
      rw [if_pos hm0] at hz
      have hz : none = Z := hz
      subst hz
      clear hl0 hm0 hk
      go_wp2_with fail
      refine HG.out.mono ?_
      rintro _ _ ⟨rfl, rfl⟩
      go_wp2_with fail
      refine bodyPost_ret (by simp [results, Tryz.results32, go_sem, q0, q1, q2]; try rfl) rfl ?_
      exact ⟨_, _, _, _, _, _, rfl, HBF.out, rfl⟩
    have b2 : ((k : Int) == (i : Int)) = false := by rw [beq_eq_false_iff_ne]; omega
    rw [if_neg hm0] at hz
    have hks : k ≤ s.size := by omega
    obtain ⟨D, hD⟩ : ∃ D, codesF (s.data.toList.drop k) = D := ⟨_, rfl⟩
    rw [hD] at hz
    have HD := Lib.hid hD
    have HZ3 := Lib.hid hz
    clear hl0 hm0 hk hnl hD hz hi hli
    go_upto_block 2 with (go_at_call 53; refine HG.out.mono ?_; rintro _ _ ⟨rfl, rfl⟩)
    go_cut [5, 9, 10, 11] (fun vi vc _ _ wx => ∃ (i : Nat) (B : ByteArray), vi = .int .i64 i ∧ vc = .string B ∧ i ≤ s.size ∧ B.size ≤ i ∧ At3 w wx ⟨#[]⟩ (.slice Av l.length cv) l 0 ∧ D = some (B.data.toList, s.data.toList.drop i))
    case first =>
      go_wp2_with fail
      go_loopw [5, 9, 10, 11] (fun vi vc _ _ wx => ∃ (i : Nat) (B : ByteArray), vi = .int .i64 i ∧ vc = .string B ∧ i ≤ s.size ∧ B.size ≤ i ∧ At3 w wx ⟨#[]⟩ (.slice Av l.length cv) l 0 ∧ (match codesF (s.data.toList.drop i) with | none => none | some (t, u) => some (B.data.toList ++ t, u)) = D) (fun vi _ _ _ _ => s.size - (RowKit.intOf vi).toNat)
      case atStart =>
        refine ⟨k, ⟨#[]⟩, rfl, rfl, hks, Nat.zero_le _, HA.out, ?_⟩
        rw [HD.out]
        cases D <;> rfl
      case round =>
        obtain ⟨j, B, rfl, rfl, hj, hbj, hat, hC⟩ := hrel
        have HA2 := Lib.hid hat
        clear g0 g1 g2 y0 y1 y2 v0 v1 v2 q0 q1 q2 hWf HBF
        obtain ⟨y0, y1, y2, v0, v1, v2, g0, g1, g2, k0, k1, k2⟩ := hat.cells
        obtain ⟨Wf, hWf, q0, q1, q2, HBF, _⟩ := hat.ret
        rw [codesF_eq] at hC
        have HCC := Lib.hid hC
        clear hat hC k0 k1 k2
        have kw : IntKind.i64.wrap ((j : Int) + 2) = (j : Int) + 2 := IntWalk.i64_in _ (by omega)
        have ht2 := take2_ba s j [92, 120]
        by_cases hx : ¬ (s.data.toList.drop j).take 2 = [92, 120]
        · have hC := HCC.out
          rw [if_neg hx] at hC
          have HC2 : Hid (D = some (B.data.toList, s.data.toList.drop j)) := Lib.hid (by rw [← hC]; simp)
          clear hC
          by_cases hsz : s.size < j + 2
          · have b1 : decide ((j : Int) + 2 ≤ (s.size : Int)) = false := decide_eq_false (by omega)
            clear hx hsz ht2
            go_wp2_with fail
            go_meet
            exact ⟨j, B, rfl, rfl, hj, hbj, HA2.out, HC2.out⟩
          · have b1 : decide ((j : Int) + 2 ≤ (s.size : Int)) = true := decide_eq_true (by omega)
            have i0 : (0 : Int) ≤ (j : Int) := by omega
            have i1 : (j : Int) ≤ (j : Int) + 2 := by omega
            have i2 : (j : Int) + 2 ≤ (s.size : Int) := by omega
            have b2 : ((s.extract j (j + 2)).toList == [92, 120]) = false := by rw [ht2]; exact decide_eq_false hx
            clear hx hsz ht2
            go_wp2_with fail
            go_meet
            exact ⟨j, B, rfl, rfl, hj, hbj, HA2.out, HC2.out⟩
        have hx := Decidable.not_not.1 hx
        have hsz : j + 2 ≤ s.size := by
          have h2 := congrArg List.length hx
          rw [List.length_take, List.length_drop, bl] at h2
          simp at h2
          omega
        have hC := HCC.out
        rw [if_pos hx, List.drop_drop] at hC
        have b1 : decide ((j : Int) + 2 ≤ (s.size : Int)) = true := decide_eq_true (by omega)
        have i0 : (0 : Int) ≤ (j : Int) := by omega
        have i1 : (j : Int) ≤ (j : Int) + 2 := by omega
        have i2 : (j : Int) + 2 ≤ (s.size : Int) := by omega
        have b2 : ((s.extract j (j + 2)).toList == [92, 120]) = true := by rw [ht2]; exact decide_eq_true hx
        have jc : ((j + 2 : Nat) : Int) = (j : Int) + 2 := by omega
        have hh := fun w => hexes_any s hs (j + 2) hsz w
        rw [jc] at hh
        have hdl := digs_le 7 (s.data.toList.drop (j + 2))
        rw [List.length_drop, bl] at hdl
        have hn7 := digs_len 7 (s.data.toList.drop (j + 2))
        have hnb := numOf_7 (digs 7 (s.data.toList.drop (j + 2))) hn7
        unfold byteO at hC
        rw [List.drop_drop, digs_two] at hC
        have hll : ((digs 7 (s.data.toList.drop (j + 2))).take 2).length = min 2 (digs 7 (s.data.toList.drop (j + 2))).length := List.length_take
        obtain ⟨E, hE⟩ : ∃ E, digs 7 (s.data.toList.drop (j + 2)) = E := ⟨_, rfl⟩
        have hce : j + 4 ≤ s.size → ∀ w, Calls Tryz.prog 52 #[.string (s.extract 0 (j + 4)), .int .i64 ((j : Int) + 2)] w fun e w' => e = .returned (.tuple #[.int .i64 ((E.take 2).length), .int .i64 (numOf (E.take 2))]) ∧ w = w' := fun h4 w => by
          have h5 := hexes_any (s.extract 0 (j + 4)) (by rw [ByteArray.size_extract]; omega) (j + 2) (by rw [ByteArray.size_extract]; omega) w
          rw [jc, ext_take, List.drop_take, show j + 4 - (j + 2) = 2 by omega, digs_cut, digs_two, hE] at h5
          exact h5
        rw [hE] at hh hC hdl hn7 hnb hll
        obtain ⟨n, hn⟩ : ∃ n, E.length = n := ⟨_, rfl⟩
        obtain ⟨x, hxx⟩ : ∃ x, numOf E = x := ⟨_, rfl⟩
        have hx2 : n = 2 → numOf (E.take 2) = x := fun h => by rw [← hxx, List.take_of_length_le (by omega)]
        rw [hxx] at hnb hh
        rw [hn] at hdl hn7 hll hh
        obtain ⟨z, hzz⟩ : ∃ z, numOf (E.take 2) = z := ⟨_, rfl⟩
        have hzb : z < 256 := by
          have := numOf_lt (E.take 2)
          rw [hzz, hll] at this
          have h1 : 16 ^ (min 2 n) ≤ 16 ^ 2 := Nat.pow_le_pow_right (by omega) (by omega)
          omega
        obtain ⟨q, hq⟩ : ∃ q, (E.take 2).length = q := ⟨_, rfl⟩
        rw [hq] at hll hC
        simp only [hq] at hce
        simp only [hzz] at hce hC hx2
        have HH := Lib.hid hh
        have HCE := Lib.hid hce
        have HC2 := Lib.hid hC
        clear hh hC hn hxx hx ht2 jc hce hzz hq hE
        have kw2 : IntKind.i64.wrap ((j : Int) + 4) = (j : Int) + 4 := IntWalk.i64_in _ (by omega)
        by_cases hc : n < 2
        · have b5 : decide ((n : Int) < 2) = true := decide_eq_true (by omega)
          have hC := HC2.out
          rw [if_neg (by omega)] at hC
          have hC : none = D := hC
          have hz := HZ3.out
          rw [← hC] at hz
          have hz : none = Z := hz
          subst hz
          clear hC hc hll hdl
          go_wp2_with fail
          refine (HH.out _).mono ?_
          rintro _ _ ⟨rfl, rfl⟩
          go_wp2_with fail
          refine bodyPost_ret (by simp [results, Tryz.results32, go_sem, q0, q1, q2]; try rfl) rfl ?_
          exact ⟨_, _, _, _, _, _, rfl, HBF.out, rfl⟩
        have b5 : decide ((n : Int) < 2) = false := decide_eq_false (by omega)
        have hC := HC2.out
        rw [if_pos (by omega)] at hC
        obtain ⟨b, hbb⟩ : ∃ b, UInt8.ofNat z = b := ⟨_, rfl⟩
        have hbz : (b.toNat : Int) = z := by rw [← hbb, UInt8.toNat_ofNat', Nat.mod_eq_of_lt (by omega)]
        have hzw : IntKind.u8.wrap (z : Int) = (b.toNat : Int) := by rw [hbz]; exact IntWalk.u8_in _ (by omega)
        rw [hbb] at hC
        have HC3 := Lib.hid hC
        have hcv := byteConv wr b
        have hcat : ¬ (9223372036854775807 < B.size + 1) := by omega
        have h4 : j + 4 ≤ s.size := by omega
        clear hC hbb hbz
        by_cases hn2 : n = 2
        · have b6 : decide ((2 : Int) < (n : Int)) = false := decide_eq_false (by omega)
          have hx2 := hx2 hn2
          subst hx2
          clear hc hn2 hll hdl
          go_wp2_with fail
          refine (HH.out _).mono ?_
          rintro _ _ ⟨rfl, rfl⟩
          go_wp2_with fail
          go_roundw
          case rel =>
            refine ⟨j + 4, B ++ ⟨#[b]⟩, by go_num, rfl, by omega, by rw [ByteArray.size_append]; show B.size + 1 ≤ _; omega, HA2.out.alloc _, ?_⟩
            rw [← HC3.out, push_one]
            cases codesF (s.data.toList.drop (j + 4)) with
            | none => rfl
            | some y =>
              obtain ⟨t, u⟩ := y
              simp
          case measure => simp [RowKit.intOf]; omega
        · have b6 : decide ((2 : Int) < (n : Int)) = true := decide_eq_true (by omega)
          clear hc hn2 hll hdl hx2
          have HCE2 := Lib.hid (HCE.out h4)
          go_wp2_with fail
          refine (HH.out _).mono ?_
          rintro _ _ ⟨rfl, rfl⟩
          go_wp2_with fail
          refine (HCE2.out _).mono ?_
          rintro _ _ ⟨rfl, rfl⟩
          go_wp2_with fail
          go_roundw
          case rel =>
            refine ⟨j + 4, B ++ ⟨#[b]⟩, by go_num, rfl, by omega, by rw [ByteArray.size_append]; show B.size + 1 ≤ _; omega, HA2.out.alloc _, ?_⟩
            rw [← HC3.out, push_one]
            cases codesF (s.data.toList.drop (j + 4)) with
            | none => rfl
            | some y =>
              obtain ⟨t, u⟩ := y
              simp
          case measure => simp [RowKit.intOf]; omega
    case rest =>
      obtain ⟨i2, B, rfl, rfl, hi2, hbi2, hat, hC⟩ := hcut
      clear g0 g1 g2 y0 y1 y2 v0 v1 v2 q0 q1 q2 hWf HBF b1 b2
      have hz := HZ3.out
      rw [hC] at hz
      simp only at hz
      obtain ⟨y0, y1, y2, v0, v1, v2, g0, g1, g2, k0, k1, k2⟩ := hat.cells
      obtain ⟨V, hV, hatV⟩ := hat.code B
      clear y0 y1 y2 v1 v2 g0 g1 g2 k1 k2
      have HAV := Lib.hid hatV
      obtain ⟨y0, y1, y2, z0, z1, z2, g0, g1, g2, f0, f1, f2⟩ := hatV.cells
      obtain ⟨Wf, hWf, q0, q1, q2, HBF, _⟩ := hatV.ret
      clear hat hatV f0 f1
      have hg := gap13_any s hs i2 hi2 V
      have hnl : nsp (s.data.toList.drop i2) ≤ s.size - i2 := by
        have h : nsp (s.data.toList.drop i2) ≤ (s.data.toList.drop i2).length := (List.takeWhile_prefix _).length_le
        rwa [List.length_drop, bl] at h
      rw [List.drop_drop] at hz
      obtain ⟨m2, hm2⟩ : ∃ m2, nsp (s.data.toList.drop i2) = m2 := ⟨_, rfl⟩
      rw [hm2] at hg hnl hz
      obtain ⟨k2, hk2⟩ : ∃ k2, i2 + m2 = k2 := ⟨_, rfl⟩
      rw [hk2] at hg hz
      rw [tailC_at s k2] at hz
      have HG2 := Lib.hid hg
      have HZ4 := Lib.hid hz
      clear hg hz hC hm2
      by_cases hB0 : B.data.toList = []
      · have c1 : B.toList.isEmpty = true := by rw [ByteArray.toList_eq, hB0]; rfl
        have hz := HZ4.out
        rw [if_pos hB0] at hz
        subst hz
        clear hB0 hk2 hnl
        go_wp2_with fail
        refine HG2.out.mono ?_
        rintro _ _ ⟨rfl, rfl⟩
        go_wp2_with fail
        refine bodyPost_ret (by simp [results, Tryz.results32, go_sem, q0, q1, q2]; try rfl) rfl ?_
        exact ⟨_, _, _, _, _, _, rfl, HBF.out, rfl⟩
      have c1 : B.toList.isEmpty = false := by
        rw [ByteArray.toList_eq]
        cases h : B.data.toList with
        | nil => exact absurd h hB0
        | cons c t => rfl
      have hz := HZ4.out
      rw [if_neg hB0] at hz
      by_cases hm0 : m2 = 0
      · have c2 : ((k2 : Int) == (i2 : Int)) = true := by rw [beq_iff_eq]; omega
        rw [if_pos hm0] at hz
        subst hz
        clear hB0 hk2 hnl hm0
        go_wp2_with fail
        refine HG2.out.mono ?_
        rintro _ _ ⟨rfl, rfl⟩
        go_wp2_with fail
        refine bodyPost_ret (by simp [results, Tryz.results32, go_sem, q0, q1, q2]; try rfl) rfl ?_
        exact ⟨_, _, _, _, _, _, rfl, HBF.out, rfl⟩
      have c2 : ((k2 : Int) == (i2 : Int)) = false := by rw [beq_eq_false_iff_ne]; omega
      rw [if_neg hm0] at hz
      have hk2s : k2 ≤ s.size := by omega
      have kw : IntKind.i64.wrap ((k2 : Int) + 2) = (k2 : Int) + 2 := IntWalk.i64_in _ (by omega)
      have kw1 : IntKind.i64.wrap ((k2 : Int) + 1) = (k2 : Int) + 1 := IntWalk.i64_in _ (by omega)
      by_cases hkl : ¬ k2 + 2 = s.size
      · have c3 : ((k2 : Int) + 2 != (s.size : Int)) = true := by rw [bne_iff_ne]; omega
        rw [dif_neg hkl] at hz
        subst hz
        clear hB0 hk2 hnl hm0 hkl
        go_wp2_with fail
        refine HG2.out.mono ?_
        rintro _ _ ⟨rfl, rfl⟩
        go_wp2_with fail
        refine bodyPost_ret (by simp [results, Tryz.results32, go_sem, q0, q1, q2]; try rfl) rfl ?_
        exact ⟨_, _, _, _, _, _, rfl, HBF.out, rfl⟩
      have hkl := Decidable.not_not.1 hkl
      have c3 : ((k2 : Int) + 2 != (s.size : Int)) = false := by rw [bne_eq_false_iff_eq]; omega
      rw [dif_pos hkl] at hz
      have j0 : (0 : Int) ≤ (k2 : Int) := by omega
      have j1 : (k2 : Int) < (s.size : Int) := by omega
      have j2 : (0 : Int) ≤ (k2 : Int) + 1 := by omega
      have j3 : (k2 : Int) + 1 < (s.size : Int) := by omega
      have l0 : k2 < s.size := by omega
      have l1 : k2 + 1 < s.size := by omega
      obtain ⟨a, ha⟩ : ∃ a, s[k2] = a := ⟨_, rfl⟩
      obtain ⟨c, hc⟩ : ∃ c, s[k2 + 1] = c := ⟨_, rfl⟩
      simp only [ha, hc] at hz
      have HZ5 := Lib.hid hz
      clear hz hB0 hk2 hnl hm0
      by_cases ha1 : ¬ a = 124
      · have c4 : ((s[k2].toNat : Int) != 124) = true := by
          rw [ha, bne_iff_ne]
          intro h
          exact ha1 (UInt8.toNat_inj.1 (by have : (124 : UInt8).toNat = 124 := rfl; omega))
        have hz := HZ5.out
        rw [if_neg (fun h => ha1 h.1)] at hz
        subst hz
        clear hkl ha hc ha1
        go_wp2_with fail
        refine HG2.out.mono ?_
        rintro _ _ ⟨rfl, rfl⟩
        go_wp2_with fail
        refine bodyPost_ret (by simp [results, Tryz.results32, go_sem, q0, q1, q2]; try rfl) rfl ?_
        exact ⟨_, _, _, _, _, _, rfl, HBF.out, rfl⟩
      have ha1 := Decidable.not_not.1 ha1
      have c4 : ((s[k2].toNat : Int) != 124) = false := by rw [ha, ha1]; rfl
      have e48 : (48 : UInt8).toNat = 48 := rfl
      have e57 : (57 : UInt8).toNat = 57 := rfl
      by_cases hc1 : ¬ 48 ≤ c
      · have c5 : decide ((s[k2 + 1].toNat : Int) < 48) = true := decide_eq_true (by rw [hc]; rw [UInt8.le_iff_toNat_le] at hc1; omega)
        have hz := HZ5.out
        rw [if_neg (fun h => hc1 h.2.1)] at hz
        subst hz
        clear hkl ha hc ha1 hc1 e48 e57
        go_wp2_with fail
        refine HG2.out.mono ?_
        rintro _ _ ⟨rfl, rfl⟩
        go_wp2_with fail
        refine bodyPost_ret (by simp [results, Tryz.results32, go_sem, q0, q1, q2]; try rfl) rfl ?_
        exact ⟨_, _, _, _, _, _, rfl, HBF.out, rfl⟩
      have hc1 := Decidable.not_not.1 hc1
      have c5 : decide ((s[k2 + 1].toNat : Int) < 48) = false := decide_eq_false (by rw [hc]; rw [UInt8.le_iff_toNat_le] at hc1; omega)
      by_cases hc2 : ¬ c ≤ 57
      · have c6 : decide ((57 : Int) < (s[k2 + 1].toNat : Int)) = true := decide_eq_true (by rw [hc]; rw [UInt8.le_iff_toNat_le] at hc2; omega)
        have hz := HZ5.out
        rw [if_neg (fun h => hc2 h.2.2)] at hz
        subst hz
        clear hkl ha hc ha1 hc1 hc2 e48 e57
        go_wp2_with fail
        refine HG2.out.mono ?_
        rintro _ _ ⟨rfl, rfl⟩
        go_wp2_with fail
        refine bodyPost_ret (by simp [results, Tryz.results32, go_sem, q0, q1, q2]; try rfl) rfl ?_
        exact ⟨_, _, _, _, _, _, rfl, HBF.out, rfl⟩
      have hc2 := Decidable.not_not.1 hc2
      have c6 : decide ((57 : Int) < (s[k2 + 1].toNat : Int)) = false := decide_eq_false (by rw [hc]; rw [UInt8.le_iff_toNat_le] at hc2; omega)
      have hz := HZ5.out
      rw [if_pos ⟨ha1, hc1, hc2⟩] at hz
      simp only at hz
      rw [UInt8.le_iff_toNat_le] at hc1 hc2
      have w1 : IntKind.u8.wrap ((s[k2 + 1].toNat : Int) - 48) = (c.toNat : Int) - 48 := by rw [hc]; exact IntWalk.u8_in _ (by omega)
      have w2 : IntKind.i64.wrap ((c.toNat : Int) - 48) = (c.toNat : Int) - 48 := IntWalk.i64_in _ (by omega)
      clear hWf q0 q1 q2 HBF
      obtain ⟨V2, hV2, hat2⟩ := HAV.out.flag ((c.toNat : Int) - 48)
      obtain ⟨u0, u1, u2, x0, x1, x2, h0, h1, h2, p0, p1, p2⟩ := hat2.cells
      obtain ⟨Wf, hWf, q0, q1, q2, HBF, HTF⟩ := hat2.ret
      subst hz
      clear hkl ha hc ha1 hc1 hc2 e48 e57 hat2 p0 p1 p2
      go_wp2_with fail
      refine HG2.out.mono ?_
      rintro _ _ ⟨rfl, rfl⟩
      go_wp2_with fail
      refine bodyPost_ret (by simp [results, Tryz.results32, go_sem, q0, q1, q2]; try rfl) rfl ?_
      exact ⟨_, _, _, _, _, _, rfl, HBF.out, rfl, ba_ext rfl, HTF.out, rfl⟩
end Go.Proofs.YtopaoejapnakiaaGreatDoor.Mf
