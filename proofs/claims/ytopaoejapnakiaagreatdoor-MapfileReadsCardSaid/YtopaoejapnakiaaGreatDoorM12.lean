/- Walk: inkhornref13.Read, by each way. -/
import Derived.Test.YtopaoejapnakiaaGreatDoorM11
import Derived.Test.YtopaoejapnakiaaGreatDoorR11
namespace Go.Proofs.YtopaoejapnakiaaGreatDoor.Mf
open Go.RowKit Pl

set_option maxRecDepth 100000 in
set_option maxHeartbeats 1600000 in
theorem wrong13_all (cl : List UInt8) (v : Value) (text : List Int) (flag : Int) (w : World) (hT : TextAt w v text) :
    Calls Tryz.prog 23 #[.agg #[.string ⟨cl.toArray⟩, v, .int .i64 flag]] w fun e w' => e = .returned (.int .i64 (wrongL ⟨cl, text, flag⟩)) ∧ Below w.heap.size w w' := by
  by_cases hz : 1 ≤ cl.length ∧ cl.length ≤ 4 ∧ 1 ≤ text.length ∧ text.length ≤ 18
  · exact wrong13_any cl v text flag w hT (by omega) (by omega)
  · obtain ⟨A, c, rfl, hr⟩ := hT.rd
    rw [wrongL_eq]
    obtain ⟨code, hcode⟩ : ∃ code : ByteArray, code = ⟨cl.toArray⟩ := ⟨_, rfl⟩
    have hcl : cl.length = code.size := by rw [hcode]; show _ = cl.toArray.size; simp
    show Calls _ _ _ _ fun e w' => e = .returned (.int .i64 (if 1 ≤ cl.length ∧ cl.length ≤ 4 ∧ 1 ≤ text.length ∧ text.length ≤ 18 then (if text.all okR = true then (if flag = 0 ∨ flag = 1 ∨ flag = 3 then 0 else 16) else 11) else 11)) ∧ _
    rw [if_neg hz, ← hcode]
    rw [hcl] at hz
    clear hcode hcl
    obtain ⟨W, hW⟩ : ∃ W, w.alloc (.cells #[.string code, .slice A text.length c, .int .i64 flag] RefT) = W := ⟨_, rfl⟩
    have hb : Below w.heap.size w W := hW ▸ (Below.refl _ _).alloc (Nat.le_refl _) _
    have hk : Blk W w.heap.size RefT #[.string code, .slice A text.length c, .int .i64 flag] := hW ▸ Blk.new _ _ _
    have HB := Lib.hid hb
    have k0 : W.cell? ⟨w.heap.size, 0, none⟩ = some (.string code) := by rw [hk.cell]; rfl
    have k1 : W.cell? ⟨w.heap.size, 1, none⟩ = some (.slice A text.length c) := by rw [hk.cell]; rfl
    have k2 : W.cell? ⟨w.heap.size, 2, none⟩ = some (.int .i64 flag) := by rw [hk.cell]; rfl
    clear hT hr hb hk
    have hcs : (code.size < 1) ∨ (1 ≤ code.size ∧ 4 < code.size) ∨ (1 ≤ code.size ∧ code.size ≤ 4 ∧ text.length < 1) ∨ (1 ≤ code.size ∧ code.size ≤ 4 ∧ 1 ≤ text.length ∧ 18 < text.length) := by omega
    clear hz
    rcases hcs with z1 | ⟨z1, z2⟩ | ⟨z1, z2, z3⟩ | ⟨z1, z2, z3, z4⟩
    · have a1 : decide ((code.size : Int) < 1) = true := decide_eq_true (by omega)
      clear z1
      go_enter Tryz.func23, Tryz.ntmps23
      go_wp2_with fail
      go_returns
      exact ⟨rfl, HB.out⟩
    · have a1 : decide ((code.size : Int) < 1) = false := decide_eq_false (by omega)
      have a2 : decide ((4 : Int) < (code.size : Int)) = true := decide_eq_true (by omega)
      clear z1 z2
      go_enter Tryz.func23, Tryz.ntmps23
      go_wp2_with fail
      go_returns
      exact ⟨rfl, HB.out⟩
    · have a1 : decide ((code.size : Int) < 1) = false := decide_eq_false (by omega)
      have a2 : decide ((4 : Int) < (code.size : Int)) = false := decide_eq_false (by omega)
      have a3 : decide ((text.length : Int) < 1) = true := decide_eq_true (by omega)
      clear z1 z2 z3
      go_enter Tryz.func23, Tryz.ntmps23
      go_wp2_with fail
      go_returns
      exact ⟨rfl, HB.out⟩
    · have a1 : decide ((code.size : Int) < 1) = false := decide_eq_false (by omega)
      have a2 : decide ((4 : Int) < (code.size : Int)) = false := decide_eq_false (by omega)
      have a3 : decide ((text.length : Int) < 1) = false := decide_eq_false (by omega)
      have a4 : decide ((18 : Int) < (text.length : Int)) = true := decide_eq_true (by omega)
      clear z1 z2 z3 z4
      go_enter Tryz.func23, Tryz.ntmps23
      go_wp2_with fail
      go_returns
      exact ⟨rfl, HB.out⟩

theorem cell_in {w : World} {a : Addr} {v : Value} (h : w.cell? a = some v) : a.block < w.heap.size := by
  rcases Nat.lt_or_ge a.block w.heap.size with h' | h'
  · exact h'
  · simp [World.cell?, Array.getElem?_eq_none h'] at h
theorem Refs.keep {B : Nat} {w w' : World} {v : Value} {l : List LRow} (h : Refs B w v l) (hb : Below w.heap.size w w') : Refs B w' v l := by
  obtain ⟨ps, h1, h2, h3⟩ := h
  exact ⟨ps, h1, fun p hp => (h2 p hp).keep hb, own_keep h3 hb⟩
theorem Refs.base {B B' : Nat} {w : World} {v : Value} {l : List LRow} (h : Refs B w v l) (hb : B' ≤ B) : Refs B' w v l := by
  obtain ⟨ps, h1, h2, h3⟩ := h
  exact ⟨ps, h1, h2, own_base h3 hb⟩
theorem Refs.none_ (B : Nat) (w : World) : Refs B w (.slice none 0 0) [] := ⟨[], rfl, fun p hp => absurd hp (by simp), World.ownsRow_nil _ _ _ _⟩
theorem Refs.shape {B : Nat} {w : World} {v : Value} {l : List LRow} (h : Refs B w v l) : ∃ A c, v = .slice A l.length c := by
  obtain ⟨ps, h1, h2, h3⟩ := h
  exact own_shapeN h3
/-- What a line is, as the reference tells it. -/
def OneR (F : One) (w : World) (x : Ending) (w' : World) : Prop := ∃ (rc : ByteArray) (A : Option Addr) (n ct : Nat) (fl how : Int), x = .returned (.tuple #[.agg #[.string rc, .slice A n ct, .int .i64 fl], .int .i64 how]) ∧ Below w.heap.size w w' ∧
  ((how = 0 ∧ F = .err 10) ∨ (how = 2 ∧ F = if rc.size ≤ 4 then .none else .err 11) ∨
    (how = 1 ∧ ∃ c l, rc = ⟨c.toArray⟩ ∧ TextAt w' (.slice A n ct) l ∧ F = if wrongL ⟨c, l, fl⟩ = 0 then .row ⟨c, l, fl⟩ else .err (wrongL ⟨c, l, fl⟩)))
theorem oneRU (s : ByteArray) (hs : s.size ≤ 1000000) (h0 : s.data.toList ≠ []) (w : World) : Calls Tryz.prog 33 #[.string s] w (OneR (oneU s.data.toList) w) := by
  refine (unicodeR_any s hs w).mono ?_
  rintro x w' ⟨rc, A, n, c, how, rfl, hb, h⟩
  refine ⟨rc, A, n, c, 0, how, rfl, hb, ?_⟩
  unfold oneU
  rw [if_neg h0, outU_eq]
  cases hr : refU s.data.toList with
  | bad => rw [hr] at h; exact .inl ⟨h, rfl⟩
  | bare k =>
    rw [hr] at h
    obtain ⟨h1, rfl⟩ := h
    refine .inr (.inl ⟨h1, ?_⟩)
    have e : (⟨k.toArray⟩ : ByteArray).size = k.length := by show k.toArray.size = _; simp
    rw [e]
  | row k l =>
    rw [hr] at h
    obtain ⟨h1, rfl, h2⟩ := h
    exact .inr (.inr ⟨h1, k, l, rfl, h2, rfl⟩)
theorem oneRC (s : ByteArray) (hs : s.size ≤ 1000000) (h0 : s.data.toList ≠ []) (w : World) : Calls Tryz.prog 32 #[.string s] w (OneR (oneC s.data.toList) w) := by
  refine (ucmR_any s hs w).mono ?_
  rintro x w' ⟨rc, A, n, c, fl, how, rfl, hb, h⟩
  refine ⟨rc, A, n, c, fl, how, rfl, hb, ?_⟩
  unfold oneC
  rw [if_neg h0, ucm_ref]
  cases hr : refC s.data.toList with
  | none => rw [hr] at h; exact .inl ⟨h, rfl⟩
  | some q =>
    obtain ⟨k, l, f⟩ := q
    rw [hr] at h
    obtain ⟨h1, rfl, h2, rfl⟩ := h
    exact .inr (.inr ⟨h1, k, l, rfl, h2, rfl⟩)
theorem oneU_nil : oneU [] = .none := rfl
theorem oneC_nil : oneC [] = .none := rfl
/-- What Read answers. -/
def RefRead (F : List UInt8 → One) (w : World) (s : List UInt8) (e : Ending) (w' : World) : Prop := ∃ v, e = .returned (.tuple #[v, .int .i64 (readL F s).2.1, .int .i64 (readL F s).2.2]) ∧ Refs w.heap.size w' v (readL F s).1 ∧ Below w.heap.size w w'
set_option maxRecDepth 100000 in
set_option maxHeartbeats 6400000 in
theorem readU_any (s : ByteArray) (hs : s.size ≤ 1000000) (w : World) :
    Calls Tryz.prog 12 #[.string s, .bool false] w (RefRead oneU w s.data.toList) := by
  have HLN := Lib.hid (linesR_any s hs w)
  have HLI : Hid (∀ (t : List UInt8) (w1 : World), t.length ≤ 1000000 → Calls Tryz.prog 31 #[.string ⟨t.toArray⟩] w1 fun e w' => e = .returned (.string ⟨(clean t).toArray⟩) ∧ w1 = w') := Lib.hid fun t w1 ht => line_any ⟨t.toArray⟩ (by show t.toArray.size ≤ _; simpa using ht) w1
  have HWY : Hid (∀ (t : List UInt8) (w1 : World), t ≠ [] → t.length ≤ 1000000 → Calls Tryz.prog 33 #[.string ⟨t.toArray⟩] w1 (OneR (oneU t) w1)) := Lib.hid fun t w1 h0 ht => oneRU ⟨t.toArray⟩ (by show t.toArray.size ≤ _; simpa using ht) h0 w1
  go_enter Tryz.func12, Tryz.ntmps12
  go_wp2_with fail
  refine HLN.out.mono ?_
  rintro e1 W1 ⟨hL1, hL2, hbW⟩
  have HBW := Lib.hid hbW
  clear HLN
  cases hft : fits s.data.toList with
  | false =>
    have he := hL2 hft
    subst he
    have HR : Hid (readL oneU s.data.toList = ([], 0, 11)) := Lib.hid (by unfold readL; rw [hft]; rfl)
    clear hL1 hL2 hbW hft
    go_wp2_with fail
    go_returns
    unfold RefRead
    rw [HR.out]
    exact ⟨_, rfl, Refs.none_ _ _, HBW.out⟩
  | true =>
    obtain ⟨v, rfl, ho⟩ := hL1 hft
    obtain ⟨A, c, rfl⟩ := own_shapeN ho
    obtain ⟨L, hL⟩ : ∃ L, linesOf s.data.toList = L := ⟨_, rfl⟩
    have HR : Hid (readGo oneU 0 [] L = readL oneU s.data.toList) := Lib.hid (by unfold readL; rw [hft, hL]; rfl)
    have h512 : ∀ l ∈ L, l.length ≤ 512 := fun l hl => by
      unfold fits at hft
      rw [hL, Bool.and_eq_true] at hft
      exact of_decide_eq_true (List.all_eq_true.1 hft.1 l hl)
    have hlen : L.length ≤ 4096 := by
      unfold fits at hft
      rw [hL, Bool.and_eq_true] at hft
      exact of_decide_eq_true hft.2
    rw [hL] at ho
    have hcell : ∀ k (hk : k < L.length), ∃ g, A = some ⟨g, 0, none⟩ ∧ g < W1.heap.size ∧ W1.cell? ⟨g, k, none⟩ = some (.string ⟨L[k].toArray⟩) := fun k hk => by
      rcases ho.2 with ⟨e, h0⟩ | ⟨g, cap, cur, e, _, hh, _, _, _, h4⟩
      · omega
      · injection e with e _ _
        refine ⟨g, e, (Array.getElem?_eq_some_iff.1 hh).1, ?_⟩
        rw [cell_of_row W1 g k cur StrT (0, 0) hh]
        rw [Nat.mul_one] at h4
        have h2 : (cur.toList.take L.length)[k]? = some (.string ⟨L[k].toArray⟩) := by
          rw [h4]
          simp [strsL, hk]
        rw [List.getElem?_take, if_pos hk] at h2
        simpa using h2
    have HC := Lib.hid hcell
    have H512 := Lib.hid h512
    obtain ⟨R, hRR⟩ : ∃ R, readL oneU s.data.toList = R := ⟨_, rfl⟩
    rw [hRR] at HR
    have HRR := Lib.hid hRR
    rw [hL]
    clear hL1 hL2 hbW hft ho hcell h512 hL hRR
    go_wp2_with fail
    go_loopw [9, 10] (fun vo vi wr => ∃ (k : Nat) (out : List LRow), k ≤ L.length ∧ vi = .int .i64 k ∧ out.length ≤ k ∧ Refs W1.heap.size wr vo out ∧ Below W1.heap.size W1 wr ∧ readGo oneU k out (L.drop k) = R) (fun _ vi _ => L.length - (RowKit.intOf vi).toNat)
    case atStart => exact ⟨0, [], Nat.zero_le _, rfl, Nat.le_refl _, Refs.none_ _ _, Below.refl _ _, HR.out⟩
    case round =>
      obtain ⟨k, out, hk, rfl, hok, hrow, hbr, hgo⟩ := hrel
      have HROW := Lib.hid hrow
      have HBR := Lib.hid hbr
      have HGO := Lib.hid hgo
      have hsz : W1.heap.size ≤ wr.heap.size := hbr.size
      obtain ⟨Ao, co, rfl⟩ := hrow.shape
      clear hrow hbr hgo
      have HPOST : Hid (∀ w', Below W1.heap.size W1 w' → Below w.heap.size w w') := Lib.hid fun w' h => HBW.out.trans (h.mono HBW.out.size)
      have HBWS : Hid (w.heap.size ≤ W1.heap.size) := Lib.hid HBW.out.size
      by_cases hlt : k < L.length
      · have a1 : decide ((k : Int) < (L.length : Int)) = true := decide_eq_true (by omega)
        have j0 : (0 : Int) ≤ (k : Int) := by omega
        have j1 : (k : Int) < (L.length : Int) := by omega
        have hkw : IntKind.i64.wrap ((k : Int) + 1) = (k : Int) + 1 := IntWalk.i64_in _ (by omega)
        obtain ⟨g, rfl, hg, hcl⟩ := HC.out k hlt
        have c0 : wr.cell? ⟨g, k, none⟩ = some (.string ⟨L[k].toArray⟩) := (HBR.out.cell (p := ⟨g, k, none⟩) hg).trans hcl
        have hgo := HGO.out
        rw [readGo_at oneU k out L hlt] at hgo
        have hll := H512.out _ (List.getElem_mem hlt)
        have hcl5 : (clean L[k]).length ≤ 512 := by
          have h2 : (clean L[k]).length ≤ L[k].length := by
            unfold clean rtrim
            rw [List.length_reverse]
            refine Nat.le_trans (drop_while _ _) ?_
            rw [List.length_reverse]
            exact (List.takeWhile_prefix _).length_le
          omega
        have HLC := Lib.hid (HLI.out L[k] wr (by omega))
        clear hcl
        generalize L[k] = lk at *
        generalize clean lk = t at *
        obtain ⟨sb, hsb⟩ : ∃ sb : ByteArray, (⟨t.toArray⟩ : ByteArray) = sb := ⟨_, rfl⟩
        have hsl : sb.data.toList = t := by rw [← hsb]
        have HG2 := Lib.hid hgo
        rw [hsb] at HLC
        clear hgo
        by_cases ht : t = []
        · have hte : sb.toList.isEmpty = true := by rw [ByteArray.toList_eq, hsl, ht]; rfl
          have HG3 : Hid (readGo oneU (k + 1) out (L.drop (k + 1)) = R) := Lib.hid (by have := HG2.out; rw [ht] at this; exact this)
          clear ht hsl HG2 hsb hll hcl5
          go_wp2_with fail
          refine HLC.out.mono ?_
          rintro _ _ ⟨rfl, rfl⟩
          go_wp2_with fail
          go_roundw
          case rel => exact ⟨k + 1, out, by omega, by go_num, by omega, HROW.out, HBR.out, HG3.out⟩
          case measure => simp [RowKit.intOf]; omega
        have hte : sb.toList.isEmpty = false := by rw [ByteArray.toList_eq, hsl]; exact List.isEmpty_eq_false_iff.2 ht
        obtain ⟨Wb, hWb⟩ : ∃ Wb, wr.alloc (.cells #[.string ⟨#[]⟩, .slice none 0 0, .int .i64 0] RefT) = Wb := ⟨_, rfl⟩
        have hkb : Blk Wb wr.heap.size RefT #[.string ⟨#[]⟩, .slice none 0 0, .int .i64 0] := hWb ▸ Blk.new _ _ _
        have hbr2 : Below wr.heap.size wr Wb := hWb ▸ (Below.refl _ _).alloc (Nat.le_refl _) _
        have hszb : Wb.heap.size = wr.heap.size + 1 := by rw [← hWb]; simp
        have HW := Lib.hid (HWY.out t Wb ht (by omega))
        rw [hsb] at HW
        have HKB := Lib.hid hkb
        have HBR2 := Lib.hid hbr2
        have HWB := Lib.hid hWb
        have HSZB := Lib.hid hszb
        clear ht hsl hcl5 hWb hkb hbr2 hszb hll hsb
        go_wp2_with fail
        refine HLC.out.mono ?_
        rintro _ _ ⟨rfl, rfl⟩
        go_wp2_with fail
        rw [HWB.out]
        refine HW.out.mono ?_
        rintro _ w2 ⟨rc, At, n, ct, fl, how, rfl, hb2, hone⟩
        have hk2 : Blk w2 wr.heap.size RefT #[.string ⟨#[]⟩, .slice none 0 0, .int .i64 0] := Blk.below HKB.out hb2 (by rw [HSZB.out]; omega)
        have hbw2 : Below wr.heap.size wr w2 := HBR2.out.trans (hb2.mono HBR2.out.size)
        obtain ⟨Wf, hWf, q0, q1, q2, hbf, htf⟩ := ret3 (.string rc) (.slice At n ct) (.int .i64 fl) hk2 hbw2 (Nat.le_refl _)
        have k0 : w2.cell? ⟨wr.heap.size, 0, none⟩ = some (.string ⟨#[]⟩) := by rw [hk2.cell]; rfl
        have k1 : w2.cell? ⟨wr.heap.size, 1, none⟩ = some (.slice none 0 0) := by rw [hk2.cell]; rfl
        have k2 : w2.cell? ⟨wr.heap.size, 2, none⟩ = some (.int .i64 0) := by rw [hk2.cell]; rfl
        have g0 := Blk.frz hk2 0
        have g1 := Blk.frz hk2 1
        have g2 := Blk.frz hk2 2
        have HONE := Lib.hid hone
        have HBF := Lib.hid hbf
        have HTF := Lib.hid htf
        have HWF := Lib.hid hWf
        have HB1F := Lib.hid (HBR.out.trans (hbf.mono hsz))
        have HROWF := Lib.hid (HROW.out.keep hbf)
        clear hb2 hk2 hbw2 hbf htf hone hWf
        rcases HONE.out with ⟨rfl, hF⟩ | ⟨rfl, hF⟩ | ⟨rfl, cc, ll, rfl, hTX, hF⟩
        · have hg := HG2.out
          rw [hF] at hg
          have hg : (([] : List LRow), (k : Int) + 1, (10 : Int)) = R := hg
          subst hg
          clear hF HONE
          go_wp2_with fail
          go_returns
          unfold RefRead
          rw [HRR.out]
          exact ⟨_, rfl, Refs.none_ _ _, HPOST.out _ (by rw [HWF.out]; exact HB1F.out)⟩
        · by_cases h4 : rc.size ≤ 4
          · have b4 : decide ((4 : Int) < (rc.size : Int)) = false := decide_eq_false (by omega)
            rw [if_pos h4] at hF
            have HGN : Hid (readGo oneU (k + 1) out (L.drop (k + 1)) = R) := Lib.hid (by have hg := HG2.out; rw [hF] at hg; exact hg)
            clear hF HONE h4
            go_upto_region 17 with fail
            rw [HWF.out]
            go_wp2_with fail
            go_roundw
            case rel => exact ⟨k + 1, out, by omega, by go_num, by omega, HROWF.out, HB1F.out, HGN.out⟩
            case measure => simp [RowKit.intOf]; omega
          · have b4 : decide ((4 : Int) < (rc.size : Int)) = true := decide_eq_true (by omega)
            rw [if_neg h4] at hF
            have hg := HG2.out
            rw [hF] at hg
            have hg : (([] : List LRow), (k : Int) + 1, (11 : Int)) = R := hg
            subst hg
            clear hF HONE h4
            go_upto_region 17 with fail
            rw [HWF.out]
            go_wp2_with fail
            go_returns
            unfold RefRead
            rw [HRR.out]
            exact ⟨_, rfl, Refs.none_ _ _, HPOST.out _ HB1F.out⟩
        · have HTX := Lib.hid (HTF.out _ _ hTX)
          have HWR := Lib.hid (wrong13_all cc (.slice At n ct) ll fl Wf HTX.out)
          obtain ⟨err, herr⟩ : ∃ err, wrongL ⟨cc, ll, fl⟩ = err := ⟨_, rfl⟩
          rw [herr] at hF HWR
          have HFF := Lib.hid hF
          clear hF HONE hTX herr
          go_upto_region 17 with fail
          rw [HWF.out]
          go_wp2_with fail
          refine HWR.out.mono ?_
          rintro _ w3 ⟨rfl, hb3⟩
          have hq := hb3
          have r0 : w3.cell? ⟨wr.heap.size, 0, none⟩ = some (.string ⟨cc.toArray⟩) := (hb3.cell (p := ⟨wr.heap.size, 0, none⟩) (cell_in q0)).trans q0
          have r1 : w3.cell? ⟨wr.heap.size, 1, none⟩ = some (.slice At n ct) := (hb3.cell (p := ⟨wr.heap.size, 1, none⟩) (cell_in q1)).trans q1
          have r2 : w3.cell? ⟨wr.heap.size, 2, none⟩ = some (.int .i64 fl) := (hb3.cell (p := ⟨wr.heap.size, 2, none⟩) (cell_in q2)).trans q2
          have HTX := Lib.hid (HTX.out.keep hb3)
          have HB13 := Lib.hid (HB1F.out.trans (hb3.mono HB1F.out.size))
          have HROW3 := Lib.hid (HROWF.out.keep hb3)
          clear hb3 hq
          by_cases he : err = 0
          · subst he
            have hF := HFF.out
            rw [if_pos rfl] at hF
            have HGN : Hid (readGo oneU (k + 1) (out ++ [⟨cc, ll, fl⟩]) (L.drop (k + 1)) = R) := Lib.hid (by have hg := HG2.out; rw [hF] at hg; exact hg)
            have HLN2 : Hid ((out ++ [(⟨cc, ll, fl⟩ : LRow)]).length = out.length + 1) := Lib.hid (by simp)
            clear hF
            go_wp2_with (at_builtin; go_loud (refine wpList_ref w3 rfl _ _ rfl W1.heap.size (.slice Ao out.length co) out rfl HROW3.out HB13.out.size cc At n ct ll fl HTX.out _ rfl (by omega) ?_); intro v2 w5 hr5 hb5; have HR5 := Lib.hid hr5; have HB5 := Lib.hid (HB13.out.trans hb5); obtain ⟨A5, c5, rfl⟩ := hr5.shape; clear hr5 hb5)
            go_roundw
            case rel => exact ⟨k + 1, out ++ [⟨cc, ll, fl⟩], by omega, by go_num, by rw [HLN2.out]; omega, (by have h := HR5.out; rw [HLN2.out] at h; exact h), HB5.out, HGN.out⟩
            case measure => simp [RowKit.intOf]; omega
          · have hbn : (err != 0) = true := by rw [bne_iff_ne]; exact he
            have hF := HFF.out
            rw [if_neg he] at hF
            have hg := HG2.out
            rw [hF] at hg
            have hg : (([] : List LRow), (k : Int) + 1, err) = R := hg
            subst hg
            clear hF he
            go_wp2_with fail
            go_returns
            unfold RefRead
            rw [HRR.out]
            exact ⟨_, rfl, Refs.none_ _ _, HPOST.out _ HB13.out⟩
      · obtain rfl : k = L.length := by omega
        have a1 : decide ((L.length : Int) < (L.length : Int)) = false := decide_eq_false (by omega)
        have hg := HGO.out
        rw [List.drop_eq_nil_of_le (Nat.le_refl _)] at hg
        have hg : (out, (0 : Int), (0 : Int)) = R := hg
        subst hg
        go_wp2_with fail
        go_returns
        unfold RefRead
        rw [HRR.out]
        exact ⟨_, rfl, HROW.out.base HBWS.out, HPOST.out _ HBR.out⟩
set_option maxRecDepth 100000 in
set_option maxHeartbeats 6400000 in
theorem readC_any (s : ByteArray) (hs : s.size ≤ 1000000) (w : World) :
    Calls Tryz.prog 12 #[.string s, .bool true] w (RefRead oneC w s.data.toList) := by
  have HLN := Lib.hid (linesR_any s hs w)
  have HLI : Hid (∀ (t : List UInt8) (w1 : World), t.length ≤ 1000000 → Calls Tryz.prog 31 #[.string ⟨t.toArray⟩] w1 fun e w' => e = .returned (.string ⟨(clean t).toArray⟩) ∧ w1 = w') := Lib.hid fun t w1 ht => line_any ⟨t.toArray⟩ (by show t.toArray.size ≤ _; simpa using ht) w1
  have HWY : Hid (∀ (t : List UInt8) (w1 : World), t ≠ [] → t.length ≤ 1000000 → Calls Tryz.prog 32 #[.string ⟨t.toArray⟩] w1 (OneR (oneC t) w1)) := Lib.hid fun t w1 h0 ht => oneRC ⟨t.toArray⟩ (by show t.toArray.size ≤ _; simpa using ht) h0 w1
  go_enter Tryz.func12, Tryz.ntmps12
  go_wp2_with fail
  refine HLN.out.mono ?_
  rintro e1 W1 ⟨hL1, hL2, hbW⟩
  have HBW := Lib.hid hbW
  clear HLN
  cases hft : fits s.data.toList with
  | false =>
    have he := hL2 hft
    subst he
    have HR : Hid (readL oneC s.data.toList = ([], 0, 11)) := Lib.hid (by unfold readL; rw [hft]; rfl)
    clear hL1 hL2 hbW hft
    go_wp2_with fail
    go_returns
    unfold RefRead
    rw [HR.out]
    exact ⟨_, rfl, Refs.none_ _ _, HBW.out⟩
  | true =>
    obtain ⟨v, rfl, ho⟩ := hL1 hft
    obtain ⟨A, c, rfl⟩ := own_shapeN ho
    obtain ⟨L, hL⟩ : ∃ L, linesOf s.data.toList = L := ⟨_, rfl⟩
    have HR : Hid (readGo oneC 0 [] L = readL oneC s.data.toList) := Lib.hid (by unfold readL; rw [hft, hL]; rfl)
    have h512 : ∀ l ∈ L, l.length ≤ 512 := fun l hl => by
      unfold fits at hft
      rw [hL, Bool.and_eq_true] at hft
      exact of_decide_eq_true (List.all_eq_true.1 hft.1 l hl)
    have hlen : L.length ≤ 4096 := by
      unfold fits at hft
      rw [hL, Bool.and_eq_true] at hft
      exact of_decide_eq_true hft.2
    rw [hL] at ho
    have hcell : ∀ k (hk : k < L.length), ∃ g, A = some ⟨g, 0, none⟩ ∧ g < W1.heap.size ∧ W1.cell? ⟨g, k, none⟩ = some (.string ⟨L[k].toArray⟩) := fun k hk => by
      rcases ho.2 with ⟨e, h0⟩ | ⟨g, cap, cur, e, _, hh, _, _, _, h4⟩
      · omega
      · injection e with e _ _
        refine ⟨g, e, (Array.getElem?_eq_some_iff.1 hh).1, ?_⟩
        rw [cell_of_row W1 g k cur StrT (0, 0) hh]
        rw [Nat.mul_one] at h4
        have h2 : (cur.toList.take L.length)[k]? = some (.string ⟨L[k].toArray⟩) := by
          rw [h4]
          simp [strsL, hk]
        rw [List.getElem?_take, if_pos hk] at h2
        simpa using h2
    have HC := Lib.hid hcell
    have H512 := Lib.hid h512
    obtain ⟨R, hRR⟩ : ∃ R, readL oneC s.data.toList = R := ⟨_, rfl⟩
    rw [hRR] at HR
    have HRR := Lib.hid hRR
    rw [hL]
    clear hL1 hL2 hbW hft ho hcell h512 hL hRR
    go_wp2_with fail
    go_loopw [9, 10] (fun vo vi wr => ∃ (k : Nat) (out : List LRow), k ≤ L.length ∧ vi = .int .i64 k ∧ out.length ≤ k ∧ Refs W1.heap.size wr vo out ∧ Below W1.heap.size W1 wr ∧ readGo oneC k out (L.drop k) = R) (fun _ vi _ => L.length - (RowKit.intOf vi).toNat)
    case atStart => exact ⟨0, [], Nat.zero_le _, rfl, Nat.le_refl _, Refs.none_ _ _, Below.refl _ _, HR.out⟩
    case round =>
      obtain ⟨k, out, hk, rfl, hok, hrow, hbr, hgo⟩ := hrel
      have HROW := Lib.hid hrow
      have HBR := Lib.hid hbr
      have HGO := Lib.hid hgo
      have hsz : W1.heap.size ≤ wr.heap.size := hbr.size
      obtain ⟨Ao, co, rfl⟩ := hrow.shape
      clear hrow hbr hgo
      have HPOST : Hid (∀ w', Below W1.heap.size W1 w' → Below w.heap.size w w') := Lib.hid fun w' h => HBW.out.trans (h.mono HBW.out.size)
      have HBWS : Hid (w.heap.size ≤ W1.heap.size) := Lib.hid HBW.out.size
      by_cases hlt : k < L.length
      · have a1 : decide ((k : Int) < (L.length : Int)) = true := decide_eq_true (by omega)
        have j0 : (0 : Int) ≤ (k : Int) := by omega
        have j1 : (k : Int) < (L.length : Int) := by omega
        have hkw : IntKind.i64.wrap ((k : Int) + 1) = (k : Int) + 1 := IntWalk.i64_in _ (by omega)
        obtain ⟨g, rfl, hg, hcl⟩ := HC.out k hlt
        have c0 : wr.cell? ⟨g, k, none⟩ = some (.string ⟨L[k].toArray⟩) := (HBR.out.cell (p := ⟨g, k, none⟩) hg).trans hcl
        have hgo := HGO.out
        rw [readGo_at oneC k out L hlt] at hgo
        have hll := H512.out _ (List.getElem_mem hlt)
        have hcl5 : (clean L[k]).length ≤ 512 := by
          have h2 : (clean L[k]).length ≤ L[k].length := by
            unfold clean rtrim
            rw [List.length_reverse]
            refine Nat.le_trans (drop_while _ _) ?_
            rw [List.length_reverse]
            exact (List.takeWhile_prefix _).length_le
          omega
        have HLC := Lib.hid (HLI.out L[k] wr (by omega))
        clear hcl
        generalize L[k] = lk at *
        generalize clean lk = t at *
        obtain ⟨sb, hsb⟩ : ∃ sb : ByteArray, (⟨t.toArray⟩ : ByteArray) = sb := ⟨_, rfl⟩
        have hsl : sb.data.toList = t := by rw [← hsb]
        have HG2 := Lib.hid hgo
        rw [hsb] at HLC
        clear hgo
        by_cases ht : t = []
        · have hte : sb.toList.isEmpty = true := by rw [ByteArray.toList_eq, hsl, ht]; rfl
          have HG3 : Hid (readGo oneC (k + 1) out (L.drop (k + 1)) = R) := Lib.hid (by have := HG2.out; rw [ht] at this; exact this)
          clear ht hsl HG2 hsb hll hcl5
          go_wp2_with fail
          refine HLC.out.mono ?_
          rintro _ _ ⟨rfl, rfl⟩
          go_wp2_with fail
          go_roundw
          case rel => exact ⟨k + 1, out, by omega, by go_num, by omega, HROW.out, HBR.out, HG3.out⟩
          case measure => simp [RowKit.intOf]; omega
        have hte : sb.toList.isEmpty = false := by rw [ByteArray.toList_eq, hsl]; exact List.isEmpty_eq_false_iff.2 ht
        obtain ⟨Wb, hWb⟩ : ∃ Wb, wr.alloc (.cells #[.string ⟨#[]⟩, .slice none 0 0, .int .i64 0] RefT) = Wb := ⟨_, rfl⟩
        have hkb : Blk Wb wr.heap.size RefT #[.string ⟨#[]⟩, .slice none 0 0, .int .i64 0] := hWb ▸ Blk.new _ _ _
        have hbr2 : Below wr.heap.size wr Wb := hWb ▸ (Below.refl _ _).alloc (Nat.le_refl _) _
        have hszb : Wb.heap.size = wr.heap.size + 1 := by rw [← hWb]; simp
        have HW := Lib.hid (HWY.out t Wb ht (by omega))
        rw [hsb] at HW
        have HKB := Lib.hid hkb
        have HBR2 := Lib.hid hbr2
        have HWB := Lib.hid hWb
        have HSZB := Lib.hid hszb
        clear ht hsl hcl5 hWb hkb hbr2 hszb hll hsb
        go_wp2_with fail
        refine HLC.out.mono ?_
        rintro _ _ ⟨rfl, rfl⟩
        go_wp2_with fail
        rw [HWB.out]
        refine HW.out.mono ?_
        rintro _ w2 ⟨rc, At, n, ct, fl, how, rfl, hb2, hone⟩
        have hk2 : Blk w2 wr.heap.size RefT #[.string ⟨#[]⟩, .slice none 0 0, .int .i64 0] := Blk.below HKB.out hb2 (by rw [HSZB.out]; omega)
        have hbw2 : Below wr.heap.size wr w2 := HBR2.out.trans (hb2.mono HBR2.out.size)
        obtain ⟨Wf, hWf, q0, q1, q2, hbf, htf⟩ := ret3 (.string rc) (.slice At n ct) (.int .i64 fl) hk2 hbw2 (Nat.le_refl _)
        have k0 : w2.cell? ⟨wr.heap.size, 0, none⟩ = some (.string ⟨#[]⟩) := by rw [hk2.cell]; rfl
        have k1 : w2.cell? ⟨wr.heap.size, 1, none⟩ = some (.slice none 0 0) := by rw [hk2.cell]; rfl
        have k2 : w2.cell? ⟨wr.heap.size, 2, none⟩ = some (.int .i64 0) := by rw [hk2.cell]; rfl
        have g0 := Blk.frz hk2 0
        have g1 := Blk.frz hk2 1
        have g2 := Blk.frz hk2 2
        have HONE := Lib.hid hone
        have HBF := Lib.hid hbf
        have HTF := Lib.hid htf
        have HWF := Lib.hid hWf
        have HB1F := Lib.hid (HBR.out.trans (hbf.mono hsz))
        have HROWF := Lib.hid (HROW.out.keep hbf)
        clear hb2 hk2 hbw2 hbf htf hone hWf
        rcases HONE.out with ⟨rfl, hF⟩ | ⟨rfl, hF⟩ | ⟨rfl, cc, ll, rfl, hTX, hF⟩
        · have hg := HG2.out
          rw [hF] at hg
          have hg : (([] : List LRow), (k : Int) + 1, (10 : Int)) = R := hg
          subst hg
          clear hF HONE
          go_wp2_with fail
          go_returns
          unfold RefRead
          rw [HRR.out]
          exact ⟨_, rfl, Refs.none_ _ _, HPOST.out _ (by rw [HWF.out]; exact HB1F.out)⟩
        · by_cases h4 : rc.size ≤ 4
          · have b4 : decide ((4 : Int) < (rc.size : Int)) = false := decide_eq_false (by omega)
            rw [if_pos h4] at hF
            have HGN : Hid (readGo oneC (k + 1) out (L.drop (k + 1)) = R) := Lib.hid (by have hg := HG2.out; rw [hF] at hg; exact hg)
            clear hF HONE h4
            go_upto_region 17 with fail
            rw [HWF.out]
            go_wp2_with fail
            go_roundw
            case rel => exact ⟨k + 1, out, by omega, by go_num, by omega, HROWF.out, HB1F.out, HGN.out⟩
            case measure => simp [RowKit.intOf]; omega
          · have b4 : decide ((4 : Int) < (rc.size : Int)) = true := decide_eq_true (by omega)
            rw [if_neg h4] at hF
            have hg := HG2.out
            rw [hF] at hg
            have hg : (([] : List LRow), (k : Int) + 1, (11 : Int)) = R := hg
            subst hg
            clear hF HONE h4
            go_upto_region 17 with fail
            rw [HWF.out]
            go_wp2_with fail
            go_returns
            unfold RefRead
            rw [HRR.out]
            exact ⟨_, rfl, Refs.none_ _ _, HPOST.out _ HB1F.out⟩
        · have HTX := Lib.hid (HTF.out _ _ hTX)
          have HWR := Lib.hid (wrong13_all cc (.slice At n ct) ll fl Wf HTX.out)
          obtain ⟨err, herr⟩ : ∃ err, wrongL ⟨cc, ll, fl⟩ = err := ⟨_, rfl⟩
          rw [herr] at hF HWR
          have HFF := Lib.hid hF
          clear hF HONE hTX herr
          go_upto_region 17 with fail
          rw [HWF.out]
          go_wp2_with fail
          refine HWR.out.mono ?_
          rintro _ w3 ⟨rfl, hb3⟩
          have hq := hb3
          have r0 : w3.cell? ⟨wr.heap.size, 0, none⟩ = some (.string ⟨cc.toArray⟩) := (hb3.cell (p := ⟨wr.heap.size, 0, none⟩) (cell_in q0)).trans q0
          have r1 : w3.cell? ⟨wr.heap.size, 1, none⟩ = some (.slice At n ct) := (hb3.cell (p := ⟨wr.heap.size, 1, none⟩) (cell_in q1)).trans q1
          have r2 : w3.cell? ⟨wr.heap.size, 2, none⟩ = some (.int .i64 fl) := (hb3.cell (p := ⟨wr.heap.size, 2, none⟩) (cell_in q2)).trans q2
          have HTX := Lib.hid (HTX.out.keep hb3)
          have HB13 := Lib.hid (HB1F.out.trans (hb3.mono HB1F.out.size))
          have HROW3 := Lib.hid (HROWF.out.keep hb3)
          clear hb3 hq
          by_cases he : err = 0
          · subst he
            have hF := HFF.out
            rw [if_pos rfl] at hF
            have HGN : Hid (readGo oneC (k + 1) (out ++ [⟨cc, ll, fl⟩]) (L.drop (k + 1)) = R) := Lib.hid (by have hg := HG2.out; rw [hF] at hg; exact hg)
            have HLN2 : Hid ((out ++ [(⟨cc, ll, fl⟩ : LRow)]).length = out.length + 1) := Lib.hid (by simp)
            clear hF
            go_wp2_with (at_builtin; go_loud (refine wpList_ref w3 rfl _ _ rfl W1.heap.size (.slice Ao out.length co) out rfl HROW3.out HB13.out.size cc At n ct ll fl HTX.out _ rfl (by omega) ?_); intro v2 w5 hr5 hb5; have HR5 := Lib.hid hr5; have HB5 := Lib.hid (HB13.out.trans hb5); obtain ⟨A5, c5, rfl⟩ := hr5.shape; clear hr5 hb5)
            go_roundw
            case rel => exact ⟨k + 1, out ++ [⟨cc, ll, fl⟩], by omega, by go_num, by rw [HLN2.out]; omega, (by have h := HR5.out; rw [HLN2.out] at h; exact h), HB5.out, HGN.out⟩
            case measure => simp [RowKit.intOf]; omega
          · have hbn : (err != 0) = true := by rw [bne_iff_ne]; exact he
            have hF := HFF.out
            rw [if_neg he] at hF
            have hg := HG2.out
            rw [hF] at hg
            have hg : (([] : List LRow), (k : Int) + 1, err) = R := hg
            subst hg
            clear hF he
            go_wp2_with fail
            go_returns
            unfold RefRead
            rw [HRR.out]
            exact ⟨_, rfl, Refs.none_ _ _, HPOST.out _ HB13.out⟩
      · obtain rfl : k = L.length := by omega
        have a1 : decide ((L.length : Int) < (L.length : Int)) = false := decide_eq_false (by omega)
        have hg := HGO.out
        rw [List.drop_eq_nil_of_le (Nat.le_refl _)] at hg
        have hg : (out, (0 : Int), (0 : Int)) = R := hg
        subst hg
        go_wp2_with fail
        go_returns
        unfold RefRead
        rw [HRR.out]
        exact ⟨_, rfl, HROW.out.base HBWS.out, HPOST.out _ HBR.out⟩
end Go.Proofs.YtopaoejapnakiaaGreatDoor.Mf
