/- Walks: strings.Cut at one byte, strings.Lines, and its iterator. -/
import Derived.Test.YtkfjmcidcnpijaaGreatDoorL2
import Derived.Lib.BufferOwn
import Derived.BigRegionIn
namespace Go.Proofs.YtkfjmcidcnpijaaGreatDoor.Mf
open Go.RowKit Go.Shelf

set_option maxRecDepth 100000 in
theorem sliteCut_any (s : ByteArray) (hs : s.size ≤ 1000000) (w : World) : Calls Tryz.prog 96 #[.string s, .string ⟨#[35]⟩] w fun e w' => ∃ a b, e = .returned (.tuple #[.string ⟨(s.data.toList.takeWhile (· != 35)).toArray⟩, a, b]) ∧ Below w.heap.size w w' := by
  have HI := Lib.hid (index35_any s w)
  obtain ⟨T, hT⟩ : ∃ T, s.data.toList.takeWhile (· != 35) = T := ⟨_, rfl⟩
  have hi := idx_tw 35 s.data.toList
  rw [hT] at hi ⊢
  rcases hi with ⟨h1, h2, _⟩ | ⟨h1, h2⟩
  · rw [h1] at HI
    have hsT : s = ⟨T.toArray⟩ := ba_ext h2.symm
    have HST := Lib.hid hsT
    clear hT h1 h2 hsT
    go_enter Tryz.func96, Tryz.ntmps96
    go_wp2_with fail
    refine HI.out.mono ?_
    rintro _ _ ⟨rfl, rfl⟩
    go_wp2_with fail
    go_returns
    exact ⟨_, _, by rw [HST.out]; rfl, Below.refl _ _⟩
  · rw [h1] at HI
    have hl := congrArg List.length h2
    rw [List.length_append, List.length_cons, bl] at hl
    have hex : s.extract 0 T.length = ⟨T.toArray⟩ := ba_ext (by rw [ext_take, ← hT, ← take_len]; simp)
    have a1 : decide ((0 : Int) ≤ (T.length : Int)) = true := decide_eq_true (by omega)
    have j0 : (0 : Int) ≤ (T.length : Int) := by omega
    have j1 : (T.length : Int) ≤ (s.size : Int) := by omega
    have j2 : (0 : Int) ≤ (T.length : Int) + 1 := by omega
    have j3 : (T.length : Int) + 1 ≤ (s.size : Int) := by omega
    have hkw : IntKind.i64.wrap ((T.length : Int) + 1) = (T.length : Int) + 1 := IntWalk.i64_in _ (by omega)
    have HEX := Lib.hid hex
    clear hT h1 h2 hl hex
    go_enter Tryz.func96, Tryz.ntmps96
    go_wp2_with fail
    refine HI.out.mono ?_
    rintro _ _ ⟨rfl, rfl⟩
    go_wp2_with fail
    go_region
    all_goals (
      go_wp2_with fail
      go_returns
      exact ⟨_, _, by rw [HEX.out]; rfl, (Below.refl _ _).drew⟩)
set_option maxRecDepth 100000 in
theorem cut_any (s : ByteArray) (hs : s.size ≤ 1000000) (w : World) : Calls Tryz.prog 72 #[.string s, .string ⟨#[35]⟩] w fun e w' => ∃ a b, e = .returned (.tuple #[.string ⟨(s.data.toList.takeWhile (· != 35)).toArray⟩, a, b]) ∧ Below w.heap.size w w' := by
  have HC := Lib.hid (sliteCut_any s hs w)
  go_enter Tryz.func72, Tryz.ntmps72
  go_wp2_with fail
  refine HC.out.mono ?_
  rintro _ w1 ⟨a, b, rfl, hb⟩
  go_wp2_with fail
  go_returns
  exact ⟨_, _, rfl, hb⟩
theorem lines_any (s : ByteArray) (w : World) : Calls Tryz.prog 70 #[.string s] w fun e w' => e = .returned (.func (.func 93) #[] #[.pointer (some ⟨w.heap.size, 0, none⟩)]) ∧ w.alloc (.cells #[.string s] StrT) = w' := by
  go_enter Tryz.func70, Tryz.ntmps70
  go_wp2_with fail
  go_returns
  exact ⟨rfl, rfl⟩
/-- A line as it comes. -/
abbrev LineB := { x : ByteArray // x.size ≤ 1000000 }
def mapS (xs : List LineB) : List (List UInt8) := xs.map fun x => strip x.1.data.toList
def boxLen (Bn : Nat) (w : World) : Nat := match w.cell? ⟨Bn, 0, none⟩ with | some (.string s) => s.size | _ => 0
set_option maxRecDepth 100000 in
set_option maxHeartbeats 1600000 in
theorem lines1_any (m l Bn : Nat) (s : ByteArray) (hs : s.size ≤ 1000000) (J Jx : List LineB → World → Prop) (W : World) (hJ : AbB Bn J) (_hJx : AbB Bn Jx)
    (hY : ∀ pre x W1, J pre W1 → YieldAt Fence.wide (m - 1) Tryz.prog l #[.string x.1] W1 fun e W' => (e = .returned (.bool true) ∧ J (pre ++ [x]) W' ∧ KpB Bn W1 W') ∨ (e = .returned (.bool false) ∧ Jx (pre ++ [x]) W'))
    (hm : 1 ≤ m) (hc : W.cell? ⟨Bn, 0, none⟩ = some (.string s)) (hf : W.frozen? ⟨Bn, 0, none⟩ = false) (h0 : J [] W) :
    CallsIn Fence.wide m Tryz.prog 93 (#[.func (.yield l) #[] #[]] ++ #[.pointer (some ⟨Bn, 0, none⟩)]) W fun e W' => (∃ v, e = .returned v) ∧ ((∃ xs, mapS xs = linesOf s.data.toList ∧ J xs W') ∨ (∃ pre, mapS pre <+: linesOf s.data.toList ∧ Jx pre W')) := by
  obtain ⟨L, hL⟩ : ∃ L, linesOf s.data.toList = L := ⟨_, rfl⟩
  rw [hL]
  have HJ := Lib.hid hJ
  have HY := Lib.hid hY
  have HL := Lib.hid hL
  have H0 := Lib.hid h0
  clear hJ hY hL h0
  refine callsIn_of_wp Tryz.func93 rfl trivial ?_ rfl
  simp only [Tryz.ntmps93, List.size_toArray, List.length_cons, List.length_nil, Nat.reduceAdd, Nat.reduceSub, Array.replicate_succ, Array.replicate_zero, List.push_toArray, List.append_toArray, List.nil_append, List.cons_append]
  gi_wp2
  gi_loopw [3] (fun _ wr => ∃ (pre : List LineB) (r : ByteArray), wr.cell? ⟨Bn, 0, none⟩ = some (.string r) ∧ wr.frozen? ⟨Bn, 0, none⟩ = false ∧ r.size ≤ s.size ∧ mapS pre ++ linesOf r.data.toList = L ∧ J pre wr) (fun _ wr => boxLen Bn wr)
  case atStart => exact ⟨[], s, hc, hf, Nat.le_refl _, HL.out, H0.out⟩
  case round =>
    obtain ⟨pre, r, hcr, hfr, hrs, hpl, hj⟩ := hrel
    have HJW := Lib.hid hj
    have hrb : r.size ≤ 1000000 := by omega
    have HPL := Lib.hid hpl
    clear hc hf hj hpl
    have hlt : Bn < wr.heap.size := by
      unfold World.cell? at hcr
      cases ho : wr.heap[Bn]? with
      | none => simp [ho] at hcr
      | some o => exact (Array.getElem?_eq_some_iff.1 ho).1
    have HSET : Hid (∀ v, J pre (wr.setCell ⟨Bn, 0, none⟩ v)) := Lib.hid fun v => HJ.out pre wr _ (some Bn) HJW.out (grownBy_setCell' wr Bn v) (fun r e => by cases e; rfl)
    have HDRW : Hid (∀ A, J pre A → J pre A.drew) := Lib.hid fun A h => HJ.out pre A _ none h ⟨rfl, rfl, rfl, Nat.le_refl _, fun _ _ _ => rfl⟩ (fun r e => by cases e)
    have HCS : Hid (∀ v, (wr.setCell ⟨Bn, 0, none⟩ v).cell? ⟨Bn, 0, none⟩ = some v) := Lib.hid fun v => World.cell?_setCell_same' wr ⟨Bn, 0, none⟩ v (by rw [hcr]; rfl)
    have HFS : Hid (∀ v, (wr.setCell ⟨Bn, 0, none⟩ v).frozen? ⟨Bn, 0, none⟩ = false) := Lib.hid fun v => by rw [World.frozen?_setCell]; exact hfr
    by_cases h0 : r.size = 0
    · have hn : r.data.toList = [] := List.eq_nil_of_length_eq_zero (by rw [bl]; exact h0)
      have a1 : decide (0 < r.size) = false := decide_eq_false (by omega)
      have hpl := HPL.out
      rw [hn, linesOf_nil, List.append_nil] at hpl
      have HPE := Lib.hid hpl
      clear h0 hn hpl
      gi_wp2
      go_end0
      exact ⟨⟨_, rfl⟩, .inl ⟨pre, HPE.out, HJW.out⟩⟩
    · have a1 : decide (0 < r.size) = true := decide_eq_true (by omega)
      have hne : r.data.toList ≠ [] := fun h => h0 (by rw [← bl, h]; rfl)
      have HIX := Lib.hid (index_any r 10 wr)
      change Hid (Calls _ _ #[.string r, .int .u8 10] _ _) at HIX
      obtain ⟨T, hT⟩ : ∃ T, r.data.toList.takeWhile (· != 10) = T := ⟨_, rfl⟩
      have hi := idx_tw 10 r.data.toList
      rw [hT] at hi
      rcases hi with ⟨h1, h2, h3⟩ | ⟨h1, h2⟩
      · rw [h1] at HIX
        have hls : linesOf r.data.toList = [strip r.data.toList] := by rw [strip_no _ h3, lines_last _ h3 hne]
        have HLS := Lib.hid hls
        have hb0 : boxLen Bn wr = r.size := by unfold boxLen; rw [hcr]
        have HB0 := Lib.hid hb0
        obtain ⟨fn, tmps, assign, body, hy, hR⟩ := HY.out pre ⟨r, hrb⟩ (wr.setCell ⟨Bn, 0, none⟩ (.string ⟨#[]⟩)) (HSET.out _)
        dsimp only at hy
        have HR := Lib.hid hR
        clear hT h1 h2 h3 hne hls hb0 hR
        gi_wp2_with (refine ⟨trivial, ?_⟩; gi_at_call 94; refine (callsIn_wide.2 HIX.out).mono ?_; rintro _ _ ⟨rfl, rfl⟩)
        refine HR.out.mono ?_
        rintro e W3 (⟨rfl, hJ3, hk3⟩ | ⟨rfl, hJx3⟩)
        · have HJ3 := Lib.hid hJ3
          have c3 := hk3.1.trans (HCS.out _)
          have f3 := hk3.2.trans (HFS.out _)
          have HC3 := Lib.hid c3
          have HF3 := Lib.hid f3
          clear hJ3 hk3 c3 f3
          gi_wp2
          go_roundw
          case rel => exact ⟨pre ++ [⟨r, hrb⟩], ⟨#[]⟩, HC3.out, HF3.out, Nat.zero_le _, by rw [mapS, List.map_append]; show mapS pre ++ [strip r.data.toList] ++ linesOf [] = L; rw [linesOf_nil, List.append_nil, ← HLS.out]; exact HPL.out, HJ3.out⟩
          case measure => rw [HB0.out]; unfold boxLen; rw [HC3.out]; show 0 < r.size; omega
        · gi_wp2
          refine bodyPost_ret (results_none rfl _ _ _) rfl ?_
          exact ⟨⟨_, rfl⟩, .inr ⟨pre ++ [⟨r, hrb⟩], ⟨[], by rw [List.append_nil, mapS, List.map_append]; show mapS pre ++ [strip r.data.toList] = L; rw [← HLS.out]; exact HPL.out⟩, hJx3⟩⟩
      · rw [h1] at HIX
        have hl := congrArg List.length h2
        rw [List.length_append, List.length_cons, bl] at hl
        have a2 : decide ((0 : Int) ≤ (T.length : Int)) = true := decide_eq_true (by omega)
        have j0 : (0 : Int) ≤ (T.length : Int) := by omega
        have j2 : (0 : Int) ≤ (T.length : Int) + 1 := by omega
        have j3 : (T.length : Int) + 1 ≤ (r.size : Int) := by omega
        have hkw : IntKind.i64.wrap ((T.length : Int) + 1) = (T.length : Int) + 1 := IntWalk.i64_in _ (by omega)
        have h10 : T.all (· != 10) = true := by
          rw [← hT]
          exact List.all_takeWhile
        have hx1 : (r.extract 0 (T.length + 1)).data.toList = T ++ [10] := by
          rw [ext_take, h2, List.take_append, List.take_of_length_le (by omega), show T.length + 1 - T.length = 1 by omega]
          rfl
        have hx2 : (r.extract (T.length + 1) r.size).data.toList = r.data.toList.drop (T.length + 1) := by rw [ext_any, List.take_of_length_le (by rw [bl]; exact Nat.le_refl _)]
        have hls : linesOf r.data.toList = strip (r.extract 0 (T.length + 1)).data.toList :: linesOf (r.extract (T.length + 1) r.size).data.toList := by
          rw [hx1, strip_lf, hx2]
          conv => lhs; rw [h2]
          rw [lines_push _ _ h10]
        have HLS := Lib.hid hls
        have hsz : (r.extract (T.length + 1) r.size).size = r.size - (T.length + 1) := by rw [ByteArray.size_extract]; omega
        have HSZ := Lib.hid hsz
        have hxb : (r.extract 0 (T.length + 1)).size ≤ 1000000 := by rw [ByteArray.size_extract]; omega
        have hb0 : boxLen Bn wr = r.size := by unfold boxLen; rw [hcr]
        have HB0 := Lib.hid hb0
        clear hT h1 h2 hne hls hb0 h10 hx1 hx2 hsz hl
        gi_wp2_with (refine ⟨trivial, ?_⟩; gi_at_call 94; refine (callsIn_wide.2 HIX.out).mono ?_; rintro _ _ ⟨rfl, rfl⟩)
        gi_region
        obtain ⟨fn, tmps, assign, body, hy, hR⟩ := HY.out pre ⟨r.extract 0 (T.length + 1), hxb⟩ (wr.setCell ⟨Bn, 0, none⟩ (.string (r.extract (T.length + 1) r.size))).drew (HDRW.out _ (HSET.out _))
        dsimp only at hy
        have HR := Lib.hid hR
        clear hR
        gi_wp2
        refine HR.out.mono ?_
        rintro e W3 (⟨rfl, hJ3, hk3⟩ | ⟨rfl, hJx3⟩)
        · have HJ3 := Lib.hid hJ3
          have c3 := hk3.1.trans (HCS.out _)
          have f3 := hk3.2.trans (HFS.out _)
          have HC3 := Lib.hid c3
          have HF3 := Lib.hid f3
          clear hJ3 hk3 c3 f3
          gi_wp2
          go_roundw
          case rel => exact ⟨pre ++ [⟨r.extract 0 (T.length + 1), hxb⟩], r.extract (T.length + 1) r.size, HC3.out, HF3.out, by rw [HSZ.out]; omega, by rw [mapS, List.map_append]; show mapS pre ++ [strip (r.extract 0 (T.length + 1)).data.toList] ++ linesOf _ = L; rw [List.append_assoc, List.singleton_append, ← HLS.out]; exact HPL.out, HJ3.out⟩
          case measure => rw [HB0.out]; unfold boxLen; rw [HC3.out]; show (r.extract (T.length + 1) r.size).size < r.size; rw [HSZ.out]; omega
        · gi_wp2
          refine bodyPost_ret (results_none rfl _ _ _) rfl ?_
          exact ⟨⟨_, rfl⟩, .inr ⟨pre ++ [⟨r.extract 0 (T.length + 1), hxb⟩], ⟨linesOf (r.extract (T.length + 1) r.size).data.toList, by rw [mapS, List.map_append]; show mapS pre ++ [strip (r.extract 0 (T.length + 1)).data.toList] ++ linesOf _ = L; rw [List.append_assoc, List.singleton_append, ← HLS.out]; exact HPL.out⟩, hJx3⟩⟩
end Go.Proofs.YtkfjmcidcnpijaaGreatDoor.Mf
