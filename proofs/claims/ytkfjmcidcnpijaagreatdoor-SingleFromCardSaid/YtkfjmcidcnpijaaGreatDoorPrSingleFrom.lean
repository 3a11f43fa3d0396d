/- The statement SingleFrom: its row, out of the walk. The call returns true at every input, and each argument reads behind it as before. The conditions: when the call begins, the eight listed variables of Go's library read as its text lays them (the given card ties them). -/
import Derived.Test.YtkfjmcidcnpijaaGreatDoorRows
import Derived.Test.YtkfjmcidcnpijaaGreatDoorSNf
import Derived.Test.YtkfjmcidcnpijaaGreatDoorFrame
import Derived.Test.YtkfjmcidcnpijaaGreatDoorFm
import Derived.Test.YtkfjmcidcnpijaaGreatDoorCards
import Derived.Test.YtkfjmcidcnpijaaGreatDoorTie
import Derived.SevenTiedAt
import Derived.SizedLaws
import Derived.LaidMore
import Derived.Stop.Joined
import Derived.WalkKit
import Derived.ProofKit
import Derived.OpenShut
import Derived.ShutString
import Derived.ChangeOld
import Derived.Below
import Derived.SliceStrings
import Derived.Deep.DeepHandedRow
import Derived.Deep.DeepWitnessRowRef
import Derived.Test.YtkfjmcidcnpijaaGreatDoorSNfr
namespace Go.Proofs.YtkfjmcidcnpijaaGreatDoor.Mf.singleFrom
open Go.ChangeShapes Go.WideShapes Go.ChangeAt Go.RowKit Pl
open Go.ChangeMaps (open_string shut_string)

theorem reads (os : Os) {H : Type} (enc : TypeId × Value → H) : ∃ places, DataW.whole enc Tryz.prog ((laidWorld os).forCall (fun _ _ => 0) ⟨#[], #[.slice none 0 0, .slice none 0 0], []⟩).memory Tryz.f4.params.toList Rows.singleFromSpec.vars false (#[.slice none 0 0, .slice none 0 0] : Array Value).toList 8 = some ([.nil, .nil], [], places) :=
  ⟨[], by kernel_rfl⟩

set_option maxRecDepth 100000 in
set_option maxHeartbeats 2000000 in
theorem lifted (os : Os) (started : os.Started) (H : Type) (enc : TypeId × Value → H) (F : Stop.Interp) :
    ReturnsInHanded {} Tryz.checked os 4 .any ((OpenSpec.ofChange Rows.singleFromSpec).preRow enc Tryz.prog Tryz.f4 Rows.singleFromRow.domain false Rows.singleFromRow.laid) (((OpenSpec.ofChange Rows.singleFromSpec).at F).post enc Tryz.prog Tryz.f4 false true false false) := by
  obtain ⟨places, hx⟩ := reads os enc
  refine returnsInHanded_of_row (C := Tryz.checked) (s := (OpenSpec.ofChange Rows.singleFromSpec)) own started (by kernel_rfl) Tryz.func4
    (witness_row_atRef (enc := enc) (C := Tryz.checked) false (laidWorld os) #[.slice none 0 0, .slice none 0 0] rfl (by kernel_rfl) (by kernel_rfl) (by kernel_rfl)
      (OpenSpec.preRow_of_cond 8 hx (by kernel_rfl) (fun k hk => by cases hk) (by kernel_rfl) (laid_met os _))) ?_
  intro W base args ds gs before hval0 hW _ hcond hsz0 hL _ _
  have hO := okp_of_laid hL
  have hval : ∀ (j : Nat) t v, Tryz.f4.params[j]? = some t → args[j]? = some v → Value.okWide Tryz.prog W .any base t v := hval0
  have hW' := hW
  obtain ⟨p, q, hA0, hV, rfl, hfz, hnd⟩ := hW
  have hA : DataW.TrodAll enc Tryz.prog W 0 (fun _ => true) true Tryz.f4.params.toList args.toList ds p := hA0
  have hsz : (DataW.weightsEach Tryz.prog (Tryz.f4.params.toList ++ Rows.singleFromSpec.plain.varTypes Tryz.prog) (ds ++ gs)).all (· ≤ reachBytes) = true := hsz0
  rw [Tryz.params4] at hA hval hsz
  obtain ⟨v0, vs0, d0, ds0, p0, q0, hargs, rfl, rfl, h0, r0⟩ := trodAll_cons hA
  obtain ⟨v1, vs1, d1, ds1, p1, q1, rfl, rfl, rfl, h1, r1⟩ := trodAll_cons r0
  obtain ⟨rfl, rfl, rfl⟩ := trodAll_nil r1
  obtain rfl : args = #[v0, v1] := by cases args; simp_all
  obtain ⟨rfl, rfl⟩ := trodVars_none hV
  have k0 := h0
  have lt0 : ∀ x ∈ p0, x.block < W.heap.size := by obtain ⟨m, hm⟩ := k0; exact DataW.trod_lt m _ _ _ hm
  obtain ⟨a0, len0, cap0, rfl⟩ := okWide_slice Tryz.underlying39 (hval 0 39 v0 rfl rfl)
  obtain ⟨l0, L0, R0, N0, S0⟩ : ∃ l : List RowV, len0 = l.length ∧ RowsAt W a0 l ∧ l.length ≤ 1000000000000000 ∧ ∀ r ∈ l, r.code.size ≤ maxLen ∧ r.text.size ≤ maxLen := by
    obtain ⟨fuel, hf⟩ := h0
    rcases open_rows hf with ⟨hcs, _⟩ | ⟨x, len, cap, m, I, hcs, hlm, hx, hc⟩
    · simp [Value.cells] at hcs; obtain ⟨rfl, rfl, rfl⟩ := hcs; exact ⟨[], rfl, fun h => absurd rfl h, by simp, by simp⟩
    · simp [Value.cells] at hcs; obtain ⟨rfl, rfl, rfl⟩ := hcs
      have hx : d0 = _ := hx
      have hr := sized_slice hsz (j := 0) (t := 39) (e := 50) rfl (congrArg some hx) Tryz.underlying39
      rw [bytesRow] at hr
      simp only [List.length_map, List.length_range, reachBytes] at hr
      refine ⟨(List.range len0).map I, by simp, rows_at hlm hc, by simp; omega, fun r hr => ?_⟩
      obtain ⟨i, hi, rfl⟩ := List.mem_map.1 hr
      have hi : i < len0 := List.mem_range.1 hi
      exact (hc i (by omega)).2
  subst L0
  have k1 := h1
  have lt1 : ∀ x ∈ p1, x.block < W.heap.size := by obtain ⟨m, hm⟩ := k1; exact DataW.trod_lt m _ _ _ hm
  obtain ⟨a1, len1, cap1, rfl⟩ := okWide_slice Tryz.underlying39 (hval 1 39 v1 rfl rfl)
  obtain ⟨l1, L1, R1, N1, S1⟩ : ∃ l : List RowV, len1 = l.length ∧ RowsAt W a1 l ∧ l.length ≤ 1000000000000000 ∧ ∀ r ∈ l, r.code.size ≤ maxLen ∧ r.text.size ≤ maxLen := by
    obtain ⟨fuel, hf⟩ := h1
    rcases open_rows hf with ⟨hcs, _⟩ | ⟨x, len, cap, m, I, hcs, hlm, hx, hc⟩
    · simp [Value.cells] at hcs; obtain ⟨rfl, rfl, rfl⟩ := hcs; exact ⟨[], rfl, fun h => absurd rfl h, by simp, by simp⟩
    · simp [Value.cells] at hcs; obtain ⟨rfl, rfl, rfl⟩ := hcs
      have hx : d1 = _ := hx
      have hr := sized_slice hsz (j := 1) (t := 39) (e := 50) rfl (congrArg some hx) Tryz.underlying39
      rw [bytesRow] at hr
      simp only [List.length_map, List.length_range, reachBytes] at hr
      refine ⟨(List.range len1).map I, by simp, rows_at hlm hc, by simp; omega, fun r hr => ?_⟩
      obtain ⟨i, hi, rfl⟩ := List.mem_map.1 hr
      have hi : i < len1 := List.mem_range.1 hi
      exact (hc i (by omega)).2
  subst L1
  clear hA0 hval0
  refine (singleFrom_law (w := W) hO a0 cap0 l0 R0 N0 S0 a1 cap1 l1 R1 N1 S1).mono fun e W' ⟨he, bel⟩ => ?_
  subst he
  exact ⟨_, rfl, _, _, _, [], _, [], hW', trodAll_mk1 (shut_bool Tryz.underlying4 _), (trodAll_cons_mk (Below.trod laidOut (by kernel_rfl) (of_decide_eq_true (by kernel_rfl)) k0 bel lt0) (trodAll_cons_mk (Below.trod laidOut (by kernel_rfl) (of_decide_eq_true (by kernel_rfl)) k1 bel lt1) trodAll_mk0)), rfl, bel.frame _, fun h => by cases h⟩

theorem over : Rows.singleFromRow.holds Tryz.pinned (OpenSpec.ofChange Rows.singleFromSpec) :=
  OpenClaim.holds_of_cond 4 Tryz.f4 rfl rfl rfl rfl rfl rfl rfl ⟨rfl, rfl, rfl, rfl, rfl⟩ rfl rfl rfl rfl rfl (by kernel_rfl) Tryz.func4 (by kernel_rfl)
    (of_decide_eq_true (by kernel_rfl)) (by unfold Func.isWrapper; first | (rw [if_pos (by decide +kernel)]; kernel_rfl) | (rw [if_neg (by decide +kernel)]; exact ⟨rfl, rfl⟩))
    (fun os started H enc _ F => by rw [OpenClaim.pre_eq_preRow]; exact lifted os started H enc F)

theorem proved : Rows.SingleFromCardSaid :=
  Claim7.holds_tied_plain_at .later [] _ _ _ _ over (fun _ h => by cases h) (by kernel_rfl) (fun _ h => by cases h) singleFrom_row_tie rfl ⟨rfl, rfl⟩ (by kernel_rfl) rfl
    (fun f fn hf hfn => by
      obtain rfl : f = 4 := Option.some.inj ((show Tryz.prog.funcNamed "inkhorn/inkhornlaw18.SingleFrom" = some 4 by kernel_rfl).symm.trans hf) |>.symm
      obtain rfl : fn = Tryz.f4 := (Option.some.inj (Tryz.func4.symm.trans hfn)).symm
      exact ⟨by kernel_rfl, fun j t ht => by
        rw [Tryz.params4] at ht
        have hm : t ∈ [39, 39] := by simpa using Array.mem_of_getElem? ht
        have hall : ([39, 39].all fun u => !Tryz.prog.wantsStandIn u) = true := by kernel_rfl
        exact (show Tryz.prog.wantsStandIn t = false by simpa using List.all_eq_true.1 hall t hm)⟩)
    (by kernel_rfl)
#print axioms proved
end Go.Proofs.YtkfjmcidcnpijaaGreatDoor.Mf.singleFrom
