/- The statement StreamParts: its row, out of the walk. The call returns true at every input, and each argument reads behind it as before. The condition: when the call begins, the table utf8.rows reads as the program's text lays it (the given card ties it). -/
import Derived.Test.YtlfhmkjomogkiaaDoorRows
import Derived.Test.YtlfhmkjomogkiaaDoorFrame
import Derived.Test.YtlfhmkjomogkiaaDoorSYp
import Derived.Test.YtlfhmkjomogkiaaDoorCard
import Derived.Test.YtlfhmkjomogkiaaDoorCards
import Derived.Test.YtlfhmkjomogkiaaDoorTie
import Derived.SevenTiedAt
import Derived.SizedLaws
import Derived.LaidMore
import Derived.Stop.Joined
import Derived.WalkKit
import Derived.ProofKit
import Derived.OpenShut
import Derived.ShutString
import Derived.ChangeOld
import Derived.Below
import Derived.SliceStrings
import Derived.Lib.SmallJoins
namespace Go.Proofs.YtlfhmkjomogkiaaDoor.Utf.streamParts
open Go.ChangeShapes Go.WideShapes Go.ChangeAt Go.RowKit Pl
open Go.ChangeMaps (open_string shut_string)

theorem bytesStr : Tryd.prog.bytesOf 9 = 16 := by kernel_rfl

set_option maxRecDepth 100000 in
theorem lifted (os : Os) (started : os.Started) (H : Type) (enc : TypeId × Value → H) :
    ReturnsInHanded {} Tryd.checked os 15 .any (fun w args => (Rows.streamPartsSpec.pre enc Tryd.prog Tryd.f15 [] false w args ∧ laidMetH Tryd.prog laidR w) ∧ sizedMet enc Tryd.prog Tryd.f15 (OpenSpec.ofChange Rows.streamPartsSpec) false w args)
      (Rows.streamPartsSpec.post enc Tryd.prog Tryd.f15 false true false false) := by
  refine returnsInHanded_of_change_and (C := Tryd.checked) (X := fun w _ => laidMetH Tryd.prog laidR w) (fun _ _ _ hh h => h.of_heap hh) own started (by kernel_rfl) Tryd.func15
    (ChangeSpec.witness_shaped (enc := enc) (C := Tryd.checked) (os := os) (X := fun w _ => laidMetH Tryd.prog laidR w) false (World.doorLaid Tryd.prog 400 os) #[.agg #[.int .i64 0, .int .i64 0, .bool false], .slice none 0 0] 8 rfl (World.shaped_of_RefB (by kernel_rfl) (by kernel_rfl)) (by kernel_rfl) (by kernel_rfl) (by kernel_rfl) (door_met os _)) ?_
  intro W base args ds gs before hval0 hW _ hsz0 hL _
  have hRL := rl_of_laid hL
  have hval : ∀ (j : Nat) t v, Tryd.f15.params[j]? = some t → args[j]? = some v → Value.okWide Tryd.prog W .any base t v := hval0
  have hW' := hW
  obtain ⟨p, q, hA0, hV, rfl, hfz, hnd⟩ := hW
  have hA : DataW.TrodAll enc Tryd.prog W 0 (fun _ => true) true Tryd.f15.params.toList args.toList ds p := hA0
  have hsz : (DataW.weightsEach Tryd.prog (Tryd.f15.params.toList ++ Rows.streamPartsSpec.plain.varTypes Tryd.prog) (ds ++ gs)).all (· ≤ reachBytes) = true := hsz0
  rw [Tryd.params15] at hA hval hsz
  obtain ⟨v0, vs0, d0, ds0, p0, q0, hargs, rfl, rfl, h0, r0⟩ := trodAll_cons hA
  obtain ⟨v1, vs1, d1, ds1, p1, q1, rfl, rfl, rfl, h1, r1⟩ := trodAll_cons r0
  obtain ⟨rfl, rfl, rfl⟩ := trodAll_nil r1
  obtain rfl : args = #[v0, v1] := by cases args; simp_all
  obtain ⟨rfl, rfl⟩ := trodVars_none hV
  have k0 := h0
  have lt0 : ∀ x ∈ p0, x.block < W.heap.size := by obtain ⟨m, hm⟩ := k0; exact DataW.trod_lt m _ _ _ hm
  obtain ⟨x0, y0, z0, m0, n0, o0, u0, rfl, e0, f0, hm0, hn0, ho0⟩ := Go.Joins.open_agg3 Tryd.underlying50 (by kernel_rfl) (by kernel_rfl) (hval 0 50 v0 rfl rfl) h0
  obtain ⟨a0, hx0, _⟩ := DataW.trod_int (t := 3) Tryd.underlying3 hm0
  obtain ⟨b0, hy0, _⟩ := DataW.trod_int (t := 3) Tryd.underlying3 hn0
  obtain ⟨c0, hz0, _⟩ := DataW.trod_bool (t := 4) Tryd.underlying4 ho0
  obtain rfl := List.head_eq_of_cons_eq hx0
  obtain rfl := List.head_eq_of_cons_eq hy0
  obtain rfl := List.head_eq_of_cons_eq hz0
  have k1 := h1
  have lt1 : ∀ x ∈ p1, x.block < W.heap.size := by obtain ⟨m, hm⟩ := k1; exact DataW.trod_lt m _ _ _ hm
  obtain ⟨a1, len1, cap1, rfl⟩ := okWide_slice Tryd.underlying43 (hval 1 43 v1 rfl rfl)
  obtain ⟨l1, R1, B1, C1, D1⟩ : ∃ l, Rd W a1 len1 (strv l) ∧ (∀ r ∈ l, r.size ≤ maxLen) ∧ len1 ≤ cap1 ∧ len1 * 16 ≤ 140737488351232 := by
    obtain ⟨fuel, hf⟩ := h1
    rcases open_strings Tryd.underlying43 Tryd.underlying9 (by kernel_rfl) hf with ⟨hcs, _⟩ | ⟨x, l, c, ss, hcs, _, hl, hm, hz, hx, hcell, hwz⟩
    · simp [Value.cells] at hcs; obtain ⟨rfl, rfl, rfl⟩ := hcs; exact ⟨[], Rd.none_, by simp, Nat.le_refl _, by omega⟩
    · have hr := sized_slice hsz (j := 1) (t := 43) (e := 9) rfl (congrArg (fun p => some (Prod.fst p)) hx) Tryd.underlying43
      rw [bytesStr] at hr
      simp [Value.cells] at hcs; obtain ⟨rfl, rfl, rfl⟩ := hcs
      refine ⟨ss.take _, rd_str (by rw [hz]; simpa using hl) hcell, fun r hr => hwz r (List.mem_of_mem_take hr), hl, ?_⟩
      simp only [strs, List.length_map, List.length_take, List.length_drop, reachBytes] at hr
      simp at hz; omega
  clear hA0 hval0
  refine (Str.streamParts_law (w := W) a0 b0 c0 a1 len1 cap1 l1 R1 B1 C1 D1 hRL).mono fun e W' ⟨he, bel⟩ => ?_
  subst he
  exact ⟨_, rfl, _, _, _, [], _, [], hW', trodAll_mk1 (shut_bool Tryd.underlying4 _), (trodAll_cons_mk (Below.trod laidOut (by kernel_rfl) (of_decide_eq_true (by kernel_rfl)) k0 bel lt0) (trodAll_cons_mk (Below.trod laidOut (by kernel_rfl) (of_decide_eq_true (by kernel_rfl)) k1 bel lt1) trodAll_mk0)), rfl, bel.frame _, fun h => by cases h⟩

theorem over : Rows.streamPartsRow.holds Tryd.pinned (OpenSpec.ofChange Rows.streamPartsSpec) :=
  OpenClaim.holds_of_wide 15 Tryd.f15 rfl rfl rfl rfl rfl rfl rfl ⟨rfl, rfl, rfl, rfl, rfl⟩ rfl rfl rfl rfl rfl (by kernel_rfl) Tryd.func15 (by kernel_rfl)
    (of_decide_eq_true (by kernel_rfl)) (by unfold Func.isWrapper; first | (rw [if_pos (by decide +kernel)]; kernel_rfl) | (rw [if_neg (by decide +kernel)]; exact ⟨rfl, rfl⟩))
    (fun os started H enc _ => lifted os started H enc)

theorem proved : Rows.StreamPartsCardSaid :=
  Claim7.holds_tied_plain_at .later [] [.data] true Rows.streamPartsCard.stood.harness false
    over (fun _ h => by cases h) (by kernel_rfl) (fun _ h => by cases h) streamParts_row_tie rfl ⟨rfl, rfl⟩ (by kernel_rfl) rfl
    (fun f fn hf hfn => by
      obtain rfl : f = 15 := Option.some.inj ((show Tryd.prog.funcNamed "inkhorn/inkhornlaw03.StreamParts" = some 15 by kernel_rfl).symm.trans hf) |>.symm
      obtain rfl : fn = Tryd.f15 := (Option.some.inj (Tryd.func15.symm.trans hfn)).symm
      exact ⟨by kernel_rfl, fun j t ht => by
        rw [Tryd.params15] at ht
        have hm : t ∈ [50, 43] := by simpa using Array.mem_of_getElem? ht
        have hall : ([50, 43].all fun u => !Tryd.prog.wantsStandIn u) = true := by kernel_rfl
        exact (show Tryd.prog.wantsStandIn t = false by simpa using List.all_eq_true.1 hall t hm)⟩)
    (by kernel_rfl)
#print axioms proved
end Go.Proofs.YtlfhmkjomogkiaaDoor.Utf.streamParts
