/- Joined of: L1, L2, L3, L4. -/
import Derived.RangeFuncNested
import Derived.RangeFuncBound
import Derived.RangeFuncCalls
import Derived.RangeFuncLeaves
import Derived.Shelf.Abstract
import Derived.Shelf.RegionOpen
import Derived.WalkKit
import Derived.OwnWalkIn
import Derived.TacticsInMore
import Derived.LoopNIn
import Derived.LoopIn
import Derived.Test.YtkfjmcidcnpijaaGreatDoorRC
import Derived.Lib.BufferOwn
import Derived.BigRegionIn
import Derived.RangeFuncBox
import Derived.Maps.AppendAt
/- A loop over a function whose iterator keeps a variable of its own in a box: a law for this, after the kit's laws on loops over functions (whose contracts allow no such iterator). -/
namespace Go.Proofs.YtkfjmcidcnpijaaGreatDoor.Mf
open Go.RowKit Go.Shelf

/-- What is said abides new blocks, and the iterator's own stores into its box. -/
def AbB (Bn : Nat) {β : Type} (J : β → World → Prop) : Prop := ∀ s W W' row, J s W → W.grownBy W' row → (∀ r, row = some r → r = Bn) → J s W'
/-- The box is as it was. -/
def KpB (Bn : Nat) (W W' : World) : Prop := W'.cell? ⟨Bn, 0, none⟩ = W.cell? ⟨Bn, 0, none⟩ ∧ W'.frozen? ⟨Bn, 0, none⟩ = W.frozen? ⟨Bn, 0, none⟩
theorem KpB.trans {Bn : Nat} {A B C : World} (h : KpB Bn A B) (k : KpB Bn B C) : KpB Bn A C := ⟨k.1.trans h.1, k.2.trans h.2⟩
theorem kpB_put {Bn l : Nat} (W : World) (o : Obj) (h : Bn ≠ l) : KpB Bn W (W.putObj l o) := by
  have e : (W.putObj l o).heap[Bn]? = W.heap[Bn]? := World.putObj_heap_other h
  refine ⟨?_, ?_⟩
  · simp only [World.cell?, e]
  · simp only [World.frozen?, e]
/-- How a round may be left: it goes on, or it returns. -/
def roundPost {α : Type} (Bn D : Nat) (I Ix : List α → World → Prop) (xs : List α) (W : World) : Exit → Act → World → Prop
  | .normal, _, W' => KeepsFrom D W W' ∧ KpB Bn W W' ∧ I xs W'
  | .ret, _, W' => KeepsFrom D W W' ∧ Ix xs W'
  | _, _, _ => False
theorem abB_loop {Bn D : Nat} (hne : Bn < D) {k : Nat} (hk : D ≤ k) {W W' : World} {row : Option Nat} {o : Obj} (h : W.heap[k]? = some o) (hg : W.grownBy W' row) (hr : ∀ r, row = some r → r = Bn) : W'.heap[k]? = some o :=
  (hg.block k (Array.getElem?_eq_some_iff.1 h).1 (fun e => by have := hr k e.symm; omega)).trans h
set_option maxRecDepth 100000 in
theorem range_box {P : Program} {α : Type} {g : Operand} {ps : Array Tmp} {assign body : Code} {Q : Exit → Act → World → Prop} {a : Act} {w : World} {n : Nat}
    (h1 : 1 ≤ n) {gf : Nat} {lb : Array Value} (hg : a.eval g = .func (.func gf) #[] lb) (eg : ∀ args w, (callFunc gf args).run P w = .ok (.enter gf args) w)
    {encs : α → Array Value} (Bn : Nat) (hBn : Bn < w.heap.size) {S Sp : List α → Prop} (hps : ∀ x, (encs x).size = ps.size)
    (hseq : ∀ (l : Nat) (J Jx : List α → World → Prop) (W : World), Below w.heap.size w W → AbB Bn J → AbB Bn Jx →
      (∀ pre x W1, J pre W1 → YieldAt Fence.wide (n - 1 - 1) P l (encs x) W1 fun e W' => (e = .returned (.bool true) ∧ J (pre ++ [x]) W' ∧ KpB Bn W1 W') ∨ (e = .returned (.bool false) ∧ Jx (pre ++ [x]) W')) → J [] W →
      CallsIn Fence.wide (n - 1) P gf (#[.func (.yield l) #[] #[]] ++ lb) W fun e W' => (∃ v, e = .returned v) ∧ ((∃ xs, S xs ∧ J xs W') ∨ (∃ pre, Sp pre ∧ Jx pre W')))
    (I Ix : List α → World → Prop) (hI : OwnFrom w.heap.size I) (hIx : OwnFrom w.heap.size Ix) (hbI : AbB Bn I) (hbIx : AbB Bn Ix) (h0 : I [] w) (a₁ : α → Act)
    (hassign : ∀ (l : Nat) (x : α) (W : World) (K : Act → World → Prop), K (a₁ x) W →
      assign.wpIn (Fence.wide.inRound l) (n - 1 - 1) P (Exit.then K (fun _ _ _ => False)) { tmps := (ps.zip (encs x)).foldl (fun t (p, v) => t.setIfInBounds p v) a.tmps, defers := [] } W)
    (hbody : ∀ (l : Nat) (pre : List α) (x : α) (W : World), I pre W → body.wpIn (Fence.wide.inRound l) (n - 1 - 1) P (roundPost Bn w.heap.size I Ix (pre ++ [x]) W) (a₁ x) W)
    (hdone : ∀ (D : Nat) (xs : List α) (W : World), w.heap.size ≤ D → S xs → I xs W → W.heap[D]? = some (.deferred (some [])) → Q .normal { a with defers := { target := .collected D, args := #[] } :: a.defers } W)
    (hstop : ∀ (D : Nat) (pre : List α) (W : World), w.heap.size ≤ D → Sp pre → Ix pre W → W.heap[D]? = some (.deferred (some [])) → Code.ret.wpIn Fence.wide n P Q { a with defers := { target := .collected D, args := #[] } :: a.defers } W) :
    (Code.rangeFunc g ps assign body).wpIn Fence.wide n P Q a w := by
  refine wpIn_rangeFunc ?_
  intro fn hfn
  show ∃ _, _
  obtain ⟨rec, hrec⟩ : ∃ rec : LoopState → Option Code → Loop, rec = fun st pe => { state := st, pending := pe, fn, tmps := a.tmps, params := ps, assign, body, defers := w.heap.size } := ⟨_, rfl⟩
  obtain ⟨W1, hW1⟩ : ∃ W1, (w.alloc (.deferred (some []))).alloc (.loop (rec .ready none)) = W1 := ⟨_, rfl⟩
  have hbW : Below w.heap.size w W1 := hW1 ▸ ((Below.refl _ w).alloc (Nat.le_refl _) _).alloc (by simp) _
  have hL1 : W1.heap[w.heap.size + 1]? = some (.loop (rec .ready none)) := by
    have h2 := World.alloc_heap_new (w.alloc (.deferred (some []))) (.loop (rec .ready none))
    rw [hW1, World.size_alloc] at h2
    exact h2
  have hK1 : W1.heap[w.heap.size]? = some (.deferred (some [])) := hW1 ▸ (Below.heap_alloc _ _ _ (by simp)).trans (World.alloc_heap_new w _)
  have hI1 : I [] W1 := hW1 ▸ hI.alloc _ (hI.alloc _ h0)
  refine ⟨w.heap.size + 1, [{ target := .collected w.heap.size, args := #[] }], W1, { target := .fn (.func gf) lb, args := #[.func (.yield (w.heap.size + 1)) #[] #[]] }, W1, gf, #[.func (.yield (w.heap.size + 1)) #[] #[]] ++ lb, W1, ?_, ?_, ?_, ?_, fun _ => h1, ?_⟩
  · rw [← hW1, hrec]; exact run_enterLoop_outer _ _ _ _ _
  · simp only [resolve, hg]
    simp [go_sem]
  · intro f' _; trivial
  · simp [invoke, go_sem, eg]
  · refine (hseq (w.heap.size + 1)
      (fun pre W => I pre W ∧ W.heap[w.heap.size + 1]? = some (.loop (rec .ready none)) ∧ W.heap[w.heap.size]? = some (.deferred (some [])))
      (fun pre W => Ix pre W ∧ W.heap[w.heap.size + 1]? = some (.loop (rec .done (some .ret))) ∧ W.heap[w.heap.size]? = some (.deferred (some [])))
      W1 hbW
      (fun s A C row hs hgr hr => ⟨hbI s A C row hs.1 hgr hr, abB_loop hBn (by omega) hs.2.1 hgr hr, abB_loop hBn (Nat.le_refl _) hs.2.2 hgr hr⟩)
      (fun s A C row hs hgr hr => ⟨hbIx s A C row hs.1 hgr hr, abB_loop hBn (by omega) hs.2.1 hgr hr, abB_loop hBn (Nat.le_refl _) hs.2.2 hgr hr⟩)
      ?_ ⟨hI1, hL1, hK1⟩).mono ?_
    · rintro pre x W ⟨hi, hl, hk⟩
      have hlt : w.heap.size + 1 < W.heap.size := (Array.getElem?_eq_some_iff.1 hl).1
      have hy := run_yield (P := P) (args := encs x) hl (by rw [hrec]; exact hps x)
      rw [hrec] at hy
      refine ⟨fn, _, assign, body, hy, roundIn_of_wpIn hfn (hassign _ x W _ ⟨_, run_beginRound hl (by rw [hrec]), ?_⟩)⟩
      obtain ⟨bs, hbs⟩ : ∃ o : Obj, o = .loop { rec .ready none with state := .busy } := ⟨_, rfl⟩
      rw [← hbs]
      have hl2 : (W.putObj (w.heap.size + 1) bs).heap[w.heap.size + 1]? = some bs := World.putObj_heap_same hlt
      have hk2 : (W.putObj (w.heap.size + 1) bs).heap[w.heap.size]? = some (.deferred (some [])) := (World.putObj_heap_other (by omega)).trans hk
      have hbc : bs.isCells = false := by rw [hbs]; rfl
      refine wpIn_mono (hbody _ pre x _ (hI.putObj _ hi (by omega) hl rfl)) ?_
      have fin : ∀ (jump : Option Code) (W3 : World), KeepsFrom w.heap.size (W.putObj (w.heap.size + 1) bs) W3 →
          (Instr.endRound (w.heap.size + 1) jump).run P W3 = .ok (.bool jump.isNone) (W3.putObj (w.heap.size + 1) (.loop (rec (if jump.isNone then .ready else .done) jump))) ∧ W3.heap[w.heap.size + 1]? = some bs ∧
          (W3.putObj (w.heap.size + 1) (.loop (rec (if jump.isNone then .ready else .done) jump))).heap[w.heap.size + 1]? = some (.loop (rec (if jump.isNone then .ready else .done) jump)) ∧
          (W3.putObj (w.heap.size + 1) (.loop (rec (if jump.isNone then .ready else .done) jump))).heap[w.heap.size]? = some (.deferred (some [])) := fun jump W3 hk3 => by
        have hl3 := hk3.same _ _ (by omega) hl2 hbc
        have hl4 := hl3
        rw [hbs] at hl4
        have he := run_endRound (P := P) jump hl4
        rw [hrec] at he ⊢
        exact ⟨he, hl3, World.putObj_heap_same (Array.getElem?_eq_some_iff.1 hl3).1, (World.putObj_heap_other (by omega)).trans (hk3.same _ _ (Nat.le_refl _) hk2 rfl)⟩
      rintro e a3 W3 hp
      cases e with
      | normal =>
        obtain ⟨hk3, hkp3, hi3⟩ := hp
        obtain ⟨hr, hl3, hl4, hk4⟩ := fin none W3 hk3
        exact ⟨_, _, hr, .inl ⟨rfl, ⟨hI.putObj _ hi3 (by omega) hl3 hbc, hl4, hk4⟩, ((kpB_put W bs (by omega)).trans hkp3).trans (kpB_put W3 _ (by omega))⟩⟩
      | ret =>
        obtain ⟨hk3, hi3⟩ := hp
        obtain ⟨hr, hl3, hl4, hk4⟩ := fin (some .ret) W3 hk3
        exact ⟨_, _, hr, .inr ⟨rfl, hIx.putObj _ hi3 (by omega) hl3 hbc, hl4, hk4⟩⟩
      | exit id => exact hp.elim
      | goto t => exact hp.elim
      | panic ch => exact hp.elim
      | outgrown => exact hp.elim
    · rintro e W2 ⟨⟨v, rfl⟩, (⟨xs, hS, hi, hl, hk⟩ | ⟨pre, hSp, hi, hl, hk⟩)⟩
      · exact ⟨none, _, by have := run_endLoop (P := P) hl (by rw [hrec]; simp); rw [hrec] at this; exact this, hdone _ xs _ (Nat.le_refl _) hS (hI.putObj _ hi (by omega) hl rfl) ((World.putObj_heap_other (by omega)).trans hk)⟩
      · exact ⟨some .ret, _, by have := run_endLoop (P := P) hl (by rw [hrec]; simp); rw [hrec] at this; exact this, hstop _ pre _ (Nat.le_refl _) hSp (hIx.putObj _ hi (by omega) hl rfl) ((World.putObj_heap_other (by omega)).trans hk)⟩
end Go.Proofs.YtkfjmcidcnpijaaGreatDoor.Mf
/- The library's TrimSuffix, TrimRight, Cut at one byte, as lines wants them. -/
namespace Go.Proofs.YtkfjmcidcnpijaaGreatDoor.Mf
open Go.RowKit Go.Shelf

theorem idx_tw (c : UInt8) : ∀ l : List UInt8, (Lib.indexByte l c = -1 ∧ l.takeWhile (· != c) = l ∧ l.all (· != c) = true) ∨
    (Lib.indexByte l c = ((l.takeWhile (· != c)).length : Int) ∧ l = l.takeWhile (· != c) ++ c :: l.drop ((l.takeWhile (· != c)).length + 1)) := by
  intro l
  induction l with
  | nil => left; exact ⟨rfl, rfl, rfl⟩
  | cons b t ih =>
    unfold Lib.indexByte
    rw [List.takeWhile_cons]
    by_cases h : b = c
    · right
      subst h
      simp
    · have h1 : (b == c) = false := by simp [h]
      have h2 : (b != c) = true := by simp [h]
      simp only [h1, h2, if_true]
      rcases ih with ⟨i1, i2, i3⟩ | ⟨i1, i2⟩
      · left
        rw [i1]
        refine ⟨rfl, by rw [i2], ?_⟩
        rw [List.all_cons, h2, i3]; rfl
      · right
        have hge := Lib.indexByte_ge t c
        rw [i1]
        have hne : (((t.takeWhile (· != c)).length : Int) == -1) = false := by rw [beq_eq_false_iff_ne]; omega
        rw [hne]
        refine ⟨by simp, ?_⟩
        rw [List.length_cons, List.cons_append, List.drop_succ_cons, ← i2]
/-- A line without its line feed. -/
def strip (l : List UInt8) : List UInt8 := Lib.trimSuffix l [10]
theorem strip_lf (t : List UInt8) : strip (t ++ [10]) = t := by
  unfold strip Lib.trimSuffix Lib.hasSuffix
  rw [if_pos (List.isSuffixOf_iff_suffix.2 (List.suffix_append t [10]))]
  simp
theorem strip_no (t : List UInt8) (h : t.all (· != 10) = true) : strip t = t := by
  unfold strip Lib.trimSuffix Lib.hasSuffix
  rw [if_neg]
  intro h2
  obtain ⟨u, hu⟩ := List.isSuffixOf_iff_suffix.1 h2
  rw [← hu, List.all_append] at h
  simp at h
theorem take_len (P : UInt8 → Bool) (l : List UInt8) : l.take (l.takeWhile P).length = l.takeWhile P := (List.prefix_iff_eq_take.1 (List.takeWhile_prefix P)).symm
theorem trimSuffix_any (s : ByteArray) (hs : s.size ≤ 1000000) (w : World) : Calls Tryz.prog 71 #[.string s, .string ⟨#[10]⟩] w fun e w' => e = .returned (.string ⟨(strip s.data.toList).toArray⟩) ∧ w = w' :=
  (Any.strings_TrimSuffix lays102 s ⟨#[10]⟩ w (by omega)).mono fun _ _ hh => ⟨hh.1, hh.2.symm⟩
theorem info256r : (Tryz.prog.info? (lays162_ren.t 116)).map (fun i => (i.zero, i.size)) = some (some (.agg (Array.replicate 256 (.bool false))), 256) := by kernel_rfl
theorem trimRight_any (s : ByteArray) (hs : s.size ≤ 1000000) (w : World) : Calls Tryz.prog 73 #[.string s, .string ⟨#[32, 9]⟩] w fun e w' => e = .returned (.string ⟨(rtrim s.data.toList).toArray⟩) ∧ Below w.heap.size w w' := by
  have h := Any.strings_TrimRight_laid lays162 info256r s ⟨#[32, 9]⟩ w (by omega) (by decide) (ascii_of_all (by decide))
  have e : Lib.trimRightS s.data.toList ((⟨#[32, 9]⟩ : ByteArray).data.toList) = rtrim s.data.toList := by
    unfold rtrim
    rw [← sp_set]
    rfl
  rw [e] at h
  exact h
theorem sliteIndexByte_any (s : ByteArray) (c : UInt8) (w : World) : Calls Tryz.prog 123 #[.string s, .int .u8 (c.toNat : Int)] w fun e w' => e = .returned (.int .i64 (Lib.indexByte s.data.toList c)) ∧ w = w' := by
  have h := Any.stringslite_IndexByte { lays137 with } s (c.toNat : Int) w
  have e : ((c.toNat : Int)).toNat.toUInt8 = c := by simp
  rw [e] at h
  exact h.mono fun _ _ hh => ⟨hh.1, hh.2.symm⟩
set_option maxRecDepth 100000 in
theorem index35_any (s : ByteArray) (w : World) : Calls Tryz.prog 125 #[.string s, .string ⟨#[35]⟩] w fun e w' => e = .returned (.int .i64 (Lib.indexByte s.data.toList 35)) ∧ w = w' := by
  have HS := Lib.hid (sliteIndexByte_any s 35 w)
  change Hid (Calls _ _ #[.string s, .int .u8 35] _ _) at HS
  by_cases h : s.data.toList = [35]
  · have hs : s = ⟨#[35]⟩ := ba_ext h
    subst hs
    clear HS h
    go_enter Tryz.func125, Tryz.ntmps125
    go_wp2_with fail
    go_returns
    exact ⟨rfl, rfl⟩
  · have hb : (([35] : List UInt8) == s.toList) = false := by
      rw [ByteArray.toList_eq, beq_eq_false_iff_ne]
      exact fun e => h e.symm
    clear h
    generalize Lib.indexByte s.data.toList 35 = Z at *
    go_enter Tryz.func125, Tryz.ntmps125
    go_wp2_with fail
    refine HS.out.mono ?_
    rintro _ _ ⟨rfl, rfl⟩
    go_wp2_with fail
    go_returns
    exact ⟨rfl, rfl⟩
end Go.Proofs.YtkfjmcidcnpijaaGreatDoor.Mf
/- Walks: strings.Cut at one byte, strings.Lines, and its iterator. -/
namespace Go.Proofs.YtkfjmcidcnpijaaGreatDoor.Mf
open Go.RowKit Go.Shelf

set_option maxRecDepth 100000 in
theorem sliteCut_any (s : ByteArray) (hs : s.size ≤ 1000000) (w : World) : Calls Tryz.prog 96 #[.string s, .string ⟨#[35]⟩] w fun e w' => ∃ a b, e = .returned (.tuple #[.string ⟨(s.data.toList.takeWhile (· != 35)).toArray⟩, a, b]) ∧ Below w.heap.size w w' := by
  have HI := Lib.hid (index35_any s w)
  obtain ⟨T, hT⟩ : ∃ T, s.data.toList.takeWhile (· != 35) = T := ⟨_, rfl⟩
  have hi := idx_tw 35 s.data.toList
  rw [hT] at hi ⊢
  rcases hi with ⟨h1, h2, _⟩ | ⟨h1, h2⟩
  · rw [h1] at HI
    have hsT : s = ⟨T.toArray⟩ := ba_ext h2.symm
    have HST := Lib.hid hsT
    clear hT h1 h2 hsT
    go_enter Tryz.func96, Tryz.ntmps96
    go_wp2_with fail
    refine HI.out.mono ?_
    rintro _ _ ⟨rfl, rfl⟩
    go_wp2_with fail
    go_returns
    exact ⟨_, _, by rw [HST.out]; rfl, Below.refl _ _⟩
  · rw [h1] at HI
    have hl := congrArg List.length h2
    rw [List.length_append, List.length_cons, bl] at hl
    have hex : s.extract 0 T.length = ⟨T.toArray⟩ := ba_ext (by rw [ext_take, ← hT, ← take_len]; simp)
    have a1 : decide ((0 : Int) ≤ (T.length : Int)) = true := decide_eq_true (by omega)
    have j0 : (0 : Int) ≤ (T.length : Int) := by omega
    have j1 : (T.length : Int) ≤ (s.size : Int) := by omega
    have j2 : (0 : Int) ≤ (T.length : Int) + 1 := by omega
    have j3 : (T.length : Int) + 1 ≤ (s.size : Int) := by omega
    have hkw : IntKind.i64.wrap ((T.length : Int) + 1) = (T.length : Int) + 1 := IntWalk.i64_in _ (by omega)
    have HEX := Lib.hid hex
    clear hT h1 h2 hl hex
    go_enter Tryz.func96, Tryz.ntmps96
    go_wp2_with fail
    refine HI.out.mono ?_
    rintro _ _ ⟨rfl, rfl⟩
    go_wp2_with fail
    go_region
    all_goals (
      go_wp2_with fail
      go_returns
      exact ⟨_, _, by rw [HEX.out]; rfl, (Below.refl _ _).drew⟩)
set_option maxRecDepth 100000 in
theorem cut_any (s : ByteArray) (hs : s.size ≤ 1000000) (w : World) : Calls Tryz.prog 72 #[.string s, .string ⟨#[35]⟩] w fun e w' => ∃ a b, e = .returned (.tuple #[.string ⟨(s.data.toList.takeWhile (· != 35)).toArray⟩, a, b]) ∧ Below w.heap.size w w' := by
  have HC := Lib.hid (sliteCut_any s hs w)
  go_enter Tryz.func72, Tryz.ntmps72
  go_wp2_with fail
  refine HC.out.mono ?_
  rintro _ w1 ⟨a, b, rfl, hb⟩
  go_wp2_with fail
  go_returns
  exact ⟨_, _, rfl, hb⟩
theorem lines_any (s : ByteArray) (w : World) : Calls Tryz.prog 70 #[.string s] w fun e w' => e = .returned (.func (.func 93) #[] #[.pointer (some ⟨w.heap.size, 0, none⟩)]) ∧ w.alloc (.cells #[.string s] StrT) = w' := by
  go_enter Tryz.func70, Tryz.ntmps70
  go_wp2_with fail
  go_returns
  exact ⟨rfl, rfl⟩
/-- A line as it comes. -/
abbrev LineB := { x : ByteArray // x.size ≤ 1000000 }
def mapS (xs : List LineB) : List (List UInt8) := xs.map fun x => strip x.1.data.toList
def boxLen (Bn : Nat) (w : World) : Nat := match w.cell? ⟨Bn, 0, none⟩ with | some (.string s) => s.size | _ => 0
set_option maxRecDepth 100000 in
set_option maxHeartbeats 1600000 in
theorem lines1_any (m l Bn : Nat) (s : ByteArray) (hs : s.size ≤ 1000000) (J Jx : List LineB → World → Prop) (W : World) (hJ : AbB Bn J) (_hJx : AbB Bn Jx)
    (hY : ∀ pre x W1, J pre W1 → YieldAt Fence.wide (m - 1) Tryz.prog l #[.string x.1] W1 fun e W' => (e = .returned (.bool true) ∧ J (pre ++ [x]) W' ∧ KpB Bn W1 W') ∨ (e = .returned (.bool false) ∧ Jx (pre ++ [x]) W'))
    (hm : 1 ≤ m) (hc : W.cell? ⟨Bn, 0, none⟩ = some (.string s)) (hf : W.frozen? ⟨Bn, 0, none⟩ = false) (h0 : J [] W) :
    CallsIn Fence.wide m Tryz.prog 93 (#[.func (.yield l) #[] #[]] ++ #[.pointer (some ⟨Bn, 0, none⟩)]) W fun e W' => (∃ v, e = .returned v) ∧ ((∃ xs, mapS xs = linesOf s.data.toList ∧ J xs W') ∨ (∃ pre, mapS pre <+: linesOf s.data.toList ∧ Jx pre W')) := by
  obtain ⟨L, hL⟩ : ∃ L, linesOf s.data.toList = L := ⟨_, rfl⟩
  rw [hL]
  have HJ := Lib.hid hJ
  have HY := Lib.hid hY
  have HL := Lib.hid hL
  have H0 := Lib.hid h0
  clear hJ hY hL h0
  refine callsIn_of_wp Tryz.func93 rfl trivial ?_ rfl
  simp only [Tryz.ntmps93, List.size_toArray, List.length_cons, List.length_nil, Nat.reduceAdd, Nat.reduceSub, Array.replicate_succ, Array.replicate_zero, List.push_toArray, List.append_toArray, List.nil_append, List.cons_append]
  gi_wp2
  gi_loopw [3] (fun _ wr => ∃ (pre : List LineB) (r : ByteArray), wr.cell? ⟨Bn, 0, none⟩ = some (.string r) ∧ wr.frozen? ⟨Bn, 0, none⟩ = false ∧ r.size ≤ s.size ∧ mapS pre ++ linesOf r.data.toList = L ∧ J pre wr) (fun _ wr => boxLen Bn wr)
  case atStart => exact ⟨[], s, hc, hf, Nat.le_refl _, HL.out, H0.out⟩
  case round =>
    obtain ⟨pre, r, hcr, hfr, hrs, hpl, hj⟩ := hrel
    have HJW := Lib.hid hj
    have hrb : r.size ≤ 1000000 := by omega
    have HPL := Lib.hid hpl
    clear hc hf hj hpl
    have hlt : Bn < wr.heap.size := by
      unfold World.cell? at hcr
      cases ho : wr.heap[Bn]? with
      | none => simp [ho] at hcr
      | some o => exact (Array.getElem?_eq_some_iff.1 ho).1
    have HSET : Hid (∀ v, J pre (wr.setCell ⟨Bn, 0, none⟩ v)) := Lib.hid fun v => HJ.out pre wr _ (some Bn) HJW.out (grownBy_setCell' wr Bn v) (fun r e => by cases e; rfl)
    have HDRW : Hid (∀ A, J pre A → J pre A.drew) := Lib.hid fun A h => HJ.out pre A _ none h ⟨rfl, rfl, rfl, Nat.le_refl _, fun _ _ _ => rfl⟩ (fun r e => by cases e)
    have HCS : Hid (∀ v, (wr.setCell ⟨Bn, 0, none⟩ v).cell? ⟨Bn, 0, none⟩ = some v) := Lib.hid fun v => World.cell?_setCell_same' wr ⟨Bn, 0, none⟩ v (by rw [hcr]; rfl)
    have HFS : Hid (∀ v, (wr.setCell ⟨Bn, 0, none⟩ v).frozen? ⟨Bn, 0, none⟩ = false) := Lib.hid fun v => by rw [World.frozen?_setCell]; exact hfr
    by_cases h0 : r.size = 0
    · have hn : r.data.toList = [] := List.eq_nil_of_length_eq_zero (by rw [bl]; exact h0)
      have a1 : decide (0 < r.size) = false := decide_eq_false (by omega)
      have hpl := HPL.out
      rw [hn, linesOf_nil, List.append_nil] at hpl
      have HPE := Lib.hid hpl
      clear h0 hn hpl
      gi_wp2
      go_end0
      exact ⟨⟨_, rfl⟩, .inl ⟨pre, HPE.out, HJW.out⟩⟩
    · have a1 : decide (0 < r.size) = true := decide_eq_true (by omega)
      have hne : r.data.toList ≠ [] := fun h => h0 (by rw [← bl, h]; rfl)
      have HIX := Lib.hid (index_any r 10 wr)
      change Hid (Calls _ _ #[.string r, .int .u8 10] _ _) at HIX
      obtain ⟨T, hT⟩ : ∃ T, r.data.toList.takeWhile (· != 10) = T := ⟨_, rfl⟩
      have hi := idx_tw 10 r.data.toList
      rw [hT] at hi
      rcases hi with ⟨h1, h2, h3⟩ | ⟨h1, h2⟩
      · rw [h1] at HIX
        have hls : linesOf r.data.toList = [strip r.data.toList] := by rw [strip_no _ h3, lines_last _ h3 hne]
        have HLS := Lib.hid hls
        have hb0 : boxLen Bn wr = r.size := by unfold boxLen; rw [hcr]
        have HB0 := Lib.hid hb0
        obtain ⟨fn, tmps, assign, body, hy, hR⟩ := HY.out pre ⟨r, hrb⟩ (wr.setCell ⟨Bn, 0, none⟩ (.string ⟨#[]⟩)) (HSET.out _)
        dsimp only at hy
        have HR := Lib.hid hR
        clear hT h1 h2 h3 hne hls hb0 hR
        gi_wp2_with (refine ⟨trivial, ?_⟩; gi_at_call 94; refine (callsIn_wide.2 HIX.out).mono ?_; rintro _ _ ⟨rfl, rfl⟩)
        refine HR.out.mono ?_
        rintro e W3 (⟨rfl, hJ3, hk3⟩ | ⟨rfl, hJx3⟩)
        · have HJ3 := Lib.hid hJ3
          have c3 := hk3.1.trans (HCS.out _)
          have f3 := hk3.2.trans (HFS.out _)
          have HC3 := Lib.hid c3
          have HF3 := Lib.hid f3
          clear hJ3 hk3 c3 f3
          gi_wp2
          go_roundw
          case rel => exact ⟨pre ++ [⟨r, hrb⟩], ⟨#[]⟩, HC3.out, HF3.out, Nat.zero_le _, by rw [mapS, List.map_append]; show mapS pre ++ [strip r.data.toList] ++ linesOf [] = L; rw [linesOf_nil, List.append_nil, ← HLS.out]; exact HPL.out, HJ3.out⟩
          case measure => rw [HB0.out]; unfold boxLen; rw [HC3.out]; show 0 < r.size; omega
        · gi_wp2
          refine bodyPost_ret (results_none rfl _ _ _) rfl ?_
          exact ⟨⟨_, rfl⟩, .inr ⟨pre ++ [⟨r, hrb⟩], ⟨[], by rw [List.append_nil, mapS, List.map_append]; show mapS pre ++ [strip r.data.toList] = L; rw [← HLS.out]; exact HPL.out⟩, hJx3⟩⟩
      · rw [h1] at HIX
        have hl := congrArg List.length h2
        rw [List.length_append, List.length_cons, bl] at hl
        have a2 : decide ((0 : Int) ≤ (T.length : Int)) = true := decide_eq_true (by omega)
        have j0 : (0 : Int) ≤ (T.length : Int) := by omega
        have j2 : (0 : Int) ≤ (T.length : Int) + 1 := by omega
        have j3 : (T.length : Int) + 1 ≤ (r.size : Int) := by omega
        have hkw : IntKind.i64.wrap ((T.length : Int) + 1) = (T.length : Int) + 1 := IntWalk.i64_in _ (by omega)
        have h10 : T.all (· != 10) = true := by
          rw [← hT]
          exact List.all_takeWhile
        have hx1 : (r.extract 0 (T.length + 1)).data.toList = T ++ [10] := by
          rw [ext_take, h2, List.take_append, List.take_of_length_le (by omega), show T.length + 1 - T.length = 1 by omega]
          rfl
        have hx2 : (r.extract (T.length + 1) r.size).data.toList = r.data.toList.drop (T.length + 1) := by rw [ext_any, List.take_of_length_le (by rw [bl]; exact Nat.le_refl _)]
        have hls : linesOf r.data.toList = strip (r.extract 0 (T.length + 1)).data.toList :: linesOf (r.extract (T.length + 1) r.size).data.toList := by
          rw [hx1, strip_lf, hx2]
          conv => lhs; rw [h2]
          rw [lines_push _ _ h10]
        have HLS := Lib.hid hls
        have hsz : (r.extract (T.length + 1) r.size).size = r.size - (T.length + 1) := by rw [ByteArray.size_extract]; omega
        have HSZ := Lib.hid hsz
        have hxb : (r.extract 0 (T.length + 1)).size ≤ 1000000 := by rw [ByteArray.size_extract]; omega
        have hb0 : boxLen Bn wr = r.size := by unfold boxLen; rw [hcr]
        have HB0 := Lib.hid hb0
        clear hT h1 h2 hne hls hb0 h10 hx1 hx2 hsz hl
        gi_wp2_with (refine ⟨trivial, ?_⟩; gi_at_call 94; refine (callsIn_wide.2 HIX.out).mono ?_; rintro _ _ ⟨rfl, rfl⟩)
        gi_region
        obtain ⟨fn, tmps, assign, body, hy, hR⟩ := HY.out pre ⟨r.extract 0 (T.length + 1), hxb⟩ (wr.setCell ⟨Bn, 0, none⟩ (.string (r.extract (T.length + 1) r.size))).drew (HDRW.out _ (HSET.out _))
        dsimp only at hy
        have HR := Lib.hid hR
        clear hR
        gi_wp2
        refine HR.out.mono ?_
        rintro e W3 (⟨rfl, hJ3, hk3⟩ | ⟨rfl, hJx3⟩)
        · have HJ3 := Lib.hid hJ3
          have c3 := hk3.1.trans (HCS.out _)
          have f3 := hk3.2.trans (HFS.out _)
          have HC3 := Lib.hid c3
          have HF3 := Lib.hid f3
          clear hJ3 hk3 c3 f3
          gi_wp2
          go_roundw
          case rel => exact ⟨pre ++ [⟨r.extract 0 (T.length + 1), hxb⟩], r.extract (T.length + 1) r.size, HC3.out, HF3.out, by rw [HSZ.out]; omega, by rw [mapS, List.map_append]; show mapS pre ++ [strip (r.extract 0 (T.length + 1)).data.toList] ++ linesOf _ = L; rw [List.append_assoc, List.singleton_append, ← HLS.out]; exact HPL.out, HJ3.out⟩
          case measure => rw [HB0.out]; unfold boxLen; rw [HC3.out]; show (r.extract (T.length + 1) r.size).size < r.size; rw [HSZ.out]; omega
        · gi_wp2
          refine bodyPost_ret (results_none rfl _ _ _) rfl ?_
          exact ⟨⟨_, rfl⟩, .inr ⟨pre ++ [⟨r.extract 0 (T.length + 1), hxb⟩], ⟨linesOf (r.extract (T.length + 1) r.size).data.toList, by rw [mapS, List.map_append]; show mapS pre ++ [strip (r.extract 0 (T.length + 1)).data.toList] ++ linesOf _ = L; rw [List.append_assoc, List.singleton_append, ← HLS.out]; exact HPL.out⟩, hJx3⟩⟩
end Go.Proofs.YtkfjmcidcnpijaaGreatDoor.Mf
/- Walk: mapfile.lines. -/
namespace Go.Proofs.YtkfjmcidcnpijaaGreatDoor.Mf
open Go.RowKit Go.Shelf
attribute [local go_sem] Oper.semAt_some

abbrev StrsT : TypeId := 71
abbrev ErrT : TypeId := 27
theorem own_base {w : World} {B B' e sz n : Nat} {v : Value} {xs : List Value} (h : w.ownsRow B e sz v n xs) (hB : B' ≤ B) : w.ownsRow B' e sz v n xs := by
  refine ⟨h.1, ?_⟩
  rcases h.2 with h1 | ⟨g, cap, cur, e1, hg, hh, h4⟩
  · exact .inl h1
  · exact .inr ⟨g, cap, cur, e1, Nat.le_trans hB hg, hh, h4⟩
theorem own_grown {w w' : World} {B e sz n : Nat} {v : Value} {xs : List Value} {row : Option Nat} (h : w.ownsRow B e sz v n xs) (hg : w.grownBy w' row) (hr : ∀ g, B ≤ g → ∀ cs, Blk w g e cs → some g ≠ row) : w'.ownsRow B e sz v n xs := by
  refine ⟨h.1, ?_⟩
  rcases h.2 with h1 | ⟨g, cap, cur, e1, hB, hh, h4⟩
  · exact .inl h1
  · exact .inr ⟨g, cap, cur, e1, hB, (hg.block g (Array.getElem?_eq_some_iff.1 hh).1 (hr g hB cur hh)).trans hh, h4⟩
/-- 'append(out, line)' as one operation. -/
theorem opIn_line {F : Fence} {n : Nat} {oo : Oper} {a : Act} {K : Act → World → Prop} {Q : Exit → Act → World → Prop} (w : World) (s x : Operand) (ho : oo.op = .call { callee := .builtin .append, args := #[s, x], argTypes := #[71, 71] })
    (B : Nat) (v : Value) (l : List (List UInt8)) (hs : a.eval s = v) (hst : w.ownsRow B StrT 1 v l.length (strsL l)) (hB : B ≤ w.heap.size) (b : ByteArray)
    (N c : Nat) (hN : w.heap.size = N) (hx : a.eval x = .slice (some ⟨N, 0, none⟩) 1 c) (hsm : l.length ≤ 1048576)
    (h : ∀ v' w', w'.ownsRow B StrT 1 v' (l ++ [b.data.toList]).length (strsL (l ++ [b.data.toList])) → Below B w w' → (∀ g t cs, t ≠ StrT → Blk w g t cs → Blk w' g t cs) → (∀ (k : Nat) (o : Obj), w.heap[k]? = some o → o.isCells = false → w'.heap[k]? = some o) → (∀ g cs, g < B → Blk w g StrT cs → Blk w' g StrT cs) → K (a.put oo.dst v') w') : oo.wpIn F n Tryz.prog a (w.alloc (.cells #[.string b] StrT)) K Q := by
  subst hN
  obtain ⟨i0, hi, hz0, hz1, hz2⟩ := info_parts infoStr
  have hown' := hst.alloc (.cells #[.string b] StrT)
  obtain ⟨v', w', hrun, r1, r2, _⟩ := run_append_own (P := Tryz.prog) (w.alloc (.cells #[.string b] StrT)) B 71 oo.type StrT i0 (.string ⟨#[]⟩) 1 16 Tryz.underlying71 hi hz0 hz1 hz2 rfl (by decide) v l.length (strsL l) hown' ⟨w.heap.size, 0, none⟩ 1 c [.string b] rfl
    (by
      intro j u hj
      match j, hj with
      | 0, hj => simp at hj; subst hj; simp [Addr.add])
    (by intro u hu; simp at hu; subst hu; rfl) (by unfold maxLen; omega) (by omega) (by simp; omega)
  have hbl : ∀ k, k < w.heap.size → v.ownBlock ≠ some k → w'.heap[k]? = w.heap[k]? := fun k hk hne => (r2.block k (by simp; omega) (fun e => hne e.symm)).trans (Below.heap_alloc w _ k hk)
  unfold Oper.wpIn
  refine ⟨?_, ?_⟩
  · simp [Oper.about, ho, resolve, Target.leads, Sem.run_pure]
  · rw [Oper.semAt_plain F _ _ (by rw [ho]; intro c hc'; cases hc')]
    simp [execOp, ho, resolve, invoke, builtin, hs, hx, hrun, Result.andThen]
    refine h v' w' ?_ (((Below.refl B w).alloc hB _).grown r2 (by simp; omega) (fun k hk => (hst.lt k hk).1)) ?_ ?_ ?_
    · rw [strsL_append, List.length_append]
      exact r1
    · intro g t cs ht hk
      exact (hbl g hk.lt (own_blk_ne hst hk ht)).trans hk
    · intro k o hk hc
      refine (hbl k (Array.getElem?_eq_some_iff.1 hk).1 (fun e => ?_)).trans hk
      rcases hst.2 with ⟨rfl, _⟩ | ⟨g, cap, cur, rfl, _, hh, _⟩
      · simp [Value.ownBlock] at e
      · have : g = k := by simpa [Value.ownBlock] using e
        subst this
        rw [hk] at hh
        injection hh with hh
        rw [hh] at hc
        cases hc
    · intro g cs hg hk
      refine (hbl g hk.lt (fun e => ?_)).trans hk
      have := (hst.lt g e).1
      omega
/-- What has come so far, in memory. -/
def LinI (w0 : World) (b0 : Nat) (pre : List LineB) (W : World) : Prop :=
  ∃ v, Blk W (b0 + 2) StrsT #[v] ∧ W.ownsRow (b0 + 4) StrT 1 v (mapS pre).length (strsL ((mapS pre).map clean)) ∧ Blk W b0 StrsT #[.slice none 0 0] ∧ Blk W (b0 + 1) ErrT #[.int .i64 0] ∧ Below b0 w0 W ∧ (mapS pre).all (fun l => decide (l.length ≤ 512)) = true ∧ (mapS pre).length ≤ 4096 ∧ b0 + 4 ≤ W.heap.size
/-- It was given up. -/
def LinX (w0 : World) (b0 : Nat) (pre : List LineB) (W : World) : Prop :=
  Blk W b0 StrsT #[.slice none 0 0] ∧ Blk W (b0 + 1) ErrT #[.int .i64 11] ∧ Below b0 w0 W ∧ (∀ L : List (List UInt8), mapS pre <+: L → (L.all (fun l => decide (l.length ≤ 512)) && decide (L.length ≤ 4096)) = false) ∧ b0 + 4 ≤ W.heap.size
theorem blk_grown {W W' : World} {g : Nat} {t : TypeId} {cs : Array Value} {row : Option Nat} (h : Blk W g t cs) (hg : W.grownBy W' row) (hr : some g ≠ row) : Blk W' g t cs := (hg.block g h.lt hr).trans h
theorem linI_own (w0 : World) (b0 : Nat) (D : Nat) (hD : b0 ≤ D) : OwnFrom D (LinI w0 b0) := by
  rintro s W W' row ⟨v, h1, h2, h3, h4, h5, h6, h7, h8⟩ hg hr
  have hne : ∀ g t cs, Blk W g t cs → some g ≠ row := fun g t cs hk e => by
    obtain ⟨_, o, ho, hc⟩ := hr g e.symm
    unfold Blk at hk
    rw [hk] at ho
    injection ho with ho
    rw [← ho] at hc
    cases hc
  exact ⟨v, blk_grown h1 hg (hne _ _ _ h1), own_grown h2 hg (fun g _ cs hk => hne g _ _ hk), blk_grown h3 hg (hne _ _ _ h3), blk_grown h4 hg (hne _ _ _ h4), h5.grown hg (by omega) (fun k hk => Nat.le_trans hD (hr k hk).1), h6, h7, Nat.le_trans h8 hg.size⟩
theorem linX_own (w0 : World) (b0 : Nat) (D : Nat) (hD : b0 ≤ D) : OwnFrom D (LinX w0 b0) := by
  rintro s W W' row ⟨h3, h4, h5, h6, h8⟩ hg hr
  have hne : ∀ g t cs, Blk W g t cs → some g ≠ row := fun g t cs hk e => by
    obtain ⟨_, o, ho, hc⟩ := hr g e.symm
    unfold Blk at hk
    rw [hk] at ho
    injection ho with ho
    rw [← ho] at hc
    cases hc
  exact ⟨blk_grown h3 hg (hne _ _ _ h3), blk_grown h4 hg (hne _ _ _ h4), h5.grown hg (by omega) (fun k hk => Nat.le_trans hD (hr k hk).1), h6, Nat.le_trans h8 hg.size⟩
theorem linI_box (w0 : World) (b0 : Nat) : AbB (b0 + 3) (LinI w0 b0) := by
  rintro s W W' row ⟨v, h1, h2, h3, h4, h5, h6, h7, h8⟩ hg hr
  have hne : ∀ g, g ≠ b0 + 3 → some g ≠ row := fun g hg e => hg (hr g e.symm)
  exact ⟨v, blk_grown h1 hg (hne _ (by omega)), own_grown h2 hg (fun g hB cs _ => hne g (by omega)), blk_grown h3 hg (hne _ (by omega)), blk_grown h4 hg (hne _ (by omega)), h5.grown hg (by omega) (fun k hk => by rw [hr k hk]; omega), h6, h7, Nat.le_trans h8 hg.size⟩
theorem linX_box (w0 : World) (b0 : Nat) : AbB (b0 + 3) (LinX w0 b0) := by
  rintro s W W' row ⟨h3, h4, h5, h6, h8⟩ hg hr
  have hne : ∀ g, g ≠ b0 + 3 → some g ≠ row := fun g hg e => hg (hr g e.symm)
  exact ⟨blk_grown h3 hg (hne _ (by omega)), blk_grown h4 hg (hne _ (by omega)), h5.grown hg (by omega) (fun k hk => by rw [hr k hk]; omega), h6, Nat.le_trans h8 hg.size⟩
/-- What lines answers. -/
def LinesP (w : World) (s : List UInt8) (e : Ending) (w' : World) : Prop :=
  (fits s = true → ∃ v, e = .returned (.tuple #[v, .int .i64 0]) ∧ w'.ownsRow w.heap.size StrT 1 v (linesOf s).length (strsL ((linesOf s).map clean))) ∧ (fits s = false → e = .returned (.tuple #[.slice none 0 0, .int .i64 11])) ∧ Below w.heap.size w w'
set_option maxRecDepth 100000 in
set_option maxHeartbeats 1600000 in
theorem linesP_any (s : ByteArray) (hs : s.size ≤ 1000000) (w : World) : Calls Tryz.prog 52 #[.string s] w (LinesP w s.data.toList) := by
  refine (callsIn_wide (n := 5)).1 ?_
  refine callsIn_of_wp_marks Tryz.func52 rfl trivial ?_ rfl
  simp only [Tryz.ntmps52, List.size_toArray, List.length_cons, List.length_nil, Nat.reduceAdd, Nat.reduceSub, Array.replicate_succ, Array.replicate_zero, List.push_toArray, List.append_toArray, List.nil_append, List.cons_append]
  gi_wp2_with (refine ⟨trivial, ?_⟩; gi_at_call 70; refine (callsIn_wide.2 (lines_any s _)).mono ?_; rintro _ _ ⟨rfl, rfl⟩)
  obtain ⟨W0, hW0⟩ : ∃ W0, ((((w.alloc (.cells #[.slice none 0 0] StrsT)).alloc (.cells #[.int .i64 0] ErrT)).alloc (.cells #[.slice none 0 0] StrsT)).alloc (.cells #[.string s] StrT)) = W0 := ⟨_, rfl⟩
  rw [hW0]
  have hsz : W0.heap.size = w.heap.size + 4 := by rw [← hW0]; simp
  have k0 : Blk W0 w.heap.size StrsT #[.slice none 0 0] := hW0 ▸ (((Blk.new w StrsT #[.slice none 0 0]).alloc _).alloc _).alloc _
  have k1 : Blk W0 (w.heap.size + 1) ErrT #[.int .i64 0] := by
    have h := ((Blk.new (w.alloc (.cells #[.slice none 0 0] StrsT)) ErrT #[.int .i64 0]).alloc (.cells #[.slice none 0 0] StrsT)).alloc (.cells #[.string s] StrT)
    rw [World.size_alloc, hW0] at h
    exact h
  have k2 : Blk W0 (w.heap.size + 2) StrsT #[.slice none 0 0] := by
    have h := (Blk.new ((w.alloc (.cells #[.slice none 0 0] StrsT)).alloc (.cells #[.int .i64 0] ErrT)) StrsT #[.slice none 0 0]).alloc (.cells #[.string s] StrT)
    rw [World.size_alloc, World.size_alloc, hW0] at h
    exact h
  have k3 : Blk W0 (w.heap.size + 3) StrT #[.string s] := by
    have h := Blk.new (((w.alloc (.cells #[.slice none 0 0] StrsT)).alloc (.cells #[.int .i64 0] ErrT)).alloc (.cells #[.slice none 0 0] StrsT)) StrT #[.string s]
    rw [World.size_alloc, World.size_alloc, World.size_alloc, hW0] at h
    exact h
  have hb0 : Below w.heap.size w W0 := hW0 ▸ ((((Below.refl _ w).alloc (Nat.le_refl _) _).alloc (by simp) _).alloc (by simp; omega) _).alloc (by simp; omega) _
  clear hW0
  refine range_box (n := 5) (by omega) (gf := 93) (lb := #[.pointer (some ⟨w.heap.size + 1 + 1 + 1, 0, none⟩)]) rfl (enters_of Tryz.func93 (by kernel_rfl) rfl) (encs := fun x : LineB => #[Value.string x.1]) (w.heap.size + 3) (by omega)
    (S := fun xs => mapS xs = linesOf s.data.toList) (Sp := fun pre => mapS pre <+: linesOf s.data.toList) (fun _ => rfl)
    (fun l J Jx W hW hJ hJx hY h0 => lines1_any 4 l (w.heap.size + 3) s hs J Jx W hJ hJx hY (by omega) (by rw [hW.cell (p := ⟨w.heap.size + 3, 0, none⟩) (show w.heap.size + 3 < _ by omega), k3.cell]; rfl) (Blk.frz (k3.below hW (by omega)) 0) h0)
    (LinI w w.heap.size) (LinX w w.heap.size) (linI_own w w.heap.size _ (by omega)) (linX_own w w.heap.size _ (by omega)) (linI_box w w.heap.size) (linX_box w w.heap.size)
    ⟨.slice none 0 0, k2, World.ownsRow_nil _ _ _ _, k0, k1, hb0, rfl, Nat.zero_le _, by omega⟩
    (fun x => { tmps := #[.string s, undef, .pointer (some ⟨w.heap.size, 0, none⟩), .pointer (some ⟨w.heap.size + 1, 0, none⟩), .pointer (some ⟨w.heap.size + 1 + 1, 0, none⟩), .string x.1, .string s, .func (.func 93) #[] #[.pointer (some ⟨w.heap.size + 1 + 1 + 1, 0, none⟩)], .string x.1, undef, undef, undef, undef, undef, undef, undef, undef, undef, undef, undef, undef, undef, undef, undef, undef, undef, undef, undef, undef, undef, undef], defers := [] }) ?assign ?body ?done ?stop
  case assign =>
    intro l x W K hK
    gi_wp2
    exact hK
  case body =>
    rintro l pre x W ⟨v, h1, h2, h3, h4, h5, h6, h7, h8⟩
    obtain ⟨x, hxs⟩ := x
    obtain ⟨A, c, rfl⟩ := own_shapeN h2
    have g0 : W.cell? ⟨w.heap.size, 0, none⟩ = some (.slice none 0 0) := by rw [h3.cell]; rfl
    have g1 : W.cell? ⟨w.heap.size + 1, 0, none⟩ = some (.int .i64 0) := by rw [h4.cell]; rfl
    have g2 : W.cell? ⟨w.heap.size + 1 + 1, 0, none⟩ = some (.slice A (mapS pre).length c) := by have := h1.cell 0; exact this
    have f0 := Blk.frz h3 0
    have f1 := Blk.frz h4 0
    have f2 : W.frozen? ⟨w.heap.size + 1 + 1, 0, none⟩ = false := Blk.frz h1 0
    have hstl : (strip x.data.toList).length ≤ x.size := by
      unfold strip Lib.trimSuffix
      rw [← bl x]
      split
      · rw [List.length_take]; omega
      · exact Nat.le_refl _
    have HTS := Lib.hid (trimSuffix_any x hxs W)
    have HMS : Hid (mapS (pre ++ [⟨x, hxs⟩]) = mapS pre ++ [strip x.data.toList]) := Lib.hid (by rw [mapS, List.map_append]; rfl)
    generalize strip x.data.toList = t at *
    have HX : Hid ((512 < t.length ∨ (mapS pre).length = 4096) → LinX w w.heap.size (pre ++ [⟨x, hxs⟩]) ((W.setCell ⟨w.heap.size, 0, none⟩ (.slice none 0 0)).setCell ⟨w.heap.size + 1, 0, none⟩ (.int .i64 11))) := Lib.hid fun hbad => by
      refine ⟨Blk.apart (Blk.set h3 0 _) (by omega), Blk.set (Blk.apart h4 (by omega)) 0 _, below_set (below_set h5 _ 0 _ (Nat.le_refl _)) _ 0 _ (by omega), fun L hL => ?_, by simp; omega⟩
      rw [HMS.out] at hL
      obtain ⟨u, rfl⟩ := hL
      rcases hbad with hb | hb
      · rw [List.all_append, List.all_append, List.all_cons, decide_eq_false (show ¬ t.length ≤ 512 by omega)]
        simp
      · rw [decide_eq_false (show ¬ (mapS pre ++ [t] ++ u).length ≤ 4096 by simp; omega), Bool.and_false]
    have HKF : Hid (KeepsFrom (w.heap.size + 4) W ((W.setCell ⟨w.heap.size, 0, none⟩ (.slice none 0 0)).setCell ⟨w.heap.size + 1, 0, none⟩ (.int .i64 11))) := Lib.hid (((KeepsOthers.setCell _ _ _).trans (KeepsOthers.setCell _ _ _)).from _)
    have H1 := Lib.hid h1
    have H2 := Lib.hid h2
    have H3 := Lib.hid h3
    have H4 := Lib.hid h4
    have H5 := Lib.hid h5
    have H6 := Lib.hid h6
    have H7 := Lib.hid h7
    have H8 := Lib.hid h8
    clear h1 h2 h3 h4 h5 h6 h7 h8 k0 k1 k2 k3 hb0
    rw [hsz]
    by_cases a1 : 512 < t.length
    · have b1 : decide ((512 : Int) < (t.length : Int)) = true := decide_eq_true (by omega)
      have HXX := Lib.hid (HX.out (.inl a1))
      clear a1
      gi_wp2_with (refine ⟨trivial, ?_⟩; gi_at_call 71; refine (CallsIn.inRound l (callsIn_wide.2 HTS.out)).mono ?_; rintro _ _ ⟨rfl, rfl⟩)
      exact ⟨HKF.out, HXX.out⟩
    have b1 : decide ((512 : Int) < (t.length : Int)) = false := decide_eq_false (by omega)
    by_cases a2 : (mapS pre).length = 4096
    · have b2 : (((mapS pre).length : Int) == 4096) = true := by rw [beq_iff_eq]; omega
      have HXX := Lib.hid (HX.out (.inr a2))
      clear a1
      gi_wp2_with (refine ⟨trivial, ?_⟩; gi_at_call 71; refine (CallsIn.inRound l (callsIn_wide.2 HTS.out)).mono ?_; rintro _ _ ⟨rfl, rfl⟩)
      exact ⟨HKF.out, HXX.out⟩
    have b2 : (((mapS pre).length : Int) == 4096) = false := by rw [beq_eq_false_iff_ne]; omega
    have HCT := Lib.hid (cut_any ⟨t.toArray⟩ (by show t.toArray.size ≤ _; simp; omega) W)
    change Hid (Calls _ _ _ _ fun e w' => ∃ a b, e = .returned (.tuple #[.string ⟨(t.takeWhile (· != 35)).toArray⟩, a, b]) ∧ _) at HCT
    gi_wp2_with (first | (refine ⟨trivial, ?_⟩; gi_at_call 71; refine (CallsIn.inRound l (callsIn_wide.2 HTS.out)).mono ?_; rintro _ _ ⟨rfl, rfl⟩) | (refine ⟨trivial, ?_⟩; gi_at_call 72; refine (CallsIn.inRound l (callsIn_wide.2 HCT.out)).mono ?_; rintro _ w1 ⟨a, b, rfl, hb1⟩))
    have hmx : Tryz.prog.follows .mixedOrders = true := by kernel_rfl
    have HTR : Hid (∀ wv, Calls Tryz.prog 73 #[.string ⟨(t.takeWhile (· != 35)).toArray⟩, .string ⟨#[32, 9]⟩] wv fun e w' => e = .returned (.string ⟨(clean t).toArray⟩) ∧ Below wv.heap.size wv w') := Lib.hid fun wv => trimRight_any ⟨(t.takeWhile (· != 35)).toArray⟩ (by show (t.takeWhile (· != 35)).toArray.size ≤ _; have := (List.takeWhile_prefix (l := t) (· != 35)).length_le; simp; omega) wv
    have hbd : Below W.heap.size W w1.drew := hb1.drew
    have e1 : w1.cell? ⟨w.heap.size + 1 + 1, 0, none⟩ = some (.slice A (mapS pre).length c) := (hb1.cell (p := ⟨w.heap.size + 1 + 1, 0, none⟩) (show w.heap.size + 1 + 1 < W.heap.size by have := H8.out; omega)).trans g2
    have H3W : Hid (∀ w3, Below w1.drew.heap.size w1.drew w3 → w3.cell? ⟨w.heap.size + 1 + 1, 0, none⟩ = some (.slice A (mapS pre).length c) ∧ w3.frozen? ⟨w.heap.size + 1 + 1, 0, none⟩ = false ∧ Below W.heap.size W w3 ∧ (w3.alloc (.cells #[.string ⟨(clean t).toArray⟩] StrT)).cell? ⟨w.heap.size + 1 + 1, 0, none⟩ = some (.slice A (mapS pre).length c)) := Lib.hid fun w3 hb3 => by
      have hb := hbd.trans (hb3.mono hbd.size)
      have hlt : w.heap.size + 1 + 1 < W.heap.size := by have := H8.out; omega
      exact ⟨(hb.cell (p := ⟨w.heap.size + 1 + 1, 0, none⟩) hlt).trans g2, Blk.frz (Blk.below H1.out hb hlt) 0, hb, ((((Below.refl w3.heap.size w3).alloc (Nat.le_refl _) (.cells #[.string ⟨(clean t).toArray⟩] StrT)).cell (p := ⟨w.heap.size + 1 + 1, 0, none⟩) (Nat.lt_of_lt_of_le hlt hb.size)).trans (hb.cell (p := ⟨w.heap.size + 1 + 1, 0, none⟩) hlt)).trans g2⟩
    have HROW : Hid (∀ w3, Below W.heap.size W w3 → w3.ownsRow (w.heap.size + 4) StrT 1 (.slice A (mapS pre).length c) ((mapS pre).map clean).length (strsL ((mapS pre).map clean))) := Lib.hid fun w3 hb => by rw [List.length_map]; exact own_keep H2.out hb
    have HSZ : Hid (∀ w3, Below W.heap.size W w3 → w.heap.size + 4 ≤ w3.heap.size) := Lib.hid fun w3 hb => Nat.le_trans H8.out hb.size
    have HEND : Hid (∀ (w3 w4 : World) (v4 : Value), Below W.heap.size W w3 → w4.ownsRow (w.heap.size + 4) StrT 1 v4 ((mapS pre).map clean ++ [clean t]).length (strsL ((mapS pre).map clean ++ [clean t])) → Below (w.heap.size + 4) w3 w4 → (∀ g t cs, t ≠ StrT → Blk w3 g t cs → Blk w4 g t cs) →
        (∀ (k : Nat) (o : Obj), w3.heap[k]? = some o → o.isCells = false → w4.heap[k]? = some o) → (∀ g cs, g < w.heap.size + 4 → Blk w3 g StrT cs → Blk w4 g StrT cs) →
        w4.cell? ⟨w.heap.size + 1 + 1, 0, none⟩ = some (.slice A (mapS pre).length c) ∧ w4.frozen? ⟨w.heap.size + 1 + 1, 0, none⟩ = false ∧ KeepsFrom (w.heap.size + 4) W (w4.setCell ⟨w.heap.size + 1 + 1, 0, none⟩ v4) ∧ KpB (w.heap.size + 3) W (w4.setCell ⟨w.heap.size + 1 + 1, 0, none⟩ v4) ∧ LinI w w.heap.size (pre ++ [⟨x, hxs⟩]) (w4.setCell ⟨w.heap.size + 1 + 1, 0, none⟩ v4)) := Lib.hid fun w3 w4 v4 hb ho4 hb4 hk4 hc4 hs4 => by
      have hO : Blk w4 (w.heap.size + 2) StrsT #[.slice A (mapS pre).length c] := hk4 _ _ _ (by decide) (Blk.below H1.out hb (H1.out.lt))
      have hblk : w4.heap[w.heap.size + 3]? = W.heap[w.heap.size + 3]? := (hb4.block _ (by omega)).trans (hb.block _ (by have := H8.out; omega))
      have hset : (w4.setCell ⟨w.heap.size + 1 + 1, 0, none⟩ v4).heap[w.heap.size + 3]? = W.heap[w.heap.size + 3]? := (heap_setCell_other w4 ⟨w.heap.size + 1 + 1, 0, none⟩ (w.heap.size + 3) v4 (by show w.heap.size + 3 ≠ w.heap.size + 1 + 1; omega)).trans hblk
      refine ⟨by have := hO.cell 0; exact this, Blk.frz hO 0, ?_, ⟨World.cell?_of_block hset, World.frozen?_of_block hset⟩, ?_⟩
      · refine KeepsFrom.trans ⟨Nat.le_trans hb.size hb4.size, fun k o _ hk hc => hc4 k o ((hb.block k (Array.getElem?_eq_some_iff.1 hk).1).trans hk) hc⟩ ((KeepsOthers.setCell _ _ _).from _)
      · refine ⟨v4, Blk.set hO 0 _, ?_, Blk.apart (hk4 _ _ _ (by decide) (Blk.below H3.out hb H3.out.lt)) (by omega), Blk.apart (hk4 _ _ _ (by decide) (Blk.below H4.out hb H4.out.lt)) (by omega), below_set ((H5.out.trans (hb.mono H5.out.size)).trans (hb4.mono (by omega))) _ 0 _ (by omega), ?_, ?_, by simp; exact Nat.le_trans H8.out (Nat.le_trans hb.size hb4.size)⟩
        · rw [HMS.out, List.map_append, List.length_append, List.length_cons, List.length_nil]
          have h := own_set (i := 0) (x := v4) ho4 hO (by decide)
          rw [List.length_append, List.length_map, List.length_cons, List.length_nil] at h
          exact h
        · rw [HMS.out, List.all_append, H6.out, List.all_cons, decide_eq_true (show t.length ≤ 512 by omega)]
          rfl
        · rw [HMS.out, List.length_append, List.length_cons, List.length_nil]
          have := H7.out
          omega
    have HLN : Hid (((mapS pre).map clean ++ [(⟨(clean t).toArray⟩ : ByteArray).data.toList]).length = (mapS pre).length + 1) := Lib.hid (by simp)
    clear hbd hb1 g0 g1 g2 f0 f1 f2
    refine wpIn_region_any hmx ?_
    change wpAnyIn _ _ _ _ _ _ _ _ _ (World.drew _)
    -- ORDERS
    refine wpAnyIn_ready (rs := [0, 1]) (by kernel_rfl) (by simp) ?_
    refine AllReadyIn.cons rfl (fun K hK => ?_) ?_
    · skip
      go_simp
      refine hK _ _ ?_
      clear hK K
      refine wpAnyIn_ready (rs := [1]) (by kernel_rfl) (by simp) ?_
      refine AllReadyIn.cons rfl (fun K hK => ?_) AllReadyIn.nil
      go_simp
      refine hK _ _ ?_
      clear hK K
      refine wpAnyIn_ready (rs := [2]) (by kernel_rfl) (by simp) ?_
      refine AllReadyIn.cons rfl (fun K hK => ?_) AllReadyIn.nil
      go_simp
      gi_wp2_with (refine ⟨trivial, ?_⟩; gi_at_call 73; refine (CallsIn.inRound l (callsIn_wide.2 (HTR.out w1.drew))).mono ?_; rintro _ w3 ⟨rfl, hb3⟩; obtain ⟨e3, z3, hh3, e3a⟩ := H3W.out w3 hb3; have HH3 := Lib.hid hh3; clear hb3 hh3)
      refine wpAnyIn_ready (rs := [3]) (by kernel_rfl) (by simp) ?_
      refine AllReadyIn.cons rfl (fun K hK => ?_) AllReadyIn.nil
      go_simp
      refine hK _ _ ?_
      clear hK K
      refine wpAnyIn_ready (rs := [4]) (by kernel_rfl) (by simp) ?_
      refine AllReadyIn.cons rfl (fun K hK => ?_) AllReadyIn.nil
      refine opIn_line w3 _ _ rfl (w.heap.size + 4) (.slice A (mapS pre).length c) ((mapS pre).map clean) rfl (HROW.out w3 HH3.out) (HSZ.out w3 HH3.out) _ w3.heap.size 1 rfl rfl (by rw [List.length_map]; have := H7.out; omega) ?_
      intro v4 w4 ho4 hb4 hk4 hc4 hs4
      obtain ⟨A4, c4, rfl⟩ := own_shapeN ho4
      refine hK _ _ ?_
      clear hK K
      obtain ⟨e4, z4, hfin⟩ := HEND.out w3 w4 _ HH3.out ho4 hb4 hk4 hc4 hs4
      have HFIN := Lib.hid hfin.1
      have HKPB := Lib.hid hfin.2.1
      have HLIN := Lib.hid hfin.2.2
      rw [HLN.out] at HFIN HKPB HLIN ⊢
      clear ho4 hb4 hk4 hc4 hs4 hfin
      refine wpAnyIn_ready (rs := [5]) (by kernel_rfl) (by simp) ?_
      refine AllReadyIn.cons rfl (fun K hK => ?_) AllReadyIn.nil
      go_simp
      refine hK _ _ ?_
      clear hK K
      refine wpAnyIn_done (by kernel_rfl) ?_ _
      exact ⟨HFIN.out, HKPB.out, HLIN.out⟩
    refine AllReadyIn.cons rfl (fun K hK => ?_) AllReadyIn.nil
    go_simp
    refine hK _ _ ?_
    clear hK K
    refine wpAnyIn_ready (rs := [0, 2]) (by kernel_rfl) (by simp) ?_
    refine AllReadyIn.cons rfl (fun K hK => ?_) ?_
    · skip
      go_simp
      refine hK _ _ ?_
      clear hK K
      refine wpAnyIn_ready (rs := [2]) (by kernel_rfl) (by simp) ?_
      refine AllReadyIn.cons rfl (fun K hK => ?_) AllReadyIn.nil
      go_simp
      gi_wp2_with (refine ⟨trivial, ?_⟩; gi_at_call 73; refine (CallsIn.inRound l (callsIn_wide.2 (HTR.out w1.drew))).mono ?_; rintro _ w3 ⟨rfl, hb3⟩; obtain ⟨e3, z3, hh3, e3a⟩ := H3W.out w3 hb3; have HH3 := Lib.hid hh3; clear hb3 hh3)
      refine wpAnyIn_ready (rs := [3]) (by kernel_rfl) (by simp) ?_
      refine AllReadyIn.cons rfl (fun K hK => ?_) AllReadyIn.nil
      go_simp
      refine hK _ _ ?_
      clear hK K
      refine wpAnyIn_ready (rs := [4]) (by kernel_rfl) (by simp) ?_
      refine AllReadyIn.cons rfl (fun K hK => ?_) AllReadyIn.nil
      refine opIn_line w3 _ _ rfl (w.heap.size + 4) (.slice A (mapS pre).length c) ((mapS pre).map clean) rfl (HROW.out w3 HH3.out) (HSZ.out w3 HH3.out) _ w3.heap.size 1 rfl rfl (by rw [List.length_map]; have := H7.out; omega) ?_
      intro v4 w4 ho4 hb4 hk4 hc4 hs4
      obtain ⟨A4, c4, rfl⟩ := own_shapeN ho4
      refine hK _ _ ?_
      clear hK K
      obtain ⟨e4, z4, hfin⟩ := HEND.out w3 w4 _ HH3.out ho4 hb4 hk4 hc4 hs4
      have HFIN := Lib.hid hfin.1
      have HKPB := Lib.hid hfin.2.1
      have HLIN := Lib.hid hfin.2.2
      rw [HLN.out] at HFIN HKPB HLIN ⊢
      clear ho4 hb4 hk4 hc4 hs4 hfin
      refine wpAnyIn_ready (rs := [5]) (by kernel_rfl) (by simp) ?_
      refine AllReadyIn.cons rfl (fun K hK => ?_) AllReadyIn.nil
      go_simp
      refine hK _ _ ?_
      clear hK K
      refine wpAnyIn_done (by kernel_rfl) ?_ _
      exact ⟨HFIN.out, HKPB.out, HLIN.out⟩
    refine AllReadyIn.cons rfl (fun K hK => ?_) AllReadyIn.nil
    go_simp
    gi_wp2_with (refine ⟨trivial, ?_⟩; gi_at_call 73; refine (CallsIn.inRound l (callsIn_wide.2 (HTR.out w1.drew))).mono ?_; rintro _ w3 ⟨rfl, hb3⟩; obtain ⟨e3, z3, hh3, e3a⟩ := H3W.out w3 hb3; have HH3 := Lib.hid hh3; clear hb3 hh3)
    refine wpAnyIn_ready (rs := [0, 3]) (by kernel_rfl) (by simp) ?_
    refine AllReadyIn.cons rfl (fun K hK => ?_) ?_
    · skip
      go_simp
      refine hK _ _ ?_
      clear hK K
      refine wpAnyIn_ready (rs := [3]) (by kernel_rfl) (by simp) ?_
      refine AllReadyIn.cons rfl (fun K hK => ?_) AllReadyIn.nil
      go_simp
      refine hK _ _ ?_
      clear hK K
      refine wpAnyIn_ready (rs := [4]) (by kernel_rfl) (by simp) ?_
      refine AllReadyIn.cons rfl (fun K hK => ?_) AllReadyIn.nil
      refine opIn_line w3 _ _ rfl (w.heap.size + 4) (.slice A (mapS pre).length c) ((mapS pre).map clean) rfl (HROW.out w3 HH3.out) (HSZ.out w3 HH3.out) _ w3.heap.size 1 rfl rfl (by rw [List.length_map]; have := H7.out; omega) ?_
      intro v4 w4 ho4 hb4 hk4 hc4 hs4
      obtain ⟨A4, c4, rfl⟩ := own_shapeN ho4
      refine hK _ _ ?_
      clear hK K
      obtain ⟨e4, z4, hfin⟩ := HEND.out w3 w4 _ HH3.out ho4 hb4 hk4 hc4 hs4
      have HFIN := Lib.hid hfin.1
      have HKPB := Lib.hid hfin.2.1
      have HLIN := Lib.hid hfin.2.2
      rw [HLN.out] at HFIN HKPB HLIN ⊢
      clear ho4 hb4 hk4 hc4 hs4 hfin
      refine wpAnyIn_ready (rs := [5]) (by kernel_rfl) (by simp) ?_
      refine AllReadyIn.cons rfl (fun K hK => ?_) AllReadyIn.nil
      go_simp
      refine hK _ _ ?_
      clear hK K
      refine wpAnyIn_done (by kernel_rfl) ?_ _
      exact ⟨HFIN.out, HKPB.out, HLIN.out⟩
    refine AllReadyIn.cons rfl (fun K hK => ?_) AllReadyIn.nil
    go_simp
    refine hK _ _ ?_
    clear hK K
    refine wpAnyIn_ready (rs := [0]) (by kernel_rfl) (by simp) ?_
    refine AllReadyIn.cons rfl (fun K hK => ?_) AllReadyIn.nil
    go_simp
    refine hK _ _ ?_
    clear hK K
    refine wpAnyIn_ready (rs := [4]) (by kernel_rfl) (by simp) ?_
    refine AllReadyIn.cons rfl (fun K hK => ?_) AllReadyIn.nil
    refine opIn_line w3 _ _ rfl (w.heap.size + 4) (.slice A (mapS pre).length c) ((mapS pre).map clean) rfl (HROW.out w3 HH3.out) (HSZ.out w3 HH3.out) _ w3.heap.size 1 rfl rfl (by rw [List.length_map]; have := H7.out; omega) ?_
    intro v4 w4 ho4 hb4 hk4 hc4 hs4
    obtain ⟨A4, c4, rfl⟩ := own_shapeN ho4
    refine hK _ _ ?_
    clear hK K
    obtain ⟨e4, z4, hfin⟩ := HEND.out w3 w4 _ HH3.out ho4 hb4 hk4 hc4 hs4
    have HFIN := Lib.hid hfin.1
    have HKPB := Lib.hid hfin.2.1
    have HLIN := Lib.hid hfin.2.2
    rw [HLN.out] at HFIN HKPB HLIN ⊢
    clear ho4 hb4 hk4 hc4 hs4 hfin
    refine wpAnyIn_ready (rs := [5]) (by kernel_rfl) (by simp) ?_
    refine AllReadyIn.cons rfl (fun K hK => ?_) AllReadyIn.nil
    go_simp
    refine hK _ _ ?_
    clear hK K
    refine wpAnyIn_done (by kernel_rfl) ?_ _
    exact ⟨HFIN.out, HKPB.out, HLIN.out⟩
    -- ORDERS END
  case done =>
    rintro D xs W hD hS ⟨v, h1, h2, h3, h4, h5, h6, h7, h8⟩ hK
    obtain ⟨A, c, rfl⟩ := own_shapeN h2
    have g0 : W.cell? ⟨w.heap.size, 0, none⟩ = some (.slice none 0 0) := by rw [h3.cell]; rfl
    have g1 : W.cell? ⟨w.heap.size + 1, 0, none⟩ = some (.int .i64 0) := by rw [h4.cell]; rfl
    have g2 : W.cell? ⟨w.heap.size + 1 + 1, 0, none⟩ = some (.slice A (mapS xs).length c) := by have := h1.cell 0; exact this
    have f0 := Blk.frz h3 0
    have f1 := Blk.frz h4 0
    have HX := Lib.hid h2
    clear k0 k1 k2 k3 hb0
    gi_wp2
    have hK2 := (((KeepsOthers.setCell W ⟨w.heap.size, 0, none⟩ (.slice A (linesOf s.data.toList).length c)).trans (KeepsOthers.setCell _ ⟨w.heap.size + 1, 0, none⟩ (.int .i64 0)))).same D _ hK rfl
    refine ⟨by simp, .inl ⟨_, _, rfl, run_takeDeferred hK2, ?_⟩⟩
    have hr2 : Blk (W.setCell ⟨w.heap.size, 0, none⟩ (.slice A (linesOf s.data.toList).length c)) w.heap.size StrsT #[.slice A (linesOf s.data.toList).length c] := Blk.set h3 0 _
    have hr3 : Blk (W.setCell ⟨w.heap.size, 0, none⟩ (.slice A (linesOf s.data.toList).length c)) (w.heap.size + 1) ErrT #[.int .i64 0] := Blk.apart h4 (by omega)
    have hx2 := Blk.apart (i := 0) (x := .int .i64 0) hr2 (show w.heap.size ≠ w.heap.size + 1 by omega)
    have hx3 : Blk ((W.setCell ⟨w.heap.size, 0, none⟩ (.slice A (linesOf s.data.toList).length c)).setCell ⟨w.heap.size + 1, 0, none⟩ (.int .i64 0)) (w.heap.size + 1) ErrT #[.int .i64 0] := Blk.set hr3 0 _
    rw [hS] at h2 h6 h7
    have ho := own_set (i := 0) (x := .int .i64 0) (own_set (i := 0) (x := .slice A (linesOf s.data.toList).length c) h2 h3 (by decide)) hr3 (by decide)
    have ho2 := ownsRow_putObj ho (.deferred none) hK2 rfl
    have hbe := below_set (below_set h5 w.heap.size 0 (.slice A (linesOf s.data.toList).length c) (Nat.le_refl _)) (w.heap.size + 1) 0 (.int .i64 0) (by omega)
    have hbf : Below w.heap.size w (((W.setCell ⟨w.heap.size, 0, none⟩ (.slice A (linesOf s.data.toList).length c)).setCell ⟨w.heap.size + 1, 0, none⟩ (.int .i64 0)).putObj D (.deferred none)) := hbe.grown (grownBy_putObj' _ D _) (by simp; omega) (fun k e => by cases e; omega)
    have hy2 : Blk (((W.setCell ⟨w.heap.size, 0, none⟩ (.slice A (linesOf s.data.toList).length c)).setCell ⟨w.heap.size + 1, 0, none⟩ (.int .i64 0)).putObj D (.deferred none)) w.heap.size StrsT _ := (World.putObj_heap_other (by omega)).trans hx2
    have hy3 : Blk (((W.setCell ⟨w.heap.size, 0, none⟩ (.slice A (linesOf s.data.toList).length c)).setCell ⟨w.heap.size + 1, 0, none⟩ (.int .i64 0)).putObj D (.deferred none)) (w.heap.size + 1) ErrT _ := (World.putObj_heap_other (by omega)).trans hx3
    generalize (((W.setCell ⟨w.heap.size, 0, none⟩ (.slice A (linesOf s.data.toList).length c)).setCell ⟨w.heap.size + 1, 0, none⟩ (.int .i64 0)).putObj D (.deferred none)) = Wf at *
    have q0 : Wf.cell? ⟨w.heap.size, 0, none⟩ = some (.slice A (linesOf s.data.toList).length c) := by rw [hy2.cell]; rfl
    have q1 : Wf.cell? ⟨w.heap.size + 1, 0, none⟩ = some (.int .i64 0) := by rw [hy3.cell]; rfl
    have hft : fits s.data.toList = true := by
      unfold fits
      rw [h6, decide_eq_true h7]
      rfl
    refine ⟨_, (by simp [results, Tryz.results52, go_sem, q0, q1]; try rfl), ?_⟩
    exact ⟨fun _ => ⟨_, rfl, own_base ho2 (by omega)⟩, fun h => by rw [hft] at h; (exact absurd h (by decide)), hbf⟩
  case stop =>
    rintro D pre W hD hS ⟨h3, h4, h5, h6, h8⟩ hK
    have g0 : W.cell? ⟨w.heap.size, 0, none⟩ = some (.slice none 0 0) := by rw [h3.cell]; rfl
    have g1 : W.cell? ⟨w.heap.size + 1, 0, none⟩ = some (.int .i64 11) := by rw [h4.cell]; rfl
    clear k0 k1 k2 k3 hb0
    gi_wp2
    refine ⟨by simp, .inl ⟨_, _, rfl, run_takeDeferred hK, ?_⟩⟩
    have hbf : Below w.heap.size w (W.putObj D (.deferred none)) := h5.grown (grownBy_putObj' _ D _) (by omega) (fun k e => by cases e; omega)
    have hy2 : Blk (W.putObj D (.deferred none)) w.heap.size StrsT _ := (World.putObj_heap_other (by omega)).trans h3
    have hy3 : Blk (W.putObj D (.deferred none)) (w.heap.size + 1) ErrT _ := (World.putObj_heap_other (by omega)).trans h4
    generalize W.putObj D (.deferred none) = Wf at *
    have q0 : Wf.cell? ⟨w.heap.size, 0, none⟩ = some (.slice none 0 0) := by rw [hy2.cell]; rfl
    have q1 : Wf.cell? ⟨w.heap.size + 1, 0, none⟩ = some (.int .i64 11) := by rw [hy3.cell]; rfl
    have hft : fits s.data.toList = false := h6 _ hS
    refine ⟨_, (by simp [results, Tryz.results52, go_sem, q0, q1]; try rfl), ?_⟩
    exact ⟨fun h => by rw [hft] at h; (exact absurd h (by decide)), fun _ => rfl, hbf⟩
end Go.Proofs.YtkfjmcidcnpijaaGreatDoor.Mf
