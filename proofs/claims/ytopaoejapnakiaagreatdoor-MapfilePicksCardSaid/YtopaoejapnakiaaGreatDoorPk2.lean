/- Law: MapfilePicks. -/
import Derived.Test.YtopaoejapnakiaaGreatDoorPk1
namespace Go.Proofs.YtopaoejapnakiaaGreatDoor.Mf
open Go.RowKit Go.Shelf
attribute [local go_sem] Oper.semAt_some
abbrev Arr4T : TypeId := 36
/-- The call's own blocks. -/
structure PkT (w : World) (A : Option Addr) (n c : Nat) (W : World) (f : Nat → Nat) : Prop where
  b0 : Blk W w.heap.size RowsT #[.slice A n c]
  b1 : Blk W (w.heap.size + 1) BoolT #[.bool false]
  b2 : Blk W (w.heap.size + 2) Arr4T (cnts f)
  below : Below w.heap.size w W
section
variable {w W W' : World} {A : Option Addr} {n c : Nat} {f : Nat → Nat}
theorem PkT.grown (h : PkT w A n c W f) {row : Option Nat} (hg : W.grownBy W' row) (hr : ∀ r, row = some r → w.heap.size + 3 ≤ r) : PkT w A n c W' f := by
  have hne : ∀ g, g < w.heap.size + 3 → some g ≠ row := fun g h e => by have := hr g e.symm; omega
  exact ⟨blk_grown h.b0 hg (hne _ (by omega)), blk_grown h.b1 hg (hne _ (by omega)), blk_grown h.b2 hg (hne _ (by omega)), h.below.grown hg h.below.size (fun k hk => by have := hr k hk; omega)⟩
theorem PkT.alloc (h : PkT w A n c W f) (o : Obj) : PkT w A n c (W.alloc o) f := h.grown (grown_alloc W o) (by simp)
theorem PkT.drewN (h : PkT w A n c W f) (k : Nat) : PkT w A n c (W.drewN k) f := h.grown (row := none) ⟨rfl, rfl, rfl, Nat.le_refl _, fun _ _ _ => rfl⟩ (by simp)
theorem PkT.count (h : PkT w A n c W f) (k m : Nat) (hk : k < 4) : PkT w A n c (W.setCell ⟨w.heap.size + 2, k, none⟩ (.int .i64 m)) (upd f k m) :=
  ⟨Blk.apart h.b0 (by omega), Blk.apart h.b1 (by omega), cnts_set f k m hk ▸ Blk.set h.b2 k _, below_set h.below _ k _ (by omega)⟩
theorem PkT.other (h : PkT w A n c W f) (b : Nat) (v : Value) (hb : w.heap.size + 3 ≤ b) : PkT w A n c (W.setCell ⟨b, 0, none⟩ v) f :=
  ⟨Blk.apart h.b0 (by omega), Blk.apart h.b1 (by omega), Blk.apart h.b2 (by omega), below_set h.below _ 0 _ (by omega)⟩
theorem PkT.c0 (h : PkT w A n c W f) : W.cell? ⟨w.heap.size, 0, none⟩ = some (.slice A n c) := by rw [h.b0.cell]; rfl
theorem PkT.at_ (h : PkT w A n c W f) (k : Nat) (hk : k < 4) : W.cell? ⟨w.heap.size + 2, k, none⟩ = some (.int .i64 (f k)) := by rw [h.b2.cell]; exact cnts_at f k hk
end
/-- Marks that are laid. -/
def Marks (w : World) (W : World) (Ds : List Nat) : Prop := Ds.Nodup ∧ ∀ D ∈ Ds, w.heap.size + 3 ≤ D ∧ W.heap[D]? = some (.deferred (some []))
theorem Marks.keep {w W W' : World} {Ds : List Nat} (h : Marks w W Ds) (hk : ∀ D, w.heap.size + 3 ≤ D → W.heap[D]? = some (.deferred (some [])) → W'.heap[D]? = some (.deferred (some []))) : Marks w W' Ds :=
  ⟨h.1, fun D hD => ⟨(h.2 D hD).1, hk D (h.2 D hD).1 (h.2 D hD).2⟩⟩
/-- The counts when a number's turn comes, so many rows having come. -/
def cntF (l : List RowV) (k m : Nat) (j : Nat) : Nat := if j < k then pn l j else if j = k then m else 0
theorem cntF_upd (l : List RowV) (k m : Nat) : upd (cntF l k m) k (m + 1) = cntF l k (m + 1) := by
  funext j
  unfold upd cntF
  by_cases h : j = k
  · subst h; simp
  · simp [h]
theorem cntF_next (l : List RowV) (k : Nat) : cntF l k (pn l k) = cntF l (k + 1) 0 := by
  funext j
  unfold cntF
  by_cases h : j = k
  · subst h; simp
  · by_cases h2 : j < k
    · simp [h2, show j < k + 1 by omega]
    · have h3 : ¬ j < k + 1 := by omega
      simp [h, h2, h3]
theorem cntF_at (l : List RowV) (k m : Nat) : cntF l k m k = m := by unfold cntF; simp
/-- At the loop's head. -/
def PkH (w : World) (A : Option Addr) (c : Nat) (l : List RowV) (k : Nat) (a : Act) (W : World) : Prop :=
  ∃ (Fk : Nat) (Ds : List Nat) (U : Nat → Value), a = { tmps := #[.slice A l.length c, .pointer (some ⟨w.heap.size, 0, none⟩), .pointer (some ⟨w.heap.size + 1, 0, none⟩), .pointer (some ⟨w.heap.size + 2, 0, none⟩), .pointer (some ⟨Fk, 0, none⟩), U 5, U 6, U 7, U 8, U 9, U 10, U 11, U 12, U 13, U 14, U 15, U 16, U 17, U 18, U 19, U 20, U 21, U 22, U 23, U 24, U 25, U 26, U 27, U 28, U 29, U 30, U 31, U 32, U 33, U 34, U 35, U 36, U 37, U 38, U 39, U 40, U 41, U 42, U 43, U 44, U 45, U 46, U 47, U 48, U 49, U 50, U 51, U 52, U 53, U 54, U 55, U 56, U 57, U 58, U 59, U 60, U 61, U 62, U 63, U 64, U 65, U 66, U 67, U 68, U 69, U 70, U 71, U 72, U 73, U 74, U 75, U 76, U 77, U 78, U 79, U 80, U 81, U 82, U 83, U 84, U 85, U 86, U 87, U 88, U 89, U 90, U 91, U 92, U 93, U 94, U 95, U 96, U 97, U 98, U 99, U 100, U 101, U 102, U 103, U 104, U 105, U 106], defers := Ds.map mark } ∧ PkT w A l.length c W (cntF l k 0) ∧ w.heap.size + 3 ≤ Fk ∧ Blk W Fk IntT #[.int .i64 k] ∧ Marks w W Ds
/-- Between two rounds of a number's rows. -/
def PkJ (w : World) (A : Option Addr) (c : Nat) (l : List RowV) (k Fk : Nat) (Ds : List Nat) (Z : Nat) (pre : List (Nat × RowV)) (W : World) : Prop :=
  PkT w A l.length c W (cntF l k pre.length) ∧ Blk W Fk IntT #[.int .i64 k] ∧ Marks w W Ds ∧ Z ≤ W.heap.size
theorem pkJ_own (w : World) (A : Option Addr) (c : Nat) (l : List RowV) (k Fk : Nat) (Ds : List Nat) (Z D : Nat) (hD : w.heap.size + 3 ≤ D) (hDs : ∀ E ∈ Ds, E < D) : OwnFrom D (PkJ w A c l k Fk Ds Z) := by
  rintro s W W' row ⟨h1, h2, h3, h4⟩ hg hr
  refine ⟨h1.grown hg (fun r e => Nat.le_trans hD (hr r e).1), blk_turn h2 hg (fun r e => (hr r e).2), ⟨h3.1, ?_⟩, Nat.le_trans h4 hg.size⟩
  exact (fun E hE => ⟨(h3.2 E hE).1, (hg.block E (Array.getElem?_eq_some_iff.1 (h3.2 E hE).2).1 (fun e => by have := (hr E e.symm).1; have := hDs E hE; omega)).trans (h3.2 E hE).2⟩)
theorem pkJ_new (w : World) (A : Option Addr) (c : Nat) (l : List RowV) (k Fk : Nat) (Ds : List Nat) (Z : Nat) : AbN (PkJ w A c l k Fk Ds Z) := by
  rintro s W W' ⟨h1, h2, h3, h4⟩ hg
  exact ⟨h1.grown hg (by simp), blk_grown h2 hg (by simp), h3.keep (fun D _ h => (hg.block D (Array.getElem?_eq_some_iff.1 h).1 (by simp)).trans h), Nat.le_trans h4 hg.size⟩
/-- A round's variables. -/
def PkY (w : World) (F : Nat → Nat × RowV → Act) (_pre : List (Nat × RowV)) (x : Nat × RowV) (a : Act) (W : World) : Prop :=
  ∃ Bx, w.heap.size + 2 < Bx ∧ Blk W Bx RowT' #[.string x.2.code, .string x.2.text, .int .i64 x.2.flag] ∧ a = F Bx x
theorem pkY_own (w : World) (F : Nat → Nat × RowV → Act) (D : Nat) (pre : List (Nat × RowV)) (x : Nat × RowV) (a : Act) : OwnFrom D (fun (_ : Unit) W => PkY w F pre x a W) := by
  rintro s W W' row ⟨Bx, h1, h2, h3⟩ hg hr
  exact ⟨Bx, h1, blk_turn h2 hg (fun r e => (hr r e).2), h3⟩
set_option maxRecDepth 100000 in
set_option maxHeartbeats 800000 in
theorem mapfilePicks_law {w : World} (hO : OkP w) (A : Option Addr) (c : Nat) (l : List RowV) (hR : RowsAt w A l) (hn : l.length ≤ 1000000000000000) (hS : ∀ r ∈ l, r.code.size ≤ maxLen ∧ r.text.size ≤ maxLen) :
    Calls Tryz.prog 6 #[.slice A l.length c] w fun e w' => e = .returned (.bool true) ∧ Below w.heap.size w w' := by
  have HAW : Hid (∀ w1, Below w.heap.size w w1 → Calls Tryz.prog 10 #[] w1 fun e w' => e = .returned (.bool true) ∧ Below w1.heap.size w1 w') := Lib.hid fun w1 hb => awake_any w1 (hO.ok.keep hb)
  have HR := Lib.hid hR
  have HF : Hid (∀ w1, Below w.heap.size w w1 → Calls Tryz.prog 18 #[.slice A l.length c] w1 fun e w' => e = .returned (.bool (fewR l)) ∧ w1 = w') := Lib.hid fun w1 hb => few_any A c l w1 (hR.keep hb) hn hS
  have hfn := func_nil
  have hb0 : Below w.heap.size w ((w.alloc (.cells #[.slice A l.length c] RowsT)).alloc (.cells #[.bool false] BoolT)) := ((Below.refl _ w).alloc (Nat.le_refl _) _).alloc (by simp) _
  have hk0 : Blk ((w.alloc (.cells #[.slice A l.length c] RowsT)).alloc (.cells #[.bool false] BoolT)) w.heap.size RowsT #[.slice A l.length c] := (Blk.new w _ _).alloc _
  have hk1 : Blk ((w.alloc (.cells #[.slice A l.length c] RowsT)).alloc (.cells #[.bool false] BoolT)) (w.heap.size + 1) BoolT #[.bool false] := by
    have h := Blk.new (w.alloc (.cells #[.slice A l.length c] RowsT)) BoolT #[.bool false]
    rw [World.size_alloc] at h
    exact h
  have hsz0 : ((w.alloc (.cells #[.slice A l.length c] RowsT)).alloc (.cells #[.bool false] BoolT)).heap.size = w.heap.size + 2 := by simp
  obtain ⟨V, hV⟩ : ∃ V, (w.alloc (.cells #[.slice A l.length c] RowsT)).alloc (.cells #[.bool false] BoolT) = V := ⟨_, rfl⟩
  rw [hV] at hb0 hk0 hk1 hsz0
  have k0 : V.cell? ⟨w.heap.size, 0, none⟩ = some (.slice A l.length c) := by rw [hk0.cell]; rfl
  have k1 : V.cell? ⟨w.heap.size + 1, 0, none⟩ = some (.bool false) := by rw [hk1.cell]; rfl
  have f1 : V.frozen? ⟨w.heap.size + 1, 0, none⟩ = false := Blk.frz hk1 0
  have HV := Lib.hid hV
  have HB0 := Lib.hid hb0
  have HK0 := Lib.hid hk0
  have HK1 := Lib.hid hk1
  have HSZ := Lib.hid hsz0
  have hfew := fun h : fewR l = true => fewR_facts h
  have HFW := Lib.hid hfew
  clear hR hn hS hO hV hb0 hk0 hk1 hsz0 hfew
  refine (callsIn_wide (n := 5)).1 ?_
  refine callsIn_of_wp_marks Tryz.func6 rfl trivial ?_ rfl
  simp only [Tryz.ntmps6, List.size_toArray, List.length_cons, List.length_nil, Nat.reduceAdd, Nat.reduceSub, Array.replicate_succ, Array.replicate_zero, List.push_toArray, List.append_toArray, List.nil_append, List.cons_append]
  gi_upto_region 1 with (fail)
  rw [HV.out]
  clear HV
  cases hfw : fewR l
  · have HF1 := Lib.hid (HF.out V HB0.out)
    rw [hfw] at HF1
    have HA := Lib.hid (HAW.out V HB0.out)
    clear HF hfw
    gi_wp2_with (first | (refine ⟨trivial, ?_⟩; gi_at_call 18; refine (callsIn_wide.2 HF1.out).mono ?_; rintro _ _ ⟨rfl, rfl⟩) | (refine ⟨trivial, ?_⟩; gi_at_call 10; refine (callsIn_wide.2 HA.out).mono ?_; rintro _ w5 ⟨rfl, hb5⟩; have HT5 := Lib.hid (Blk.below HK1.out hb5 HK1.out.lt); have c5 : w5.cell? ⟨w.heap.size + 1, 0, none⟩ = some (.bool false) := (by rw [HT5.out.cell]; rfl); have f5 : w5.frozen? ⟨w.heap.size + 1, 0, none⟩ = false := Blk.frz HT5.out 0; have HB5 := Lib.hid (HB0.out.trans (hb5.mono HB0.out.size)); clear hb5))
    have hq := Blk.set HT5.out 0 (.bool true)
    have q : (w5.setCell ⟨w.heap.size + 1, 0, none⟩ (.bool true)).cell? ⟨w.heap.size + 1, 0, none⟩ = some (.bool true) := by rw [hq.cell]; rfl
    refine ⟨_, (by simp [results, Tryz.results6, go_sem, q]; try rfl), ?_⟩
    exact ⟨rfl, below_set HB5.out _ 0 _ (by omega)⟩
  · have HF1 := Lib.hid (HF.out V HB0.out)
    rw [hfw] at HF1
    obtain ⟨hl40, _⟩ := HFW.out hfw
    clear HF hfw
    gi_wp2_with (first | (refine ⟨trivial, ?_⟩; gi_at_call 18; refine (callsIn_wide.2 HF1.out).mono ?_; rintro _ _ ⟨rfl, rfl⟩))
    refine loop_count (PkH w A c l) 4 ?step ?exit ?start
    case start =>
      rw [HSZ.out]
      have b2 := (Blk.new V Arr4T (cnts (cntF l 0 0))).alloc (.cells #[.int .i64 0] IntT)
      have b3 := Blk.new (V.alloc (.cells (cnts (cntF l 0 0)) Arr4T)) IntT #[.int .i64 0]
      rw [World.size_alloc] at b3
      rw [HSZ.out] at b2 b3
      exact ⟨w.heap.size + 3, [], fun | 10 => .slice A l.length c | 11 => .bool true | 12 => .bool false | _ => undef, rfl, ⟨(HK0.out.alloc _).alloc _, (HK1.out.alloc _).alloc _, b2, (HB0.out.alloc (by rw [HSZ.out]; omega) _).alloc (by simp; rw [HSZ.out]; omega) _⟩, Nat.le_refl _, b3, List.nodup_nil, by simp⟩
    case step =>
      rintro k a W K hk4 ⟨Fk, Ds, U, rfl, hT, hFk, hbF, hM⟩ hK
      have c0 := hT.c0
      have cF : W.cell? ⟨Fk, 0, none⟩ = some (.int .i64 k) := by rw [hbF.cell]; rfl
      have a1 : decide ((k : Int) < 4) = true := decide_eq_true (by omega)
      have HT := Lib.hid hT
      have HBF := Lib.hid hbF
      have HM := Lib.hid hM
      have HK := Lib.hid hK
      clear hT hbF hM hK
      gi_wp2_with (refine ⟨trivial, ?_⟩; gi_at_call 19; refine (callsIn_wide.2 (pick_any (k : Int) A l.length c W)).mono ?_; rintro _ _ ⟨rfl, rfl⟩)
      have hW0 : Blk ((W.alloc (.cells #[.int .i64 k] IntT)).alloc (.cells #[.slice A l.length c] RowsT)) W.heap.size IntT #[.int .i64 k] := (Blk.new W _ _).alloc _
      have hW1 : Blk ((W.alloc (.cells #[.int .i64 k] IntT)).alloc (.cells #[.slice A l.length c] RowsT)) (W.heap.size + 1) RowsT #[.slice A l.length c] := by
        have h := Blk.new (W.alloc (.cells #[.int .i64 k] IntT)) RowsT #[.slice A l.length c]
        rw [World.size_alloc] at h
        exact h
      have hT2 := (HT.out.alloc (.cells #[.int .i64 k] IntT)).alloc (.cells #[.slice A l.length c] RowsT)
      have hF2 : Blk ((W.alloc (.cells #[.int .i64 k] IntT)).alloc (.cells #[.slice A l.length c] RowsT)) Fk IntT #[.int .i64 k] := Blk.alloc (Blk.alloc HBF.out _) _
      have hM2 : Marks w ((W.alloc (.cells #[.int .i64 k] IntT)).alloc (.cells #[.slice A l.length c] RowsT)) Ds := HM.out.keep fun D _ h => (Below.heap_alloc _ _ D (by simp; have := (Array.getElem?_eq_some_iff.1 h).1; omega)).trans ((Below.heap_alloc W _ D (Array.getElem?_eq_some_iff.1 h).1).trans h)
      have hz2 : ((W.alloc (.cells #[.int .i64 k] IntT)).alloc (.cells #[.slice A l.length c] RowsT)).heap.size = W.heap.size + 2 := by simp
      have hFlt : Fk < W.heap.size := (Array.getElem?_eq_some_iff.1 HBF.out).1
      obtain ⟨W2, hW2⟩ : ∃ W2, (W.alloc (.cells #[.int .i64 k] IntT)).alloc (.cells #[.slice A l.length c] RowsT) = W2 := ⟨_, rfl⟩
      rw [hW2] at hW0 hW1 hT2 hF2 hM2 hz2 ⊢
      have HW0 := Lib.hid hW0
      have HW1 := Lib.hid hW1
      have HT2 := Lib.hid hT2
      have HF2 := Lib.hid hF2
      have HM2 := Lib.hid hM2
      have HZ2 := Lib.hid hz2
      have hwW : w.heap.size + 2 < W.heap.size := HT.out.b2.lt
      have hKA : l ≠ [] → ∀ a, A = some a → (a.block < w.heap.size ∨ a.block = W.heap.size ∨ a.block = W.heap.size + 1) := fun hne a ha => by
        obtain ⟨b, o, e, hlt, _⟩ := HR.out hne
        rw [e] at ha
        injection ha with ha
        rw [← ha]
        exact .inl hlt
      have HKA := Lib.hid hKA
      clear hKA hW0 hW1 hT2 hF2 hM2 hz2 hW2 c0 cF
      refine range_all (n := 5) (by omega) (gf := 35) (lb := #[.pointer (some ⟨W.heap.size, 0, none⟩), .pointer (some ⟨W.heap.size + 1, 0, none⟩)]) rfl (enters_of Tryz.func35 (by kernel_rfl) rfl) (encs := fun x : Nat × RowV => #[Value.int .i64 (x.1 : Int), Value.agg #[.string x.2.code, .string x.2.text, .int .i64 x.2.flag]])
        (fun b => b < w.heap.size ∨ b = W.heap.size ∨ b = W.heap.size + 1) (by intro b hb; rw [HZ2.out]; omega) (pickL (k : Int) l) (fun _ => rfl)
        (fun l0 J Wy hWy hJ hY h0 => pick1_any 4 l0 W.heap.size (k : Int) A c l (by omega) _ (Or.inr (Or.inl rfl)) (Or.inr (Or.inr rfl)) HKA.out J Wy hJ hY (by omega) (Blk.below HW0.out hWy HW0.out.lt) (Blk.below HW1.out hWy HW1.out.lt) ((HR.out.keep HT2.out.below).keep hWy) h0)
        (PkJ w A c l k Fk Ds (W.heap.size + 2)) (pkJ_own w A c l k Fk Ds _ _ (by rw [HZ2.out]; omega) (fun E hE => (Array.getElem?_eq_some_iff.1 (HM2.out.2 E hE).2).1)) (pkJ_new w A c l k Fk Ds _)
        ⟨HT2.out, HF2.out, HM2.out, by rw [HZ2.out]; exact Nat.le_refl _⟩
        (PkY w fun Bx x => { tmps := #[.slice A l.length c, .pointer (some ⟨w.heap.size, 0, none⟩), .pointer (some ⟨w.heap.size + 1, 0, none⟩), .pointer (some ⟨w.heap.size + 2, 0, none⟩), .pointer (some ⟨Fk, 0, none⟩), .func (.func 35) #[] #[.pointer (some ⟨W.heap.size, 0, none⟩), .pointer (some ⟨W.heap.size + 1, 0, none⟩)], .int .i64 x.1, .pointer (some ⟨Bx, 0, none⟩), U 8, U 9, U 10, U 11, U 12, U 13, .int .i64 k, .bool true, U 16, U 17, .int .i64 k, .slice A l.length c, .func (.func 35) #[] #[.pointer (some ⟨W.heap.size, 0, none⟩), .pointer (some ⟨W.heap.size + 1, 0, none⟩)], .func (.func 35) #[] #[.pointer (some ⟨W.heap.size, 0, none⟩), .pointer (some ⟨W.heap.size + 1, 0, none⟩)], .bool false, .func (.func 35) #[] #[.pointer (some ⟨W.heap.size, 0, none⟩), .pointer (some ⟨W.heap.size + 1, 0, none⟩)], .int .i64 x.1, .agg #[.string x.2.code, .string x.2.text, .int .i64 x.2.flag], U 26, U 27, U 28, U 29, U 30, U 31, U 32, U 33, U 34, U 35, U 36, U 37, U 38, U 39, U 40, U 41, U 42, U 43, U 44, U 45, U 46, U 47, U 48, U 49, U 50, U 51, U 52, U 53, U 54, U 55, U 56, U 57, U 58, U 59, U 60, U 61, U 62, U 63, U 64, U 65, U 66, U 67, U 68, U 69, U 70, U 71, U 72, U 73, U 74, U 75, U 76, U 77, U 78, U 79, U 80, U 81, U 82, U 83, U 84, U 85, U 86, U 87, U 88, U 89, U 90, U 91, U 92, U 93, U 94, U 95, U 96, U 97, U 98, U 99, U 100, U 101, U 102, U 103, U 104, U 105, U 106], defers := [] }) (pkY_own w _ _) ?assign ?body ?done
      case assign =>
        rintro l0 pre x Wx K2 ⟨h1, h2, h3, h4⟩ hK
        gi_wp2
        exact hK _ _ ((KeepsOthers.alloc _ _).from _) (fun b hb => Below.heap_alloc Wx _ b (by omega)) (pkJ_new w A c l k Fk Ds _ _ _ _ ⟨h1, h2, h3, h4⟩ (grown_alloc _ _)) ⟨Wx.heap.size, h1.b2.lt, Blk.new Wx _ _, rfl⟩
      case body =>
        rintro l0 pre x a' Wx hpx ⟨hTx, hFx, hMx, hZx⟩ ⟨Bx, hBx, hbX, rfl⟩
        have hpl : pre.length + 1 ≤ 40 := by
          have h := hpx.length_le
          rw [List.length_append] at h
          have h2 := pn_le l k
          unfold pn at h2
          have h3 : [x].length = 1 := rfl
          omega
        obtain ⟨hxl, hxe, hel⟩ := pickL_mem (hpx.subset (List.mem_append_right _ List.mem_cons_self))
        obtain ⟨i, qc, qt, qf⟩ := x
        have hxl : i < l.length := hxl
        obtain ⟨bk, o, rfl, hbk, r0, r1, r2⟩ := (HR.out.keep hTx.below).at_ hxl
        have hxe : l[i] = ⟨qc, qt, qf⟩ := hxe
        rw [hxe] at r0 r1 r2
        replace r0 : Wx.cell? ⟨bk, o + i * 3, none⟩ = some (.string qc) := r0
        replace r1 : Wx.cell? ⟨bk, o + i * 3 + 1, none⟩ = some (.string qt) := r1
        replace r2 : Wx.cell? ⟨bk, o + i * 3 + 2, none⟩ = some (.int .i64 qf) := r2
        have x0 : Wx.cell? ⟨Bx, 0, none⟩ = some (.string qc) := by rw [hbX.cell]; rfl
        have x1 : Wx.cell? ⟨Bx, 1, none⟩ = some (.string qt) := by rw [hbX.cell]; rfl
        have x2 : Wx.cell? ⟨Bx, 2, none⟩ = some (.int .i64 qf) := by rw [hbX.cell]; rfl
        have c0 := hTx.c0
        have cF : Wx.cell? ⟨Fk, 0, none⟩ = some (.int .i64 k) := by rw [hFx.cell]; rfl
        have cN := hTx.at_ k hk4
        rw [cntF_at] at cN
        have fN : Wx.frozen? ⟨w.heap.size + 2, k, none⟩ = false := Blk.frz hTx.b2 k
        have t1 : decide ((i : Int) < 0) = false := decide_eq_false (by omega)
        have t2 : decide ((l.length : Int) ≤ (i : Int)) = false := decide_eq_false (by omega)
        have j0 : (0 : Int) ≤ (i : Int) := by omega
        have j1 : (i : Int) < (l.length : Int) := by omega
        have j2 : (0 : Int) ≤ (k : Int) := by omega
        have j3 : (k : Int) < 4 := by omega
        have hkw : IntKind.i64.wrap ((pre.length : Int) + 1) = (pre.length : Int) + 1 := IntWalk.i64_in _ (by omega)
        have hm1 : Tryz.prog.follows .mixedOrders = true := by kernel_rfl
        have hel : qf = 0 ∨ qf = (k : Int) := hel
        have hye : (qf != 0) = false ∨ ((qf != 0) = true ∧ (qf != (k : Int)) = false) := by
          by_cases h : qf = 0
          · left; simp [h]
          · right
            refine ⟨by simp [h], ?_⟩
            rcases hel with h2 | h2
            · exact absurd h2 h
            · simp [h2]
        have HTX := Lib.hid hTx
        have HFX := Lib.hid hFx
        have HMX := Lib.hid hMx
        clear hTx hFx hMx hbX hbk hxe hpx hel
        rcases hye with e0 | ⟨e0, e1⟩
        all_goals
          gi_wp2
          refine wpIn_region_quiet_round (by simp) hm1 (by kernel_rfl) ?_
          repeat (first | gi_big_quiet_step (fail) | quiet_step_in (fail))
          refine wpQuietIn_nil ?_
          intro _ hw'
          obtain ⟨nq, hw''⟩ := hw'
          subst hw''
          obtain ⟨W4, hW4⟩ : ∃ W4, Wx.drewN nq = W4 := ⟨_, rfl⟩
          have hcl : ∀ a, W4.cell? a = Wx.cell? a := fun a => by rw [← hW4]; rfl
          replace cF := (hcl _).trans cF
          replace cN := (hcl _).trans cN
          replace fN : W4.frozen? ⟨w.heap.size + 2, k, none⟩ = false := by rw [← hW4]; exact fN
          have HT4 : Hid (PkT w (some ⟨bk, o, none⟩) l.length c W4 (cntF l k pre.length)) := Lib.hid (hW4 ▸ HTX.out.drewN nq)
          have HF4 : Hid (Blk W4 Fk IntT #[.int .i64 k]) := Lib.hid (hW4 ▸ HFX.out)
          have HM4 : Hid (Marks w W4 Ds) := Lib.hid (hW4 ▸ HMX.out)
          have HK4 : Hid (KeepsFrom W2.heap.size Wx W4) := Lib.hid (hW4 ▸ keepsFrom_drewN _ nq Wx)
          have HB4 : Hid (KeepB (fun b => b < w.heap.size ∨ b = W.heap.size ∨ b = W.heap.size + 1) Wx W4) := Lib.hid (hW4 ▸ keepB_drewN _ nq Wx)
          have HZ4 : Hid (W4.heap.size = Wx.heap.size) := Lib.hid (hW4 ▸ rfl)
          rw [hW4]
          clear hcl hW4 c0 r0 r1 r2 x0 x1 x2
          gi_wp2
          refine ⟨HK4.out.trans ((KeepsOthers.setCell _ _ _).from _), HB4.out.trans (fun b hb => heap_setCell_other W4 ⟨w.heap.size + 2, k, none⟩ b _ (by show b ≠ w.heap.size + 2; omega)), ?_, Blk.apart HF4.out (by omega), HM4.out.keep (fun D hD h => (heap_setCell_other W4 ⟨w.heap.size + 2, k, none⟩ D _ (by show D ≠ w.heap.size + 2; omega)).trans h), by simp; rw [HZ4.out]; exact hZx⟩
          rw [List.length_append]
          show PkT _ _ _ _ _ (cntF l k (pre.length + 1))
          rw [← cntF_upd]
          exact HT4.out.count k (pre.length + 1) hk4
      case done =>
        rintro D Wd hD ⟨hTd, hFd, hMd, hZd⟩ hKd
        rw [HZ2.out] at hD
        have cF : Wd.cell? ⟨Fk, 0, none⟩ = some (.int .i64 k) := by rw [hFd.cell]; rfl
        have hDlt : D < Wd.heap.size := (Array.getElem?_eq_some_iff.1 hKd).1
        have hDn : D ∉ Ds := fun h => by
          have := (Array.getElem?_eq_some_iff.1 (HM2.out.2 D h).2).1
          rw [HZ2.out] at this
          omega
        have hkw : IntKind.i64.wrap ((k : Int) + 1) = (k : Int) + 1 := IntWalk.i64_in _ (by omega)
        have hnb : Blk (Wd.alloc (.cells #[.int .i64 k] IntT)) Wd.heap.size IntT #[.int .i64 k] := Blk.new _ _ _
        have cG : (Wd.alloc (.cells #[.int .i64 k] 3)).cell? ⟨Wd.heap.size, 0, none⟩ = some (.int .i64 k) := by rw [hnb.cell]; rfl
        have fG : (Wd.alloc (.cells #[.int .i64 k] 3)).frozen? ⟨Wd.heap.size, 0, none⟩ = false := Blk.frz hnb 0
        have hTf : PkT w A l.length c (Wd.alloc (.cells #[.int .i64 ((k : Int) + 1)] 3)) (cntF l (k + 1) 0) := by
          have h := hTd.alloc (.cells #[.int .i64 ((k : Int) + 1)] 3)
          rw [show (pickL (k : Int) l).length = pn l k from rfl, cntF_next] at h
          exact h
        have hMf : Marks w (Wd.alloc (.cells #[.int .i64 ((k : Int) + 1)] 3)) (D :: Ds) := by
          have hk1 : ∀ E, E < Wd.heap.size → Wd.heap[E]? = some (.deferred (some [])) → (Wd.alloc (.cells #[.int .i64 ((k : Int) + 1)] 3)).heap[E]? = some (.deferred (some [])) := fun E hE h => (Below.heap_alloc Wd _ E hE).trans h
          refine ⟨List.nodup_cons.2 ⟨hDn, hMd.1⟩, fun E hE => ?_⟩
          rcases List.mem_cons.1 hE with rfl | hE
          · exact ⟨by omega, hk1 _ hDlt hKd⟩
          · exact ⟨(hMd.2 E hE).1, hk1 E (Array.getElem?_eq_some_iff.1 (hMd.2 E hE).2).1 (hMd.2 E hE).2⟩
        have hbG : Blk (Wd.alloc (.cells #[.int .i64 ((k : Int) + 1)] 3)) Wd.heap.size IntT #[.int .i64 ((k : Int) + 1)] := Blk.new _ _ _
        have HTF := Lib.hid hTf
        have HMF := Lib.hid hMf
        have HBG := Lib.hid hbG
        clear hTd hFd hMd hKd hDn hnb hTf hMf hbG
        gi_wp2
        exact HK.out _ _ ⟨Wd.heap.size, D :: Ds, fun | 5 => .func (.func 35) #[] #[.pointer (some ⟨W.heap.size, 0, none⟩), .pointer (some ⟨W.heap.size + 1, 0, none⟩)] | 14 => .int .i64 k | 15 => .bool true | 16 => .int .i64 k | 17 => .int .i64 ((k : Int) + 1) | 18 => .int .i64 k | 19 => .slice A l.length c | 20 => .func (.func 35) #[] #[.pointer (some ⟨W.heap.size, 0, none⟩), .pointer (some ⟨W.heap.size + 1, 0, none⟩)] | 21 => .func (.func 35) #[] #[.pointer (some ⟨W.heap.size, 0, none⟩), .pointer (some ⟨W.heap.size + 1, 0, none⟩)] | 22 => .bool false | 23 => .func (.func 35) #[] #[.pointer (some ⟨W.heap.size, 0, none⟩), .pointer (some ⟨W.heap.size + 1, 0, none⟩)] | 58 => .int .i64 k | j => U j, rfl, HTF.out, by omega, HBG.out, HMF.out⟩
    case exit =>
      rintro a W K ⟨Fk, Ds, U, rfl, hT, hFk, hbF, hM⟩
      have c0 := hT.c0
      have cF : W.cell? ⟨Fk, 0, none⟩ = some (.int .i64 4) := by rw [hbF.cell]; rfl
      have n0 : W.cell? ⟨w.heap.size + 2, 0, none⟩ = some (.int .i64 (pn l 0)) := hT.at_ 0 (by omega)
      have n1 : W.cell? ⟨w.heap.size + 2, 1, none⟩ = some (.int .i64 (pn l 1)) := hT.at_ 1 (by omega)
      have n2 : W.cell? ⟨w.heap.size + 2, 2, none⟩ = some (.int .i64 0) := by
        have h := hT.at_ 2 (by omega)
        rw [show cntF l 4 0 2 = pn l 2 from rfl, pn_two] at h
        exact h
      have n3 : W.cell? ⟨w.heap.size + 2, 3, none⟩ = some (.int .i64 (pn l 3)) := hT.at_ 3 (by omega)
      have HT := Lib.hid hT
      have HM := Lib.hid hM
      clear hT hbF hM
      gi_wp2
      gi_loopw [8, 9] (fun v8 v9 wr => ∃ j : Nat, j ≤ l.length ∧ v8 = .int .i64 (mayN (l.take j)) ∧ v9 = .int .i64 j ∧ wr = W) (fun _ v9 _ => l.length - (RowKit.intOf v9).toNat)
      case atStart => exact ⟨0, Nat.zero_le _, rfl, rfl, rfl⟩
      case round =>
        obtain ⟨j, hj, rfl, rfl, rfl⟩ := hrel
        by_cases hlt : j < l.length
        · have a1 : decide ((j : Int) < (l.length : Int)) = true := decide_eq_true (by omega)
          have hkw : IntKind.i64.wrap ((j : Int) + 1) = (j : Int) + 1 := IntWalk.i64_in _ (by omega)
          have hml := mayN_le (l.take j)
          have hml2 : (l.take j).length ≤ j := by rw [List.length_take]; omega
          have hkm : IntKind.i64.wrap ((mayN (l.take j) : Int) + 1) = (mayN (l.take j) : Int) + 1 := IntWalk.i64_in _ (by omega)
          have j0 : (0 : Int) ≤ (j : Int) := by omega
          have j1 : (j : Int) < (l.length : Int) := by omega
          obtain ⟨bk, o, rfl, hbk, r0, r1, r2⟩ := (HR.out.keep HT.out.below).at_ hlt
          have HTK : Hid (mayN (l.take (j + 1)) = mayN (l.take j) + if mayB l[j] = true then 1 else 0) := Lib.hid (by rw [List.take_succ_eq_append_getElem hlt, mayN_snoc])
          clear r0 r1 hbk hml hml2
          generalize l[j] = q at *
          obtain ⟨qc, qt, qf⟩ := q
          replace r2 : wr.cell? ⟨bk, o + j * 3 + 2, none⟩ = some (.int .i64 qf) := r2
          have hye : ((qf == 0) = true ∧ Hid (mayB ⟨qc, qt, qf⟩ = true)) ∨ ((qf == 0) = false ∧ (qf == 1) = true ∧ Hid (mayB ⟨qc, qt, qf⟩ = true)) ∨ ((qf == 0) = false ∧ (qf == 1) = false ∧ (qf == 3) = true ∧ Hid (mayB ⟨qc, qt, qf⟩ = true)) ∨ ((qf == 0) = false ∧ (qf == 1) = false ∧ (qf == 3) = false ∧ Hid (mayB ⟨qc, qt, qf⟩ = false)) := by
            by_cases h0 : qf = 0
            · subst h0; exact .inl ⟨by decide, Lib.hid rfl⟩
            by_cases h1 : qf = 1
            · subst h1; exact .inr (.inl ⟨by decide, by decide, Lib.hid rfl⟩)
            by_cases h3 : qf = 3
            · subst h3; exact .inr (.inr (.inl ⟨by decide, by decide, by decide, Lib.hid rfl⟩))
            · exact .inr (.inr (.inr ⟨by simpa using h0, by simpa using h1, by simpa using h3, Lib.hid (by unfold mayB; exact decide_eq_false (by show ¬ (qf = 0 ∨ qf = 1 ∨ qf = 3); omega))⟩))
          rcases hye with ⟨e0, HB⟩ | ⟨e0, e1, HB⟩ | ⟨e0, e1, e3, HB⟩ | ⟨e0, e1, e3, HB⟩
          all_goals
            gi_wp2
            go_roundw
            case rel => exact ⟨j + 1, by omega, by rw [HTK.out, HB.out]; first | rfl | simp, by go_num, by trivial⟩
            case measure => simp [RowKit.intOf]; omega
        · obtain rfl : j = l.length := by omega
          have a1 : decide ((l.length : Int) < (l.length : Int)) = false := decide_eq_false (by omega)
          rw [List.take_of_length_le (Nat.le_refl _)]
          have q0 := pn_le l 0
          have q1 := pn_le l 1
          have q3 := pn_le l 3
          have qm := mayN_le l
          have qs := pn_sum l
          have s1 : IntKind.i64.wrap ((pn l 1 : Int) + (pn l 3 : Int)) = (pn l 1 : Int) + (pn l 3 : Int) := IntWalk.i64_in _ (by omega)
          have s2 : IntKind.i64.wrap ((mayN l : Int) + (pn l 0 : Int)) = (mayN l : Int) + (pn l 0 : Int) := IntWalk.i64_in _ (by omega)
          have s3 : ((pn l 1 : Int) + (pn l 3 : Int) == (mayN l : Int) + (pn l 0 : Int)) = true := by rw [beq_iff_eq]; omega
          have c1 : wr.cell? ⟨w.heap.size + 1, 0, none⟩ = some (.bool false) := by rw [HT.out.b1.cell]; rfl
          have f1' : wr.frozen? ⟨w.heap.size + 1, 0, none⟩ = false := Blk.frz HT.out.b1 0
          have HA := Lib.hid (HAW.out wr HT.out.below)
          clear hlt hj q0 q1 q3 qm qs
          clear c1 f1'
          gi_wp2_with (refine ⟨trivial, ?_⟩; gi_at_call 10; refine (callsIn_wide.2 HA.out).mono ?_; rintro _ w5 ⟨rfl, hb5⟩; have HT5 := Lib.hid (Blk.below HT.out.b1 hb5 HT.out.b1.lt); have c5 : w5.cell? ⟨w.heap.size + 1, 0, none⟩ = some (.bool false) := (by rw [HT5.out.cell]; rfl); have f5 : w5.frozen? ⟨w.heap.size + 1, 0, none⟩ = false := Blk.frz HT5.out 0; have HB5 := Lib.hid (HT.out.below.trans (hb5.mono HT.out.below.size)); have HM5 : Hid (Marks w w5 Ds) := Lib.hid (HM.out.keep fun D _ h => (hb5.block D (Array.getElem?_eq_some_iff.1 h).1).trans h); clear hb5)
          refine leaves_marks (w.heap.size + 3) (fun Wz => Blk Wz (w.heap.size + 1) BoolT #[.bool true] ∧ Below w.heap.size w Wz) ?_ ?_ Ds _ HM5.out.1 ?_ ⟨Blk.set HT5.out 0 _, below_set HB5.out _ 0 _ (by omega)⟩
          · rintro Wz D ⟨h1, h2⟩ hB hd
            exact ⟨(World.putObj_heap_other (by omega)).trans h1, h2.grown (grownBy_putObj' _ D _) h2.size (fun k e => by cases e; omega)⟩
          · rintro Wz ⟨h1, h2⟩
            have q : Wz.cell? ⟨w.heap.size + 1, 0, none⟩ = some (.bool true) := by rw [h1.cell]; rfl
            refine ⟨_, (by simp [results, Tryz.results6, go_sem, q]; try rfl), ?_⟩
            exact ⟨rfl, h2⟩
          · intro D hD
            exact ⟨(HM5.out.2 D hD).1, (heap_setCell_other w5 ⟨w.heap.size + 1, 0, none⟩ D _ (by have := (HM5.out.2 D hD).1; show D ≠ w.heap.size + 1; omega)).trans (HM5.out.2 D hD).2⟩
end Go.Proofs.YtopaoejapnakiaaGreatDoor.Mf
