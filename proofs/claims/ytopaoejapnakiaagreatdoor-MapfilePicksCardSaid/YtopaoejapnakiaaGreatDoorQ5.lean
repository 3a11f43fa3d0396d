/- Walk: inkhornlaw13.picks. -/
import Derived.Test.YtopaoejapnakiaaGreatDoorQ4
import Derived.Test.YtopaoejapnakiaaGreatDoorL4
import Derived.Sort.CutIn
namespace Go.Proofs.YtopaoejapnakiaaGreatDoor.Mf
open Go.RowKit Go.Shelf
attribute [local go_sem] Oper.semAt_some

/-- The call's own blocks. -/
structure PkS (w : World) (flag : Int) (A : Option Addr) (n c : Nat) (W : World) (nx : Nat) (right : Bool) : Prop where
  b0 : Blk W w.heap.size RowsT #[.slice A n c]
  b1 : Blk W (w.heap.size + 1) IntT #[.int .i64 flag]
  b2 : Blk W (w.heap.size + 2) BoolT #[.bool false]
  b3 : Blk W (w.heap.size + 3) IntT #[.int .i64 flag]
  b4 : Blk W (w.heap.size + 4) RowsT #[.slice A n c]
  b5 : Blk W (w.heap.size + 5) IntT #[.int .i64 nx]
  b6 : Blk W (w.heap.size + 6) BoolT #[.bool right]
  below : Below w.heap.size w W
section
variable {w W W' : World} {flag : Int} {A : Option Addr} {n c nx : Nat} {right : Bool}
theorem PkS.grown (h : PkS w flag A n c W nx right) {row : Option Nat} (hg : W.grownBy W' row) (hr : ∀ r, row = some r → w.heap.size + 7 ≤ r) : PkS w flag A n c W' nx right := by
  have hne : ∀ g, g < w.heap.size + 7 → some g ≠ row := fun g h e => by have := hr g e.symm; omega
  exact ⟨blk_grown h.b0 hg (hne _ (by omega)), blk_grown h.b1 hg (hne _ (by omega)), blk_grown h.b2 hg (hne _ (by omega)), blk_grown h.b3 hg (hne _ (by omega)), blk_grown h.b4 hg (hne _ (by omega)), blk_grown h.b5 hg (hne _ (by omega)), blk_grown h.b6 hg (hne _ (by omega)), h.below.grown hg h.below.size (fun k hk => by have := hr k hk; omega)⟩
theorem PkS.alloc (h : PkS w flag A n c W nx right) (o : Obj) : PkS w flag A n c (W.alloc o) nx right := h.grown (grown_alloc W o) (by simp)
theorem PkS.drewN (h : PkS w flag A n c W nx right) (k : Nat) : PkS w flag A n c (W.drewN k) nx right := h.grown (row := none) ⟨rfl, rfl, rfl, Nat.le_refl _, fun _ _ _ => rfl⟩ (by simp)
theorem PkS.next (h : PkS w flag A n c W nx right) (m : Nat) : PkS w flag A n c (W.setCell ⟨w.heap.size + 5, 0, none⟩ (.int .i64 m)) m right :=
  ⟨Blk.apart h.b0 (by omega), Blk.apart h.b1 (by omega), Blk.apart h.b2 (by omega), Blk.apart h.b3 (by omega), Blk.apart h.b4 (by omega), Blk.set h.b5 0 _, Blk.apart h.b6 (by omega), below_set h.below _ 0 _ (by omega)⟩
theorem PkS.c0 (h : PkS w flag A n c W nx right) : W.cell? ⟨w.heap.size, 0, none⟩ = some (.slice A n c) := by rw [h.b0.cell]; rfl
theorem PkS.c1 (h : PkS w flag A n c W nx right) : W.cell? ⟨w.heap.size + 1, 0, none⟩ = some (.int .i64 flag) := by rw [h.b1.cell]; rfl
theorem PkS.c5 (h : PkS w flag A n c W nx right) : W.cell? ⟨w.heap.size + 5, 0, none⟩ = some (.int .i64 nx) := by rw [h.b5.cell]; rfl
theorem PkS.c6 (h : PkS w flag A n c W nx right) : W.cell? ⟨w.heap.size + 6, 0, none⟩ = some (.bool right) := by rw [h.b6.cell]; rfl
end
def rightB (flag : Int) : Bool := decide (flag = 0 ∨ flag = 1 ∨ flag = 3)
/-- Between two rounds. -/
def PkI (w : World) (flag : Int) (A : Option Addr) (c : Nat) (l : List RowV) (pre : List (Nat × RowV)) (W : World) : Prop :=
  ∃ nx : Nat, nx ≤ l.length ∧ PkS w flag A l.length c W nx (rightB flag) ∧ (rightB flag = true → pre ++ pk flag nx (l.drop nx) = pickL flag l)
/-- A round's variables. -/
def PkX (w : World) (F : Nat → Nat × RowV → Act) (_pre : List (Nat × RowV)) (x : Nat × RowV) (a : Act) (W : World) : Prop :=
  ∃ Bx, w.heap.size + 6 < Bx ∧ Blk W Bx RowT' #[.string x.2.code, .string x.2.text, .int .i64 x.2.flag] ∧ a = F Bx x
theorem pkI_own (w : World) (flag : Int) (A : Option Addr) (c : Nat) (l : List RowV) (D : Nat) (hD : w.heap.size + 7 ≤ D) : OwnFrom D (PkI w flag A c l) := by
  rintro s W W' row ⟨nx, h1, h2, h3⟩ hg hr
  exact ⟨nx, h1, h2.grown hg (fun r e => Nat.le_trans hD (hr r e).1), h3⟩
theorem pkI_new (w : World) (flag : Int) (A : Option Addr) (c : Nat) (l : List RowV) : AbN (PkI w flag A c l) := by
  rintro s W W' ⟨nx, h1, h2, h3⟩ hg
  exact ⟨nx, h1, h2.grown hg (by simp), h3⟩
theorem blk_turn {W W' : World} {g : Nat} {t : TypeId} {cs : Array Value} {row : Option Nat} (h : Blk W g t cs) (hg : W.grownBy W' row) (hr : ∀ r, row = some r → ∃ o : Obj, W.heap[r]? = some o ∧ o.isCells = false) : Blk W' g t cs :=
  blk_grown h hg (fun e => by
    obtain ⟨o, ho, hc⟩ := hr g e.symm
    unfold Blk at h
    rw [h] at ho
    injection ho with ho
    rw [← ho] at hc
    cases hc)
theorem pkX_own (w : World) (F : Nat → Nat × RowV → Act) (D : Nat) (pre : List (Nat × RowV)) (x : Nat × RowV) (a : Act) : OwnFrom D (fun (_ : Unit) W => PkX w F pre x a W) := by
  rintro s W W' row ⟨Bx, h1, h2, h3⟩ hg hr
  exact ⟨Bx, h1, blk_turn h2 hg (fun r e => (hr r e).2), h3⟩
theorem func_nil (f : Fn) (a b : Array Value) (w : World) : (binOp BinOp.eql 38 (.func f a b) .nilFunc).run Tryz.prog w = .ok (.bool false) w := by
  have h : (Op.equalIn (9999 + 1) 38 (.func f a b) .nilFunc).run Tryz.prog w = .ok false w := by
    unfold Op.equalIn
    simp [go_sem]
  simp [binOp, Op.equal, go_sem]
  rw [show Op.maxDepth = 9999 + 1 from rfl, h]
  rfl
theorem keepB_set {K : Nat → Prop} (W : World) (b : Nat) (v : Value) (h : ∀ k, K k → k ≠ b) : KeepB K W (W.setCell ⟨b, 0, none⟩ v) := fun k hk => heap_setCell_other W ⟨b, 0, none⟩ k v (h k hk)
theorem Blk.drewN {w : World} {g : Nat} {t : TypeId} {cs : Array Value} (h : Blk w g t cs) (k : Nat) : Blk (w.drewN k) g t cs := h
theorem keepsFrom_drewN (D k : Nat) (W : World) : KeepsFrom D W (W.drewN k) := ⟨Nat.le_refl _, fun _ _ _ h _ => h⟩
theorem keepB_drewN (K : Nat → Prop) (k : Nat) (W : World) : KeepB K W (W.drewN k) := fun _ _ => rfl
/-- How far the next row to be seen is from the end. -/
def leftP (n : Nat) (H : Nat) (w : World) : Nat := match w.cell? ⟨H, 0, none⟩ with | some (.int _ k) => n - k.toNat | _ => 0
set_option maxRecDepth 100000 in
set_option maxHeartbeats 600000 in
theorem picks_any (flag : Int) (A : Option Addr) (c : Nat) (l : List RowV) (hl : l.length ≤ 1000) (w : World) (hR : RowsAt w A l) :
    Calls Tryz.prog 27 #[.slice A l.length c, .int .i64 flag] w fun e w' => e = .returned (.bool true) ∧ Below w.heap.size w w' := by
  have HR := Lib.hid hR
  clear hR
  have hfn := func_nil
  have hdec : ((flag == 0) = true ∧ Hid (rightB flag = true)) ∨ ((flag == 0) = false ∧ (flag == 1) = true ∧ Hid (rightB flag = true)) ∨ ((flag == 0) = false ∧ (flag == 1) = false ∧ (flag == 3) = true ∧ Hid (rightB flag = true)) ∨ ((flag == 0) = false ∧ (flag == 1) = false ∧ (flag == 3) = false ∧ Hid (rightB flag = false)) := by
    by_cases h0 : flag = 0
    · subst h0; exact .inl ⟨by decide, Lib.hid (by decide)⟩
    by_cases h1 : flag = 1
    · subst h1; exact .inr (.inl ⟨by decide, by decide, Lib.hid (by decide)⟩)
    by_cases h3 : flag = 3
    · subst h3; exact .inr (.inr (.inl ⟨by decide, by decide, by decide, Lib.hid (by decide)⟩))
    · exact .inr (.inr (.inr ⟨by simpa using h0, by simpa using h1, by simpa using h3, Lib.hid (by unfold rightB; exact decide_eq_false (by omega))⟩))
  refine (callsIn_wide (n := 5)).1 ?_
  refine callsIn_of_wp_marks Tryz.func27 rfl trivial ?_ rfl
  simp only [Tryz.ntmps27, List.size_toArray, List.length_cons, List.length_nil, Nat.reduceAdd, Nat.reduceSub, Array.replicate_succ, Array.replicate_zero, List.push_toArray, List.append_toArray, List.nil_append, List.cons_append]
  gi_upto_region 5 with (refine ⟨trivial, ?_⟩; gi_at_call 19; refine (callsIn_wide.2 (pick_any flag A l.length c _)).mono ?_; rintro _ _ ⟨rfl, rfl⟩)
  obtain ⟨V0, hV0⟩ : ∃ V0, (((((w.alloc (.cells #[.slice A l.length c] RowsT)).alloc (.cells #[.int .i64 flag] IntT)).alloc (.cells #[.bool false] BoolT)).alloc (.cells #[.int .i64 flag] IntT)).alloc (.cells #[.slice A l.length c] RowsT)).alloc (.cells #[.int .i64 0] IntT) = V0 := ⟨_, rfl⟩
  rw [hV0]
  have hsz : V0.heap.size = w.heap.size + 6 := by rw [← hV0]; simp
  have v1 : Blk V0 (w.heap.size + 1) IntT #[.int .i64 flag] := by
    have h := ((((Blk.new (w.alloc (.cells #[.slice A l.length c] RowsT)) IntT #[.int .i64 flag]).alloc (.cells #[.bool false] BoolT)).alloc (.cells #[.int .i64 flag] IntT)).alloc (.cells #[.slice A l.length c] RowsT)).alloc (.cells #[.int .i64 0] IntT)
    rw [World.size_alloc, hV0] at h
    exact h
  have hS0 : PkS w flag A l.length c (V0.alloc (.cells #[.bool (rightB flag)] BoolT)) 0 (rightB flag) := by
    have a0 := (((((Blk.new w RowsT #[.slice A l.length c]).alloc (.cells #[.int .i64 flag] IntT)).alloc (.cells #[.bool false] BoolT)).alloc (.cells #[.int .i64 flag] IntT)).alloc (.cells #[.slice A l.length c] RowsT)).alloc (.cells #[.int .i64 0] IntT)
    have a2 := (((Blk.new ((w.alloc (.cells #[.slice A l.length c] RowsT)).alloc (.cells #[.int .i64 flag] IntT)) BoolT #[.bool false]).alloc (.cells #[.int .i64 flag] IntT)).alloc (.cells #[.slice A l.length c] RowsT)).alloc (.cells #[.int .i64 0] IntT)
    have a3 := ((Blk.new (((w.alloc (.cells #[.slice A l.length c] RowsT)).alloc (.cells #[.int .i64 flag] IntT)).alloc (.cells #[.bool false] BoolT)) IntT #[.int .i64 flag]).alloc (.cells #[.slice A l.length c] RowsT)).alloc (.cells #[.int .i64 0] IntT)
    have a4 := (Blk.new ((((w.alloc (.cells #[.slice A l.length c] RowsT)).alloc (.cells #[.int .i64 flag] IntT)).alloc (.cells #[.bool false] BoolT)).alloc (.cells #[.int .i64 flag] IntT)) RowsT #[.slice A l.length c]).alloc (.cells #[.int .i64 0] IntT)
    have a5 := Blk.new (((((w.alloc (.cells #[.slice A l.length c] RowsT)).alloc (.cells #[.int .i64 flag] IntT)).alloc (.cells #[.bool false] BoolT)).alloc (.cells #[.int .i64 flag] IntT)).alloc (.cells #[.slice A l.length c] RowsT)) IntT #[.int .i64 0]
    have ab : Below w.heap.size w ((((((w.alloc (.cells #[.slice A l.length c] RowsT)).alloc (.cells #[.int .i64 flag] IntT)).alloc (.cells #[.bool false] BoolT)).alloc (.cells #[.int .i64 flag] IntT)).alloc (.cells #[.slice A l.length c] RowsT)).alloc (.cells #[.int .i64 0] IntT)) := ((((((Below.refl _ w).alloc (Nat.le_refl _) _).alloc (by simp) _).alloc (by simp; omega) _).alloc (by simp; omega) _).alloc (by simp; omega) _).alloc (by simp; omega) _
    simp only [World.size_alloc, hV0, Nat.add_assoc, Nat.reduceAdd] at a0 a2 a3 a4 a5 ab
    have a6 := Blk.new V0 BoolT #[.bool (rightB flag)]
    rw [hsz] at a6
    exact ⟨Blk.alloc a0 _, Blk.alloc v1 _, Blk.alloc a2 _, Blk.alloc a3 _, Blk.alloc a4 _, Blk.alloc a5 _, a6, ab.alloc (by omega) _⟩
  have HS0 := Lib.hid hS0
  have HSZ := Lib.hid hsz
  have q1 : V0.cell? ⟨w.heap.size + 1, 0, none⟩ = some (.int .i64 flag) := by rw [v1.cell]; rfl
  clear hV0 hS0 v1 hsz
  gi_cut [7] from 15 (fun s7 wx => s7 = .pointer (some ⟨V0.heap.size, 0, none⟩) ∧ wx = V0.alloc (.cells #[.bool (rightB flag)] BoolT))
  case first =>
    rcases hdec with ⟨e0, HB⟩ | ⟨e0, e1, HB⟩ | ⟨e0, e1, e3, HB⟩ | ⟨e0, e1, e3, HB⟩
    all_goals
      gi_wp2
      gi_meet
      exact ⟨rfl, by rw [HB.out]⟩
  case rest =>
  obtain ⟨rfl, rfl⟩ := hcut
  clear q1
  rw [HSZ.out]
  obtain ⟨W0, hW0⟩ : ∃ W0, V0.alloc (.cells #[.bool (rightB flag)] BoolT) = W0 := ⟨_, rfl⟩
  rw [hW0] at HS0 ⊢
  have hsz0 : W0.heap.size = w.heap.size + 7 := by rw [← hW0, World.size_alloc, HSZ.out]
  have HZ0 := Lib.hid hsz0
  clear hW0 HSZ V0
  simp only [Nat.add_assoc, Nat.reduceAdd]
  gi_wp2
  have hKA : l ≠ [] → ∀ a, A = some a → (a.block < w.heap.size ∨ a.block = w.heap.size + 3 ∨ a.block = w.heap.size + 4) := fun hne a ha => by
    obtain ⟨b, o, e, hlt, _⟩ := HR.out hne
    rw [e] at ha
    injection ha with ha
    rw [← ha]
    exact .inl hlt
  have HKA := Lib.hid hKA
  clear hKA
  refine range_all (n := 5) (by omega) (gf := 35) (lb := #[.pointer (some ⟨w.heap.size + 3, 0, none⟩), .pointer (some ⟨w.heap.size + 4, 0, none⟩)]) rfl (enters_of Tryz.func35 (by kernel_rfl) rfl) (encs := fun x : Nat × RowV => #[Value.int .i64 (x.1 : Int), Value.agg #[.string x.2.code, .string x.2.text, .int .i64 x.2.flag]])
    (fun b => b < w.heap.size ∨ b = w.heap.size + 3 ∨ b = w.heap.size + 4) (by intro b hb; rw [HZ0.out]; omega) (pickL flag l) (fun _ => rfl)
    (fun l0 J W hW hJ hY h0 => pick1_any 4 l0 (w.heap.size + 3) flag A c l hl _ (Or.inr (Or.inl rfl)) (Or.inr (Or.inr rfl)) HKA.out J W hJ hY (by omega) (Blk.below HS0.out.b3 hW HS0.out.b3.lt) (Blk.below HS0.out.b4 hW HS0.out.b4.lt) ((HR.out.keep HS0.out.below).keep hW) h0)
    (PkI w flag A c l) (pkI_own w flag A c l _ (by rw [HZ0.out]; exact Nat.le_refl _)) (pkI_new w flag A c l)
    ⟨0, Nat.zero_le _, HS0.out, fun h => by unfold pickL; rw [if_pos (of_decide_eq_true h)]; rfl⟩
    (PkX w fun Bx x => { tmps := #[.slice A l.length c, .int .i64 flag, .pointer (some ⟨w.heap.size, 0, none⟩), .pointer (some ⟨w.heap.size + 1, 0, none⟩), .pointer (some ⟨w.heap.size + 2, 0, none⟩), .func (.func 35) #[] #[.pointer (some ⟨w.heap.size + 3, 0, none⟩), .pointer (some ⟨w.heap.size + 4, 0, none⟩)], .pointer (some ⟨w.heap.size + 5, 0, none⟩), .pointer (some ⟨w.heap.size + 6, 0, none⟩), .int .i64 x.1, .pointer (some ⟨Bx, 0, none⟩), .int .i64 flag, .slice A l.length c, .func (.func 35) #[] #[.pointer (some ⟨w.heap.size + 3, 0, none⟩), .pointer (some ⟨w.heap.size + 4, 0, none⟩)], .func (.func 35) #[] #[.pointer (some ⟨w.heap.size + 3, 0, none⟩), .pointer (some ⟨w.heap.size + 4, 0, none⟩)], .bool false, u15, u16, u17, u18, u19, u20, u21, u22, u23, u24, .func (.func 35) #[] #[.pointer (some ⟨w.heap.size + 3, 0, none⟩), .pointer (some ⟨w.heap.size + 4, 0, none⟩)], .int .i64 x.1, .agg #[.string x.2.code, .string x.2.text, .int .i64 x.2.flag], u28, u29, u30, u31, u32, u33, u34, u35, u36, u37, u38, u39, u40, u41, u42, u43, u44, u45, u46, u47, u48, u49, u50, u51, u52, u53, u54, u55, u56, u57, u58, u59, u60, u61, u62, u63, u64, u65, u66, u67, u68, u69, u70, u71, u72, u73, u74, u75, u76, u77, u78, u79, u80, u81, u82, u83, u84, u85, u86, u87, u88, u89, u90, u91, u92, u93, u94, u95, u96, u97, u98, u99, u100, u101, u102, u103, u104], defers := [] }) (pkX_own w _ _) ?assign ?body ?done
  case assign =>
    rintro l0 pre x W K2 ⟨nx, hnx, hS, hP⟩ hK
    gi_wp2
    exact hK _ _ ((KeepsOthers.alloc _ _).from _) (fun b hb => Below.heap_alloc W _ b (by have := hS.b6.lt; omega)) ⟨nx, hnx, hS.alloc _, hP⟩ ⟨W.heap.size, hS.b6.lt, Blk.new W _ _, rfl⟩
  case body =>
    rintro l0 pre x a' W hpx ⟨nx, hnx, hS, hP⟩ ⟨Bx, hBx, hbX, rfl⟩
    obtain ⟨tl, htl⟩ := hpx
    have hright : rightB flag = true := by
      cases hr : rightB flag with
      | true => rfl
      | false =>
        have : pickL flag l = [] := by unfold pickL; rw [if_neg (of_decide_eq_false hr)]
        rw [this] at htl
        simp at htl
    have hpk : pk flag nx (l.drop nx) = x :: tl := by
      have h := hP hright
      rw [← htl, List.append_assoc] at h
      exact List.append_cancel_left h
    rw [hright] at hS
    obtain ⟨i, r⟩ := x
    have HTL := Lib.hid htl
    have HRT := Lib.hid hright
    clear hP htl hright hdec HS0
    have hm1 : Tryz.prog.follows .mixedOrders = true := by kernel_rfl
    gi_wp2
    gi_loopw [28] (fun _ wr => ∃ m : Nat, m ≤ l.length ∧ PkS w flag A l.length c wr m true ∧ Blk wr Bx RowT' #[.string r.code, .string r.text, .int .i64 r.flag] ∧ pk flag m (l.drop m) = (i, r) :: tl ∧ KeepsFrom W0.heap.size W wr ∧ KeepB (fun b => b < w.heap.size ∨ b = w.heap.size + 3 ∨ b = w.heap.size + 4) W wr) (fun _ wr => leftP l.length (w.heap.size + 5) wr)
    case atStart => exact ⟨nx, hnx, hS, hbX, hpk, KeepsFrom.refl _ _, fun _ _ => rfl⟩
    case round =>
      obtain ⟨m, hm, hSm, hbm, hpm, hkf, hkb⟩ := hrel
      have hlt : m < l.length := by
        rcases Nat.lt_or_ge m l.length with h | h
        · exact h
        · rw [List.drop_eq_nil_of_le h] at hpm; cases hpm
      have hd := pk_drop flag l m hlt
      rw [hpm] at hd
      have c0 := hSm.c0
      have c1 := hSm.c1
      have c5 := hSm.c5
      have c6 := hSm.c6
      have hfr5 := Blk.frz hSm.b5 0
      obtain ⟨bk, o, rfl, hbk, r0, r1, r2⟩ := (HR.out.keep hSm.below).at_ hlt
      have HSM := Lib.hid hSm
      have HBM := Lib.hid hbm
      have HKF := Lib.hid hkf
      have HKB := Lib.hid hkb
      have HPM := Lib.hid hpm
      have HD := Lib.hid hd
      have a1 : decide ((m : Int) < (l.length : Int)) = true := decide_eq_true (by omega)
      have j0 : (0 : Int) ≤ (m : Int) := by omega
      have j1 : (m : Int) < (l.length : Int) := by omega
      have hkw : IntKind.i64.wrap ((m : Int) + 1) = (m : Int) + 1 := IntWalk.i64_in _ (by omega)
      clear hpm hd hkf hkb hbk hS hbX hpk hSm hbm
      by_cases hel : l[m].flag = 0 ∨ l[m].flag = flag
      · have hdd := HD.out
        rw [if_pos hel] at hdd
        injection hdd with hx htl2
        injection hx with hi hr
        have HT2 : Hid (tl = pk flag (m + 1) (l.drop (m + 1))) := Lib.hid htl2
        have hye : (l[m].flag == 0) = true ∨ ((l[m].flag == 0) = false ∧ (l[m].flag == flag) = true) := by
          by_cases h : l[m].flag = 0
          · left; simpa using h
          · right
            refine ⟨by simpa using h, ?_⟩
            rcases hel with h2 | h2
            · exact absurd h2 h
            · simpa using h2
        clear hel htl2 HD HPM
        rw [← hr] at r0 r1 r2 hye
        clear hr
        subst hi
        obtain ⟨qc, qt, qf⟩ := r
        replace r0 : wr.cell? ⟨bk, o + i * 3, none⟩ = some (.string qc) := r0
        replace r1 : wr.cell? ⟨bk, o + i * 3 + 1, none⟩ = some (.string qt) := r1
        replace r2 : wr.cell? ⟨bk, o + i * 3 + 2, none⟩ = some (.int .i64 qf) := r2
        replace hye : (qf == 0) = true ∨ ((qf == 0) = false ∧ (qf == flag) = true) := hye
        have x0 : wr.cell? ⟨Bx, 0, none⟩ = some (.string qc) := by rw [HBM.out.cell]; rfl
        have x1 : wr.cell? ⟨Bx, 1, none⟩ = some (.string qt) := by rw [HBM.out.cell]; rfl
        have x2 : wr.cell? ⟨Bx, 2, none⟩ = some (.int .i64 qf) := by rw [HBM.out.cell]; rfl
        have b1 : decide ((l.length : Int) ≤ (i : Int)) = false := decide_eq_false (by omega)
        have e4 : ((i : Int) != (i : Int)) = false := by simp
        rcases hye with e0 | ⟨e0, e1⟩
        all_goals
          first
            | have e2 : (qf != 0) = false := by simp [bne, e0]
            | (have e2 : (qf != 0) = true := by simp [bne, e0]
               have e3 : (qf != flag) = false := by simp [bne, e1])
          gi_wp2
          refine wpIn_region_quiet_round (by simp) hm1 (by kernel_rfl) ?_
          repeat (first | gi_big_quiet_step (fail) | quiet_step_in (fail))
          refine wpQuietIn_nil ?_
          intro _ hw'
          obtain ⟨nq, hw''⟩ := hw'
          subst hw''
          obtain ⟨W4, hW4⟩ : ∃ W4, wr.drewN nq = W4 := ⟨_, rfl⟩
          have hcl : ∀ a, W4.cell? a = wr.cell? a := fun a => by rw [← hW4]; rfl
          replace c0 := (hcl _).trans c0
          replace c1 := (hcl _).trans c1
          replace c5 := (hcl _).trans c5
          replace c6 := (hcl _).trans c6
          replace hfr5 : W4.frozen? ⟨w.heap.size + 5, 0, none⟩ = false := by rw [← hW4]; exact hfr5
          replace r0 := (hcl _).trans r0
          replace r1 := (hcl _).trans r1
          replace r2 := (hcl _).trans r2
          replace x0 := (hcl _).trans x0
          replace x1 := (hcl _).trans x1
          replace x2 := (hcl _).trans x2
          have HS4 : Hid (PkS w flag (some ⟨bk, o, none⟩) l.length c W4 i true) := Lib.hid (hW4 ▸ HSM.out.drewN nq)
          have HK4 : Hid (KeepsFrom W0.heap.size W W4) := Lib.hid (hW4 ▸ HKF.out.trans (keepsFrom_drewN _ nq wr))
          have HB4 : Hid (KeepB (fun b => b < w.heap.size ∨ b = w.heap.size + 3 ∨ b = w.heap.size + 4) W W4) := Lib.hid (hW4 ▸ HKB.out.trans (keepB_drewN _ nq wr))
          rw [hW4]
          clear hcl hW4 HSM HKF HKB HBM
          gi_wp2
          refine wpIn_region_quiet_round (by simp) hm1 (by kernel_rfl) ?_
          repeat (first | gi_big_quiet_step (fail) | quiet_step_in (fail))
          refine wpQuietIn_nil ?_
          intro _ hw'
          obtain ⟨nq2, hw''⟩ := hw'
          subst hw''
          obtain ⟨W5, hW5⟩ : ∃ W5, W4.drewN nq2 = W5 := ⟨_, rfl⟩
          have hcl : ∀ a, W5.cell? a = W4.cell? a := fun a => by rw [← hW5]; rfl
          replace c5 := (hcl _).trans c5
          replace hfr5 : W5.frozen? ⟨w.heap.size + 5, 0, none⟩ = false := by rw [← hW5]; exact hfr5
          have HS5 : Hid (PkS w flag (some ⟨bk, o, none⟩) l.length c W5 i true) := Lib.hid (hW5 ▸ HS4.out.drewN nq2)
          have HK5 : Hid (KeepsFrom W0.heap.size W W5) := Lib.hid (hW5 ▸ HK4.out.trans (keepsFrom_drewN _ nq2 W4))
          have HB5 : Hid (KeepB (fun b => b < w.heap.size ∨ b = w.heap.size + 3 ∨ b = w.heap.size + 4) W W5) := Lib.hid (hW5 ▸ HB4.out.trans (keepB_drewN _ nq2 W4))
          rw [hW5]
          clear hcl hW5 HS4 HK4 HB4 c0 c1 c6 r0 r1 r2 x0 x1 x2
          gi_wp2
          refine ⟨HK5.out.trans ((KeepsOthers.setCell _ _ _).from _), HB5.out.trans (keepB_set _ _ _ (fun k hk => by omega)), i + 1, by omega, ?_, fun _ => ?_⟩
          · rw [HRT.out]; exact HS5.out.next (i + 1)
          · rw [← HT2.out]; exact HTL.out
      · have e0 : (l[m].flag == 0) = false := by simp; omega
        have e1 : (l[m].flag == flag) = false := by simp; omega
        have e2 : (l[m].flag != 0) = true := by simp [bne, e0]
        have e3 : (l[m].flag != flag) = true := by simp [bne, e1]
        have hpm1 := HD.out
        rw [if_neg hel] at hpm1
        have HP1 := Lib.hid hpm1
        clear hel hpm1
        generalize l[m] = q at *
        obtain ⟨qc, qt, qf⟩ := q
        replace r0 : wr.cell? ⟨bk, o + m * 3, none⟩ = some (.string qc) := r0
        replace r1 : wr.cell? ⟨bk, o + m * 3 + 1, none⟩ = some (.string qt) := r1
        replace r2 : wr.cell? ⟨bk, o + m * 3 + 2, none⟩ = some (.int .i64 qf) := r2
        gi_wp2
        refine wpIn_region_quiet_round (by simp) hm1 (by kernel_rfl) ?_
        repeat (first | gi_big_quiet_step (fail) | quiet_step_in (fail))
        refine wpQuietIn_nil ?_
        intro _ hw'
        obtain ⟨nq, hw''⟩ := hw'
        subst hw''
        have d5 : (wr.drewN nq).cell? ⟨w.heap.size + 5, 0, none⟩ = some (.int .i64 m) := c5
        have df5 : (wr.drewN nq).frozen? ⟨w.heap.size + 5, 0, none⟩ = false := hfr5
        clear c0 c1 c5 c6 r0 r1 r2 hfr5
        gi_wp2
        go_roundw
        case rel =>
          refine ⟨m + 1, by omega, (HSM.out.drewN nq).next (m + 1), Blk.apart (Blk.drewN HBM.out nq) (by omega), HP1.out.symm, (HKF.out.trans (keepsFrom_drewN _ nq wr)).trans ((KeepsOthers.setCell _ _ _).from _), (HKB.out.trans (keepB_drewN _ nq wr)).trans (keepB_set _ _ _ (fun k hk => by omega))⟩
        case measure =>
          have h1 := ((HSM.out.drewN nq).next (m + 1)).c5
          have h2 := HSM.out.c5
          unfold leftP
          rw [h2]
          show (match ((wr.drewN nq).setCell ⟨w.heap.size + 5, 0, none⟩ (.int .i64 ((m : Int) + 1))).cell? ⟨w.heap.size + 5, 0, none⟩ with | some (.int _ k) => l.length - k.toNat | _ => 0) < _
          have e : (.int .i64 ((m : Int) + 1) : Value) = .int .i64 ((m + 1 : Nat) : Int) := by go_num
          rw [e, h1]
          simp
          omega
  case done =>
    rintro D W hD ⟨nx, hnx, hS, hP⟩ hK
    rw [HZ0.out] at hD
    have hm1 : Tryz.prog.follows .mixedOrders = true := by kernel_rfl
    have hpk : rightB flag = true → pk flag nx (l.drop nx) = [] := fun hr => by
      have h := hP hr
      exact List.append_right_eq_self.1 h
    have HEND : Hid (∀ Wx m, PkS w flag A l.length c Wx m (rightB flag) → Wx.heap[D]? = some (.deferred (some [])) → (Wx.setCell ⟨w.heap.size + 2, 0, none⟩ (.bool true)).heap[D]? = some (.deferred (some [])) ∧ ((Wx.setCell ⟨w.heap.size + 2, 0, none⟩ (.bool true)).putObj D (.deferred none)).cell? ⟨w.heap.size + 2, 0, none⟩ = some (.bool true) ∧ Below w.heap.size w ((Wx.setCell ⟨w.heap.size + 2, 0, none⟩ (.bool true)).putObj D (.deferred none))) := Lib.hid fun Wx m hx hd => by
      have hs := Blk.set hx.b2 0 (.bool true)
      have hb := below_set hx.below (w.heap.size + 2) 0 (.bool true) (by omega)
      refine ⟨(heap_setCell_other Wx ⟨w.heap.size + 2, 0, none⟩ D _ (by show D ≠ w.heap.size + 2; omega)).trans hd, ?_, hb.grown (grownBy_putObj' _ D _) hb.size (fun k e => by cases e; omega)⟩
      have hp : Blk ((Wx.setCell ⟨w.heap.size + 2, 0, none⟩ (.bool true)).putObj D (.deferred none)) (w.heap.size + 2) BoolT _ := (World.putObj_heap_other (by omega)).trans hs
      rw [hp.cell]
      rfl
    clear hP hdec HS0
    gi_wp2
    gi_loopw [74] (fun _ wr => ∃ m : Nat, m ≤ l.length ∧ PkS w flag A l.length c wr m (rightB flag) ∧ (rightB flag = true → pk flag m (l.drop m) = []) ∧ wr.heap[D]? = some (.deferred (some []))) (fun _ wr => leftP l.length (w.heap.size + 5) wr)
    case atStart => exact ⟨nx, hnx, hS, hpk, hK⟩
    case round =>
      obtain ⟨m, hm, hSm, hpm, hKm⟩ := hrel
      have c0 := hSm.c0
      have c1 := hSm.c1
      have c5 := hSm.c5
      have c6 := hSm.c6
      have hfr5 := Blk.frz hSm.b5 0
      have hfr2 := Blk.frz hSm.b2 0
      have c2 : wr.cell? ⟨w.heap.size + 2, 0, none⟩ = some (.bool false) := by rw [hSm.b2.cell]; rfl
      have HSM := Lib.hid hSm
      have HPM := Lib.hid hpm
      have HKM := Lib.hid hKm
      have j0 : (0 : Int) ≤ (m : Int) := by omega
      clear hpk hS hK hpm hKm
      by_cases hlt : m < l.length
      · have hd := pk_drop flag l m hlt
        obtain ⟨bk, o, rfl, hbk, r0, r1, r2⟩ := (HR.out.keep hSm.below).at_ hlt
        have HD := Lib.hid hd
        have a1 : decide ((m : Int) < (l.length : Int)) = true := decide_eq_true (by omega)
        have j1 : (m : Int) < (l.length : Int) := by omega
        have hkw : IntKind.i64.wrap ((m : Int) + 1) = (m : Int) + 1 := IntWalk.i64_in _ (by omega)
        clear hd hbk hSm
        by_cases hel : l[m].flag = 0 ∨ l[m].flag = flag
        · have hnr : rightB flag = false := by
            cases hr : rightB flag with
            | false => rfl
            | true =>
              have h := HPM.out hr
              rw [HD.out, if_pos hel] at h
              cases h
          have hye : (l[m].flag == 0) = true ∨ ((l[m].flag == 0) = false ∧ (l[m].flag == flag) = true) := by
            by_cases h : l[m].flag = 0
            · left; simpa using h
            · right
              refine ⟨by simpa using h, ?_⟩
              rcases hel with h2 | h2
              · exact absurd h2 h
              · simpa using h2
          rw [hnr] at c6
          clear hel HD HPM
          generalize l[m] = q at *
          obtain ⟨qc, qt, qf⟩ := q
          replace r2 : wr.cell? ⟨bk, o + m * 3 + 2, none⟩ = some (.int .i64 qf) := r2
          replace hye : (qf == 0) = true ∨ ((qf == 0) = false ∧ (qf == flag) = true) := hye
          clear r0 r1 hnr
          rcases hye with e0 | ⟨e0, e1⟩
          all_goals
            first
              | have e2 : (qf != 0) = false := by simp [bne, e0]
              | (have e2 : (qf != 0) = true := by simp [bne, e0]
                 have e3 : (qf != flag) = false := by simp [bne, e1])
            gi_wp2
            refine wpIn_region_quiet_lit rfl hm1 (by kernel_rfl) ?_
            repeat (first | gi_big_quiet_step (fail) | quiet_step_in (fail))
            refine wpQuietIn_nil ?_
            intro _ hw'
            obtain ⟨nq, hw''⟩ := hw'
            subst hw''
            obtain ⟨W4, hW4⟩ : ∃ W4, wr.drewN nq = W4 := ⟨_, rfl⟩
            have hcl : ∀ a, W4.cell? a = wr.cell? a := fun a => by rw [← hW4]; rfl
            replace c0 := (hcl _).trans c0
            replace c1 := (hcl _).trans c1
            replace c2 := (hcl _).trans c2
            replace c5 := (hcl _).trans c5
            replace c6 := (hcl _).trans c6
            replace hfr2 : W4.frozen? ⟨w.heap.size + 2, 0, none⟩ = false := by rw [← hW4]; exact hfr2
            obtain ⟨hE1, hE2, hE3⟩ := HEND.out W4 _ (hW4 ▸ HSM.out.drewN nq) (by rw [← hW4]; exact HKM.out)
            rw [hW4]
            clear hcl hW4 HSM HKM
            gi_wp2
            refine ⟨by simp, .inl ⟨_, _, rfl, run_takeDeferred hE1, ?_⟩⟩
            refine ⟨_, (by simp [results, Tryz.results27, go_sem, hE2]; try rfl), ?_⟩
            exact ⟨rfl, hE3⟩
        · have e0 : (l[m].flag == 0) = false := by simp; omega
          have e1 : (l[m].flag == flag) = false := by simp; omega
          have e2 : (l[m].flag != 0) = true := by simp [bne, e0]
          have e3 : (l[m].flag != flag) = true := by simp [bne, e1]
          have hd2 := HD.out
          rw [if_neg hel] at hd2
          have HP1 : Hid (rightB flag = true → pk flag (m + 1) (l.drop (m + 1)) = []) := Lib.hid fun hr => by rw [← hd2]; exact HPM.out hr
          clear hel hd2 HD HPM
          generalize l[m] = q at *
          obtain ⟨qc, qt, qf⟩ := q
          replace r2 : wr.cell? ⟨bk, o + m * 3 + 2, none⟩ = some (.int .i64 qf) := r2
          clear r0 r1 c6 hfr2 c2
          gi_wp2
          refine wpIn_region_quiet_lit rfl hm1 (by kernel_rfl) ?_
          repeat (first | gi_big_quiet_step (fail) | quiet_step_in (fail))
          refine wpQuietIn_nil ?_
          intro _ hw'
          obtain ⟨nq, hw''⟩ := hw'
          subst hw''
          have d5 : (wr.drewN nq).cell? ⟨w.heap.size + 5, 0, none⟩ = some (.int .i64 m) := c5
          have df5 : (wr.drewN nq).frozen? ⟨w.heap.size + 5, 0, none⟩ = false := hfr5
          clear c0 c1 c5 r2 hfr5
          gi_wp2
          go_roundw
          case rel => exact ⟨m + 1, by omega, (HSM.out.drewN nq).next (m + 1), HP1.out, by rw [heap_setCell_other _ ⟨w.heap.size + 5, 0, none⟩ D _ (by show D ≠ w.heap.size + 5; omega)]; exact HKM.out⟩
          case measure =>
            have h1 := ((HSM.out.drewN nq).next (m + 1)).c5
            have h2 := HSM.out.c5
            unfold leftP
            rw [h2]
            show (match ((wr.drewN nq).setCell ⟨w.heap.size + 5, 0, none⟩ (.int .i64 ((m : Int) + 1))).cell? ⟨w.heap.size + 5, 0, none⟩ with | some (.int _ k) => l.length - k.toNat | _ => 0) < _
            have e : (.int .i64 ((m : Int) + 1) : Value) = .int .i64 ((m + 1 : Nat) : Int) := by go_num
            rw [e, h1]
            simp
            omega
      · obtain rfl : m = l.length := by omega
        have a1 : decide ((l.length : Int) < (l.length : Int)) = false := decide_eq_false (by omega)
        have e9 : (((l.length : Int)) == (l.length : Int)) = true := by simp
        clear hlt hSm HPM
        cases hrb : rightB flag
        all_goals
          rw [hrb] at c6
          have HRB := Lib.hid hrb
          clear hrb
          gi_wp2
          refine wpIn_region_quiet_lit rfl hm1 (by kernel_rfl) ?_
          repeat (first | gi_big_quiet_step (fail) | quiet_step_in (fail))
          refine wpQuietIn_nil ?_
          intro _ hw'
          obtain ⟨nq, hw''⟩ := hw'
          subst hw''
          obtain ⟨W4, hW4⟩ : ∃ W4, wr.drewN nq = W4 := ⟨_, rfl⟩
          have hcl : ∀ a, W4.cell? a = wr.cell? a := fun a => by rw [← hW4]; rfl
          replace c0 := (hcl _).trans c0
          replace c1 := (hcl _).trans c1
          replace c2 := (hcl _).trans c2
          replace c5 := (hcl _).trans c5
          replace c6 := (hcl _).trans c6
          replace hfr2 : W4.frozen? ⟨w.heap.size + 2, 0, none⟩ = false := by rw [← hW4]; exact hfr2
          obtain ⟨hE1, hE2, hE3⟩ := HEND.out W4 _ (hW4 ▸ HSM.out.drewN nq) (by rw [← hW4]; exact HKM.out)
          rw [hW4]
          clear hcl hW4 HSM HKM
          gi_wp2
          refine ⟨by simp, .inl ⟨_, _, rfl, run_takeDeferred hE1, ?_⟩⟩
          refine ⟨_, (by simp [results, Tryz.results27, go_sem, hE2]; try rfl), ?_⟩
          exact ⟨rfl, hE3⟩
end Go.Proofs.YtopaoejapnakiaaGreatDoor.Mf
