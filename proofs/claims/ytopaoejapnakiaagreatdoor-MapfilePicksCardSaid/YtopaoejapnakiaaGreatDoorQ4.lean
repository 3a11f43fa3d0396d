/- Walks: mapfile.Pick, and the function that it hands back. -/
import Derived.Test.YtopaoejapnakiaaGreatDoorQ1
import Derived.Test.YtopaoejapnakiaaGreatDoorM8
import Derived.Test.YtopaoejapnakiaaGreatDoorL6
namespace Go.Proofs.YtopaoejapnakiaaGreatDoor.Mf
open Go.RowKit Go.Shelf
attribute [local go_sem] Oper.semAt_some

abbrev RowT' : TypeId := 41
abbrev IntT : TypeId := 3
abbrev RowsT : TypeId := 23
abbrev BoolT : TypeId := 4
/-- The rows that are for something, with their numbers. -/
def pk (flag : Int) : Nat → List RowV → List (Nat × RowV)
  | _, [] => []
  | i, r :: t => if r.flag = 0 ∨ r.flag = flag then (i, r) :: pk flag (i + 1) t else pk flag (i + 1) t
def pickL (flag : Int) (l : List RowV) : List (Nat × RowV) := if flag = 0 ∨ flag = 1 ∨ flag = 3 then pk flag 0 l else []
theorem pk_drop (flag : Int) (l : List RowV) (k : Nat) (hk : k < l.length) : pk flag k (l.drop k) = if l[k].flag = 0 ∨ l[k].flag = flag then (k, l[k]) :: pk flag (k + 1) (l.drop (k + 1)) else pk flag (k + 1) (l.drop (k + 1)) := by
  rw [List.drop_eq_getElem_cons hk]
  rfl
theorem pick_any (flag : Int) (A : Option Addr) (n c : Nat) (w : World) :
    Calls Tryz.prog 19 #[.int .i64 flag, .slice A n c] w fun e w' => e = .returned (.func (.func 35) #[] #[.pointer (some ⟨w.heap.size, 0, none⟩), .pointer (some ⟨w.heap.size + 1, 0, none⟩)]) ∧ ((w.alloc (.cells #[.int .i64 flag] IntT)).alloc (.cells #[.slice A n c] RowsT)) = w' := by
  go_enter Tryz.func19, Tryz.ntmps19
  go_wp2_with fail
  go_returns
  exact ⟨by simp, rfl⟩
/-- What is yielded: a number and a row. -/
def encP (x : Nat × RowV) : Array Value := #[.int .i64 x.1, .agg #[.string x.2.code, .string x.2.text, .int .i64 x.2.flag]]
theorem RowsAt.keepB {K : Nat → Prop} {w w' : World} {A : Option Addr} {l : List RowV} (h : RowsAt w A l) (hk : KeepB K w w') (hK : l ≠ [] → ∀ a, A = some a → K a.block) : RowsAt w' A l := fun hn => by
  obtain ⟨b, o, e, hlt, hc⟩ := h hn
  have hb : w'.heap[b]? = w.heap[b]? := hk b (hK hn _ e)
  have hcell : ∀ i, w'.cell? ⟨b, i, none⟩ = w.cell? ⟨b, i, none⟩ := fun i => by simp only [World.cell?, hb]
  refine ⟨b, o, e, ?_, fun i hi => ?_⟩
  · have h2 : w.heap[b]? = some w.heap[b] := Array.getElem?_eq_getElem hlt
    rw [← hb] at h2
    exact (Array.getElem?_eq_some_iff.1 h2).1
  · obtain ⟨h0, h1, h2⟩ := hc i hi
    exact ⟨(hcell _).trans h0, (hcell _).trans h1, (hcell _).trans h2⟩
theorem Blk.keepB {K : Nat → Prop} {w w' : World} {g : Nat} {t : TypeId} {cs : Array Value} (h : Blk w g t cs) (hk : KeepB K w w') (hg : K g) : Blk w' g t cs := (hk g hg).trans h
theorem grown_alloc (w : World) (o : Obj) : w.grownBy (w.alloc o) none := ⟨rfl, rfl, rfl, by simp, fun k hk _ => Below.heap_alloc w o k hk⟩
set_option maxRecDepth 100000 in
set_option maxHeartbeats 1600000 in
theorem pick1_any (m l0 B : Nat) (flag : Int) (A : Option Addr) (c : Nat) (l : List RowV) (hl : l.length ≤ 1000) (K : Nat → Prop) (hKB : K B) (hKB1 : K (B + 1)) (hKA : l ≠ [] → ∀ a, A = some a → K a.block)
    (J : List (Nat × RowV) → World → Prop) (W : World) (hJ : AbN J)
    (hY : ∀ pre x W1, pre ++ [x] <+: pickL flag l → J pre W1 → YieldAt Fence.wide (m - 1) Tryz.prog l0 (encP x) W1 fun e W' => e = .returned (.bool true) ∧ J (pre ++ [x]) W' ∧ KeepB K W1 W')
    (hm : 1 ≤ m) (hk0 : Blk W B IntT #[.int .i64 flag]) (hk1 : Blk W (B + 1) RowsT #[.slice A l.length c]) (hR : RowsAt W A l) (h0 : J [] W) :
    CallsIn Fence.wide m Tryz.prog 35 (#[.func (.yield l0) #[] #[]] ++ #[.pointer (some ⟨B, 0, none⟩), .pointer (some ⟨B + 1, 0, none⟩)]) W fun e W' => (∃ v, e = .returned v) ∧ J (pickL flag l) W' := by
  have c0 : W.cell? ⟨B, 0, none⟩ = some (.int .i64 flag) := by rw [hk0.cell]; rfl
  have c1 : W.cell? ⟨B + 1, 0, none⟩ = some (.slice A l.length c) := by rw [hk1.cell]; rfl
  have HJ := Lib.hid hJ
  have HY := Lib.hid hY
  have H0 := Lib.hid h0
  have HK0 := Lib.hid hk0
  have HK1 := Lib.hid hk1
  have HR := Lib.hid hR
  have HKA := Lib.hid hKA
  have HKB := Lib.hid (And.intro hKB hKB1)
  clear hJ hY h0 hk0 hk1 hR hKA hKB hKB1
  refine callsIn_of_wp Tryz.func35 rfl trivial ?_ rfl
  simp only [Tryz.ntmps35, List.size_toArray, List.length_cons, List.length_nil, Nat.reduceAdd, Nat.reduceSub, Array.replicate_succ, Array.replicate_zero, List.push_toArray, List.append_toArray, List.nil_append, List.cons_append]
  by_cases hright : flag = 0 ∨ flag = 1 ∨ flag = 3
  · have HP : Hid (pickL flag l = pk flag 0 l) := Lib.hid (by unfold pickL; rw [if_pos hright])
    have hdec : ((flag != 0) = false) ∨ ((flag != 0) = true ∧ (flag != 1) = false) ∨ ((flag != 0) = true ∧ (flag != 1) = true ∧ (flag != 3) = false) := by rcases hright with rfl | rfl | rfl <;> decide
    clear hright
    rcases hdec with f0 | ⟨f0, f1⟩ | ⟨f0, f1, f3⟩
    all_goals
      gi_wp2
      gi_loopw [18] (fun vi wr => ∃ (k : Nat) (pre : List (Nat × RowV)), k ≤ l.length ∧ vi = .int .i64 k ∧ pre ++ pk flag k (l.drop k) = pickL flag l ∧ J pre wr ∧ Blk wr B IntT #[.int .i64 flag] ∧ Blk wr (B + 1) RowsT #[.slice A l.length c] ∧ RowsAt wr A l) (fun vi _ => l.length - (RowKit.intOf vi).toNat)
      case atStart => exact ⟨0, [], Nat.zero_le _, rfl, HP.out.symm, H0.out, HK0.out, HK1.out, HR.out⟩
      case round =>
        obtain ⟨k, pre, hk, rfl, hpre, hj, hb0, hb1, hra⟩ := hrel
        have HPRE := Lib.hid hpre
        have HJP := Lib.hid hj
        have HB0 := Lib.hid hb0
        have HB1 := Lib.hid hb1
        have HRA := Lib.hid hra
        clear c0 c1 hpre hj
        by_cases hlt : k < l.length
        · have a1 : decide ((k : Int) < (l.length : Int)) = true := decide_eq_true (by omega)
          have hkw : IntKind.i64.wrap ((k : Int) + 1) = (k : Int) + 1 := IntWalk.i64_in _ (by omega)
          have j0 : (0 : Int) ≤ (k : Int) := by omega
          have j1 : (k : Int) < (l.length : Int) := by omega
          have HDR := Lib.hid (pk_drop flag l k hlt)
          obtain ⟨bk, o, rfl, hbk, hc0, hc1, hc2⟩ := hra.at_ hlt
          generalize l[k] = r at *
          obtain ⟨code, text, fl⟩ := r
          replace hc0 : wr.cell? ⟨bk, o + k * 3, none⟩ = some (.string code) := hc0
          replace hc1 : wr.cell? ⟨bk, o + k * 3 + 1, none⟩ = some (.string text) := hc1
          replace hc2 : wr.cell? ⟨bk, o + k * 3 + 2, none⟩ = some (.int .i64 fl) := hc2
          have hbl : Blk (wr.alloc (.cells #[.string code, .string text, .int .i64 fl] 41)) wr.heap.size 41 #[.string code, .string text, .int .i64 fl] := Blk.new _ _ _
          have hJ2 : J pre (wr.alloc (.cells #[.string code, .string text, .int .i64 fl] 41)) := HJ.out pre _ _ HJP.out (grown_alloc _ _)
          have hB0 := HB0.out.alloc (.cells #[.string code, .string text, .int .i64 fl] 41)
          have hB1 := HB1.out.alloc (.cells #[.string code, .string text, .int .i64 fl] 41)
          have hRA : RowsAt (wr.alloc (.cells #[.string code, .string text, .int .i64 fl] 41)) (some ⟨bk, o, none⟩) l := HRA.out.keep ((Below.refl _ _).alloc (Nat.le_refl _) _)
          have k0 : (wr.alloc (.cells #[.string code, .string text, .int .i64 fl] 41)).cell? ⟨wr.heap.size, 0, none⟩ = some (.string code) := by rw [hbl.cell]; rfl
          have k1 : (wr.alloc (.cells #[.string code, .string text, .int .i64 fl] 41)).cell? ⟨wr.heap.size, 1, none⟩ = some (.string text) := by rw [hbl.cell]; rfl
          have k2 : (wr.alloc (.cells #[.string code, .string text, .int .i64 fl] 41)).cell? ⟨wr.heap.size, 2, none⟩ = some (.int .i64 fl) := by rw [hbl.cell]; rfl
          have kF : (wr.alloc (.cells #[.string code, .string text, .int .i64 fl] 41)).cell? ⟨B, 0, none⟩ = some (.int .i64 flag) := by rw [hB0.cell]; rfl
          have HJ2 := Lib.hid hJ2
          have H20 := Lib.hid hB0
          have H21 := Lib.hid hB1
          have H2R := Lib.hid hRA
          clear hb0 hb1 hra hbk hbl hJ2 hB0 hB1 hRA
          by_cases hy0 : fl = 0 ∨ fl = flag
          · have hd := HDR.out
            rw [if_pos hy0] at hd
            have hpr := HPRE.out
            rw [hd] at hpr
            have hpx : pre ++ [(k, (⟨code, text, fl⟩ : RowV))] <+: pickL flag l := ⟨_, by rw [← hpr, List.append_assoc]; rfl⟩
            obtain ⟨fn, tmps, assign, body, hy, hRr⟩ := HY.out pre (k, ⟨code, text, fl⟩) (wr.alloc (.cells #[.string code, .string text, .int .i64 fl] 41)) hpx HJ2.out
            dsimp only [encP] at hy
            have HRR := Lib.hid hRr
            have HPR2 : Hid ((pre ++ [(k, (⟨code, text, fl⟩ : RowV))]) ++ pk flag (k + 1) (l.drop (k + 1)) = pickL flag l) := Lib.hid (by rw [← hpr, List.append_assoc]; rfl)
            clear hd hpr hpx hRr HDR HPRE
            have hye : (fl == 0) = true ∨ ((fl == 0) = false ∧ (fl == flag) = true) := by
              by_cases h : fl = 0
              · left; simpa using h
              · right
                refine ⟨by simpa using h, ?_⟩
                rcases hy0 with h2 | h2
                · exact absurd h2 h
                · simpa using h2
            clear hy0
            rcases hye with e0 | ⟨e0, e1⟩
            all_goals
              gi_wp2
              refine HRR.out.mono ?_
              rintro e W3 ⟨rfl, hJ3, hk3⟩
              have HJ3 := Lib.hid hJ3
              have HB03 := Lib.hid (Blk.keepB H20.out hk3 HKB.out.1)
              have HB13 := Lib.hid (Blk.keepB H21.out hk3 HKB.out.2)
              have HR3 := Lib.hid (RowsAt.keepB H2R.out hk3 HKA.out)
              clear hJ3 hk3 k0 k1 k2 kF hc0 hc1 hc2
              gi_wp2
              go_roundw
              case rel => exact ⟨k + 1, _, by omega, by go_num, HPR2.out, HJ3.out, HB03.out, HB13.out, HR3.out⟩
              case measure => simp [RowKit.intOf]; omega
          · have hd := HDR.out
            rw [if_neg hy0] at hd
            have hpr := HPRE.out
            rw [hd] at hpr
            have HPR2 := Lib.hid hpr
            have e0 : (fl == 0) = false := by simp; omega
            have e1 : (fl == flag) = false := by simp; omega
            clear hd hpr HDR HPRE hy0
            gi_wp2
            refine ⟨fun _ h => (by cases h), ?_⟩
            gi_wp2
            clear k0 k1 k2 kF hc0 hc1 hc2
            go_roundw
            case rel => exact ⟨k + 1, pre, by omega, by go_num, HPR2.out, HJ2.out, H20.out, H21.out, H2R.out⟩
            case measure => simp [RowKit.intOf]; omega
        · obtain rfl : k = l.length := by omega
          have a1 : decide ((l.length : Int) < (l.length : Int)) = false := decide_eq_false (by omega)
          have hpe := HPRE.out
          rw [List.drop_length, show pk flag l.length [] = [] from rfl, List.append_nil] at hpe
          subst hpe
          clear hb0 hb1 hra hlt
          gi_wp2
          go_end0
          exact ⟨⟨_, rfl⟩, HJP.out⟩
  · have HP : Hid (pickL flag l = []) := Lib.hid (by unfold pickL; rw [if_neg hright])
    have f0 : (flag == 0) = false := by simp; omega
    have f1 : (flag == 1) = false := by simp; omega
    have f3 : (flag == 3) = false := by simp; omega
    have g0 : (flag != 0) = true := by simp [bne, f0]
    have g1 : (flag != 1) = true := by simp [bne, f1]
    have g3 : (flag != 3) = true := by simp [bne, f3]
    clear hright
    gi_wp2
    refine bodyPost_ret (results_none rfl _ _ _) rfl ?_
    exact ⟨⟨_, rfl⟩, by rw [HP.out]; exact H0.out⟩
end Go.Proofs.YtopaoejapnakiaaGreatDoor.Mf
