/- Walks: the law's long, head, alike. -/
import Derived.Test.YtopaoejapnakiaaGreatDoorR11
import Derived.Test.YtopaoejapnakiaaGreatDoorP2
namespace Go.Proofs.YtopaoejapnakiaaGreatDoor.Mf
open Go.RowKit Pl

def longGo : Nat → List UInt8 → Bool
  | _, [] => false
  | n, c :: t => if 500 < (if c = 10 then 0 else n + 1) then true else longGo (if c = 10 then 0 else n + 1) t
theorem longGo_rec (n : Nat) (c : UInt8) (t : List UInt8) : longGo n (c :: t) = if 500 < (if c = 10 then 0 else n + 1) then true else longGo (if c = 10 then 0 else n + 1) t := rfl
theorem long_cut : ∀ (s : List UInt8) (n : Nat), n ≤ 500 → longGo n s = false → ∃ l r, cutL s = l :: r ∧ n + l.length ≤ 500 ∧ ∀ x ∈ r, x.length ≤ 500 := by
  intro s
  induction s with
  | nil => intro n hn _; exact ⟨[], [], rfl, by simpa using hn, by simp⟩
  | cons c t ih =>
    intro n hn h
    rw [longGo_rec] at h
    rw [cutL_rec]
    by_cases hc : c = 10
    · rw [if_pos hc] at h ⊢
      rw [if_neg (by omega)] at h
      obtain ⟨l, r, e, h1, h2⟩ := ih 0 (by omega) h
      refine ⟨[], cutL t, rfl, by simpa using hn, fun x hx => ?_⟩
      rw [e] at hx
      rcases List.mem_cons.1 hx with rfl | hx
      · omega
      · exact h2 x hx
    · rw [if_neg hc] at h ⊢
      by_cases h5 : 500 < n + 1
      · rw [if_pos h5] at h; cases h
      · rw [if_neg h5] at h
        obtain ⟨l, r, e, h1, h2⟩ := ih (n + 1) (by omega) h
        rw [e]
        exact ⟨c :: l, r, rfl, by rw [List.length_cons]; omega, h2⟩
theorem long_all (s : List UInt8) (h : longGo 0 s = false) : ∀ l ∈ cutL s, l.length ≤ 500 := by
  obtain ⟨l, r, e, h1, h2⟩ := long_cut s 0 (by omega) h
  intro x hx
  rw [e] at hx
  rcases List.mem_cons.1 hx with rfl | hx
  · omega
  · exact h2 x hx
theorem lines_cut (s : List UInt8) : cutL s = linesOf s ∨ cutL s = linesOf s ++ [[]] := by
  induction s with
  | nil => right; rfl
  | cons c t ih =>
    rw [linesOf_rec, cutL_rec]
    by_cases hc : c = 10
    · rw [if_pos hc, if_pos hc]
      rcases ih with h | h
      · left; rw [h]
      · right; rw [h]; rfl
    · rw [if_neg hc, if_neg hc]
      by_cases h0 : linesOf t = []
      · left
        have ht : t = [] := by
          by_cases hn : t = []
          · exact hn
          · rw [linesOf_cons t hn] at h0; cases h0
        subst ht
        rfl
      · rcases ih with h | h
        · left; rw [h]
        · right; rw [h, consL_append _ _ _ h0]
theorem lines_long (s : List UInt8) (h : ∀ l ∈ cutL s, l.length ≤ 500) : ∀ l ∈ linesOf s, l.length ≤ 500 := by
  intro l hl
  rcases lines_cut s with e | e
  · exact h l (by rw [e]; exact hl)
  · exact h l (by rw [e]; exact List.mem_append_left _ hl)
set_option maxRecDepth 100000 in
set_option maxHeartbeats 1600000 in
theorem long_any (s : ByteArray) (hs : s.size ≤ 1000000) (w : World) : Calls Tryz.prog 15 #[.string s] w fun e w' => e = .returned (.bool (longGo 0 s.data.toList)) ∧ w = w' := by
  obtain ⟨Z, hZ⟩ : ∃ Z, longGo 0 s.data.toList = Z := ⟨_, rfl⟩
  rw [hZ]
  have HZ := Lib.hid hZ
  clear hZ
  go_enter Tryz.func15, Tryz.ntmps15
  go_wp2_with fail
  go_loop [3, 4] (fun vn vi => ∃ n i : Nat, i ≤ s.size ∧ n ≤ i ∧ vi = .int .i64 i ∧ vn = .int .i64 n ∧ longGo n (s.data.toList.drop i) = Z) (fun _ vi => s.size - (RowKit.intOf vi).toNat)
  case atStart => exact ⟨0, 0, Nat.zero_le _, Nat.le_refl _, rfl, rfl, HZ.out⟩
  case round =>
    obtain ⟨n, i, hi, hn, rfl, rfl, hz⟩ := hrel
    have HZ2 := Lib.hid hz
    clear hz
    by_cases hlt : i < s.size
    · have a1 : decide ((i : Int) < (s.size : Int)) = true := decide_eq_true (by omega)
      have j0 : (0 : Int) ≤ (i : Int) := by omega
      have j1 : (i : Int) < (s.size : Int) := by omega
      have hkw : IntKind.i64.wrap ((i : Int) + 1) = (i : Int) + 1 := IntWalk.i64_in _ (by omega)
      have hnw : IntKind.i64.wrap ((n : Int) + 1) = (n : Int) + 1 := IntWalk.i64_in _ (by omega)
      have hz := HZ2.out
      rw [List.drop_eq_getElem_cons (by rw [bl]; exact hlt), b_at s i hlt, longGo_rec] at hz
      by_cases h10 : s[i] = 10
      · have b1 : ((s[i].toNat : Int) == 10) = true := by rw [h10]; rfl
        rw [if_pos h10, if_neg (by omega)] at hz
        have HZ3 := Lib.hid hz
        clear h10 hz
        go_wp2_with fail
        go_round
        case rel => exact ⟨0, i + 1, by omega, by omega, by go_num, rfl, HZ3.out⟩
        case measure => simp [RowKit.intOf]; omega
      · have b1 : ((s[i].toNat : Int) == 10) = false := by
          rw [beq_eq_false_iff_ne]
          intro h
          exact h10 (UInt8.toNat_inj.1 (by have : (10 : UInt8).toNat = 10 := rfl; omega))
        rw [if_neg h10] at hz
        by_cases h5 : 500 < n + 1
        · have b2 : decide ((500 : Int) < (n : Int) + 1) = true := decide_eq_true (by omega)
          rw [if_pos h5] at hz
          subst hz
          clear h10 h5
          go_wp2_with fail
          go_returns
          exact ⟨rfl, rfl⟩
        · have b2 : decide ((500 : Int) < (n : Int) + 1) = false := decide_eq_false (by omega)
          rw [if_neg h5] at hz
          have HZ3 := Lib.hid hz
          clear h10 h5 hz
          go_wp2_with fail
          go_round
          case rel => exact ⟨n + 1, i + 1, by omega, by omega, by go_num, by go_num, HZ3.out⟩
          case measure => simp [RowKit.intOf]; omega
    · obtain rfl : i = s.size := by omega
      have a1 : decide ((s.size : Int) < (s.size : Int)) = false := decide_eq_false (by omega)
      have hz := HZ2.out
      rw [List.drop_eq_nil_of_le (by rw [bl]; exact Nat.le_refl _)] at hz
      have hz : false = Z := hz
      subst hz
      go_wp2_with fail
      go_returns
      exact ⟨rfl, rfl⟩
set_option maxRecDepth 100000 in
set_option maxHeartbeats 1600000 in
theorem head_any (s : ByteArray) (hs : s.size ≤ 1000000) (n : Nat) (hn : n ≤ 1000000) (w : World) : Calls Tryz.prog 17 #[.string s, .int .i64 n] w fun e w' => e = .returned (.string ⟨(headL n s.data.toList).toArray⟩) ∧ w = w' := by
  obtain ⟨Z, hZ⟩ : ∃ Z, headL n s.data.toList = Z := ⟨_, rfl⟩
  rw [hZ]
  have HZ := Lib.hid hZ
  clear hZ
  go_enter Tryz.func17, Tryz.ntmps17
  go_wp2_with fail
  go_loop [1, 5] (fun vn vi => ∃ m i : Nat, i ≤ s.size ∧ m ≤ n ∧ vi = .int .i64 i ∧ vn = .int .i64 m ∧ s.data.toList.take i ++ headL m (s.data.toList.drop i) = Z) (fun _ vi => s.size - (RowKit.intOf vi).toNat)
  case atStart => exact ⟨n, 0, Nat.zero_le _, Nat.le_refl _, rfl, rfl, HZ.out⟩
  case round =>
    obtain ⟨m, i, hi, hm, rfl, rfl, hz⟩ := hrel
    have HZ2 := Lib.hid hz
    clear hz
    by_cases hlt : i < s.size
    · have a1 : decide ((i : Int) < (s.size : Int)) = true := decide_eq_true (by omega)
      have j0 : (0 : Int) ≤ (i : Int) := by omega
      have j1 : (i : Int) < (s.size : Int) := by omega
      have j2 : (i : Int) ≤ (s.size : Int) := by omega
      have hkw : IntKind.i64.wrap ((i : Int) + 1) = (i : Int) + 1 := IntWalk.i64_in _ (by omega)
      by_cases h0 : m = 0
      · have b0 : ((m : Int) == 0) = true := by rw [beq_iff_eq]; omega
        have hz := HZ2.out
        rw [h0, headL_zero, List.append_nil, ← ext_take] at hz
        have HZ3 := Lib.hid hz
        clear h0 hz
        go_wp2_with fail
        go_returns
        exact ⟨congrArg (fun x => Ending.returned (.string x)) (ba_ext HZ3.out), rfl⟩
      · have b0 : ((m : Int) == 0) = false := by rw [beq_eq_false_iff_ne]; omega
        obtain ⟨k, rfl⟩ : ∃ k, m = k + 1 := ⟨m - 1, by omega⟩
        have hmw : IntKind.i64.wrap (((k + 1 : Nat) : Int) - 1) = (k : Int) := by rw [IntWalk.i64_in _ (by omega)]; omega
        have hz := HZ2.out
        have htk : s.data.toList.take (i + 1) = s.data.toList.take i ++ [s[i]] := by rw [List.take_succ_eq_append_getElem (by rw [bl]; exact hlt), b_at s i hlt]
        rw [List.drop_eq_getElem_cons (by rw [bl]; exact hlt), b_at s i hlt, headL_rec] at hz
        by_cases h10 : s[i] = 10
        · have b1 : ((s[i].toNat : Int) == 10) = true := by rw [h10]; rfl
          rw [if_pos h10] at hz
          have HZ3 : Hid (s.data.toList.take (i + 1) ++ headL k (s.data.toList.drop (i + 1)) = Z) := Lib.hid (by rw [htk, List.append_assoc]; exact hz)
          clear h0 h10 hz htk
          go_wp2_with fail
          go_round
          case rel => exact ⟨k, i + 1, by omega, by omega, by go_num, by go_num, HZ3.out⟩
          case measure => simp [RowKit.intOf]; omega
        · have b1 : ((s[i].toNat : Int) == 10) = false := by
            rw [beq_eq_false_iff_ne]
            intro h
            exact h10 (UInt8.toNat_inj.1 (by have : (10 : UInt8).toNat = 10 := rfl; omega))
          rw [if_neg h10] at hz
          have HZ3 : Hid (s.data.toList.take (i + 1) ++ headL (k + 1) (s.data.toList.drop (i + 1)) = Z) := Lib.hid (by rw [htk, List.append_assoc]; exact hz)
          clear h0 h10 hz htk
          go_wp2_with fail
          go_round
          case rel => exact ⟨k + 1, i + 1, by omega, by omega, by go_num, rfl, HZ3.out⟩
          case measure => simp [RowKit.intOf]; omega
    · obtain rfl : i = s.size := by omega
      have a1 : decide ((s.size : Int) < (s.size : Int)) = false := decide_eq_false (by omega)
      have hz := HZ2.out
      rw [List.drop_eq_nil_of_le (by rw [bl]; exact Nat.le_refl _), show headL m [] = [] by cases m <;> rfl, List.append_nil, List.take_of_length_le (by rw [bl]; exact Nat.le_refl _)] at hz
      have HZ3 := Lib.hid hz
      clear hz
      go_wp2_with fail
      go_returns
      exact ⟨congrArg (fun x => Ending.returned (.string x)) (ba_ext HZ3.out), rfl⟩
/-- Rows that a slice reads as. -/
def RdR (w : World) (A : Option Addr) (l : List LRow) : Prop := 0 < l.length → ∃ g o, A = some ⟨g, o, none⟩ ∧ g < w.heap.size ∧ ∀ k (hk : k < l.length),
  w.cell? ⟨g, o + k * 3, none⟩ = some (.string ⟨l[k].code.toArray⟩) ∧ w.cell? ⟨g, o + k * 3 + 1, none⟩ = some (.string ⟨(textB l[k].text).toArray⟩) ∧ w.cell? ⟨g, o + k * 3 + 2, none⟩ = some (.int .i64 l[k].flag)
theorem RdR.keep {w w' : World} {A : Option Addr} {l : List LRow} (h : RdR w A l) (hb : Below w.heap.size w w') : RdR w' A l := fun h0 => by
  obtain ⟨g, o, e, hg, hc⟩ := h h0
  refine ⟨g, o, e, Nat.lt_of_lt_of_le hg hb.size, fun k hk => ?_⟩
  obtain ⟨c0, c1, c2⟩ := hc k hk
  exact ⟨(hb.cell (p := ⟨g, o + k * 3, none⟩) hg).trans c0, (hb.cell (p := ⟨g, o + k * 3 + 1, none⟩) hg).trans c1, (hb.cell (p := ⟨g, o + k * 3 + 2, none⟩) hg).trans c2⟩
theorem rowcells_at (l : List LRow) : ∀ k (hk : k < l.length), (rowcells l)[k * 3]? = some (.string ⟨l[k].code.toArray⟩) ∧ (rowcells l)[k * 3 + 1]? = some (.string ⟨(textB l[k].text).toArray⟩) ∧ (rowcells l)[k * 3 + 2]? = some (.int .i64 l[k].flag) := by
  induction l with
  | nil => intro k hk; cases hk
  | cons a l ih =>
    intro k hk
    have e : rowcells (a :: l) = [.string ⟨a.code.toArray⟩, .string ⟨(textB a.text).toArray⟩, .int .i64 a.flag] ++ rowcells l := rfl
    rw [e]
    cases k with
    | zero => exact ⟨rfl, rfl, rfl⟩
    | succ k =>
      obtain ⟨h1, h2, h3⟩ := ih k (by simpa using hk)
      have e1 : (k + 1) * 3 = k * 3 + 3 := by omega
      rw [e1]
      refine ⟨?_, ?_, ?_⟩
      · rw [List.getElem?_append_right (by simp)]; simpa using h1
      · rw [List.getElem?_append_right (by simp)]; simpa using h2
      · rw [List.getElem?_append_right (by simp)]; simpa using h3
theorem Rows.rd {B : Nat} {w : World} {v : Value} {l : List LRow} (h : Rows B w v l) : ∃ A c, v = .slice A l.length c ∧ RdR w A l ∧ l.length ≤ c := by
  by_cases hl : 0 < l.length
  · obtain ⟨g, c, e, hg, hc⟩ := h.cells hl
    refine ⟨_, c, e, fun _ => ⟨g, 0, rfl, hg, fun k hk => ?_⟩, ?_⟩
    · obtain ⟨h1, h2, h3⟩ := rowcells_at l k hk
      rw [Nat.zero_add]
      exact ⟨hc _ _ h1, hc _ _ h2, hc _ _ h3⟩
    · rcases (show World.ownsRow w B RowT 3 v l.length (rowcells l) from h).2 with ⟨_, h0⟩ | ⟨g', cap, cur, e2, _, _, h3, _⟩
      · omega
      · rw [e] at e2; injection e2 with _ _ e3; omega
  · obtain ⟨A, c, e⟩ := own_shapeN (show World.ownsRow w B RowT 3 v l.length (rowcells l) from h)
    exact ⟨A, c, e, fun h => absurd h hl, by omega⟩
theorem RdR.pre {w : World} {A : Option Addr} {l u : List LRow} (h : RdR w A (l ++ u)) : RdR w A l := fun h0 => by
  obtain ⟨g, o, e, hg, hc⟩ := h (by rw [List.length_append]; omega)
  refine ⟨g, o, e, hg, fun k hk => ?_⟩
  have h1 := hc k (by rw [List.length_append]; omega)
  rw [List.getElem_append_left hk] at h1
  exact h1
set_option maxRecDepth 100000 in
set_option maxHeartbeats 1600000 in
theorem alike_any (A1 A2 : Option Addr) (c1 c2 : Nat) (l : List LRow) (hl : l.length ≤ 1000000) (w : World) (h1 : RdR w A1 l) (h2 : RdR w A2 l) :
    Calls Tryz.prog 16 #[.slice A1 l.length c1, .slice A2 l.length c2] w fun e w' => e = .returned (.bool true) ∧ Below w.heap.size w w' := by
  have H1 := Lib.hid h1
  have H2 := Lib.hid h2
  clear h1 h2
  go_enter Tryz.func16, Tryz.ntmps16
  go_wp2_with fail
  go_loopw [5] (fun vi wr => ∃ i : Nat, i ≤ l.length ∧ vi = .int .i64 i ∧ Below w.heap.size w wr) (fun vi _ => l.length - (RowKit.intOf vi).toNat)
  case atStart => exact ⟨0, Nat.zero_le _, rfl, Below.refl _ _⟩
  case round =>
    obtain ⟨i, hi, rfl, hb⟩ := hrel
    have HB := Lib.hid hb
    by_cases hlt : i < l.length
    · obtain ⟨g1, o1, rfl, hg1, hc1⟩ := (H1.out.keep hb) (by omega)
      obtain ⟨g2, o2, rfl, hg2, hc2⟩ := (H2.out.keep hb) (by omega)
      obtain ⟨p0, p1, p2⟩ := hc1 i hlt
      obtain ⟨q0, q1, q2⟩ := hc2 i hlt
      have a1 : decide ((i : Int) < (l.length : Int)) = true := decide_eq_true (by omega)
      have j0 : (0 : Int) ≤ (i : Int) := by omega
      have j1 : (i : Int) < (l.length : Int) := by omega
      have hkw : IntKind.i64.wrap ((i : Int) + 1) = (i : Int) + 1 := IntWalk.i64_in _ (by omega)
      generalize l[i] = x at *
      clear hc1 hc2 hb
      go_wp2_with fail
      go_region
      go_wp2_with fail
      go_roundw
      case rel => exact ⟨i + 1, by omega, by go_num, HB.out.drew⟩
      case measure => simp [RowKit.intOf]; omega
    · obtain rfl : i = l.length := by omega
      have a1 : decide ((l.length : Int) < (l.length : Int)) = false := decide_eq_false (by omega)
      clear hb
      go_wp2_with fail
      go_returns
      exact ⟨rfl, HB.out⟩
end Go.Proofs.YtopaoejapnakiaaGreatDoor.Mf
