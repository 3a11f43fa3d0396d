/- Joined of: F1, F2, J1. -/
import Derived.Test.YtopaoejapnakiaaGreatDoorR11
import Derived.Test.YtopaoejapnakiaaGreatDoorPA
import Derived.Laws.AppendOwnNone
/- Walks: the law's long, head, alike. -/
namespace Go.Proofs.YtopaoejapnakiaaGreatDoor.Mf
open Go.RowKit Pl

def longGo : Nat → List UInt8 → Bool
  | _, [] => false
  | n, c :: t => if 500 < (if c = 10 then 0 else n + 1) then true else longGo (if c = 10 then 0 else n + 1) t
theorem longGo_rec (n : Nat) (c : UInt8) (t : List UInt8) : longGo n (c :: t) = if 500 < (if c = 10 then 0 else n + 1) then true else longGo (if c = 10 then 0 else n + 1) t := rfl
theorem long_cut : ∀ (s : List UInt8) (n : Nat), n ≤ 500 → longGo n s = false → ∃ l r, cutL s = l :: r ∧ n + l.length ≤ 500 ∧ ∀ x ∈ r, x.length ≤ 500 := by
  intro s
  induction s with
  | nil => intro n hn _; exact ⟨[], [], rfl, by simpa using hn, by simp⟩
  | cons c t ih =>
    intro n hn h
    rw [longGo_rec] at h
    rw [cutL_rec]
    by_cases hc : c = 10
    · rw [if_pos hc] at h ⊢
      rw [if_neg (by omega)] at h
      obtain ⟨l, r, e, h1, h2⟩ := ih 0 (by omega) h
      refine ⟨[], cutL t, rfl, by simpa using hn, fun x hx => ?_⟩
      rw [e] at hx
      rcases List.mem_cons.1 hx with rfl | hx
      · omega
      · exact h2 x hx
    · rw [if_neg hc] at h ⊢
      by_cases h5 : 500 < n + 1
      · rw [if_pos h5] at h; cases h
      · rw [if_neg h5] at h
        obtain ⟨l, r, e, h1, h2⟩ := ih (n + 1) (by omega) h
        rw [e]
        exact ⟨c :: l, r, rfl, by rw [List.length_cons]; omega, h2⟩
theorem long_all (s : List UInt8) (h : longGo 0 s = false) : ∀ l ∈ cutL s, l.length ≤ 500 := by
  obtain ⟨l, r, e, h1, h2⟩ := long_cut s 0 (by omega) h
  intro x hx
  rw [e] at hx
  rcases List.mem_cons.1 hx with rfl | hx
  · omega
  · exact h2 x hx
theorem lines_cut (s : List UInt8) : cutL s = linesOf s ∨ cutL s = linesOf s ++ [[]] := by
  induction s with
  | nil => right; rfl
  | cons c t ih =>
    rw [linesOf_rec, cutL_rec]
    by_cases hc : c = 10
    · rw [if_pos hc, if_pos hc]
      rcases ih with h | h
      · left; rw [h]
      · right; rw [h]; rfl
    · rw [if_neg hc, if_neg hc]
      by_cases h0 : linesOf t = []
      · left
        have ht : t = [] := by
          by_cases hn : t = []
          · exact hn
          · rw [linesOf_cons t hn] at h0; cases h0
        subst ht
        rfl
      · rcases ih with h | h
        · left; rw [h]
        · right; rw [h, consL_append _ _ _ h0]
theorem lines_long (s : List UInt8) (h : ∀ l ∈ cutL s, l.length ≤ 500) : ∀ l ∈ linesOf s, l.length ≤ 500 := by
  intro l hl
  rcases lines_cut s with e | e
  · exact h l (by rw [e]; exact hl)
  · exact h l (by rw [e]; exact List.mem_append_left _ hl)
set_option maxRecDepth 100000 in
set_option maxHeartbeats 1600000 in
theorem long_any (s : ByteArray) (hs : s.size ≤ 1000000) (w : World) : Calls Tryz.prog 15 #[.string s] w fun e w' => e = .returned (.bool (longGo 0 s.data.toList)) ∧ w = w' := by
  obtain ⟨Z, hZ⟩ : ∃ Z, longGo 0 s.data.toList = Z := ⟨_, rfl⟩
  rw [hZ]
  have HZ := Lib.hid hZ
  clear hZ
  go_enter Tryz.func15, Tryz.ntmps15
  go_wp2_with fail
  go_loop [3, 4] (fun vn vi => ∃ n i : Nat, i ≤ s.size ∧ n ≤ i ∧ vi = .int .i64 i ∧ vn = .int .i64 n ∧ longGo n (s.data.toList.drop i) = Z) (fun _ vi => s.size - (RowKit.intOf vi).toNat)
  case atStart => exact ⟨0, 0, Nat.zero_le _, Nat.le_refl _, rfl, rfl, HZ.out⟩
  case round =>
    obtain ⟨n, i, hi, hn, rfl, rfl, hz⟩ := hrel
    have HZ2 := Lib.hid hz
    clear hz
    by_cases hlt : i < s.size
    · have a1 : decide ((i : Int) < (s.size : Int)) = true := decide_eq_true (by omega)
      have j0 : (0 : Int) ≤ (i : Int) := by omega
      have j1 : (i : Int) < (s.size : Int) := by omega
      have hkw : IntKind.i64.wrap ((i : Int) + 1) = (i : Int) + 1 := IntWalk.i64_in _ (by omega)
      have hnw : IntKind.i64.wrap ((n : Int) + 1) = (n : Int) + 1 := IntWalk.i64_in _ (by omega)
      have hz := HZ2.out
      rw [List.drop_eq_getElem_cons (by rw [bl]; exact hlt), b_at s i hlt, longGo_rec] at hz
      by_cases h10 : s[i] = 10
      · have b1 : ((s[i].toNat : Int) == 10) = true := by rw [h10]; rfl
        rw [if_pos h10, if_neg (by omega)] at hz
        have HZ3 := Lib.hid hz
        clear h10 hz
        go_wp2_with fail
        go_round
        case rel => exact ⟨0, i + 1, by omega, by omega, by go_num, rfl, HZ3.out⟩
        case measure => simp [RowKit.intOf]; omega
      · have b1 : ((s[i].toNat : Int) == 10) = false := by
          rw [beq_eq_false_iff_ne]
          intro h
          exact h10 (UInt8.toNat_inj.1 (by have : (10 : UInt8).toNat = 10 := rfl; omega))
        rw [if_neg h10] at hz
        by_cases h5 : 500 < n + 1
        · have b2 : decide ((500 : Int) < (n : Int) + 1) = true := decide_eq_true (by omega)
          rw [if_pos h5] at hz
          subst hz
          clear h10 h5
          go_wp2_with fail
          go_returns
          exact ⟨rfl, rfl⟩
        · have b2 : decide ((500 : Int) < (n : Int) + 1) = false := decide_eq_false (by omega)
          rw [if_neg h5] at hz
          have HZ3 := Lib.hid hz
          clear h10 h5 hz
          go_wp2_with fail
          go_round
          case rel => exact ⟨n + 1, i + 1, by omega, by omega, by go_num, by go_num, HZ3.out⟩
          case measure => simp [RowKit.intOf]; omega
    · obtain rfl : i = s.size := by omega
      have a1 : decide ((s.size : Int) < (s.size : Int)) = false := decide_eq_false (by omega)
      have hz := HZ2.out
      rw [List.drop_eq_nil_of_le (by rw [bl]; exact Nat.le_refl _)] at hz
      have hz : false = Z := hz
      subst hz
      go_wp2_with fail
      go_returns
      exact ⟨rfl, rfl⟩
set_option maxRecDepth 100000 in
set_option maxHeartbeats 1600000 in
theorem head_any (s : ByteArray) (hs : s.size ≤ 1000000) (n : Nat) (hn : n ≤ 1000000) (w : World) : Calls Tryz.prog 17 #[.string s, .int .i64 n] w fun e w' => e = .returned (.string ⟨(headL n s.data.toList).toArray⟩) ∧ w = w' := by
  obtain ⟨Z, hZ⟩ : ∃ Z, headL n s.data.toList = Z := ⟨_, rfl⟩
  rw [hZ]
  have HZ := Lib.hid hZ
  clear hZ
  go_enter Tryz.func17, Tryz.ntmps17
  go_wp2_with fail
  go_loop [1, 5] (fun vn vi => ∃ m i : Nat, i ≤ s.size ∧ m ≤ n ∧ vi = .int .i64 i ∧ vn = .int .i64 m ∧ s.data.toList.take i ++ headL m (s.data.toList.drop i) = Z) (fun _ vi => s.size - (RowKit.intOf vi).toNat)
  case atStart => exact ⟨n, 0, Nat.zero_le _, Nat.le_refl _, rfl, rfl, HZ.out⟩
  case round =>
    obtain ⟨m, i, hi, hm, rfl, rfl, hz⟩ := hrel
    have HZ2 := Lib.hid hz
    clear hz
    by_cases hlt : i < s.size
    · have a1 : decide ((i : Int) < (s.size : Int)) = true := decide_eq_true (by omega)
      have j0 : (0 : Int) ≤ (i : Int) := by omega
      have j1 : (i : Int) < (s.size : Int) := by omega
      have j2 : (i : Int) ≤ (s.size : Int) := by omega
      have hkw : IntKind.i64.wrap ((i : Int) + 1) = (i : Int) + 1 := IntWalk.i64_in _ (by omega)
      by_cases h0 : m = 0
      · have b0 : ((m : Int) == 0) = true := by rw [beq_iff_eq]; omega
        have hz := HZ2.out
        rw [h0, headL_zero, List.append_nil, ← ext_take] at hz
        have HZ3 := Lib.hid hz
        clear h0 hz
        go_wp2_with fail
        go_returns
        exact ⟨congrArg (fun x => Ending.returned (.string x)) (ba_ext HZ3.out), rfl⟩
      · have b0 : ((m : Int) == 0) = false := by rw [beq_eq_false_iff_ne]; omega
        obtain ⟨k, rfl⟩ : ∃ k, m = k + 1 := ⟨m - 1, by omega⟩
        have hmw : IntKind.i64.wrap (((k + 1 : Nat) : Int) - 1) = (k : Int) := by rw [IntWalk.i64_in _ (by omega)]; omega
        have hz := HZ2.out
        have htk : s.data.toList.take (i + 1) = s.data.toList.take i ++ [s[i]] := by rw [List.take_succ_eq_append_getElem (by rw [bl]; exact hlt), b_at s i hlt]
        rw [List.drop_eq_getElem_cons (by rw [bl]; exact hlt), b_at s i hlt, headL_rec] at hz
        by_cases h10 : s[i] = 10
        · have b1 : ((s[i].toNat : Int) == 10) = true := by rw [h10]; rfl
          rw [if_pos h10] at hz
          have HZ3 : Hid (s.data.toList.take (i + 1) ++ headL k (s.data.toList.drop (i + 1)) = Z) := Lib.hid (by rw [htk, List.append_assoc]; exact hz)
          clear h0 h10 hz htk
          go_wp2_with fail
          go_round
          case rel => exact ⟨k, i + 1, by omega, by omega, by go_num, by go_num, HZ3.out⟩
          case measure => simp [RowKit.intOf]; omega
        · have b1 : ((s[i].toNat : Int) == 10) = false := by
            rw [beq_eq_false_iff_ne]
            intro h
            exact h10 (UInt8.toNat_inj.1 (by have : (10 : UInt8).toNat = 10 := rfl; omega))
          rw [if_neg h10] at hz
          have HZ3 : Hid (s.data.toList.take (i + 1) ++ headL (k + 1) (s.data.toList.drop (i + 1)) = Z) := Lib.hid (by rw [htk, List.append_assoc]; exact hz)
          clear h0 h10 hz htk
          go_wp2_with fail
          go_round
          case rel => exact ⟨k + 1, i + 1, by omega, by omega, by go_num, rfl, HZ3.out⟩
          case measure => simp [RowKit.intOf]; omega
    · obtain rfl : i = s.size := by omega
      have a1 : decide ((s.size : Int) < (s.size : Int)) = false := decide_eq_false (by omega)
      have hz := HZ2.out
      rw [List.drop_eq_nil_of_le (by rw [bl]; exact Nat.le_refl _), show headL m [] = [] by cases m <;> rfl, List.append_nil, List.take_of_length_le (by rw [bl]; exact Nat.le_refl _)] at hz
      have HZ3 := Lib.hid hz
      clear hz
      go_wp2_with fail
      go_returns
      exact ⟨congrArg (fun x => Ending.returned (.string x)) (ba_ext HZ3.out), rfl⟩
/-- Rows that a slice reads as. -/
def RdR (w : World) (A : Option Addr) (l : List LRow) : Prop := 0 < l.length → ∃ g o, A = some ⟨g, o, none⟩ ∧ g < w.heap.size ∧ ∀ k (hk : k < l.length),
  w.cell? ⟨g, o + k * 3, none⟩ = some (.string ⟨l[k].code.toArray⟩) ∧ w.cell? ⟨g, o + k * 3 + 1, none⟩ = some (.string ⟨(textB l[k].text).toArray⟩) ∧ w.cell? ⟨g, o + k * 3 + 2, none⟩ = some (.int .i64 l[k].flag)
theorem RdR.keep {w w' : World} {A : Option Addr} {l : List LRow} (h : RdR w A l) (hb : Below w.heap.size w w') : RdR w' A l := fun h0 => by
  obtain ⟨g, o, e, hg, hc⟩ := h h0
  refine ⟨g, o, e, Nat.lt_of_lt_of_le hg hb.size, fun k hk => ?_⟩
  obtain ⟨c0, c1, c2⟩ := hc k hk
  exact ⟨(hb.cell (p := ⟨g, o + k * 3, none⟩) hg).trans c0, (hb.cell (p := ⟨g, o + k * 3 + 1, none⟩) hg).trans c1, (hb.cell (p := ⟨g, o + k * 3 + 2, none⟩) hg).trans c2⟩
theorem rowcells_at (l : List LRow) : ∀ k (hk : k < l.length), (rowcells l)[k * 3]? = some (.string ⟨l[k].code.toArray⟩) ∧ (rowcells l)[k * 3 + 1]? = some (.string ⟨(textB l[k].text).toArray⟩) ∧ (rowcells l)[k * 3 + 2]? = some (.int .i64 l[k].flag) := by
  induction l with
  | nil => intro k hk; cases hk
  | cons a l ih =>
    intro k hk
    have e : rowcells (a :: l) = [.string ⟨a.code.toArray⟩, .string ⟨(textB a.text).toArray⟩, .int .i64 a.flag] ++ rowcells l := rfl
    rw [e]
    cases k with
    | zero => exact ⟨rfl, rfl, rfl⟩
    | succ k =>
      obtain ⟨h1, h2, h3⟩ := ih k (by simpa using hk)
      have e1 : (k + 1) * 3 = k * 3 + 3 := by omega
      rw [e1]
      refine ⟨?_, ?_, ?_⟩
      · rw [List.getElem?_append_right (by simp)]; simpa using h1
      · rw [List.getElem?_append_right (by simp)]; simpa using h2
      · rw [List.getElem?_append_right (by simp)]; simpa using h3
theorem Rows.rd {B : Nat} {w : World} {v : Value} {l : List LRow} (h : Rows B w v l) : ∃ A c, v = .slice A l.length c ∧ RdR w A l ∧ l.length ≤ c := by
  by_cases hl : 0 < l.length
  · obtain ⟨g, c, e, hg, hc⟩ := h.cells hl
    refine ⟨_, c, e, fun _ => ⟨g, 0, rfl, hg, fun k hk => ?_⟩, ?_⟩
    · obtain ⟨h1, h2, h3⟩ := rowcells_at l k hk
      rw [Nat.zero_add]
      exact ⟨hc _ _ h1, hc _ _ h2, hc _ _ h3⟩
    · rcases (show World.ownsRow w B RowT 3 v l.length (rowcells l) from h).2 with ⟨_, h0⟩ | ⟨g', cap, cur, e2, _, _, h3, _⟩
      · omega
      · rw [e] at e2; injection e2 with _ _ e3; omega
  · obtain ⟨A, c, e⟩ := own_shapeN (show World.ownsRow w B RowT 3 v l.length (rowcells l) from h)
    exact ⟨A, c, e, fun h => absurd h hl, by omega⟩
theorem RdR.pre {w : World} {A : Option Addr} {l u : List LRow} (h : RdR w A (l ++ u)) : RdR w A l := fun h0 => by
  obtain ⟨g, o, e, hg, hc⟩ := h (by rw [List.length_append]; omega)
  refine ⟨g, o, e, hg, fun k hk => ?_⟩
  have h1 := hc k (by rw [List.length_append]; omega)
  rw [List.getElem_append_left hk] at h1
  exact h1
set_option maxRecDepth 100000 in
set_option maxHeartbeats 1600000 in
theorem alike_any (A1 A2 : Option Addr) (c1 c2 : Nat) (l : List LRow) (hl : l.length ≤ 1000000) (w : World) (h1 : RdR w A1 l) (h2 : RdR w A2 l) :
    Calls Tryz.prog 16 #[.slice A1 l.length c1, .slice A2 l.length c2] w fun e w' => e = .returned (.bool true) ∧ Below w.heap.size w w' := by
  have H1 := Lib.hid h1
  have H2 := Lib.hid h2
  clear h1 h2
  go_enter Tryz.func16, Tryz.ntmps16
  go_wp2_with fail
  go_loopw [5] (fun vi wr => ∃ i : Nat, i ≤ l.length ∧ vi = .int .i64 i ∧ Below w.heap.size w wr) (fun vi _ => l.length - (RowKit.intOf vi).toNat)
  case atStart => exact ⟨0, Nat.zero_le _, rfl, Below.refl _ _⟩
  case round =>
    obtain ⟨i, hi, rfl, hb⟩ := hrel
    have HB := Lib.hid hb
    by_cases hlt : i < l.length
    · obtain ⟨g1, o1, rfl, hg1, hc1⟩ := (H1.out.keep hb) (by omega)
      obtain ⟨g2, o2, rfl, hg2, hc2⟩ := (H2.out.keep hb) (by omega)
      obtain ⟨p0, p1, p2⟩ := hc1 i hlt
      obtain ⟨q0, q1, q2⟩ := hc2 i hlt
      have a1 : decide ((i : Int) < (l.length : Int)) = true := decide_eq_true (by omega)
      have j0 : (0 : Int) ≤ (i : Int) := by omega
      have j1 : (i : Int) < (l.length : Int) := by omega
      have hkw : IntKind.i64.wrap ((i : Int) + 1) = (i : Int) + 1 := IntWalk.i64_in _ (by omega)
      generalize l[i] = x at *
      clear hc1 hc2 hb
      go_wp2_with fail
      go_region
      go_wp2_with fail
      go_roundw
      case rel => exact ⟨i + 1, by omega, by go_num, HB.out.drew⟩
      case measure => simp [RowKit.intOf]; omega
    · obtain rfl : i = l.length := by omega
      have a1 : decide ((l.length : Int) < (l.length : Int)) = false := decide_eq_false (by omega)
      clear hb
      go_wp2_with fail
      go_returns
      exact ⟨rfl, HB.out⟩
end Go.Proofs.YtopaoejapnakiaaGreatDoor.Mf
/- Walk: the law MapfileFirst. -/
namespace Go.Proofs.YtopaoejapnakiaaGreatDoor.Mf
open Go.RowKit Pl

theorem readGo_len (F : List UInt8 → One) : ∀ (b : List (List UInt8)) (i : Nat) (out : List LRow), (readGo F i out b).1.length ≤ out.length + b.length ∧ (readGo F i out b).2.1 ≤ i + b.length := by
  intro b
  induction b with
  | nil => intro i out; exact ⟨Nat.le_refl _, by show (0 : Int) ≤ _; simp⟩
  | cons s t ih =>
    intro i out
    rw [readGo_cons]
    cases F (clean s) with
    | none =>
      obtain ⟨h1, h2⟩ := ih (i + 1) out
      simp only [List.length_cons]
      exact ⟨by omega, by omega⟩
    | err e => exact ⟨Nat.zero_le _, by show (i : Int) + 1 ≤ _; simp only [List.length_cons]; omega⟩
    | row x =>
      obtain ⟨h1, h2⟩ := ih (i + 1) (out ++ [x])
      simp only [List.length_cons, List.length_append, List.length_nil] at h1 h2 ⊢
      exact ⟨by omega, by omega⟩
theorem readL_len (F : List UInt8 → One) (s : List UInt8) : (readL F s).1.length ≤ s.length ∧ (readL F s).2.1 ≤ s.length := by
  unfold readL
  split
  · obtain ⟨h1, h2⟩ := readGo_len F (linesOf s) 0 []
    have := lines_len s
    simp at h1 h2
    exact ⟨by omega, by omega⟩
  · exact ⟨Nat.zero_le _, by show (0 : Int) ≤ _; omega⟩
theorem oneC_ok : ∀ s, oneC s ≠ .err 0 := oneC_ne
set_option maxRecDepth 100000 in
set_option maxHeartbeats 3200000 in
theorem mapfileFirst_law {w : World} (hO : Okw w) (s : ByteArray) (_hs : s.size ≤ maxLen) : Calls Tryz.prog 5 #[.string s] w fun e w' => e = .returned (.bool true) ∧ Below w.heap.size w w' := by
  have HAW : Hid (∀ w1, Below w.heap.size w w1 → Calls Tryz.prog 10 #[] w1 fun e w' => e = .returned (.bool true) ∧ Below w1.heap.size w1 w') := Lib.hid fun w1 hb => awake_any w1 (hO.keep hb)
  have HOK : Hid (∀ w1, Below w.heap.size w w1 → Okw w1) := Lib.hid fun w1 hb => hO.keep hb
  clear hO
  go_enter Tryz.func5, Tryz.ntmps5
  by_cases hbig : 1500 < s.size
  · have a1 : decide ((1500 : Int) < (s.size : Int)) = true := decide_eq_true (by omega)
    clear hbig
    go_wp2_with fail
    refine (HAW.out w (Below.refl _ _)).mono ?_
    rintro _ w1 ⟨rfl, hb1⟩
    go_wp2_with fail
    go_returns
    exact ⟨rfl, hb1⟩
  have a1 : decide ((1500 : Int) < (s.size : Int)) = false := decide_eq_false (by omega)
  have hs : s.size ≤ 1000000 := by omega
  have HLG := Lib.hid (long_any s hs w)
  cases hlg : longGo 0 s.data.toList with
  | true =>
    rw [hlg] at HLG
    clear hbig hlg
    go_wp2_with fail
    refine HLG.out.mono ?_
    rintro _ _ ⟨rfl, rfl⟩
    go_wp2_with fail
    refine (HAW.out w (Below.refl _ _)).mono ?_
    rintro _ w1 ⟨rfl, hb1⟩
    go_wp2_with fail
    go_returns
    exact ⟨rfl, hb1⟩
  | false =>
    rw [hlg] at HLG
    have hl5 := lines_long _ (long_all _ hlg)
    have hrf := read_first oneC_ok s.data.toList (by rw [bl]; omega) (fun l hl => by have := hl5 l hl; omega)
    have HC1 := Lib.hid (mapC_any s hs w (HOK.out w (Below.refl _ _)))
    have hrl := readL_len oneC s.data.toList
    rw [bl] at hrl
    obtain ⟨R, hR⟩ : ∃ R, readL oneC s.data.toList = R := ⟨_, rfl⟩
    unfold ReadP at HC1
    rw [hR] at hrf HC1 hrl
    obtain ⟨l, i, e⟩ := R
    dsimp only at hrf HC1 hrl
    obtain ⟨hr1, hr2⟩ := hrf
    have HR1 := Lib.hid hr1
    have HR2 := Lib.hid hr2
    have HRL := Lib.hid (show l.length ≤ 1500 ∧ i ≤ 1500 by omega)
    clear hbig hlg hl5 hrl hR hr1 hr2
    go_wp2_with fail
    refine HLG.out.mono ?_
    rintro _ _ ⟨rfl, rfl⟩
    go_wp2_with fail
    refine HC1.out.mono ?_
    rintro _ w1 ⟨v, rfl, hrows, hb1⟩
    obtain ⟨A1, c1, rfl, hrd, hcap⟩ := hrows.rd
    have HB1 := Lib.hid hb1
    have HRD := Lib.hid hrd
    clear hb1 hrd hrows
    by_cases he : e = 0
    · subst he
      obtain ⟨rfl, hh, u, hu⟩ := HR1.out rfl
      have HHD := Lib.hid (head_any s hs 1 (by omega) w1)
      have hhl := headL_le s.data.toList 1
      rw [bl] at hhl
      have HC2 := Lib.hid (mapC_any ⟨(headL 1 s.data.toList).toArray⟩ (by show (headL 1 s.data.toList).toArray.size ≤ _; simp; omega) w1 (HOK.out w1 HB1.out))
      unfold ReadP at HC2
      change Hid (Calls _ _ _ _ fun e w' => ∃ v, e = .returned (.tuple #[v, .int .i64 (readL oneC (headL 1 s.data.toList)).2.1, .int .i64 (readL oneC (headL 1 s.data.toList)).2.2]) ∧ _) at HC2
      obtain ⟨Q, hQ⟩ : ∃ Q, readL oneC (headL 1 s.data.toList) = Q := ⟨_, rfl⟩
      rw [hQ] at hh hu HC2
      obtain ⟨m, i2, e2⟩ := Q
      dsimp only at hh hu HC2
      injection hh with hi2 he2
      subst hi2; subst he2
      subst hu
      have j0 : (0 : Int) ≤ (m.length : Int) := by omega
      have j1 : (m.length : Int) ≤ (c1 : Int) := by rw [List.length_append] at hcap; omega
      have b1 : decide ((m.length : Int) ≤ ((m ++ u).length : Int)) = true := decide_eq_true (by rw [List.length_append]; omega)
      have b2 : decide ((m.length : Int) ≤ (m.length : Int) + (u.length : Int)) = true := decide_eq_true (by omega)
      have HML : Hid (m.length ≤ 1500) := Lib.hid (by have := HRL.out.1; rw [List.length_append] at this; omega)
      clear hQ HR1 HR2 hhl
      go_wp2_with fail
      refine HHD.out.mono ?_
      rintro _ _ ⟨rfl, rfl⟩
      go_wp2_with fail
      refine HC2.out.mono ?_
      rintro _ w2 ⟨v2, rfl, hrows2, hb2⟩
      obtain ⟨A2, c2, rfl, hrd2, hcap2⟩ := hrows2.rd
      have HB2 := Lib.hid (HB1.out.trans (hb2.mono HB1.out.size))
      have HAL := Lib.hid (alike_any A2 A1 c2 c1 m (by have := HML.out; omega) w2 hrd2 ((HRD.out.keep hb2).pre))
      clear hb2 hrd2 hrows2 hcap2
      go_wp2_with fail
      refine HAL.out.mono ?_
      rintro _ w3 ⟨rfl, hb3⟩
      have HB3 := Lib.hid (HB2.out.trans (hb3.mono HB2.out.size))
      clear hb3
      go_wp2_with fail
      refine (HAW.out w3 HB3.out).mono ?_
      rintro _ w4 ⟨rfl, hb4⟩
      go_wp2_with fail
      go_returns
      exact ⟨rfl, HB3.out.trans (hb4.mono HB3.out.size)⟩
    · obtain ⟨n, rfl, rfl, h1, h2⟩ := HR2.out he
      have b0 : (e == 0) = false := by rw [beq_eq_false_iff_ne]; exact he
      have hn : n ≤ 1500 := by have := HRL.out.2; omega
      have hnw : IntKind.i64.wrap ((n : Int) + 1 - 1) = (n : Int) := by rw [IntWalk.i64_in _ (by omega)]; omega
      have HHD1 := Lib.hid (head_any s hs n (by omega) w1)
      have HHD2 : Hid (∀ w2, Calls Tryz.prog 17 #[.string s, .int .i64 ((n : Int) + 1)] w2 fun e w' => e = .returned (.string ⟨(headL (n + 1) s.data.toList).toArray⟩) ∧ w2 = w') := Lib.hid fun w2 => head_any s hs (n + 1) (by omega) w2
      have hl1 := headL_le s.data.toList n
      have hl2 := headL_le s.data.toList (n + 1)
      rw [bl] at hl1 hl2
      have HC2 := Lib.hid (mapC_any ⟨(headL n s.data.toList).toArray⟩ (by show (headL n s.data.toList).toArray.size ≤ _; simp; omega) w1 (HOK.out w1 HB1.out))
      unfold ReadP at HC2
      change Hid (Calls _ _ _ _ fun e w' => ∃ v, e = .returned (.tuple #[v, .int .i64 (readL oneC (headL n s.data.toList)).2.1, .int .i64 (readL oneC (headL n s.data.toList)).2.2]) ∧ _) at HC2
      rw [h1] at HC2
      have HC3 : Hid (∀ w2, Below w.heap.size w w2 → Calls Tryz.prog 13 #[.string ⟨(headL (n + 1) s.data.toList).toArray⟩] w2 fun e2 w' => ∃ v, e2 = .returned (.tuple #[v, .int .i64 ((n : Int) + 1), .int .i64 e]) ∧ Below w2.heap.size w2 w') := Lib.hid fun w2 hb => by
        refine (mapC_any ⟨(headL (n + 1) s.data.toList).toArray⟩ (by show (headL (n + 1) s.data.toList).toArray.size ≤ _; simp; omega) w2 (HOK.out w2 hb)).mono ?_
        rintro _ w' ⟨v, rfl, _, hb'⟩
        have e1 : (readL oneC (⟨(headL (n + 1) s.data.toList).toArray⟩ : ByteArray).data.toList).2 = ((n : Int) + 1, e) := h2
        exact ⟨v, by rw [e1], hb'⟩
      have b5 : decide ((0 : Int) < (n : Int) + 1) = true := decide_eq_true (by omega)
      clear HR1 HR2 hl1 hl2 h1 h2 he
      dsimp only at HC2
      go_wp2_with fail
      refine HHD1.out.mono ?_
      rintro _ _ ⟨rfl, rfl⟩
      go_wp2_with fail
      refine HC2.out.mono ?_
      rintro _ w2 ⟨v2, rfl, hrows2, hb2⟩
      obtain ⟨A2, c2, rfl, _, _⟩ := hrows2.rd
      have HB2 := Lib.hid (HB1.out.trans (hb2.mono HB1.out.size))
      clear hb2 hrows2
      go_wp2_with fail
      refine (HHD2.out w2).mono ?_
      rintro _ _ ⟨rfl, rfl⟩
      go_wp2_with fail
      refine (HC3.out w2 HB2.out).mono ?_
      rintro _ w3 ⟨v3, rfl, hb3⟩
      have HB3 := Lib.hid (HB2.out.trans (hb3.mono HB2.out.size))
      clear hb3
      go_wp2_with fail
      refine (HAW.out w3 HB3.out).mono ?_
      rintro _ w4 ⟨rfl, hb4⟩
      go_wp2_with fail
      go_returns
      exact ⟨rfl, HB3.out.trans (hb4.mono HB3.out.size)⟩
end Go.Proofs.YtopaoejapnakiaaGreatDoor.Mf
/- Walk: the law MapfileJoins. -/
namespace Go.Proofs.YtopaoejapnakiaaGreatDoor.Mf
open Go.RowKit Pl

theorem RdR.cells {w : World} {A : Option Addr} {l : List LRow} (h : RdR w A l) (h0 : 0 < l.length) : ∃ g o, A = some ⟨g, o, none⟩ ∧ ∀ j u, (rowcells l)[j]? = some u → w.cell? ((⟨g, o, none⟩ : Addr).add j) = some u := by
  obtain ⟨g, o, e, _, hc⟩ := h h0
  refine ⟨g, o, e, fun j u hj => ?_⟩
  have hlt : j < l.length * 3 := by rw [← rowcells_length]; exact (List.getElem?_eq_some_iff.1 hj).1
  have hk : j / 3 < l.length := by omega
  obtain ⟨c0, c1, c2⟩ := hc (j / 3) hk
  obtain ⟨r0, r1, r2⟩ := rowcells_at l (j / 3) hk
  rw [Addr.add_lit]
  have hm : j % 3 = 0 ∨ j % 3 = 1 ∨ j % 3 = 2 := by omega
  rcases hm with hm | hm | hm
  · have e1 : j = j / 3 * 3 := by omega
    rw [← e1] at c0 r0
    rw [c0, ← r0, hj]
  · have e1 : j = j / 3 * 3 + 1 := by omega
    rw [← e1] at r1
    rw [Nat.add_assoc, ← e1] at c1
    rw [c1, ← r1, hj]
  · have e1 : j = j / 3 * 3 + 2 := by omega
    rw [← e1] at r2
    rw [Nat.add_assoc, ← e1] at c2
    rw [c2, ← r2, hj]
theorem readL_nn {F : List UInt8 → One} (hF : ∀ s, F s ≠ .err 0) (s : List UInt8) : 0 ≤ (readL F s).2.1 := by
  unfold readL
  split
  · have h := readGo_facts hF (linesOf s) 0 []
    by_cases h0 : (readGo F 0 [] (linesOf s)).2.2 = 0
    · rw [h.1 h0]; decide
    · have := (h.2 h0).2.1; omega
  · show (0 : Int) ≤ 0; decide
/-- What a reading answers, its rows as they lie. -/
def ReadAt (w : World) (l : List LRow) (i e : Int) (x : Ending) (w' : World) : Prop := ∃ A c, x = .returned (.tuple #[.slice A l.length c, .int .i64 i, .int .i64 e]) ∧ RdR w' A l ∧ (l = [] → A = none → c = 0) ∧ Below w.heap.size w w'
theorem readAt_of {F : List UInt8 → One} {w w' : World} {s : List UInt8} {l : List LRow} {i e : Int} {x : Ending} (h : readL F s = (l, i, e)) (hr : ReadP F w s x w') : ReadAt w l i e x w' := by
  obtain ⟨v, e1, hrows, hb⟩ := hr
  rw [h] at e1 hrows
  obtain ⟨A, c, e2, hrd, hcap⟩ := hrows.rd
  have hrows2 : Rows w.heap.size w' v l := hrows
  refine ⟨A, c, by rw [e1, e2], hrd, fun h0 hA => ?_, hb⟩
  rcases hrows2.2 with ⟨h1, _⟩ | ⟨g', cap, cur, e3, _⟩
  · rw [e2] at h1
    injection h1
  · rw [e2] at e3
    injection e3 with e4
    rw [hA] at e4
    cases e4
section
variable {ops : Array Oper} {rest : List Oper} {oo : Oper} {a : Act} {Q : Exit → Act → World → Prop}
set_option maxRecDepth 100000 in
/-- 'all = append(all, a...)'. -/
theorem wpList_rows (w : World) (hgd : oo.guard = none) (s x : Operand) (ho : oo.op = .call { callee := .builtin .append, args := #[s, x], argTypes := #[23, 23] })
    (B : Nat) (v : Value) (l : List LRow) (hs : a.eval s = v) (hst : Rows B w v l) (hB : B ≤ w.heap.size) (A : Option Addr) (m : List LRow) (c : Nat) (hx : a.eval x = .slice A m.length c) (hrd : RdR w A m) (h0 : m = [] → A = none → c = 0)
    (hsm : l.length + m.length ≤ 1048576)
    (h : ∀ v' w', Rows B w' v' (l ++ m) → Below B w w' → wpList Tryz.prog ops Q rest (a.put oo.dst v') w') : wpList Tryz.prog ops Q (oo :: rest) a w := by
  obtain ⟨i0, hi, hz0, hz1, hz2⟩ := info_parts infoRow
  cases A with
  | none =>
    have hm : m = [] := by
      cases m with
      | nil => rfl
      | cons y m =>
        obtain ⟨_, _, e, _⟩ := hrd (by simp)
        cases e
    have hc := h0 hm rfl
    subst hm
    subst hc
    rw [List.append_nil] at h
    exact wpList_append_own_none hgd s x 23 ho B RowT i0 3 Tryz.underlying23 hi v l.length (rowcells l) hs hst hx (h v w hst (Below.refl _ _))
  | some ad =>
    refine wpList_append_own_at _ hgd s x 23 ho B RowT i0 (.agg #[.string ⟨#[]⟩, .string ⟨#[]⟩, .int .i64 0]) 3 40 Tryz.underlying23 hi hz0 hz1 hz2 rfl (by decide) v l.length (rowcells l) hs hst ad m.length c (rowcells m) hx (by rw [rowcells_length]) ?_ ?_ ?_ ?_ hB ?_
    · intro j u hj
      have hlen : 0 < m.length := by
        have := (List.getElem?_eq_some_iff.1 hj).1
        rw [rowcells_length] at this
        omega
      obtain ⟨g, o, e, hc⟩ := hrd.cells hlen
      injection e with e
      subst e
      exact hc j u hj
    · intro u hu
      unfold rowcells at hu
      obtain ⟨y, _, hy⟩ := List.mem_flatMap.1 hu
      simp at hy
      rcases hy with rfl | rfl | rfl <;> rfl
    · unfold maxLen; omega
    · omega
    · intro v' w1 hown hgrow _ hat
      refine h v' w1 ?_ ((Below.refl B w).grown hgrow hB (fun k hk => (World.ownsRow.lt hst k hk).1))
      unfold Rows
      rw [rowcells_append, List.length_append]
      exact hown
end
theorem mapC_at (w0 : World) (hO : Okw w0) {b : ByteArray} (hb : b.size ≤ 1000000) {l : List LRow} {i e : Int} (h : readL oneC b.data.toList = (l, i, e)) : ∀ w, Below w0.heap.size w0 w → Calls Tryz.prog 13 #[.string b] w (ReadAt w l i e) :=
  fun w hb0 => (mapC_any b hb w (hO.keep hb0)).mono fun _ _ hr => readAt_of h hr
theorem mapU_at (w0 : World) (hO : Okw w0) {b : ByteArray} (hb : b.size ≤ 1000000) {l : List LRow} {i e : Int} (h : readL oneU b.data.toList = (l, i, e)) : ∀ w, Below w0.heap.size w0 w → Calls Tryz.prog 11 #[.string b] w (ReadAt w l i e) :=
  fun w hb0 => (mapU_any b hb w (hO.keep hb0)).mono fun _ _ hr => readAt_of h hr
theorem alike_at (w0 : World) (A1 A2 : Option Addr) (c1 c2 : Nat) (l : List LRow) (hl : l.length ≤ 1000000) (w : World) (hb : Below w0.heap.size w0 w) (h1 : RdR w A1 l) (h2 : RdR w A2 l) :
    Calls Tryz.prog 16 #[.slice A1 l.length c1, .slice A2 l.length c2] w fun e w' => e = .returned (.bool true) ∧ Below w0.heap.size w0 w' :=
  (alike_any A1 A2 c1 c2 l hl w h1 h2).mono fun _ _ ⟨h, hb'⟩ => ⟨h, hb.trans (hb'.mono hb.size)⟩
end Go.Proofs.YtopaoejapnakiaaGreatDoor.Mf
