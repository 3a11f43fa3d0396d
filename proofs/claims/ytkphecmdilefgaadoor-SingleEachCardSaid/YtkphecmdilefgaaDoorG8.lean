/- Walks: inkhornref17's NFD, Key, begins; inkhornref13's Wrong. -/
import Derived.Test.YtkphecmdilefgaaDoorG7
namespace Go.Proofs.YtkphecmdilefgaaDoor.Sg
open Go.RowKit Pl Go.Lib

theorem own_low {w : World} {B B' e sz n : Nat} {v : Value} {xs : List Value} (h : w.ownsRow B' e sz v n xs) (hB : B ≤ B') : w.ownsRow B e sz v n xs := by
  refine ⟨h.1, ?_⟩
  rcases h.2 with h1 | ⟨g, cap, cur, e1, hg, hh, h4⟩
  · exact .inl h1
  · exact .inr ⟨g, cap, cur, e1, Nat.le_trans hB hg, hh, h4⟩
theorem flat_one_le (l : List Int) : (l.flatMap oneR).length ≤ 3 * l.length := by
  induction l with
  | nil => simp
  | cons a l ih =>
    have := oneR_len a
    simp only [List.flatMap_cons, List.length_append, List.length_cons]
    omega
set_option maxRecDepth 100000 in
set_option maxHeartbeats 800000 in
theorem nfd_any (A : Option Addr) (c : Nat) (l : List Int) (w : World) (hR : Rd w A l.length (i32s l)) (hl : l.length ≤ 1048576) :
    Calls Tryd.prog 46 #[.agg #[], .slice A l.length c] w (OnePost w (nfd l)) := by
  have HR := Lib.hid hR
  unfold nfd
  clear hR
  go_enter Tryd.func46, Tryd.ntmps46
  go_wp2
  go_loopw [5, 6] (fun v i wr => ∃ j : Nat, j ≤ l.length ∧ i = .int .i64 j ∧ wr.ownsRow w.heap.size RuneT 1 v ((l.take j).flatMap oneR).length (i32s ((l.take j).flatMap oneR)) ∧ Below w.heap.size w wr) (fun _ i _ => l.length - (intOf i).toNat)
  case atStart => exact ⟨0, Nat.zero_le _, rfl, World.ownsRow_nil _ _ _ _, (Below.refl _ _).alloc (Nat.le_refl _) _⟩
  case round =>
    obtain ⟨j, hj, rfl, ho, hb⟩ := hrel
    have HB := Lib.hid hb
    have HO := Lib.hid ho
    have hL := flat_one_le (l.take j)
    rw [List.length_take] at hL
    by_cases hlt : j < l.length
    · obtain ⟨bk, o, rfl, hbk, c0⟩ := (HR.out.keep hb).i32_at hlt
      have htk : (l.take (j + 1)).flatMap oneR = (l.take j).flatMap oneR ++ oneR l[j] := by rw [List.take_succ_eq_append_getElem hlt, List.flatMap_append]; simp
      generalize l[j] = r at *
      have HTK := Lib.hid htk
      have H1 := Lib.hid (one_any r wr)
      have h3 := (oneR_len r).2
      generalize oneR r = R at *
      generalize (l.take j).flatMap oneR = L at *
      clear htk hb hbk ho
      go_wp2_with fail
      refine H1.out.mono ?_
      rintro _ w1 ⟨v1, rfl, ho1, hb1⟩
      have HO1 := Lib.hid (own_below HO.out hb1)
      have HB1 := Lib.hid (HB.out.trans (hb1.mono HB.out.size))
      have HV1 := Lib.hid ho1
      clear ho1 hb1 HO HB c0
      go_wp2_with (at_builtin; go_loud (refine wpList_outs w1 rfl _ _ rfl w.heap.size u5 L rfl HO1.out HB1.out.size wr.heap.size v1 R rfl HV1.out (by omega) ?_); intro v2 w2 ho2 hgr hat)
      have hb2 := HB1.out.grown hgr HB1.out.size (fun k hk => (HO1.out.lt k hk).1)
      go_roundw
      case rel => exact ⟨j + 1, by omega, by go_num, by rw [HTK.out]; exact ho2, hb2⟩
      case measure => simp [intOf]; omega
    · obtain rfl : j = l.length := by omega
      rw [List.take_of_length_le (Nat.le_refl _)] at HO hL
      have HS := Lib.hid (sort_any w.heap.size u5 (l.flatMap oneR) wr HO.out (by omega))
      clear hb ho
      go_wp2_with fail
      refine HS.out.mono ?_
      rintro _ w1 ⟨v1, rfl, ho1, hb1⟩
      go_wp2_with fail
      go_returns
      exact ⟨_, rfl, own_low ho1 HB.out.size, HB.out.trans (hb1.mono HB.out.size)⟩
/-- The value of a row of the reference. -/
abbrev rval (code : ByteArray) (v : Value) (flag : Int) : Value := .agg #[.string code, v, .int .i64 flag]
theorem key_any (code : ByteArray) (v : Value) (text : List Int) (flag : Int) (w : World) (hT : TextAt w v text) (hl : text.length ≤ 1048576) :
    Calls Tryd.prog 37 #[rval code v flag] w (OnePost w (nfd text)) := by
  obtain ⟨A, c, rfl, hr⟩ := hT.rd
  have hb : Below w.heap.size w (w.alloc (.cells #[.string code, .slice A text.length c, .int .i64 flag] RefT)) := (Below.refl _ _).alloc (Nat.le_refl _) _
  have HN := Lib.hid (nfd_any A c text _ (hr.keep hb) hl)
  have HB := Lib.hid hb
  clear hT hr hb
  go_enter Tryd.func37, Tryd.ntmps37
  go_wp2_with fail
  refine HN.out.mono ?_
  rintro _ w1 ⟨v1, rfl, ho1, hb1⟩
  go_wp2_with fail
  go_returns
  exact ⟨_, rfl, own_low ho1 HB.out.size, HB.out.trans (hb1.mono HB.out.size)⟩
end Go.Proofs.YtkphecmdilefgaaDoor.Sg
