/- Walks: inkhornlaw03.awake. -/
import Derived.Test.YtlfhmkjomogkiaaDoorSk
import Derived.Test.YtlfhmkjomogkiaaDoorWk
import Derived.Test.YtlfhmkjomogkiaaDoorWa
namespace Go.Proofs.YtlfhmkjomogkiaaDoor.Str
open Go.RowKit Pl

theorem new_ok (k p : Int) (g : Bool) (h : 1 ≤ k ∧ k ≤ 5 ∧ 1 ≤ p ∧ p ≤ 3) (w : World) :
    Calls Tryd.prog 33 #[.int .i64 k, .int .i64 p, .bool g] w fun e w' => ∃ b, e = .returned (.tuple #[.pointer (some ⟨b, 0, none⟩), .int .i64 0]) ∧ DecAt w.heap.size b w' (snew k p g) nilV ∧ Below w.heap.size w w' :=
  (new_any k p g w).mono fun e w' ⟨hb, hp⟩ => by
    rcases hp with ⟨hn, _⟩ | ⟨_, b, he, hd⟩
    · exact absurd h hn
    · exact ⟨b, he, hd, hb⟩
theorem snew_fit (k p : Int) (g : Bool) (h : 1 ≤ k ∧ k ≤ 5 ∧ 1 ≤ p ∧ p ≤ 3) : sfit (snew k p g) := ⟨h.1, h.2.1, h.2.2.1, h.2.2.2, Nat.le_refl _⟩
def aw1 : SSt := ⟨[239, 187], 2, 5, 2, true, false, []⟩
def aw2 : SSt := ⟨[195], 5, 5, 2, false, false, []⟩
def aw3 : SSt := ⟨[], 5, 5, 2, false, true, [(4, 1)]⟩
theorem aw_1 : sfeed [239, 187] (snew 5 2 true) = (aw1, [], 0) := by kernel_rfl
theorem aw_2 : sfeed [191, 65, 195] aw1 = (aw2, [65], 0) := by kernel_rfl
theorem aw_3 : sclose aw2 = (aw3, [65533], 0) := by kernel_rfl
/-- A row that a decoder's last call did not touch. -/
theorem own_over {B b B' : Nat} {w w' : World} {s : SSt} {v vo : Value} {o : List Int} (ho : w.ownsRow B' RuneT 1 vo o.length (i32s o)) (hd : DecAt B b w s v) (hk : Kept b v w w') : w'.ownsRow B' RuneT 1 vo o.length (i32s o) :=
  own_kept ho fun g hg => hk.block g (ho.lt g hg).2 (fun e => own_blk_ne ho hd.1 (by decide) (by rw [hg, e])) (fun e => by
    rcases own_own_ne ho hd.2.2 (by decide) with h | h
    · rw [hg] at h; cases h
    · exact h (by rw [hg, e]))
set_option maxRecDepth 100000 in
set_option maxHeartbeats 1600000 in
theorem awake_any (w : World) (hRL : Utf.RL w) :
    Calls Tryd.prog 29 #[] w fun e w' => e = .returned (.bool true) ∧ Below w.heap.size w w' := by
  have HN := Lib.hid (new_ok 5 2 true (by decide) w)
  have HRL := Lib.hid hRL
  have hpos := hRL.pos
  clear hRL
  go_enter Tryd.func29, Tryd.ntmps29
  go_wp2_with fail
  refine HN.out.mono ?_
  rintro e w1 ⟨b, rfl, hd1, hb1⟩
  have HD1 := Lib.hid hd1
  have HB1 := Lib.hid hb1
  clear hd1 hb1 HN
  go_wp2_with fail
  have hd : DecAt w.heap.size b (w1.alloc (.cells #[.string ⟨#[239, 187]⟩] 9)) (snew 5 2 true) nilV := HD1.out.below ((Below.refl _ _).alloc (Nat.le_refl _) _)
  have hbb : Below w.heap.size w (w1.alloc (.cells #[.string ⟨#[239, 187]⟩] 9)) := HB1.out.alloc HB1.out.size _
  have hF := feed_any w.heap.size b (snew 5 2 true) nilV (some ⟨w1.heap.size, 0, none⟩) 1 1 [⟨#[239, 187]⟩] _ hd (Rd.of_new w1 _ _ 1 rfl) (Nat.le_refl _) (by decide) (snew_fit 5 2 true (by decide)) (by decide) (by decide) (HRL.out.since hbb) hpos
  rw [show allB [(⟨#[239, 187]⟩ : ByteArray)] = [239, 187] from rfl, aw_1] at hF
  refine hF.mono ?_
  rintro e w2 ⟨vo1, v1, rfl, ho1, hd2, hk2, _⟩
  have HD2 := Lib.hid hd2
  have HB2 := Lib.hid (hbb.trans (hd.frame hk2))
  obtain ⟨A1, c1, rfl, _⟩ := rd_of_own ho1
  clear ho1 hk2 hd2 hbb hd hF HD1 HB1
  go_wp2_with fail
  have hd : DecAt w.heap.size b (w2.alloc (.cells #[.string ⟨#[191, 65, 195]⟩] 9)) aw1 v1 := HD2.out.below ((Below.refl _ _).alloc (Nat.le_refl _) _)
  have hbb : Below w.heap.size w (w2.alloc (.cells #[.string ⟨#[191, 65, 195]⟩] 9)) := HB2.out.alloc HB2.out.size _
  have hF := feed_any w.heap.size b aw1 v1 (some ⟨w2.heap.size, 0, none⟩) 1 1 [⟨#[191, 65, 195]⟩] _ hd (Rd.of_new w2 _ _ 1 rfl) (Nat.le_refl _) (by decide) (by unfold sfit aw1; decide) (by decide) (by decide) (HRL.out.since hbb) hpos
  rw [show allB [(⟨#[191, 65, 195]⟩ : ByteArray)] = [191, 65, 195] from rfl, aw_2] at hF
  refine hF.mono ?_
  rintro e w3 ⟨vo2, v2, rfl, ho2, hd3, hk3, _⟩
  have HD3 := Lib.hid hd3
  have HO2 := Lib.hid ho2
  have HB3 := Lib.hid (hbb.trans (hd.frame hk3))
  have HW := Lib.hid (waits_any w.heap.size b aw2 v2 w3 hd3)
  rw [show (⟨aw2.rest.toArray⟩ : ByteArray) = ⟨#[195]⟩ from rfl] at HW
  have HC := Lib.hid (close_any w.heap.size b aw2 v2 w3 hd3 (by unfold sfit aw2; decide) (by decide) (by decide) (HRL.out.since HB3.out) hpos)
  rw [aw_3] at HC
  clear ho2 hk3 hd3 hbb hd hF HD2 HB2
  go_wp2_with fail
  refine HW.out.mono ?_
  rintro e w' ⟨rfl, rfl⟩
  go_wp2_with fail
  refine HC.out.mono ?_
  rintro e w4 ⟨vo3, v3, rfl, ho3, hd4, hk4, _⟩
  have ho4 := own_over HO2.out HD3.out hk4
  have HB4 := Lib.hid (HB3.out.trans (HD3.out.frame hk4))
  obtain ⟨A2, c2, rfl, r2⟩ := rd_of_own ho4
  obtain ⟨A3, c3, rfl, r3⟩ := rd_of_own ho3
  have R2 := Lib.hid r2
  have R3 := Lib.hid r3
  clear ho3 hd4 hk4 ho4 r2 r3 HO2 HD3 HB3 HC HW
  go_wp2_with fail
  have hq := runes_any A2 1 c2 [65] (some ⟨w4.heap.size, 0, none⟩) 1 1 [65] (w4.alloc (.cells #[.int .i32 65] 21)) (R2.out.keep ((Below.refl _ _).alloc (Nat.le_refl _) _)) (Rd.of_new w4 _ _ 1 rfl) (by decide)
  rw [decide_eq_true rfl] at hq
  refine hq.mono ?_
  rintro e w5 ⟨rfl, hd5⟩
  have hb5 := ((Below.refl w4.heap.size w4).alloc (Nat.le_refl _) _).trans (hd5.below w4.heap.size)
  have R3' := Lib.hid (R3.out.keep hb5)
  have HB5 := Lib.hid (HB4.out.trans (hb5.mono HB4.out.size))
  clear hd5 hb5 hq HB4 R2 R3
  go_wp2_with fail
  have hq := runes_any A3 1 c3 [65533] (some ⟨w5.heap.size, 0, none⟩) 1 1 [65533] (w5.alloc (.cells #[.int .i32 65533] 21)) (R3'.out.keep ((Below.refl _ _).alloc (Nat.le_refl _) _)) (Rd.of_new w5 _ _ 1 rfl) (by decide)
  rw [decide_eq_true rfl] at hq
  refine hq.mono ?_
  rintro e w6 ⟨rfl, hd6⟩
  have hb6 := ((Below.refl w5.heap.size w5).alloc (Nat.le_refl _) _).trans (hd6.below w5.heap.size)
  have HB6 := Lib.hid (HB5.out.trans (hb6.mono HB5.out.size))
  clear hd6 hb6 hq HB5 R3'
  go_wp2
  go_returns
  exact ⟨rfl, HB6.out⟩
end Go.Proofs.YtlfhmkjomogkiaaDoor.Str
