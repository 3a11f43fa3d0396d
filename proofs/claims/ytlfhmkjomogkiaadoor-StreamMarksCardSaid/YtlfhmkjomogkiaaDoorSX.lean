/- Joined of: Sk, Sm, Sp, Sq, Sr, Ss, St, Su, Sv. -/
import Derived.Test.YtlfhmkjomogkiaaDoorSe
import Derived.Test.YtlfhmkjomogkiaaDoorSf
import Derived.Test.YtlfhmkjomogkiaaDoorSg
import Derived.Test.YtlfhmkjomogkiaaDoorSh
import Derived.Test.YtlfhmkjomogkiaaDoorSi
import Derived.Test.YtlfhmkjomogkiaaDoorSj
import Derived.Test.YtlfhmkjomogkiaaDoorWk
import Derived.Test.YtlfhmkjomogkiaaDoorWa
import Derived.Test.YtlfhmkjomogkiaaDoorPlain4
import Derived.Test.YtlfhmkjomogkiaaDoorWg
import Derived.Test.YtlfhmkjomogkiaaDoorWc
import Derived.Test.YtlfhmkjomogkiaaDoorUh
import Derived.Test.YtlfhmkjomogkiaaDoorUe
import Derived.Test.YtlfhmkjomogkiaaDoorJoin
import Derived.Laws.AppendOwn
import Derived.Deep.RegionHeld3
/- Walks: Decoder.take whole, Feed, Close, Waits, Kind, At. -/
namespace Go.Proofs.YtlfhmkjomogkiaaDoor.Str
open Go.RowKit Pl

theorem take_any (B b : Nat) (s : SSt) (v0 : Value) (w : World) (h : DecAt B b w s v0) (hf : sfit s) (ha : s.all ≤ 1000000) (hb : s.bad.length ≤ 1000000) (hRL : Utf.RL w) (hB0 : 0 < B) (e : Bool) :
    Calls Tryd.prog 49 #[.pointer (some ⟨b, 0, none⟩), .bool e] w (TakePost B b w v0 (stake e s)) := by
  unfold stake swait
  cases hg : s.guess
  · simp only [Bool.false_and, Bool.false_eq_true, if_false]
    cases e
    · exact take_off_false B b s v0 w h hf ha hb hRL hg
    · exact take_off_true B b s v0 w h hf ha hb hRL hg
  · cases e
    · cases ho : sopen s.rest
      · simp only [Bool.and_false, Bool.false_eq_true, if_false, if_true]
        by_cases hm : 0 < (smarked s.rest).1
        · exact take_mark_false B b s v0 w h hf ha hb hRL hB0 hg ho hm
        · exact take_none_false B b s v0 w h hf ha hb hRL hB0 hg ho hm
      · exact take_wait B b s v0 w h hf ha hb hRL hg ho
    · simp only [Bool.not_true, Bool.and_false, Bool.false_and, Bool.false_eq_true, if_false, if_true]
      by_cases hm : 0 < (smarked s.rest).1
      · exact take_mark_true B b s v0 w h hf ha hb hRL hB0 hg hm
      · exact take_none_true B b s v0 w h hf ha hb hRL hB0 hg hm
theorem TakePost.lift {B b : Nat} {w w1 w' : World} {v : Value} {x : SSt × List Int × Int} {e : Ending} (h : TakePost B b w1 v x e w') (hk : Kept b nilV w w1) : TakePost B b w v x e w' := by
  obtain ⟨vo, v', rfl, h1, h2, h3, h4⟩ := h
  refine ⟨vo, v', rfl, own_mono h1 hk.size, h2, hk.wide.trans h3 (.inl rfl), ?_⟩
  rcases h4 with h4 | ⟨g, e, hg⟩
  · exact .inl h4
  · exact .inr ⟨g, e, Nat.le_trans hk.size hg⟩
/-- What Feed and Close leave and answer. -/
def sfeed (t : List UInt8) (s : SSt) : SSt × List Int × Int := if s.over then (s, [], 21) else stake false (sadd t s)
def sshut (x : SSt × List Int × Int) : SSt × List Int × Int := ({ x.1 with over := true }, x.2)
def sclose (s : SSt) : SSt × List Int × Int := if s.over then (s, [], 21) else sshut (stake true s)
theorem sadd_fit (t : List UInt8) (s : SSt) (h : sfit s) : sfit (sadd t s) := by
  obtain ⟨h1, h2, h3, h4, h5⟩ := h
  refine ⟨h1, h2, h3, h4, ?_⟩
  show (s.rest ++ t).length ≤ s.all + t.length
  rw [List.length_append]; omega
theorem feed_any (B b : Nat) (s : SSt) (v : Value) (A : Option Addr) (n c : Nat) (ls : List ByteArray) (w : World) (h : DecAt B b w s v) (hR : Rd w A n (strv ls)) (hcap : n ≤ c) (hn : n ≤ 1000000)
    (hf : sfit s) (hlen : s.all + (allB ls).length ≤ 1000000) (hbad : s.bad.length ≤ 1000000) (hRL : Utf.RL w) (hB0 : 0 < B) :
    Calls Tryd.prog 35 #[.pointer (some ⟨b, 0, none⟩), .slice A n c] w (TakePost B b w v (sfeed (allB ls) s)) := by
  have c5 : w.cell? ⟨b, 5, none⟩ = some (.bool s.over) := by rw [h.1.cell]; rfl
  unfold sfeed
  cases ho : s.over
  · rw [ho] at c5
    simp only [Bool.false_eq_true, if_false]
    have HA := Lib.hid (add_any B b s v A n c ls w h hR hcap hn (by omega) (by omega) (by have := hf.2.2.2.2; omega))
    have HT : Hid (∀ w', AddPost B b w s v (.returned (.tuple #[])) w' → True) := Lib.hid fun _ _ => trivial
    have HN : Hid (∀ w', DecAt B b w' (sadd (allB ls) s) v → Kept b nilV w w' → Calls Tryd.prog 49 #[.pointer (some ⟨b, 0, none⟩), .bool false] w' (TakePost B b w v (stake false (sadd (allB ls) s)))) := by
      intro w' hd hk
      refine (take_any B b _ v w' hd (sadd_fit _ _ hf) hlen hbad ?_ hB0 false).mono fun e w'' hp => hp.lift hk
      exact hRL.below (hk.below h.2.1 (fun g hg => absurd hg (nil_own g)) (by have := h.1.lt; have := h.2.1; omega)) hB0
    clear h hR hcap hn hf hlen hbad hRL hB0 HT
    generalize stake false (sadd (allB ls) s) = x at *
    go_enter Tryd.func35, Tryd.ntmps35
    go_wp2_with fail
    refine HA.out.mono ?_
    rintro e w1 ⟨rfl, hd1, hk1⟩
    have HN1 := Lib.hid (HN.out w1 hd1 hk1)
    clear hd1 hk1 HA HN
    go_wp2_with fail
    refine HN1.out.mono ?_
    rintro e w2 ⟨vo, v', rfl, hst⟩
    go_wp2
    go_returns
    exact ⟨vo, v', rfl, hst⟩
  · rw [ho] at c5
    simp only [if_true]
    have H := Lib.hid h
    clear h hR hcap hn hf hlen hbad hRL hB0
    go_enter Tryd.func35, Tryd.ntmps35
    go_wp2
    go_returns
    exact ⟨_, v, rfl, World.ownsRow_nil _ _ _ _, H.out, Kept.refl _ _ _, .inl rfl⟩
theorem close_any (B b : Nat) (s : SSt) (v : Value) (w : World) (h : DecAt B b w s v) (hf : sfit s) (hlen : s.all ≤ 1000000) (hbad : s.bad.length ≤ 1000000) (hRL : Utf.RL w) (hB0 : 0 < B) :
    Calls Tryd.prog 37 #[.pointer (some ⟨b, 0, none⟩)] w (TakePost B b w v (sclose s)) := by
  have c5 : w.cell? ⟨b, 5, none⟩ = some (.bool s.over) := by rw [h.1.cell]; rfl
  unfold sclose
  cases ho : s.over
  · rw [ho] at c5
    simp only [Bool.false_eq_true, if_false]
    have HT := Lib.hid (take_any B b s v w h hf hlen hbad hRL hB0 true)
    clear h hf hlen hbad hRL hB0
    generalize stake true s = x at *
    go_enter Tryd.func37, Tryd.ntmps37
    go_wp2_with fail
    refine HT.out.mono ?_
    rintro e w1 ⟨vo, v', rfl, h1, h2, h3, h4⟩
    have d5 : w1.cell? ⟨b, 5, none⟩ = some (.bool x.1.over) := by rw [h2.1.cell]; rfl
    have f5 : w1.frozen? ⟨b, 5, none⟩ = false := Blk.frozen h2.1 5
    have H1 := Lib.hid h1
    have H2 := Lib.hid h2
    have H3 := Lib.hid h3
    clear h1 h2 h3 HT
    go_wp2
    go_returns
    refine ⟨vo, v', rfl, own_set H1.out (own_blk_ne H1.out H2.out.1 (by decide)), ⟨Blk.set H2.out.1 5 _, H2.out.2.1, own_set H2.out.2.2 H2.out.own_ne⟩, ?_, h4⟩
    exact ⟨H3.out.os, H3.out.tape, H3.out.output, by simpa using H3.out.size, fun g hg hb hn => (heap_setCell_other w1 ⟨b, 5, none⟩ g _ hb).trans (H3.out.block g hg hb hn)⟩
  · rw [ho] at c5
    simp only [if_true]
    have H := Lib.hid h
    clear h hf hlen hbad hRL hB0
    go_enter Tryd.func37, Tryd.ntmps37
    go_wp2
    go_returns
    exact ⟨_, v, rfl, World.ownsRow_nil _ _ _ _, H.out, Kept.refl _ _ _, .inl rfl⟩
theorem waits_any (B b : Nat) (s : SSt) (v : Value) (w : World) (h : DecAt B b w s v) :
    Calls Tryd.prog 36 #[.pointer (some ⟨b, 0, none⟩)] w fun e w' => e = .returned (.string ⟨s.rest.toArray⟩) ∧ w = w' := by
  have c0 : w.cell? ⟨b, 0, none⟩ = some (.string ⟨s.rest.toArray⟩) := by rw [h.1.cell]; rfl
  clear h
  go_enter Tryd.func36, Tryd.ntmps36
  go_wp2
  go_ret
  exact ⟨rfl, rfl⟩
theorem kind_any (B b : Nat) (s : SSt) (v : Value) (w : World) (h : DecAt B b w s v) :
    Calls Tryd.prog 39 #[.pointer (some ⟨b, 0, none⟩)] w fun e w' => e = .returned (.int .i64 s.kind) ∧ w = w' := by
  have c0 : w.cell? ⟨b, 2, none⟩ = some (.int .i64 s.kind) := by rw [h.1.cell]; rfl
  clear h
  go_enter Tryd.func39, Tryd.ntmps39
  go_wp2
  go_ret
  exact ⟨rfl, rfl⟩
theorem at_any (B b : Nat) (s : SSt) (v : Value) (w : World) (h : DecAt B b w s v) :
    Calls Tryd.prog 40 #[.pointer (some ⟨b, 0, none⟩)] w fun e w' => e = .returned (.int .i64 s.all) ∧ w = w' := by
  have c0 : w.cell? ⟨b, 1, none⟩ = some (.int .i64 s.all) := by rw [h.1.cell]; rfl
  clear h
  go_enter Tryd.func40, Tryd.ntmps40
  go_wp2
  go_ret
  exact ⟨rfl, rfl⟩
/- A decoder that is nil. -/
theorem feed_nil (v : Value) (w : World) :
    Calls Tryd.prog 35 #[.pointer none, v] w fun e w' => e = .returned (.tuple #[nilV, .int .i64 2]) ∧ w = w' := by
  go_enter Tryd.func35, Tryd.ntmps35
  go_wp2
  go_returns
  exact ⟨rfl, rfl⟩
theorem close_nil (w : World) :
    Calls Tryd.prog 37 #[.pointer none] w fun e w' => e = .returned (.tuple #[nilV, .int .i64 2]) ∧ w = w' := by
  go_enter Tryd.func37, Tryd.ntmps37
  go_wp2
  go_returns
  exact ⟨rfl, rfl⟩
theorem faults_nil (w : World) :
    Calls Tryd.prog 38 #[.pointer none] w fun e w' => e = .returned nilV ∧ w = w' := by
  go_enter Tryd.func38, Tryd.ntmps38
  go_wp2
  go_ret
  exact ⟨rfl, rfl⟩
theorem waits_nil (w : World) :
    Calls Tryd.prog 36 #[.pointer none] w fun e w' => e = .returned (.string ⟨#[]⟩) ∧ w = w' := by
  go_enter Tryd.func36, Tryd.ntmps36
  go_wp2
  go_ret
  exact ⟨rfl, rfl⟩
theorem kind_nil (w : World) :
    Calls Tryd.prog 39 #[.pointer none] w fun e w' => e = .returned (.int .i64 0) ∧ w = w' := by
  go_enter Tryd.func39, Tryd.ntmps39
  go_wp2
  go_ret
  exact ⟨rfl, rfl⟩
theorem at_nil (w : World) :
    Calls Tryd.prog 40 #[.pointer none] w fun e w' => e = .returned (.int .i64 0) ∧ w = w' := by
  go_enter Tryd.func40, Tryd.ntmps40
  go_wp2
  go_ret
  exact ⟨rfl, rfl⟩
end Go.Proofs.YtlfhmkjomogkiaaDoor.Str

/- Walks: inkhornlaw03.awake. -/
namespace Go.Proofs.YtlfhmkjomogkiaaDoor.Str
open Go.RowKit Pl

theorem new_ok (k p : Int) (g : Bool) (h : 1 ≤ k ∧ k ≤ 5 ∧ 1 ≤ p ∧ p ≤ 3) (w : World) :
    Calls Tryd.prog 33 #[.int .i64 k, .int .i64 p, .bool g] w fun e w' => ∃ b, e = .returned (.tuple #[.pointer (some ⟨b, 0, none⟩), .int .i64 0]) ∧ DecAt w.heap.size b w' (snew k p g) nilV ∧ Below w.heap.size w w' :=
  (new_any k p g w).mono fun e w' ⟨hb, hp⟩ => by
    rcases hp with ⟨hn, _⟩ | ⟨_, b, he, hd⟩
    · exact absurd h hn
    · exact ⟨b, he, hd, hb⟩
theorem snew_fit (k p : Int) (g : Bool) (h : 1 ≤ k ∧ k ≤ 5 ∧ 1 ≤ p ∧ p ≤ 3) : sfit (snew k p g) := ⟨h.1, h.2.1, h.2.2.1, h.2.2.2, Nat.le_refl _⟩
def aw1 : SSt := ⟨[239, 187], 2, 5, 2, true, false, []⟩
def aw2 : SSt := ⟨[195], 5, 5, 2, false, false, []⟩
def aw3 : SSt := ⟨[], 5, 5, 2, false, true, [(4, 1)]⟩
theorem aw_1 : sfeed [239, 187] (snew 5 2 true) = (aw1, [], 0) := by kernel_rfl
theorem aw_2 : sfeed [191, 65, 195] aw1 = (aw2, [65], 0) := by kernel_rfl
theorem aw_3 : sclose aw2 = (aw3, [65533], 0) := by kernel_rfl
/-- A row that a decoder's last call did not touch. -/
theorem own_over {B b B' : Nat} {w w' : World} {s : SSt} {v vo : Value} {o : List Int} (ho : w.ownsRow B' RuneT 1 vo o.length (i32s o)) (hd : DecAt B b w s v) (hk : Kept b v w w') : w'.ownsRow B' RuneT 1 vo o.length (i32s o) :=
  own_kept ho fun g hg => hk.block g (ho.lt g hg).2 (fun e => own_blk_ne ho hd.1 (by decide) (by rw [hg, e])) (fun e => by
    rcases own_own_ne ho hd.2.2 (by decide) with h | h
    · rw [hg] at h; cases h
    · exact h (by rw [hg, e]))
set_option maxRecDepth 100000 in
set_option maxHeartbeats 1600000 in
theorem awake_any (w : World) (hRL : Utf.RL w) :
    Calls Tryd.prog 29 #[] w fun e w' => e = .returned (.bool true) ∧ Below w.heap.size w w' := by
  have HN := Lib.hid (new_ok 5 2 true (by decide) w)
  have HRL := Lib.hid hRL
  have hpos := hRL.pos
  clear hRL
  go_enter Tryd.func29, Tryd.ntmps29
  go_wp2_with fail
  refine HN.out.mono ?_
  rintro e w1 ⟨b, rfl, hd1, hb1⟩
  have HD1 := Lib.hid hd1
  have HB1 := Lib.hid hb1
  clear hd1 hb1 HN
  go_wp2_with fail
  have hd : DecAt w.heap.size b (w1.alloc (.cells #[.string ⟨#[239, 187]⟩] 9)) (snew 5 2 true) nilV := HD1.out.below ((Below.refl _ _).alloc (Nat.le_refl _) _)
  have hbb : Below w.heap.size w (w1.alloc (.cells #[.string ⟨#[239, 187]⟩] 9)) := HB1.out.alloc HB1.out.size _
  have hF := feed_any w.heap.size b (snew 5 2 true) nilV (some ⟨w1.heap.size, 0, none⟩) 1 1 [⟨#[239, 187]⟩] _ hd (Rd.of_new w1 _ _ 1 rfl) (Nat.le_refl _) (by decide) (snew_fit 5 2 true (by decide)) (by decide) (by decide) (HRL.out.since hbb) hpos
  rw [show allB [(⟨#[239, 187]⟩ : ByteArray)] = [239, 187] from rfl, aw_1] at hF
  refine hF.mono ?_
  rintro e w2 ⟨vo1, v1, rfl, ho1, hd2, hk2, _⟩
  have HD2 := Lib.hid hd2
  have HB2 := Lib.hid (hbb.trans (hd.frame hk2))
  obtain ⟨A1, c1, rfl, _⟩ := rd_of_own ho1
  clear ho1 hk2 hd2 hbb hd hF HD1 HB1
  go_wp2_with fail
  have hd : DecAt w.heap.size b (w2.alloc (.cells #[.string ⟨#[191, 65, 195]⟩] 9)) aw1 v1 := HD2.out.below ((Below.refl _ _).alloc (Nat.le_refl _) _)
  have hbb : Below w.heap.size w (w2.alloc (.cells #[.string ⟨#[191, 65, 195]⟩] 9)) := HB2.out.alloc HB2.out.size _
  have hF := feed_any w.heap.size b aw1 v1 (some ⟨w2.heap.size, 0, none⟩) 1 1 [⟨#[191, 65, 195]⟩] _ hd (Rd.of_new w2 _ _ 1 rfl) (Nat.le_refl _) (by decide) (by unfold sfit aw1; decide) (by decide) (by decide) (HRL.out.since hbb) hpos
  rw [show allB [(⟨#[191, 65, 195]⟩ : ByteArray)] = [191, 65, 195] from rfl, aw_2] at hF
  refine hF.mono ?_
  rintro e w3 ⟨vo2, v2, rfl, ho2, hd3, hk3, _⟩
  have HD3 := Lib.hid hd3
  have HO2 := Lib.hid ho2
  have HB3 := Lib.hid (hbb.trans (hd.frame hk3))
  have HW := Lib.hid (waits_any w.heap.size b aw2 v2 w3 hd3)
  rw [show (⟨aw2.rest.toArray⟩ : ByteArray) = ⟨#[195]⟩ from rfl] at HW
  have HC := Lib.hid (close_any w.heap.size b aw2 v2 w3 hd3 (by unfold sfit aw2; decide) (by decide) (by decide) (HRL.out.since HB3.out) hpos)
  rw [aw_3] at HC
  clear ho2 hk3 hd3 hbb hd hF HD2 HB2
  go_wp2_with fail
  refine HW.out.mono ?_
  rintro e w' ⟨rfl, rfl⟩
  go_wp2_with fail
  refine HC.out.mono ?_
  rintro e w4 ⟨vo3, v3, rfl, ho3, hd4, hk4, _⟩
  have ho4 := own_over HO2.out HD3.out hk4
  have HB4 := Lib.hid (HB3.out.trans (HD3.out.frame hk4))
  obtain ⟨A2, c2, rfl, r2⟩ := rd_of_own ho4
  obtain ⟨A3, c3, rfl, r3⟩ := rd_of_own ho3
  have R2 := Lib.hid r2
  have R3 := Lib.hid r3
  clear ho3 hd4 hk4 ho4 r2 r3 HO2 HD3 HB3 HC HW
  go_wp2_with fail
  have hq := runes_any A2 1 c2 [65] (some ⟨w4.heap.size, 0, none⟩) 1 1 [65] (w4.alloc (.cells #[.int .i32 65] 21)) (R2.out.keep ((Below.refl _ _).alloc (Nat.le_refl _) _)) (Rd.of_new w4 _ _ 1 rfl) (by decide)
  rw [decide_eq_true rfl] at hq
  refine hq.mono ?_
  rintro e w5 ⟨rfl, hd5⟩
  have hb5 := ((Below.refl w4.heap.size w4).alloc (Nat.le_refl _) _).trans (hd5.below w4.heap.size)
  have R3' := Lib.hid (R3.out.keep hb5)
  have HB5 := Lib.hid (HB4.out.trans (hb5.mono HB4.out.size))
  clear hd5 hb5 hq HB4 R2 R3
  go_wp2_with fail
  have hq := runes_any A3 1 c3 [65533] (some ⟨w5.heap.size, 0, none⟩) 1 1 [65533] (w5.alloc (.cells #[.int .i32 65533] 21)) (R3'.out.keep ((Below.refl _ _).alloc (Nat.le_refl _) _)) (Rd.of_new w5 _ _ 1 rfl) (by decide)
  rw [decide_eq_true rfl] at hq
  refine hq.mono ?_
  rintro e w6 ⟨rfl, hd6⟩
  have hb6 := ((Below.refl w5.heap.size w5).alloc (Nat.le_refl _) _).trans (hd6.below w5.heap.size)
  have HB6 := Lib.hid (HB5.out.trans (hb6.mono HB5.out.size))
  clear hd6 hb6 hq HB5 R3'
  go_wp2
  go_returns
  exact ⟨rfl, HB6.out⟩
end Go.Proofs.YtlfhmkjomogkiaaDoor.Str

/- Plain: what a decoder makes of bytes that are all there, and what the reference makes of them. -/
namespace Go.Proofs.YtlfhmkjomogkiaaDoor.Str
open Pl

/-- What Whole answers: characters, faults, kind, error. -/
def swhole (k p : Int) (g : Bool) (t : List UInt8) : List Int × List (Nat × Nat) × Int × Int :=
  let x := stake true (sadd t (snew k p g))
  (x.2.1, x.1.bad, x.1.kind, x.2.2)
/-- The kind by which bytes are read, and where they begin. -/
def skind (k : Int) (g : Bool) (t : List UInt8) : Int := if g = true ∧ 0 < (smarked t).1 then (smarked t).1 else k
def sat (g : Bool) (t : List UInt8) : Nat := if g = true ∧ 0 < (smarked t).1 then (smarked t).2.toNat else 0
/-- What the reference answers. -/
def srefd (k p : Int) (g : Bool) (t : List UInt8) : List Int × List (Nat × Nat) × Int := decL (snx (skind k g t)) p (t.length - sat g t) (t.drop (sat g t)) (sat g t) [] []
theorem sat_le (g : Bool) (t : List UInt8) : sat g t ≤ t.length := by
  unfold sat
  split
  · rename_i h; have := smarked_fit t h.2; omega
  · omega
theorem skind_fit (k : Int) (g : Bool) (t : List UInt8) (h : 1 ≤ k ∧ k ≤ 5) : 1 ≤ skind k g t ∧ skind k g t ≤ 5 := by
  unfold skind
  split
  · rename_i h; have := smarked_fit t h.2; omega
  · exact h
theorem swhole_state (k p : Int) (g : Bool) (t : List UInt8) :
    (if (sadd t (snew k p g)).guess then sguess (sadd t (snew k p g)) else sadd t (snew k p g)) = ⟨t.drop (sat g t), t.length, skind k g t, p, false, false, []⟩ := by
  have e : sadd t (snew k p g) = ⟨t, t.length, k, p, g, false, []⟩ := by simp [sadd, snew]
  rw [e]
  unfold sguess sat skind
  cases g
  · simp
  · by_cases h : 0 < (smarked t).1
    · simp [h]
    · simp [h]
theorem swhole_ref (k p : Int) (g : Bool) (t : List UInt8) :
    swhole k p g t = ((srefd k p g t).1, (srefd k p g t).2.1, skind k g t, (srefd k p g t).2.2) := by
  have hn := sat_le g t
  unfold swhole stake
  have hw : swait true (sadd t (snew k p g)) = false := by simp [swait]
  rw [hw]
  simp only [Bool.false_eq_true, if_false]
  rw [swhole_state]
  have hd : sdec true ⟨t.drop (sat g t), t.length, skind k g t, p, false, false, []⟩ = dec (snx (skind k g t)) p (t.drop (sat g t)) := by
    unfold sdec slen
    rw [if_pos rfl, List.take_length]
  have hs : srefd k p g t = ((dec (snx (skind k g t)) p (t.drop (sat g t))).1, shiftF (sat g t) (dec (snx (skind k g t)) p (t.drop (sat g t))).2.1, (dec (snx (skind k g t)) p (t.drop (sat g t))).2.2) := by
    have h := decL_shift (nx := snx (skind k g t)) p (sat g t) (t.length - sat g t) (t.drop (sat g t)) 0 [] []
    rw [show shiftF (sat g t) [] = [] from rfl, Nat.add_zero] at h
    unfold srefd dec
    rw [List.length_drop]
    exact h
  unfold sread
  rw [hd, hs]
  have hl : t.length - (t.drop (sat g t)).length = sat g t := by rw [List.length_drop]; omega
  split
  · simp only [hl, List.nil_append]
  · simp only [hl, List.nil_append]
end Go.Proofs.YtlfhmkjomogkiaaDoor.Str

/- Walks: inkhornref03.mark, order, May, next, Guess. -/
namespace Go.Proofs.YtlfhmkjomogkiaaDoor.Str
open Go.RowKit Pl

/-- A kind's mark. -/
def smark (k : Int) : List UInt8 := if k = 5 then utfMark else wmark k
theorem refMark_any (k : Int) (h : 1 ≤ k ∧ k ≤ 5) (w : World) :
    Calls Tryd.prog 64 #[.int .i64 k] w fun e w' => e = .returned (.string ⟨(smark k).toArray⟩) ∧ Below w.heap.size w w' := by
  by_cases h5 : k = 5
  · subst h5
    have HB := Lib.hid (Utf.bytes_any 65279 (by decide))
    rw [show smark 5 = uch 65279 from by kernel_rfl]
    go_enter Tryd.func64, Tryd.ntmps64
    go_wp2_with (go_at_call 21; refine (HB.out _).mono ?_; rintro e w1 ⟨rfl, hb1⟩)
    go_returns
    exact ⟨rfl, hb1⟩
  · have HB := Lib.hid (bytes_any k h.1 (by omega) 65279 (by decide) (by decide))
    have e5 : (k == 5) = false := by simp [h5]
    rw [show smark k = wchar (wsize k) (bigOf k) 65279 from by
      rcases (show k = 1 ∨ k = 2 ∨ k = 3 ∨ k = 4 from by omega) with rfl | rfl | rfl | rfl <;> kernel_rfl]
    generalize wchar (wsize k) (bigOf k) 65279 = m at *
    clear h h5
    go_enter Tryd.func64, Tryd.ntmps64
    go_wp2_with (go_at_call 76; refine (HB.out _).mono ?_; rintro e w1 ⟨rfl, hb1⟩)
    go_returns
    exact ⟨rfl, hb1⟩
/-- The kinds in the order in which they are sought. -/
def ordS : Nat → Int
  | 0 => 5
  | 1 => 3
  | 2 => 4
  | 3 => 1
  | _ => 2
theorem order_any (i : Nat) (h : i < 5) (w : World) :
    Calls Tryd.prog 65 #[.int .i64 i] w fun e w' => e = .returned (.int .i64 (ordS i)) ∧ Below w.heap.size w w' := by
  match i, h with
  | 0, _ =>
    go_enter Tryd.func65, Tryd.ntmps65
    go_wp2
    go_returns
    exact ⟨rfl, by go_grown⟩
  | 1, _ =>
    go_enter Tryd.func65, Tryd.ntmps65
    go_wp2
    go_returns
    exact ⟨rfl, by go_grown⟩
  | 2, _ =>
    go_enter Tryd.func65, Tryd.ntmps65
    go_wp2
    go_returns
    exact ⟨rfl, by go_grown⟩
  | 3, _ =>
    go_enter Tryd.func65, Tryd.ntmps65
    go_wp2
    go_returns
    exact ⟨rfl, by go_grown⟩
  | 4, _ =>
    go_enter Tryd.func65, Tryd.ntmps65
    go_wp2
    go_returns
    exact ⟨rfl, by go_grown⟩
theorem may_any (k p : Int) (w : World) :
    Calls Tryd.prog 31 #[.int .i64 k, .int .i64 p] w fun e w' => e = .returned (.bool (decide (1 ≤ k ∧ k ≤ 5 ∧ 1 ≤ p ∧ p ≤ 3))) ∧ w = w' := by
  by_cases h1 : 1 ≤ k
  · by_cases h2 : k ≤ 5
    · by_cases h3 : 1 ≤ p
      · go_enter Tryd.func31, Tryd.ntmps31
        go_wp2
        go_ret
        exact ⟨by simp [h1, h2, h3], rfl⟩
      · go_enter Tryd.func31, Tryd.ntmps31
        go_wp2
        go_ret
        exact ⟨by rw [decide_eq_false (by omega)]; rfl, rfl⟩
    · go_enter Tryd.func31, Tryd.ntmps31
      go_wp2
      go_ret
      exact ⟨by rw [decide_eq_false (by omega)]; rfl, rfl⟩
  · go_enter Tryd.func31, Tryd.ntmps31
    go_wp2
    go_ret
    exact ⟨by rw [decide_eq_false (by omega)]; rfl, rfl⟩
theorem next_any (k : Int) (h : 1 ≤ k ∧ k ≤ 5) (s : ByteArray) (hm : s.size ≤ maxLen) (w : World) :
    Calls Tryd.prog 52 #[.int .i64 k, .string s] w fun e w' => nextEnd (snx k s.data.toList) e ∧ w = w' := by
  by_cases h5 : k = 5
  · subst h5
    have HN := Lib.hid (Utf.refNext_any s hm)
    rw [show snx 5 = unext from rfl]
    generalize unext s.data.toList = x at *
    obtain ⟨r, n, f⟩ := x
    clear hm h
    go_enter Tryd.func52, Tryd.ntmps52
    go_wp2_with (go_at_call 18; refine (HN.out _).mono ?_; rintro e w1 ⟨he, rfl⟩; rw [Utf.nextEnd] at he; subst he)
    go_returns
    exact ⟨rfl, rfl⟩
  · have hn := refNext_any k h.1 (by omega) s hm
    rw [show knext k s.data.toList = wnext (wsize k) (bigOf k) s.data.toList from if_pos ⟨h.1, by omega⟩] at hn
    have HN := Lib.hid hn
    clear hn
    have e5 : (k == 5) = false := by simp [h5]
    rw [show snx k = wnext (wsize k) (bigOf k) from if_neg h5]
    generalize wnext (wsize k) (bigOf k) s.data.toList = x at *
    obtain ⟨r, n, f⟩ := x
    clear hm h h5
    go_enter Tryd.func52, Tryd.ntmps52
    go_wp2_with (go_at_call 66; refine (HN.out _).mono ?_; rintro e w1 ⟨he, rfl⟩; rw [nextEnd] at he; subst he)
    go_returns
    exact ⟨rfl, rfl⟩
def mkG (i : Nat) : ByteArray := ⟨(smark (ordS i)).toArray⟩
theorem ordS_ok (i : Nat) (h : i < 5) : 1 ≤ ordS i ∧ ordS i ≤ 5 := by
  match i, h with
  | 0, _ => decide
  | 1, _ => decide
  | 2, _ => decide
  | 3, _ => decide
  | 4, _ => decide
theorem mkG_size (i : Nat) (h : i < 5) : (mkG i).size ≤ 4 := by
  match i, h with
  | 0, _ => decide
  | 1, _ => decide
  | 2, _ => decide
  | 3, _ => decide
  | 4, _ => decide
theorem smarked_eq (l : List UInt8) : smarked l = if (smark (ordS 0)).isPrefixOf l then (ordS 0, ((mkG 0).size : Int)) else if (smark (ordS 1)).isPrefixOf l then (ordS 1, ((mkG 1).size : Int)) else
    if (smark (ordS 2)).isPrefixOf l then (ordS 2, ((mkG 2).size : Int)) else if (smark (ordS 3)).isPrefixOf l then (ordS 3, ((mkG 3).size : Int)) else if (smark (ordS 4)).isPrefixOf l then (ordS 4, ((mkG 4).size : Int)) else (0, 0) := by
  unfold smarked wguess
  rfl
theorem smarked_at (l : List UInt8) (i : Nat) (h : i < 5) (hn : ∀ j, j < i → (smark (ordS j)).isPrefixOf l = false) (hy : (smark (ordS i)).isPrefixOf l = true) : smarked l = (ordS i, ((mkG i).size : Int)) := by
  rw [smarked_eq]
  match i, h with
  | 0, _ => rw [hy, if_pos rfl]
  | 1, _ => rw [hn 0 (by omega), hy]; rfl
  | 2, _ => rw [hn 0 (by omega), hn 1 (by omega), hy]; rfl
  | 3, _ => rw [hn 0 (by omega), hn 1 (by omega), hn 2 (by omega), hy]; rfl
  | 4, _ => rw [hn 0 (by omega), hn 1 (by omega), hn 2 (by omega), hn 3 (by omega), hy]; rfl
theorem smarked_none (l : List UInt8) (hn : ∀ j, j < 5 → (smark (ordS j)).isPrefixOf l = false) : smarked l = (0, 0) := by
  rw [smarked_eq, hn 0 (by omega), hn 1 (by omega), hn 2 (by omega), hn 3 (by omega), hn 4 (by omega)]; rfl
theorem beginsG (s : ByteArray) (l : List UInt8) (h : l.length ≤ s.size) : ((s.extract 0 l.length).toList == (⟨l.toArray⟩ : ByteArray).toList) = l.isPrefixOf s.data.toList := by
  have hl : s.data.toList.length = s.size := by simp
  have hd : (s.extract 0 l.length).toList = s.data.toList.take l.length := by rw [Lib.extract_toList]; simp
  rw [hd, ByteArray.toList_mk, Bool.eq_iff_iff, beq_iff_eq, prefix_iff, hl]
  exact ⟨fun he => ⟨h, he⟩, fun he => he.2⟩
theorem shortG (s : ByteArray) (l : List UInt8) (h : ¬ l.length ≤ s.size) : l.isPrefixOf s.data.toList = false := by
  cases hp : l.isPrefixOf s.data.toList with
  | false => rfl
  | true => exact absurd ((prefix_iff _ _).1 hp).1 (by simpa using h)
set_option maxRecDepth 100000 in
set_option maxHeartbeats 1600000 in
theorem refGuess_any (s : ByteArray) (_hm : s.size ≤ 1000000) (w : World) :
    Calls Tryd.prog 51 #[.string s] w fun e w' => markedEnd s.data.toList e ∧ Below w.heap.size w w' := by
  have HO := Lib.hid order_any
  have HM := Lib.hid refMark_any
  unfold markedEnd
  go_enter Tryd.func51, Tryd.ntmps51
  go_wp2
  go_loopw [4] (fun i wr => ∃ j : Nat, j ≤ 5 ∧ i = .int .i64 j ∧ (∀ m, m < j → (smark (ordS m)).isPrefixOf s.data.toList = false) ∧ Below w.heap.size w wr) (fun i _ => 5 - (intOf i).toNat)
  case atStart => exact ⟨0, by omega, rfl, fun m h => by omega, Below.refl _ _⟩
  case round =>
    obtain ⟨j, hj, rfl, hn, hb⟩ := hrel
    by_cases hl : j < 5
    · have HOj := Lib.hid (HO.out j hl)
      have HMj := HM.out (ordS j) (ordS_ok j hl)
      have hms := mkG_size j hl
      rw [show (⟨(smark (ordS j)).toArray⟩ : ByteArray) = mkG j from rfl] at HMj
      have hyes := smarked_at s.data.toList j hl hn
      have hp1 : (mkG j).size ≤ s.size → ((s.extract 0 (mkG j).size).toList == (mkG j).toList) = (smark (ordS j)).isPrefixOf s.data.toList := by
        intro h; unfold mkG at *; rw [ba_size] at *; exact beginsG s _ h
      have hp2 : ¬ (mkG j).size ≤ s.size → (smark (ordS j)).isPrefixOf s.data.toList = false := by
        intro h; unfold mkG at *; rw [ba_size] at *; exact shortG s _ h
      have hnx : (smark (ordS j)).isPrefixOf s.data.toList = false → ∀ m, m < j + 1 → (smark (ordS m)).isPrefixOf s.data.toList = false := by
        intro h m hm
        rcases (show m < j ∨ m = j from by omega) with h' | rfl
        · exact hn m h'
        · exact h
      generalize mkG j = m at *
      generalize ordS j = o at *
      have HP1 := Lib.hid hp1; have HP2 := Lib.hid hp2; have HNX := Lib.hid hnx; have HY := Lib.hid hyes; have HB := Lib.hid hb; have HMM := Lib.hid HMj
      clear hp1 hp2 hnx hyes hn hb HMj HO HM
      go_wp2_with fail
      refine (HOj.out _).mono ?_
      rintro e w1 ⟨rfl, hb1⟩
      have HB1 := Lib.hid (HB.out.trans (hb1.mono HB.out.size))
      clear hb1
      go_wp2_with fail
      refine (HMM.out _).mono ?_
      rintro e w2 ⟨rfl, hb2⟩
      have HB2 := Lib.hid (HB1.out.trans (hb2.mono HB1.out.size))
      clear hb2
      go_wp2_with (go_at_call 65; refine (HOj.out _).mono ?_; rintro e w3 ⟨rfl, hb3⟩)
      · have h1 : m.size ≤ s.size := by assumption
        have h2 : ((s.extract 0 m.size).toList == m.toList) = true := by assumption
        rw [HP1.out h1] at h2
        go_returns
        exact ⟨by rw [HY.out h2]; rfl, HB2.out.trans (hb3.mono HB2.out.size)⟩
      · have h1 : m.size ≤ s.size := by assumption
        have h2 : ((s.extract 0 m.size).toList == m.toList) = false := by assumption
        rw [HP1.out h1] at h2
        go_roundw
        case rel => exact ⟨j + 1, by omega, by go_num, HNX.out h2, HB2.out⟩
        case measure => simp [intOf]; omega
      · have h1 : ¬ m.size ≤ s.size := by assumption
        go_roundw
        case rel => exact ⟨j + 1, by omega, by go_num, HNX.out (HP2.out h1), HB2.out⟩
        case measure => simp [intOf]; omega
    · obtain rfl : j = 5 := by omega
      have HY := Lib.hid (smarked_none s.data.toList hn)
      have HB := Lib.hid hb
      clear hn hb
      go_wp2
      go_returns
      exact ⟨by rw [HY.out]; rfl, HB.out⟩
end Go.Proofs.YtlfhmkjomogkiaaDoor.Str

/- Walks: inkhornref03.Whole. -/
namespace Go.Proofs.YtlfhmkjomogkiaaDoor.Str
open Go.RowKit Pl

/-- What the reference answers, as a value. -/
def RefPost (w : World) (x : List Int × List (Nat × Nat) × Int) (kd : Int) (e : Ending) (w' : World) : Prop :=
  ∃ vo vb, e = .returned (.tuple #[vo, vb, .int .i64 kd, .string ⟨#[]⟩, .int .i64 x.2.2]) ∧ St w.heap.size w w' vo x.1 vb x.2.1
theorem St.lift {w w1 w' : World} {vo vb : Value} {o : List Int} {b : List (Nat × Nat)} (h : St w1.heap.size w1 w' vo o vb b) (hb : Below w.heap.size w w1) : St w.heap.size w w' vo o vb b :=
  ⟨own_mono h.1 hb.size, own_mono h.2.1 hb.size, hb.trans (h.2.2.1.mono hb.size), Nat.le_trans hb.size h.2.2.2⟩
theorem snx_all (k : Int) : ∀ t : List UInt8, 0 < t.length → 1 ≤ (snx k t).2.1 ∧ (snx k t).2.1 ≤ t.length := fun t h => snx_pos k t h
set_option maxRecDepth 100000 in
set_option maxHeartbeats 3200000 in
theorem refWhole_off (k pol : Int) (hk : 1 ≤ k ∧ k ≤ 5) (p1 : 1 ≤ pol) (p3 : pol ≤ 3) (s : ByteArray) (hlen : s.size ≤ 1000000) (w : World) :
    Calls Tryd.prog 32 #[.int .i64 k, .int .i64 pol, .bool false, .string s, .bool false] w (RefPost w (srefd k pol false s.data.toList) (skind k false s.data.toList)) := by
  have hkf := skind_fit k false s.data.toList hk
  have hn := sat_le false s.data.toList
  have hls : s.data.toList.length = s.size := by simp
  obtain ⟨R, hRR⟩ : ∃ R, srefd k pol false s.data.toList = R := ⟨_, rfl⟩
  rw [hRR]
  unfold srefd at hRR
  rw [hls] at hRR hn
  have hkd : skind k false s.data.toList = k := by simp [skind]
  have hsat : sat false s.data.toList = 0 := by simp [sat]
  rw [hkd] at hkf hRR ⊢
  rw [hsat] at hRR hn
  have HN := Lib.hid (fun (s : ByteArray) hm => next_any k hkf s hm)
  have hpos := snx_all k
  generalize snx k = nx at *
  obtain ⟨n, hn0⟩ : ∃ n : Nat, 0 = n := ⟨0, rfl⟩
  rw [hn0] at hRR hn
  have HN0 := Lib.hid hn0
  clear hn0
  have HRR := Lib.hid hRR; have HP := Lib.hid hpos
  clear hRR hpos hkd hsat hls hkf hk
  go_enter Tryd.func32, Tryd.ntmps32
  have HBW : Hid (Below w.heap.size w w) := Lib.hid (Below.refl _ _)
  go_wp2
  go_loopw [18, 19, 15] (fun vo vb va wr => ∃ (a : Nat) (o : List Int) (b : List (Nat × Nat)), n ≤ a ∧ a ≤ s.size ∧ va = .int .i64 a ∧ St w.heap.size w wr vo o vb b ∧
      decL nx pol (s.size - n) (s.data.toList.drop a) a o b = R ∧ o.length ≤ a ∧ b.length ≤ a) (fun _ _ va _ => s.size - (intOf va).toNat)
  case atStart => exact ⟨n, [], [], Nat.le_refl _, hn, by rw [← HN0.out]; rfl, St.start w, HRR.out, Nat.zero_le _, Nat.zero_le _⟩
  case round =>
    obtain ⟨a, o, b, hna, ha, rfl, hst, hd, hol, hbl⟩ := hrel
    by_cases hlt : a < s.size
    · have hl2 : (s.data.toList.drop a).length = s.size - a := by simp
      have hpp := HP.out (s.data.toList.drop a) (by omega)
      rw [hl2] at hpp
      have hok := decL_ok nx pol (fun t h => (HP.out t h).1) (s.size - n) (s.data.toList.drop a) a o b (by omega) (by omega)
      have hmo := decL_more nx pol (fun t h => (HP.out t h).1) (s.size - n) (s.data.toList.drop a) a o b (by omega) (by omega)
      have hsr := decL_strict nx (s.size - n) (s.data.toList.drop a) a o b (by omega) (by omega)
      have HN2 := HN.out (s.extract a s.size) (by simp; unfold maxLen; omega)
      rw [Lib.extract_to_end] at HN2
      rw [List.drop_drop, hd] at hok hmo
      generalize nx (s.data.toList.drop a) = x at *
      obtain ⟨r, m, e⟩ := x
      have hm1 : 1 ≤ m := hpp.1
      have hm2 : m ≤ s.size - a := hpp.2
      have HOK := Lib.hid hok; have HMO := Lib.hid hmo; have HSR := Lib.hid hsr; have HN3 := Lib.hid HN2; have HD := Lib.hid hd; have HST := Lib.hid hst
      have j0 : (0 : Int) ≤ (a : Int) := by omega
      have j1 : (a : Int) < (s.size : Int) := by omega
      have j2 : (a : Int) ≤ (s.size : Int) := by omega
      clear hok hmo hsr HN2 hd hst hpp hl2
      by_cases he : e = 0
      · subst he
        go_wp2_with (first | (go_at_call 52; refine (HN3.out _).mono ?_; rintro e w2 ⟨he2, rfl⟩; rw [nextEnd] at he2; subst he2; have HSTX := HST) | (at_builtin; refine wpList_out w _ rfl _ _ rfl w.heap.size _ _ _ _ rfl HSTX.out r _ rfl (by omega) ?_; intro v3 w3 hst3 hk3))
        go_roundw
        case rel => exact ⟨a + m, o ++ [r], b, by omega, by omega, by go_num, hst3, (HOK.out trivial).symm, by simp; omega, by omega⟩
        case measure => simp [intOf]; omega
      · have e1 : (e == 0) = false := by simp [he]
        have e2 : (e != 0) = true := by simp [he]
        have e18 : (e == 18) = true ∨ (e == 18) = false := by cases e == 18 <;> simp
        have HE := Lib.hid he
        clear he
        rcases e18 with e18 | e18 <;> rcases (show pol = 1 ∨ pol = 2 ∨ pol = 3 from by omega) with rfl | rfl | rfl
        · clear p1 p3
          go_wp2_with (first | (go_at_call 52; refine (HN3.out _).mono ?_; rintro e w2 ⟨he2, rfl⟩; rw [nextEnd] at he2; subst he2; have HSTX := HST) | (at_builtin; refine wpList_bad w _ rfl _ _ rfl w.heap.size _ _ _ _ rfl HSTX.out a m _ rfl (by omega) ?_; intro v4 w4 hst4 hk4))
          go_returns
          have hR : R = (o, b ++ [(a, m)], 17) := by rw [← HD.out]; exact HSR.out HE.out
          exact ⟨_, _, by rw [hR], St.lift (by rw [hR]; exact hst4) HBW.out⟩
        · clear p1 p3
          go_wp2_with (first | (go_at_call 52; refine (HN3.out _).mono ?_; rintro e w2 ⟨he2, rfl⟩; rw [nextEnd] at he2; subst he2; have HSTX := HST) | (at_builtin; refine wpList_bad w _ rfl _ _ rfl w.heap.size _ _ _ _ rfl HSTX.out a m _ rfl (by omega) ?_; intro v4 w4 hst4 hk4) | (at_builtin; refine wpList_out w _ rfl _ _ rfl w.heap.size _ _ _ _ rfl hst4 65533 _ rfl (by omega) ?_; intro v3 w3 hst3 hk3))
          go_roundw
          case rel => exact ⟨a + m, o ++ [65533], b ++ [(a, m)], by omega, by omega, by go_num, hst3, (HMO.out HE.out (by decide)).symm, by simp; omega, by simp; omega⟩
          case measure => simp [intOf]; omega
        · clear p1 p3
          go_wp2_with (first | (go_at_call 52; refine (HN3.out _).mono ?_; rintro e w2 ⟨he2, rfl⟩; rw [nextEnd] at he2; subst he2; have HSTX := HST) | (at_builtin; refine wpList_bad w _ rfl _ _ rfl w.heap.size _ _ _ _ rfl HSTX.out a m _ rfl (by omega) ?_; intro v4 w4 hst4 hk4))
          go_roundw
          case rel => exact ⟨a + m, o, b ++ [(a, m)], by omega, by omega, by go_num, hst4, (HMO.out HE.out (by decide)).symm, by omega, by simp; omega⟩
          case measure => simp [intOf]; omega
        · clear p1 p3
          go_wp2_with (first | (go_at_call 52; refine (HN3.out _).mono ?_; rintro e w2 ⟨he2, rfl⟩; rw [nextEnd] at he2; subst he2; have HSTX := HST) | (at_builtin; refine wpList_bad w _ rfl _ _ rfl w.heap.size _ _ _ _ rfl HSTX.out a m _ rfl (by omega) ?_; intro v4 w4 hst4 hk4))
          go_returns
          have hR : R = (o, b ++ [(a, m)], 17) := by rw [← HD.out]; exact HSR.out HE.out
          exact ⟨_, _, by rw [hR], St.lift (by rw [hR]; exact hst4) HBW.out⟩
        · clear p1 p3
          go_wp2_with (first | (go_at_call 52; refine (HN3.out _).mono ?_; rintro e w2 ⟨he2, rfl⟩; rw [nextEnd] at he2; subst he2; have HSTX := HST) | (at_builtin; refine wpList_bad w _ rfl _ _ rfl w.heap.size _ _ _ _ rfl HSTX.out a m _ rfl (by omega) ?_; intro v4 w4 hst4 hk4) | (at_builtin; refine wpList_out w _ rfl _ _ rfl w.heap.size _ _ _ _ rfl hst4 65533 _ rfl (by omega) ?_; intro v3 w3 hst3 hk3))
          go_roundw
          case rel => exact ⟨a + m, o ++ [65533], b ++ [(a, m)], by omega, by omega, by go_num, hst3, (HMO.out HE.out (by decide)).symm, by simp; omega, by simp; omega⟩
          case measure => simp [intOf]; omega
        · clear p1 p3
          go_wp2_with (first | (go_at_call 52; refine (HN3.out _).mono ?_; rintro e w2 ⟨he2, rfl⟩; rw [nextEnd] at he2; subst he2; have HSTX := HST) | (at_builtin; refine wpList_bad w _ rfl _ _ rfl w.heap.size _ _ _ _ rfl HSTX.out a m _ rfl (by omega) ?_; intro v4 w4 hst4 hk4))
          go_roundw
          case rel => exact ⟨a + m, o, b ++ [(a, m)], by omega, by omega, by go_num, hst4, (HMO.out HE.out (by decide)).symm, by omega, by simp; omega⟩
          case measure => simp [intOf]; omega
    · obtain rfl : a = s.size := by omega
      rw [List.drop_of_length_le (by simp), decL_end] at hd
      have HD := Lib.hid hd
      have HST := Lib.hid hst
      clear hd hst
      go_wp2
      go_returns
      exact ⟨_, _, by rw [← HD.out], St.lift (by rw [← HD.out]; exact HST.out) HBW.out⟩
end Go.Proofs.YtlfhmkjomogkiaaDoor.Str

/- Walks: inkhornref03.Whole. -/
namespace Go.Proofs.YtlfhmkjomogkiaaDoor.Str
open Go.RowKit Pl

set_option maxRecDepth 100000 in
set_option maxHeartbeats 3200000 in
theorem refWhole_none (k pol : Int) (hk : 1 ≤ k ∧ k ≤ 5) (p1 : 1 ≤ pol) (p3 : pol ≤ 3) (s : ByteArray) (hlen : s.size ≤ 1000000) (hmk : ¬ 0 < (smarked s.data.toList).1) (w : World) :
    Calls Tryd.prog 32 #[.int .i64 k, .int .i64 pol, .bool true, .string s, .bool false] w (RefPost w (srefd k pol true s.data.toList) (skind k true s.data.toList)) := by
  have hkf := skind_fit k true s.data.toList hk
  have hn := sat_le true s.data.toList
  have hls : s.data.toList.length = s.size := by simp
  obtain ⟨R, hRR⟩ : ∃ R, srefd k pol true s.data.toList = R := ⟨_, rfl⟩
  rw [hRR]
  unfold srefd at hRR
  rw [hls] at hRR hn
  have hkd : skind k true s.data.toList = k := by simp [skind, hmk]
  have hsat : sat true s.data.toList = 0 := by simp [sat, hmk]
  have HG := Lib.hid (refGuess_any s hlen w)
  unfold markedEnd at HG
  generalize smarked s.data.toList = mm at *
  obtain ⟨mk, mn⟩ := mm
  have hm1 : ¬ 0 < mk := hmk
  rw [hkd] at hkf hRR ⊢
  rw [hsat] at hRR hn
  have HN := Lib.hid (fun (s : ByteArray) hm => next_any k hkf s hm)
  have hpos := snx_all k
  generalize snx k = nx at *
  obtain ⟨n, hn0⟩ : ∃ n : Nat, 0 = n := ⟨0, rfl⟩
  rw [hn0] at hRR hn
  have HN0 := Lib.hid hn0
  clear hn0
  have HRR := Lib.hid hRR; have HP := Lib.hid hpos
  clear hRR hpos hkd hsat hls hkf hk hmk
  go_enter Tryd.func32, Tryd.ntmps32
  go_wp2_with fail
  refine HG.out.mono ?_
  rintro e w1 ⟨rfl, hb1⟩
  have HBW := Lib.hid hb1
  clear hb1 HG
  go_wp2
  go_loopw [18, 19, 15] (fun vo vb va wr => ∃ (a : Nat) (o : List Int) (b : List (Nat × Nat)), n ≤ a ∧ a ≤ s.size ∧ va = .int .i64 a ∧ St w1.heap.size w1 wr vo o vb b ∧
      decL nx pol (s.size - n) (s.data.toList.drop a) a o b = R ∧ o.length ≤ a ∧ b.length ≤ a) (fun _ _ va _ => s.size - (intOf va).toNat)
  case atStart => exact ⟨n, [], [], Nat.le_refl _, hn, by rw [← HN0.out]; rfl, St.start w1, HRR.out, Nat.zero_le _, Nat.zero_le _⟩
  case round =>
    obtain ⟨a, o, b, hna, ha, rfl, hst, hd, hol, hbl⟩ := hrel
    by_cases hlt : a < s.size
    · have hl2 : (s.data.toList.drop a).length = s.size - a := by simp
      have hpp := HP.out (s.data.toList.drop a) (by omega)
      rw [hl2] at hpp
      have hok := decL_ok nx pol (fun t h => (HP.out t h).1) (s.size - n) (s.data.toList.drop a) a o b (by omega) (by omega)
      have hmo := decL_more nx pol (fun t h => (HP.out t h).1) (s.size - n) (s.data.toList.drop a) a o b (by omega) (by omega)
      have hsr := decL_strict nx (s.size - n) (s.data.toList.drop a) a o b (by omega) (by omega)
      have HN2 := HN.out (s.extract a s.size) (by simp; unfold maxLen; omega)
      rw [Lib.extract_to_end] at HN2
      rw [List.drop_drop, hd] at hok hmo
      generalize nx (s.data.toList.drop a) = x at *
      obtain ⟨r, m, e⟩ := x
      have hm1 : 1 ≤ m := hpp.1
      have hm2 : m ≤ s.size - a := hpp.2
      have HOK := Lib.hid hok; have HMO := Lib.hid hmo; have HSR := Lib.hid hsr; have HN3 := Lib.hid HN2; have HD := Lib.hid hd; have HST := Lib.hid hst
      have j0 : (0 : Int) ≤ (a : Int) := by omega
      have j1 : (a : Int) < (s.size : Int) := by omega
      have j2 : (a : Int) ≤ (s.size : Int) := by omega
      clear hok hmo hsr HN2 hd hst hpp hl2
      by_cases he : e = 0
      · subst he
        go_wp2_with (first | (go_at_call 52; refine (HN3.out _).mono ?_; rintro e w2 ⟨he2, rfl⟩; rw [nextEnd] at he2; subst he2; have HSTX := HST) | (at_builtin; refine wpList_out w1 _ rfl _ _ rfl w1.heap.size _ _ _ _ rfl HSTX.out r _ rfl (by omega) ?_; intro v3 w3 hst3 hk3))
        go_roundw
        case rel => exact ⟨a + m, o ++ [r], b, by omega, by omega, by go_num, hst3, (HOK.out trivial).symm, by simp; omega, by omega⟩
        case measure => simp [intOf]; omega
      · have e1 : (e == 0) = false := by simp [he]
        have e2 : (e != 0) = true := by simp [he]
        have e18 : (e == 18) = true ∨ (e == 18) = false := by cases e == 18 <;> simp
        have HE := Lib.hid he
        clear he
        rcases e18 with e18 | e18 <;> rcases (show pol = 1 ∨ pol = 2 ∨ pol = 3 from by omega) with rfl | rfl | rfl
        · clear p1 p3
          go_wp2_with (first | (go_at_call 52; refine (HN3.out _).mono ?_; rintro e w2 ⟨he2, rfl⟩; rw [nextEnd] at he2; subst he2; have HSTX := HST) | (at_builtin; refine wpList_bad w1 _ rfl _ _ rfl w1.heap.size _ _ _ _ rfl HSTX.out a m _ rfl (by omega) ?_; intro v4 w4 hst4 hk4))
          go_returns
          have hR : R = (o, b ++ [(a, m)], 17) := by rw [← HD.out]; exact HSR.out HE.out
          exact ⟨_, _, by rw [hR], St.lift (by rw [hR]; exact hst4) HBW.out⟩
        · clear p1 p3
          go_wp2_with (first | (go_at_call 52; refine (HN3.out _).mono ?_; rintro e w2 ⟨he2, rfl⟩; rw [nextEnd] at he2; subst he2; have HSTX := HST) | (at_builtin; refine wpList_bad w1 _ rfl _ _ rfl w1.heap.size _ _ _ _ rfl HSTX.out a m _ rfl (by omega) ?_; intro v4 w4 hst4 hk4) | (at_builtin; refine wpList_out w1 _ rfl _ _ rfl w1.heap.size _ _ _ _ rfl hst4 65533 _ rfl (by omega) ?_; intro v3 w3 hst3 hk3))
          go_roundw
          case rel => exact ⟨a + m, o ++ [65533], b ++ [(a, m)], by omega, by omega, by go_num, hst3, (HMO.out HE.out (by decide)).symm, by simp; omega, by simp; omega⟩
          case measure => simp [intOf]; omega
        · clear p1 p3
          go_wp2_with (first | (go_at_call 52; refine (HN3.out _).mono ?_; rintro e w2 ⟨he2, rfl⟩; rw [nextEnd] at he2; subst he2; have HSTX := HST) | (at_builtin; refine wpList_bad w1 _ rfl _ _ rfl w1.heap.size _ _ _ _ rfl HSTX.out a m _ rfl (by omega) ?_; intro v4 w4 hst4 hk4))
          go_roundw
          case rel => exact ⟨a + m, o, b ++ [(a, m)], by omega, by omega, by go_num, hst4, (HMO.out HE.out (by decide)).symm, by omega, by simp; omega⟩
          case measure => simp [intOf]; omega
        · clear p1 p3
          go_wp2_with (first | (go_at_call 52; refine (HN3.out _).mono ?_; rintro e w2 ⟨he2, rfl⟩; rw [nextEnd] at he2; subst he2; have HSTX := HST) | (at_builtin; refine wpList_bad w1 _ rfl _ _ rfl w1.heap.size _ _ _ _ rfl HSTX.out a m _ rfl (by omega) ?_; intro v4 w4 hst4 hk4))
          go_returns
          have hR : R = (o, b ++ [(a, m)], 17) := by rw [← HD.out]; exact HSR.out HE.out
          exact ⟨_, _, by rw [hR], St.lift (by rw [hR]; exact hst4) HBW.out⟩
        · clear p1 p3
          go_wp2_with (first | (go_at_call 52; refine (HN3.out _).mono ?_; rintro e w2 ⟨he2, rfl⟩; rw [nextEnd] at he2; subst he2; have HSTX := HST) | (at_builtin; refine wpList_bad w1 _ rfl _ _ rfl w1.heap.size _ _ _ _ rfl HSTX.out a m _ rfl (by omega) ?_; intro v4 w4 hst4 hk4) | (at_builtin; refine wpList_out w1 _ rfl _ _ rfl w1.heap.size _ _ _ _ rfl hst4 65533 _ rfl (by omega) ?_; intro v3 w3 hst3 hk3))
          go_roundw
          case rel => exact ⟨a + m, o ++ [65533], b ++ [(a, m)], by omega, by omega, by go_num, hst3, (HMO.out HE.out (by decide)).symm, by simp; omega, by simp; omega⟩
          case measure => simp [intOf]; omega
        · clear p1 p3
          go_wp2_with (first | (go_at_call 52; refine (HN3.out _).mono ?_; rintro e w2 ⟨he2, rfl⟩; rw [nextEnd] at he2; subst he2; have HSTX := HST) | (at_builtin; refine wpList_bad w1 _ rfl _ _ rfl w1.heap.size _ _ _ _ rfl HSTX.out a m _ rfl (by omega) ?_; intro v4 w4 hst4 hk4))
          go_roundw
          case rel => exact ⟨a + m, o, b ++ [(a, m)], by omega, by omega, by go_num, hst4, (HMO.out HE.out (by decide)).symm, by omega, by simp; omega⟩
          case measure => simp [intOf]; omega
    · obtain rfl : a = s.size := by omega
      rw [List.drop_of_length_le (by simp), decL_end] at hd
      have HD := Lib.hid hd
      have HST := Lib.hid hst
      clear hd hst
      go_wp2
      go_returns
      exact ⟨_, _, by rw [← HD.out], St.lift (by rw [← HD.out]; exact HST.out) HBW.out⟩
end Go.Proofs.YtlfhmkjomogkiaaDoor.Str

/- Walks: inkhornref03.Whole. -/
namespace Go.Proofs.YtlfhmkjomogkiaaDoor.Str
open Go.RowKit Pl

set_option maxRecDepth 100000 in
set_option maxHeartbeats 3200000 in
theorem refWhole_mark (k pol : Int) (hk : 1 ≤ k ∧ k ≤ 5) (p1 : 1 ≤ pol) (p3 : pol ≤ 3) (s : ByteArray) (hlen : s.size ≤ 1000000) (hmk : 0 < (smarked s.data.toList).1) (w : World) :
    Calls Tryd.prog 32 #[.int .i64 k, .int .i64 pol, .bool true, .string s, .bool false] w (RefPost w (srefd k pol true s.data.toList) (skind k true s.data.toList)) := by
  have hkf := skind_fit k true s.data.toList hk
  have hn := sat_le true s.data.toList
  have hls : s.data.toList.length = s.size := by simp
  obtain ⟨R, hRR⟩ : ∃ R, srefd k pol true s.data.toList = R := ⟨_, rfl⟩
  rw [hRR]
  unfold srefd at hRR
  rw [hls] at hRR hn
  have hkd : skind k true s.data.toList = (smarked s.data.toList).1 := by simp [skind, hmk]
  have hsat : sat true s.data.toList = (smarked s.data.toList).2.toNat := by simp [sat, hmk]
  have hmf := smarked_fit s.data.toList hmk
  have HG := Lib.hid (refGuess_any s hlen w)
  unfold markedEnd at HG
  generalize smarked s.data.toList = mm at *
  obtain ⟨mk, mn⟩ := mm
  have hm1 : 0 < mk := hmk
  obtain ⟨n, hmn⟩ : ∃ n : Nat, mn = (n : Int) := ⟨mn.toNat, by have := hmf.2.1; show mn = _; omega⟩
  subst hmn
  have hsat : sat true s.data.toList = n := by rw [hsat]; simp
  have hkd : skind k true s.data.toList = mk := hkd
  rw [hkd] at hkf hRR ⊢
  rw [hsat] at hRR hn
  have HN := Lib.hid (fun (s : ByteArray) hm => next_any mk hkf s hm)
  have hpos := snx_all mk
  generalize snx mk = nx at *
  have HRR := Lib.hid hRR; have HP := Lib.hid hpos
  clear hRR hpos hkd hsat hls hkf hk hmk hmf
  go_enter Tryd.func32, Tryd.ntmps32
  go_wp2_with fail
  refine HG.out.mono ?_
  rintro e w1 ⟨rfl, hb1⟩
  have HBW := Lib.hid hb1
  clear hb1 HG
  go_wp2
  go_loopw [18, 19, 15] (fun vo vb va wr => ∃ (a : Nat) (o : List Int) (b : List (Nat × Nat)), n ≤ a ∧ a ≤ s.size ∧ va = .int .i64 a ∧ St w1.heap.size w1 wr vo o vb b ∧
      decL nx pol (s.size - n) (s.data.toList.drop a) a o b = R ∧ o.length ≤ a ∧ b.length ≤ a) (fun _ _ va _ => s.size - (intOf va).toNat)
  case atStart => exact ⟨n, [], [], Nat.le_refl _, hn, rfl, St.start w1, HRR.out, Nat.zero_le _, Nat.zero_le _⟩
  case round =>
    obtain ⟨a, o, b, hna, ha, rfl, hst, hd, hol, hbl⟩ := hrel
    by_cases hlt : a < s.size
    · have hl2 : (s.data.toList.drop a).length = s.size - a := by simp
      have hpp := HP.out (s.data.toList.drop a) (by omega)
      rw [hl2] at hpp
      have hok := decL_ok nx pol (fun t h => (HP.out t h).1) (s.size - n) (s.data.toList.drop a) a o b (by omega) (by omega)
      have hmo := decL_more nx pol (fun t h => (HP.out t h).1) (s.size - n) (s.data.toList.drop a) a o b (by omega) (by omega)
      have hsr := decL_strict nx (s.size - n) (s.data.toList.drop a) a o b (by omega) (by omega)
      have HN2 := HN.out (s.extract a s.size) (by simp; unfold maxLen; omega)
      rw [Lib.extract_to_end] at HN2
      rw [List.drop_drop, hd] at hok hmo
      generalize nx (s.data.toList.drop a) = x at *
      obtain ⟨r, m, e⟩ := x
      have hm1 : 1 ≤ m := hpp.1
      have hm2 : m ≤ s.size - a := hpp.2
      have HOK := Lib.hid hok; have HMO := Lib.hid hmo; have HSR := Lib.hid hsr; have HN3 := Lib.hid HN2; have HD := Lib.hid hd; have HST := Lib.hid hst
      have j0 : (0 : Int) ≤ (a : Int) := by omega
      have j1 : (a : Int) < (s.size : Int) := by omega
      have j2 : (a : Int) ≤ (s.size : Int) := by omega
      clear hok hmo hsr HN2 hd hst hpp hl2
      by_cases he : e = 0
      · subst he
        go_wp2_with (first | (go_at_call 52; refine (HN3.out _).mono ?_; rintro e w2 ⟨he2, rfl⟩; rw [nextEnd] at he2; subst he2; have HSTX := HST) | (at_builtin; refine wpList_out w1 _ rfl _ _ rfl w1.heap.size _ _ _ _ rfl HSTX.out r _ rfl (by omega) ?_; intro v3 w3 hst3 hk3))
        go_roundw
        case rel => exact ⟨a + m, o ++ [r], b, by omega, by omega, by go_num, hst3, (HOK.out trivial).symm, by simp; omega, by omega⟩
        case measure => simp [intOf]; omega
      · have e1 : (e == 0) = false := by simp [he]
        have e2 : (e != 0) = true := by simp [he]
        have e18 : (e == 18) = true ∨ (e == 18) = false := by cases e == 18 <;> simp
        have HE := Lib.hid he
        clear he
        rcases e18 with e18 | e18 <;> rcases (show pol = 1 ∨ pol = 2 ∨ pol = 3 from by omega) with rfl | rfl | rfl
        · clear p1 p3
          go_wp2_with (first | (go_at_call 52; refine (HN3.out _).mono ?_; rintro e w2 ⟨he2, rfl⟩; rw [nextEnd] at he2; subst he2; have HSTX := HST) | (at_builtin; refine wpList_bad w1 _ rfl _ _ rfl w1.heap.size _ _ _ _ rfl HSTX.out a m _ rfl (by omega) ?_; intro v4 w4 hst4 hk4))
          go_returns
          have hR : R = (o, b ++ [(a, m)], 17) := by rw [← HD.out]; exact HSR.out HE.out
          exact ⟨_, _, by rw [hR], St.lift (by rw [hR]; exact hst4) HBW.out⟩
        · clear p1 p3
          go_wp2_with (first | (go_at_call 52; refine (HN3.out _).mono ?_; rintro e w2 ⟨he2, rfl⟩; rw [nextEnd] at he2; subst he2; have HSTX := HST) | (at_builtin; refine wpList_bad w1 _ rfl _ _ rfl w1.heap.size _ _ _ _ rfl HSTX.out a m _ rfl (by omega) ?_; intro v4 w4 hst4 hk4) | (at_builtin; refine wpList_out w1 _ rfl _ _ rfl w1.heap.size _ _ _ _ rfl hst4 65533 _ rfl (by omega) ?_; intro v3 w3 hst3 hk3))
          go_roundw
          case rel => exact ⟨a + m, o ++ [65533], b ++ [(a, m)], by omega, by omega, by go_num, hst3, (HMO.out HE.out (by decide)).symm, by simp; omega, by simp; omega⟩
          case measure => simp [intOf]; omega
        · clear p1 p3
          go_wp2_with (first | (go_at_call 52; refine (HN3.out _).mono ?_; rintro e w2 ⟨he2, rfl⟩; rw [nextEnd] at he2; subst he2; have HSTX := HST) | (at_builtin; refine wpList_bad w1 _ rfl _ _ rfl w1.heap.size _ _ _ _ rfl HSTX.out a m _ rfl (by omega) ?_; intro v4 w4 hst4 hk4))
          go_roundw
          case rel => exact ⟨a + m, o, b ++ [(a, m)], by omega, by omega, by go_num, hst4, (HMO.out HE.out (by decide)).symm, by omega, by simp; omega⟩
          case measure => simp [intOf]; omega
        · clear p1 p3
          go_wp2_with (first | (go_at_call 52; refine (HN3.out _).mono ?_; rintro e w2 ⟨he2, rfl⟩; rw [nextEnd] at he2; subst he2; have HSTX := HST) | (at_builtin; refine wpList_bad w1 _ rfl _ _ rfl w1.heap.size _ _ _ _ rfl HSTX.out a m _ rfl (by omega) ?_; intro v4 w4 hst4 hk4))
          go_returns
          have hR : R = (o, b ++ [(a, m)], 17) := by rw [← HD.out]; exact HSR.out HE.out
          exact ⟨_, _, by rw [hR], St.lift (by rw [hR]; exact hst4) HBW.out⟩
        · clear p1 p3
          go_wp2_with (first | (go_at_call 52; refine (HN3.out _).mono ?_; rintro e w2 ⟨he2, rfl⟩; rw [nextEnd] at he2; subst he2; have HSTX := HST) | (at_builtin; refine wpList_bad w1 _ rfl _ _ rfl w1.heap.size _ _ _ _ rfl HSTX.out a m _ rfl (by omega) ?_; intro v4 w4 hst4 hk4) | (at_builtin; refine wpList_out w1 _ rfl _ _ rfl w1.heap.size _ _ _ _ rfl hst4 65533 _ rfl (by omega) ?_; intro v3 w3 hst3 hk3))
          go_roundw
          case rel => exact ⟨a + m, o ++ [65533], b ++ [(a, m)], by omega, by omega, by go_num, hst3, (HMO.out HE.out (by decide)).symm, by simp; omega, by simp; omega⟩
          case measure => simp [intOf]; omega
        · clear p1 p3
          go_wp2_with (first | (go_at_call 52; refine (HN3.out _).mono ?_; rintro e w2 ⟨he2, rfl⟩; rw [nextEnd] at he2; subst he2; have HSTX := HST) | (at_builtin; refine wpList_bad w1 _ rfl _ _ rfl w1.heap.size _ _ _ _ rfl HSTX.out a m _ rfl (by omega) ?_; intro v4 w4 hst4 hk4))
          go_roundw
          case rel => exact ⟨a + m, o, b ++ [(a, m)], by omega, by omega, by go_num, hst4, (HMO.out HE.out (by decide)).symm, by omega, by simp; omega⟩
          case measure => simp [intOf]; omega
    · obtain rfl : a = s.size := by omega
      rw [List.drop_of_length_le (by simp), decL_end] at hd
      have HD := Lib.hid hd
      have HST := Lib.hid hst
      clear hd hst
      go_wp2
      go_returns
      exact ⟨_, _, by rw [← HD.out], St.lift (by rw [← HD.out]; exact HST.out) HBW.out⟩
end Go.Proofs.YtlfhmkjomogkiaaDoor.Str

/- Walks: slices.Clone of faults, Decoder.Faults, stream.Whole. -/
namespace Go.Proofs.YtlfhmkjomogkiaaDoor.Str
open Go.RowKit Pl

/-- What Clone of faults answers. -/
def ClonePost (w : World) (y : List (Nat × Nat)) (e : Ending) (w' : World) : Prop :=
  ∃ v', e = .returned v' ∧ w'.ownsRow w.heap.size FaultT 2 v' y.length (fcells y) ∧ Below w.heap.size w w'
theorem clone_any (B : Nat) (v : Value) (y : List (Nat × Nat)) (w : World) (h : w.ownsRow B FaultT 2 v y.length (fcells y)) (hy : y.length ≤ 1000000) :
    Calls Tryd.prog 54 #[v] w (ClonePost w y) := by
  obtain ⟨i0, hi, hz0, hz1, hz2⟩ := info_parts infoFault
  have q34 : ∀ (w : World) (a : Option Addr) (n c n' c' : Nat), (binOp .eql 34 (.slice a n c) (.slice none n' c')).run Tryd.prog w = .ok (.bool a.isNone) w := fun w a n c n' c' => Lib.run_eql_slice_nil w _ _ a n c n' c' Tryd.underlying34
  rcases h.2 with ⟨rfl, h0⟩ | ⟨g, cap, cur, rfl, _⟩
  · obtain rfl : y = [] := List.eq_nil_of_length_eq_zero h0
    clear h hi hz0 hz1 hz2
    go_enter Tryd.func54, Tryd.ntmps54
    go_wp2
    go_ret
    exact ⟨_, rfl, World.ownsRow_nil _ _ _ _, Below.refl _ _⟩
  · have HC : Hid (∀ j u, (fcells y)[j]? = some u → w.cell? ⟨g, j, none⟩ = some u) := by
      intro j u hu
      have h2 := h.cells (g := g) rfl j u hu
      rw [Addr.add_lit, Nat.zero_add] at h2
      exact h2
    have hgl := (h.lt g rfl).2
    clear h
    go_enter Tryd.func54, Tryd.ntmps54
    go_wp2_with (at_builtin; refine wpList_append_own _ rfl _ _ 34 rfl w.heap.size FaultT i0 (.agg #[.int .i64 0, .int .i64 0]) 2 16 Tryd.underlying34 hi hz0 hz1 hz2 rfl (by decide) _ _ _ rfl (World.ownsRow_made w #[] 0 (Nat.le_refl _) (Nat.zero_le _) rfl) ⟨g, 0, none⟩ y.length cap (fcells y) rfl ?qc1 ?qc2 ?qc3 ?qc4 ?qc5 ?qc6 ?_)
    case qc1 => rw [fcells_length]
    case qc2 =>
      intro j u hu
      have hlt : g < w.heap.size := hgl
      have h1 := HC.out j u hu
      rw [show ((⟨g, 0, none⟩ : Addr).add j) = ⟨g, j, none⟩ from by unfold Addr.add; split <;> simp_all]
      exact (((Below.refl w.heap.size w).alloc (Nat.le_refl _) _).cell (p := ⟨g, j, none⟩) hlt).trans h1
    case qc3 =>
      intro u hu
      unfold fcells at hu
      rw [List.mem_flatMap] at hu
      obtain ⟨x, _, hx⟩ := hu
      simp at hx
      rcases hx with rfl | rfl <;> rfl
    case qc4 => unfold maxLen; omega
    case qc5 => omega
    case qc6 => simp
    intro v' w1 hown hgrow _
    have hb : Below w.heap.size w w1 := ((Below.refl w.heap.size w).alloc (Nat.le_refl _) _).grown hgrow (by simp) (fun k hk => by simp [Value.ownBlock] at hk; omega)
    have hown' : w1.ownsRow w.heap.size FaultT 2 v' y.length (fcells y) := by simpa using hown
    have HO := Lib.hid hown'
    clear hown hown' hgrow
    go_wp2
    go_ret
    exact ⟨_, rfl, HO.out, hb⟩
theorem faults_d (B b : Nat) (s : SSt) (v : Value) (w : World) (h : DecAt B b w s v) (hy : s.bad.length ≤ 1000000) :
    Calls Tryd.prog 38 #[.pointer (some ⟨b, 0, none⟩)] w (ClonePost w s.bad) := by
  have c6 : w.cell? ⟨b, 6, none⟩ = some v := by rw [h.1.cell]; rfl
  have HC := Lib.hid (clone_any B v s.bad w h.2.2 hy)
  have hsl : ∃ A n c, v = .slice A n c := by
    rcases h.2.2.2 with ⟨e, _⟩ | ⟨g, cap, cur, e, _⟩
    · exact ⟨_, _, _, e⟩
    · exact ⟨_, _, _, e⟩
  obtain ⟨A, n, c, rfl⟩ := hsl
  clear h hy
  go_enter Tryd.func38, Tryd.ntmps38
  go_wp2_with fail
  refine HC.out.mono ?_
  rintro e w1 ⟨v', rfl, ho, hb⟩
  go_wp2
  go_ret
  exact ⟨_, rfl, ho, hb⟩
/-- What Whole answers. -/
def WholePost (w : World) (x : List Int × List (Nat × Nat) × Int × Int) (e : Ending) (w' : World) : Prop :=
  ∃ vo vb, e = .returned (.tuple #[vo, vb, .int .i64 x.2.2.1, .int .i64 x.2.2.2]) ∧ St w.heap.size w w' vo x.1 vb x.2.1
set_option maxRecDepth 100000 in
set_option maxHeartbeats 1600000 in
theorem whole_yes (k p : Int) (g : Bool) (hf : 1 ≤ k ∧ k ≤ 5 ∧ 1 ≤ p ∧ p ≤ 3) (t : ByteArray) (ht : t.size ≤ 1000000) (w : World) (hRL : Utf.RL w) :
    Calls Tryd.prog 30 #[.int .i64 k, .int .i64 p, .bool g, .string t] w (WholePost w (swhole k p g t.data.toList)) := by
  have HN := Lib.hid (new_ok k p g hf w)
  have HRL := Lib.hid hRL
  have hpos := hRL.pos
  have HFit := Lib.hid (snew_fit k p g hf)
  have hl : t.data.toList.length = t.size := by simp
  have hlen : t.data.toList.length ≤ 1000000 := by omega
  have hall : allB [t] = t.data.toList := by simp [allB]
  unfold swhole
  generalize t.data.toList = l at *
  obtain ⟨x, hx⟩ : ∃ x, stake true (sadd l (snew k p g)) = x := ⟨_, rfl⟩
  rw [hx]
  have hbl : x.1.bad.length ≤ 1000000 := by
    rw [← hx]
    have hs : (swait true (sadd l (snew k p g))) = false := by simp [swait]
    unfold stake
    rw [hs]
    simp only [Bool.false_eq_true, if_false]
    rw [swhole_state]
    have h := (sdec_len true ⟨l.drop (sat g l), l.length, skind k g l, p, false, false, []⟩).2
    have h2 : (l.drop (sat g l)).length ≤ l.length := by simp
    unfold sread
    split
    · show ([] ++ shiftF _ _ : List (Nat × Nat)).length ≤ _
      rw [List.nil_append, shiftF_length]; exact Nat.le_trans h (Nat.le_trans h2 hlen)
    · show ([] ++ shiftF _ _ : List (Nat × Nat)).length ≤ _
      rw [List.nil_append, shiftF_length]; exact Nat.le_trans h (Nat.le_trans h2 hlen)
  have HX := Lib.hid hx
  clear hx hRL hf
  go_enter Tryd.func30, Tryd.ntmps30
  go_wp2_with fail
  refine HN.out.mono ?_
  rintro e w1 ⟨b, rfl, hd1, hb1⟩
  have HD1 := Lib.hid hd1
  have HB1 := Lib.hid hb1
  clear hd1 hb1 HN
  go_wp2_with fail
  have hd : DecAt w.heap.size b (w1.alloc (.cells #[.string t] 9)) (snew k p g) nilV := HD1.out.below ((Below.refl _ _).alloc (Nat.le_refl _) _)
  have hbb : Below w.heap.size w (w1.alloc (.cells #[.string t] 9)) := HB1.out.alloc HB1.out.size _
  have hA := add_any w.heap.size b (snew k p g) nilV (some ⟨w1.heap.size, 0, none⟩) 1 1 [t] _ hd (Rd.of_new w1 _ _ 1 rfl) (Nat.le_refl _) (by decide) (by rw [hall]; exact hlen) (Nat.zero_le _) (Nat.zero_le _)
  rw [hall] at hA
  refine hA.mono ?_
  rintro e w2 ⟨rfl, hd2, hk2⟩
  have HD2 := Lib.hid hd2
  have HB2 := Lib.hid (hbb.trans (hk2.below HD1.out.2.1 (fun g hg => absurd hg (nil_own g)) hbb.size))
  clear hd2 hk2 hA hbb hd HD1 HB1
  go_wp2_with fail
  have hT := take_any w.heap.size b (sadd l (snew k p g)) nilV w2 HD2.out (sadd_fit _ _ HFit.out) (by show 0 + l.length ≤ _; omega) (Nat.zero_le _) (HRL.out.since HB2.out) hpos true
  rw [HX.out] at hT
  refine hT.mono ?_
  rintro e w3 ⟨vo, v', rfl, ho, hd3, hk3, _⟩
  have HD3 := Lib.hid hd3
  have HB3 := Lib.hid (HB2.out.trans (hk3.below hd3.2.1 (fun g hg => absurd hg (nil_own g)) HB2.out.size))
  have HO3 := Lib.hid (own_mono ho HB2.out.size)
  have HF3 := Lib.hid (faults_d w.heap.size b x.1 v' w3 hd3 hbl)
  have HF4 := Lib.hid (faults_d w.heap.size b x.1 v' w3.drew hd3 hbl)
  have c2 : w3.cell? ⟨b, 2, none⟩ = some (.int .i64 x.1.kind) := by rw [hd3.1.cell]; rfl
  have hlt := hd3.1.lt
  clear ho hd3 hk3 hT HD2 HB2
  go_wp2_with fail
  go_region_held3 (fun w' => w'.cell? ⟨b, 2, none⟩ = some (.int .i64 x.1.kind)) (first | exact c2 | exact (hb4.cell (p := ⟨b, 2, none⟩) hlt).trans c2) (first | (go_at_call 38; refine HF4.out.mono ?_; rintro e w4 ⟨v4, rfl, ho4, hb4⟩) | (go_at_call 38; refine HF3.out.mono ?_; rintro e w4 ⟨v4, rfl, ho4, hb4⟩))
  have HB4 := Lib.hid hb4
  have HO4 := Lib.hid ho4
  clear hb4 ho4
  go_wp2
  go_returns
  have hb4' : Below w3.heap.size w3 w4 := (Below.refl w3.heap.size w3).drew.trans HB4.out
  exact ⟨vo, v4, rfl, own_below HO3.out hb4', own_mono HO4.out HB3.out.size, HB3.out.trans (hb4'.mono HB3.out.size), Nat.le_trans HB3.out.size hb4'.size⟩
theorem whole_no (k p : Int) (g : Bool) (hf : ¬ (1 ≤ k ∧ k ≤ 5 ∧ 1 ≤ p ∧ p ≤ 3)) (t : ByteArray) (w : World) :
    Calls Tryd.prog 30 #[.int .i64 k, .int .i64 p, .bool g, .string t] w fun e w' => e = .returned (.tuple #[nilV, nilV, .int .i64 0, .int .i64 16]) ∧ Below w.heap.size w w' := by
  have HN : Hid (Calls Tryd.prog 33 #[.int .i64 k, .int .i64 p, .bool g] w fun e w' => e = .returned (.tuple #[.pointer none, .int .i64 16]) ∧ Below w.heap.size w w') :=
    Lib.hid ((new_any k p g w).mono fun e w' ⟨hb, hp⟩ => by
      rcases hp with ⟨_, he⟩ | ⟨hy, _⟩
      · exact ⟨he, hb⟩
      · exact absurd hy hf)
  clear hf
  go_enter Tryd.func30, Tryd.ntmps30
  go_wp2_with fail
  refine HN.out.mono ?_
  rintro e w1 ⟨rfl, hb1⟩
  go_wp2
  go_returns
  exact ⟨rfl, hb1⟩
end Go.Proofs.YtlfhmkjomogkiaaDoor.Str

/- The statement StreamWhole: its walk. -/
namespace Go.Proofs.YtlfhmkjomogkiaaDoor.Str
open Go.RowKit Pl

abbrev HowT : TypeId := 50
theorem refWhole_any (k pol : Int) (g : Bool) (hk : 1 ≤ k ∧ k ≤ 5) (p1 : 1 ≤ pol) (p3 : pol ≤ 3) (s : ByteArray) (hlen : s.size ≤ 1000000) (w : World) :
    Calls Tryd.prog 32 #[.int .i64 k, .int .i64 pol, .bool g, .string s, .bool false] w (RefPost w (srefd k pol g s.data.toList) (skind k g s.data.toList)) := by
  cases g
  · exact refWhole_off k pol hk p1 p3 s hlen w
  · by_cases hm : 0 < (smarked s.data.toList).1
    · exact refWhole_mark k pol hk p1 p3 s hlen hm w
    · exact refWhole_none k pol hk p1 p3 s hlen hm w
theorem srefd_len (k p : Int) (g : Bool) (t : List UInt8) : (srefd k p g t).1.length ≤ t.length ∧ (srefd k p g t).2.1.length ≤ t.length := by
  have hs : srefd k p g t = ((dec (snx (skind k g t)) p (t.drop (sat g t))).1, shiftF (sat g t) (dec (snx (skind k g t)) p (t.drop (sat g t))).2.1, (dec (snx (skind k g t)) p (t.drop (sat g t))).2.2) := by
    have h := decL_shift (nx := snx (skind k g t)) p (sat g t) (t.length - sat g t) (t.drop (sat g t)) 0 [] []
    rw [show shiftF (sat g t) [] = [] from rfl, Nat.add_zero] at h
    unfold srefd dec
    rw [List.length_drop]
    exact h
  rw [hs]
  have h := dec_len (snx (skind k g t)) p (fun t h => (snx_pos _ t h).1) (t.drop (sat g t))
  rw [List.length_drop] at h
  show _ ∧ (shiftF _ _).length ≤ _
  rw [shiftF_length]
  constructor
  · show (dec _ _ _).1.length ≤ _; omega
  · omega
theorem how_cells {w : World} {g : Nat} {k p : Int} {q : Bool} (h : Blk w g HowT #[.int .i64 k, .int .i64 p, .bool q]) : w.cell? ⟨g, 0, none⟩ = some (.int .i64 k) ∧ w.cell? ⟨g, 1, none⟩ = some (.int .i64 p) ∧ w.cell? ⟨g, 2, none⟩ = some (.bool q) :=
  ⟨by rw [h.cell]; rfl, by rw [h.cell]; rfl, by rw [h.cell]; rfl⟩
set_option maxRecDepth 100000 in
set_option maxHeartbeats 1600000 in
theorem streamWhole_law (k p : Int) (g : Bool) (s : ByteArray) (hm : s.size ≤ maxLen) (w : World) (hRL : Utf.RL w) :
    Calls Tryd.prog 11 #[.agg #[.int .i64 k, .int .i64 p, .bool g], .string s] w fun e w' => e = .returned (.bool true) ∧ Below w.heap.size w w' := by
  have HA := Lib.hid awake_any
  have HRL := Lib.hid hRL
  have hbx : Below w.heap.size w (w.alloc (.cells #[.int .i64 k, .int .i64 p, .bool g] HowT)) := (Below.refl _ _).alloc (Nat.le_refl _) _
  have HX := Lib.hid hbx
  have HRLx := Lib.hid (hRL.since hbx)
  have HBk := Lib.hid (Blk.new w HowT #[.int .i64 k, .int .i64 p, .bool g])
  unfold maxLen at hm
  clear hRL hbx
  by_cases h4 : 400 < s.size
  · have i1 : (400 : Int) < s.size := by omega
    go_enter Tryd.func11, Tryd.ntmps11
    go_wp2_with (go_at_call 29; refine (HA.out _ HRLx.out).mono ?_; rintro e w1 ⟨rfl, hb1⟩)
    go_returns
    exact ⟨rfl, HX.out.trans (hb1.mono HX.out.size)⟩
  · have i1 : decide ((400 : Int) < s.size) = false := by simp; omega
    have HM := Lib.hid (may_any k p)
    by_cases hf : 1 ≤ k ∧ k ≤ 5 ∧ 1 ≤ p ∧ p ≤ 3
    · have HW := Lib.hid (whole_yes k p g hf s (by omega) _ HRLx.out)
      have HR := Lib.hid (refWhole_any k p g ⟨hf.1, hf.2.1⟩ hf.2.2.1 hf.2.2.2 s (by omega))
      have hsl := srefd_len k p g s.data.toList
      rw [show s.data.toList.length = s.size from by simp] at hsl
      rw [swhole_ref] at HW
      rw [decide_eq_true hf] at HM
      generalize srefd k p g s.data.toList = x at *
      generalize skind k g s.data.toList = kd at *
      obtain ⟨o, y, er⟩ := x
      have ho : o.length ≤ 1000000000 := by have := hsl.1; show o.length ≤ _; simp at this; omega
      have hy : y.length ≤ 1000000000 := by have := hsl.2; simp at this; omega
      clear hsl hf h4
      go_enter Tryd.func11, Tryd.ntmps11
      go_wp2_with fail
      refine HW.out.mono ?_
      rintro e w1 ⟨vo, vb, rfl, h1, h2, hb1, _⟩
      obtain ⟨A1, c1, rfl, r1⟩ := rd_of_own h1
      obtain ⟨A2, c2, rfl, r2⟩ := rd2_of_own h2
      have hB1 : Below w.heap.size w w1 := HX.out.trans (hb1.mono HX.out.size)
      have HBk1 := Lib.hid (HBk.out.below hb1 HBk.out.lt)
      have HB1 := Lib.hid hB1
      have R1 := Lib.hid r1; have R2 := Lib.hid r2
      obtain ⟨k0, k1, k2⟩ := how_cells HBk1.out
      clear h1 h2 hb1 hB1 r1 r2 HW HBk
      go_wp2_with (first | (go_at_call 31; refine (HM.out _).mono ?_; rintro e w' ⟨rfl, rfl⟩) | (go_at_call 32; refine (HR.out _).mono ?_; rintro e w2 ⟨wo, wb, rfl, h1, h2, hb2, _⟩))
      obtain ⟨A3, c3, rfl, r3⟩ := rd_of_own h1
      obtain ⟨A4, c4, rfl, r4⟩ := rd2_of_own h2
      have HB2 := Lib.hid (HB1.out.trans (hb2.mono HB1.out.size))
      have hq1 := runes_any A1 o.length c1 o A3 o.length c3 o w2 (R1.out.keep hb2) r3 ho
      have HR2 := Lib.hid (R2.out.keep hb2)
      have HR4 := Lib.hid r4
      rw [decide_eq_true rfl] at hq1
      have HQ := Lib.hid hq1
      clear h1 h2 hb2 r3 r4 hq1 R1 R2 k0 k1 k2 HBk1 HB1
      go_wp2_with fail
      refine HQ.out.mono ?_
      rintro e w3 ⟨rfl, hd3⟩
      have b3 := hd3.below w2.heap.size
      have hq2 := faults_any A2 y.length c2 y A4 y.length c4 y w3 (HR2.out.keep b3) (HR4.out.keep b3) hy
      rw [decide_eq_true rfl] at hq2
      have HQ2 := Lib.hid hq2
      have HB3 := Lib.hid (HB2.out.trans (b3.mono HB2.out.size))
      clear b3 hd3 hq2 HQ
      go_wp2_with fail
      refine HQ2.out.mono ?_
      rintro e w4 ⟨rfl, hd4⟩
      have HB4 := Lib.hid (HB3.out.trans ((hd4.below w3.heap.size).mono HB3.out.size))
      clear hd4 HQ2
      go_wp2_with (go_at_call 29; refine (HA.out _ (HRL.out.since HB4.out)).mono ?_; rintro e w5 ⟨rfl, hb5⟩)
      go_returns
      exact ⟨rfl, HB4.out.trans (hb5.mono HB4.out.size)⟩
    · have HW := Lib.hid (whole_no k p g hf s (w.alloc (.cells #[.int .i64 k, .int .i64 p, .bool g] HowT)))
      rw [decide_eq_false hf] at HM
      clear hf h4
      go_enter Tryd.func11, Tryd.ntmps11
      go_wp2_with fail
      refine HW.out.mono ?_
      rintro e w1 ⟨rfl, hb1⟩
      have HBk1 := Lib.hid (HBk.out.below hb1 HBk.out.lt)
      have HB1 := Lib.hid (HX.out.trans (hb1.mono HX.out.size))
      obtain ⟨k0, k1, k2⟩ := how_cells HBk1.out
      clear hb1 HW HBk
      go_wp2_with (first | (go_at_call 31; refine (HM.out _).mono ?_; rintro e w' ⟨rfl, rfl⟩) | (go_at_call 29; refine (HA.out _ (HRL.out.since HB1.out)).mono ?_; rintro e w5 ⟨rfl, hb5⟩))
      go_returns
      exact ⟨rfl, HB1.out.trans (hb5.mono HB1.out.size)⟩
end Go.Proofs.YtlfhmkjomogkiaaDoor.Str
