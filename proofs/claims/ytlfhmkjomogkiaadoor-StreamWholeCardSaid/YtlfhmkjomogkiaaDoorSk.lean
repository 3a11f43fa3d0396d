/- Walks: Decoder.take whole, Feed, Close, Waits, Kind, At. -/
import Derived.Test.YtlfhmkjomogkiaaDoorSe
import Derived.Test.YtlfhmkjomogkiaaDoorSf
import Derived.Test.YtlfhmkjomogkiaaDoorSg
import Derived.Test.YtlfhmkjomogkiaaDoorSh
import Derived.Test.YtlfhmkjomogkiaaDoorSi
import Derived.Test.YtlfhmkjomogkiaaDoorSj
namespace Go.Proofs.YtlfhmkjomogkiaaDoor.Str
open Go.RowKit Pl

theorem take_any (B b : Nat) (s : SSt) (v0 : Value) (w : World) (h : DecAt B b w s v0) (hf : sfit s) (ha : s.all ≤ 1000000) (hb : s.bad.length ≤ 1000000) (hRL : Utf.RL w) (hB0 : 0 < B) (e : Bool) :
    Calls Tryd.prog 49 #[.pointer (some ⟨b, 0, none⟩), .bool e] w (TakePost B b w v0 (stake e s)) := by
  unfold stake swait
  cases hg : s.guess
  · simp only [Bool.false_and, Bool.false_eq_true, if_false]
    cases e
    · exact take_off_false B b s v0 w h hf ha hb hRL hg
    · exact take_off_true B b s v0 w h hf ha hb hRL hg
  · cases e
    · cases ho : sopen s.rest
      · simp only [Bool.and_false, Bool.false_eq_true, if_false, if_true]
        by_cases hm : 0 < (smarked s.rest).1
        · exact take_mark_false B b s v0 w h hf ha hb hRL hB0 hg ho hm
        · exact take_none_false B b s v0 w h hf ha hb hRL hB0 hg ho hm
      · exact take_wait B b s v0 w h hf ha hb hRL hg ho
    · simp only [Bool.not_true, Bool.and_false, Bool.false_and, Bool.false_eq_true, if_false, if_true]
      by_cases hm : 0 < (smarked s.rest).1
      · exact take_mark_true B b s v0 w h hf ha hb hRL hB0 hg hm
      · exact take_none_true B b s v0 w h hf ha hb hRL hB0 hg hm
theorem TakePost.lift {B b : Nat} {w w1 w' : World} {v : Value} {x : SSt × List Int × Int} {e : Ending} (h : TakePost B b w1 v x e w') (hk : Kept b nilV w w1) : TakePost B b w v x e w' := by
  obtain ⟨vo, v', rfl, h1, h2, h3, h4⟩ := h
  refine ⟨vo, v', rfl, own_mono h1 hk.size, h2, hk.wide.trans h3 (.inl rfl), ?_⟩
  rcases h4 with h4 | ⟨g, e, hg⟩
  · exact .inl h4
  · exact .inr ⟨g, e, Nat.le_trans hk.size hg⟩
/-- What Feed and Close leave and answer. -/
def sfeed (t : List UInt8) (s : SSt) : SSt × List Int × Int := if s.over then (s, [], 21) else stake false (sadd t s)
def sshut (x : SSt × List Int × Int) : SSt × List Int × Int := ({ x.1 with over := true }, x.2)
def sclose (s : SSt) : SSt × List Int × Int := if s.over then (s, [], 21) else sshut (stake true s)
theorem sadd_fit (t : List UInt8) (s : SSt) (h : sfit s) : sfit (sadd t s) := by
  obtain ⟨h1, h2, h3, h4, h5⟩ := h
  refine ⟨h1, h2, h3, h4, ?_⟩
  show (s.rest ++ t).length ≤ s.all + t.length
  rw [List.length_append]; omega
theorem feed_any (B b : Nat) (s : SSt) (v : Value) (A : Option Addr) (n c : Nat) (ls : List ByteArray) (w : World) (h : DecAt B b w s v) (hR : Rd w A n (strv ls)) (hcap : n ≤ c) (hn : n ≤ 1000000)
    (hf : sfit s) (hlen : s.all + (allB ls).length ≤ 1000000) (hbad : s.bad.length ≤ 1000000) (hRL : Utf.RL w) (hB0 : 0 < B) :
    Calls Tryd.prog 35 #[.pointer (some ⟨b, 0, none⟩), .slice A n c] w (TakePost B b w v (sfeed (allB ls) s)) := by
  have c5 : w.cell? ⟨b, 5, none⟩ = some (.bool s.over) := by rw [h.1.cell]; rfl
  unfold sfeed
  cases ho : s.over
  · rw [ho] at c5
    simp only [Bool.false_eq_true, if_false]
    have HA := Lib.hid (add_any B b s v A n c ls w h hR hcap hn (by omega) (by omega) (by have := hf.2.2.2.2; omega))
    have HT : Hid (∀ w', AddPost B b w s v (.returned (.tuple #[])) w' → True) := Lib.hid fun _ _ => trivial
    have HN : Hid (∀ w', DecAt B b w' (sadd (allB ls) s) v → Kept b nilV w w' → Calls Tryd.prog 49 #[.pointer (some ⟨b, 0, none⟩), .bool false] w' (TakePost B b w v (stake false (sadd (allB ls) s)))) := by
      intro w' hd hk
      refine (take_any B b _ v w' hd (sadd_fit _ _ hf) hlen hbad ?_ hB0 false).mono fun e w'' hp => hp.lift hk
      exact hRL.below (hk.below h.2.1 (fun g hg => absurd hg (nil_own g)) (by have := h.1.lt; have := h.2.1; omega)) hB0
    clear h hR hcap hn hf hlen hbad hRL hB0 HT
    generalize stake false (sadd (allB ls) s) = x at *
    go_enter Tryd.func35, Tryd.ntmps35
    go_wp2_with fail
    refine HA.out.mono ?_
    rintro e w1 ⟨rfl, hd1, hk1⟩
    have HN1 := Lib.hid (HN.out w1 hd1 hk1)
    clear hd1 hk1 HA HN
    go_wp2_with fail
    refine HN1.out.mono ?_
    rintro e w2 ⟨vo, v', rfl, hst⟩
    go_wp2
    go_returns
    exact ⟨vo, v', rfl, hst⟩
  · rw [ho] at c5
    simp only [if_true]
    have H := Lib.hid h
    clear h hR hcap hn hf hlen hbad hRL hB0
    go_enter Tryd.func35, Tryd.ntmps35
    go_wp2
    go_returns
    exact ⟨_, v, rfl, World.ownsRow_nil _ _ _ _, H.out, Kept.refl _ _ _, .inl rfl⟩
theorem close_any (B b : Nat) (s : SSt) (v : Value) (w : World) (h : DecAt B b w s v) (hf : sfit s) (hlen : s.all ≤ 1000000) (hbad : s.bad.length ≤ 1000000) (hRL : Utf.RL w) (hB0 : 0 < B) :
    Calls Tryd.prog 37 #[.pointer (some ⟨b, 0, none⟩)] w (TakePost B b w v (sclose s)) := by
  have c5 : w.cell? ⟨b, 5, none⟩ = some (.bool s.over) := by rw [h.1.cell]; rfl
  unfold sclose
  cases ho : s.over
  · rw [ho] at c5
    simp only [Bool.false_eq_true, if_false]
    have HT := Lib.hid (take_any B b s v w h hf hlen hbad hRL hB0 true)
    clear h hf hlen hbad hRL hB0
    generalize stake true s = x at *
    go_enter Tryd.func37, Tryd.ntmps37
    go_wp2_with fail
    refine HT.out.mono ?_
    rintro e w1 ⟨vo, v', rfl, h1, h2, h3, h4⟩
    have d5 : w1.cell? ⟨b, 5, none⟩ = some (.bool x.1.over) := by rw [h2.1.cell]; rfl
    have f5 : w1.frozen? ⟨b, 5, none⟩ = false := Blk.frozen h2.1 5
    have H1 := Lib.hid h1
    have H2 := Lib.hid h2
    have H3 := Lib.hid h3
    clear h1 h2 h3 HT
    go_wp2
    go_returns
    refine ⟨vo, v', rfl, own_set H1.out (own_blk_ne H1.out H2.out.1 (by decide)), ⟨Blk.set H2.out.1 5 _, H2.out.2.1, own_set H2.out.2.2 H2.out.own_ne⟩, ?_, h4⟩
    exact ⟨H3.out.os, H3.out.tape, H3.out.output, by simpa using H3.out.size, fun g hg hb hn => (heap_setCell_other w1 ⟨b, 5, none⟩ g _ hb).trans (H3.out.block g hg hb hn)⟩
  · rw [ho] at c5
    simp only [if_true]
    have H := Lib.hid h
    clear h hf hlen hbad hRL hB0
    go_enter Tryd.func37, Tryd.ntmps37
    go_wp2
    go_returns
    exact ⟨_, v, rfl, World.ownsRow_nil _ _ _ _, H.out, Kept.refl _ _ _, .inl rfl⟩
theorem waits_any (B b : Nat) (s : SSt) (v : Value) (w : World) (h : DecAt B b w s v) :
    Calls Tryd.prog 36 #[.pointer (some ⟨b, 0, none⟩)] w fun e w' => e = .returned (.string ⟨s.rest.toArray⟩) ∧ w = w' := by
  have c0 : w.cell? ⟨b, 0, none⟩ = some (.string ⟨s.rest.toArray⟩) := by rw [h.1.cell]; rfl
  clear h
  go_enter Tryd.func36, Tryd.ntmps36
  go_wp2
  go_ret
  exact ⟨rfl, rfl⟩
theorem kind_any (B b : Nat) (s : SSt) (v : Value) (w : World) (h : DecAt B b w s v) :
    Calls Tryd.prog 39 #[.pointer (some ⟨b, 0, none⟩)] w fun e w' => e = .returned (.int .i64 s.kind) ∧ w = w' := by
  have c0 : w.cell? ⟨b, 2, none⟩ = some (.int .i64 s.kind) := by rw [h.1.cell]; rfl
  clear h
  go_enter Tryd.func39, Tryd.ntmps39
  go_wp2
  go_ret
  exact ⟨rfl, rfl⟩
theorem at_any (B b : Nat) (s : SSt) (v : Value) (w : World) (h : DecAt B b w s v) :
    Calls Tryd.prog 40 #[.pointer (some ⟨b, 0, none⟩)] w fun e w' => e = .returned (.int .i64 s.all) ∧ w = w' := by
  have c0 : w.cell? ⟨b, 1, none⟩ = some (.int .i64 s.all) := by rw [h.1.cell]; rfl
  clear h
  go_enter Tryd.func40, Tryd.ntmps40
  go_wp2
  go_ret
  exact ⟨rfl, rfl⟩
/- A decoder that is nil. -/
theorem feed_nil (v : Value) (w : World) :
    Calls Tryd.prog 35 #[.pointer none, v] w fun e w' => e = .returned (.tuple #[nilV, .int .i64 2]) ∧ w = w' := by
  go_enter Tryd.func35, Tryd.ntmps35
  go_wp2
  go_returns
  exact ⟨rfl, rfl⟩
theorem close_nil (w : World) :
    Calls Tryd.prog 37 #[.pointer none] w fun e w' => e = .returned (.tuple #[nilV, .int .i64 2]) ∧ w = w' := by
  go_enter Tryd.func37, Tryd.ntmps37
  go_wp2
  go_returns
  exact ⟨rfl, rfl⟩
theorem faults_nil (w : World) :
    Calls Tryd.prog 38 #[.pointer none] w fun e w' => e = .returned nilV ∧ w = w' := by
  go_enter Tryd.func38, Tryd.ntmps38
  go_wp2
  go_ret
  exact ⟨rfl, rfl⟩
theorem waits_nil (w : World) :
    Calls Tryd.prog 36 #[.pointer none] w fun e w' => e = .returned (.string ⟨#[]⟩) ∧ w = w' := by
  go_enter Tryd.func36, Tryd.ntmps36
  go_wp2
  go_ret
  exact ⟨rfl, rfl⟩
theorem kind_nil (w : World) :
    Calls Tryd.prog 39 #[.pointer none] w fun e w' => e = .returned (.int .i64 0) ∧ w = w' := by
  go_enter Tryd.func39, Tryd.ntmps39
  go_wp2
  go_ret
  exact ⟨rfl, rfl⟩
theorem at_nil (w : World) :
    Calls Tryd.prog 40 #[.pointer none] w fun e w' => e = .returned (.int .i64 0) ∧ w = w' := by
  go_enter Tryd.func40, Tryd.ntmps40
  go_wp2
  go_ret
  exact ⟨rfl, rfl⟩
end Go.Proofs.YtlfhmkjomogkiaaDoor.Str
