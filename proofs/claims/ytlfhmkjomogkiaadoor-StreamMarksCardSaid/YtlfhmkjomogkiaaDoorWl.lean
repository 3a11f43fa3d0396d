/- Walks: wide.Decode at every kind and policy, inkhornref02.Decode. -/
import Derived.Test.YtlfhmkjomogkiaaDoorWk
namespace Go.Proofs.YtlfhmkjomogkiaaDoor
open Go.RowKit Pl

theorem wideDecode_any (k pol : Int) (A : Option Addr) (n c : Nat) (ls : List ByteArray) (w : World) (hR : Rd w A n (strv ls)) (hcap : n ≤ c) (hn : n ≤ 1000000) (hlen : (allB ls).length ≤ 1000000) :
    Calls Tryd.prog 75 #[.int .i64 k, .int .i64 pol, .slice A n c] w (DecPost w (kdec k pol (allB ls))) := by
  unfold kdec
  by_cases hk : 1 ≤ k ∧ k ≤ 4
  · by_cases hp : 1 ≤ pol ∧ pol ≤ 3
    · rw [if_pos ⟨hk, hp⟩]
      exact wideDecode_yes k pol hk.1 hk.2 hp.1 hp.2 A n c ls w hR hcap hn hlen
    · rw [if_neg (fun h => hp h.2)]
      have HO := Lib.hid (of_yes k hk.1 hk.2)
      obtain ⟨z, hz⟩ : ∃ z : Int, (wsize k : Int) = z := ⟨_, rfl⟩
      obtain ⟨bg, hb⟩ : ∃ b : Bool, (k % 2 == 0) = b := ⟨_, rfl⟩
      obtain ⟨pr, hc⟩ : ∃ b : Bool, decide (k ≤ 2) = b := ⟨_, rfl⟩
      rw [hz, hb, hc] at HO
      clear hz hb hc hk hR
      rcases (show pol < 1 ∨ 3 < pol from by omega) with h | h
      · clear hp
        go_enter Tryd.func75, Tryd.ntmps75
        go_wp2_with (go_at_call 84; refine (HO.out _).mono ?_; rintro e w1 ⟨rfl, hb1⟩)
        go_returns
        exact ⟨_, _, rfl, (St.start w).below (hb1.alloc hb1.size _)⟩
      · have h' : decide (pol < 1) = false := by simp; omega
        clear hp
        go_enter Tryd.func75, Tryd.ntmps75
        go_wp2_with (go_at_call 84; refine (HO.out _).mono ?_; rintro e w1 ⟨rfl, hb1⟩)
        go_returns
        exact ⟨_, _, rfl, (St.start w).below (hb1.alloc hb1.size _)⟩
  · rw [if_neg (fun h => hk h.1)]
    have HO := Lib.hid (of_no k (by omega))
    clear hk hR
    go_enter Tryd.func75, Tryd.ntmps75
    go_wp2_with (go_at_call 84; refine (HO.out _).mono ?_; rintro e w1 ⟨⟨a, b, c, rfl⟩, hb1⟩)
    go_returns
    exact ⟨_, _, rfl, (St.start w).below (hb1.alloc hb1.size _)⟩

end Go.Proofs.YtlfhmkjomogkiaaDoor
