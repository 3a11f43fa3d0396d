/- Walk: inkhornref13.great. -/
import Derived.Test.YtopaoejapnakiaaGreatDoorPA
import Derived.Test.YtopaoejapnakiaaGreatDoorRd
import Derived.Test.YtopaoejapnakiaaGreatDoorM7
namespace Go.Proofs.YtopaoejapnakiaaGreatDoor.Mf
open Go.RowKit Pl
abbrev D16 : ByteArray := ⟨#[48, 49, 50, 51, 52, 53, 54, 55, 56, 57, 65, 66, 67, 68, 69, 70]⟩
theorem d16_fin : ∀ d : Fin 16, (D16.data.toList.take (d.val + 1)).drop d.val = [hexG d.val] := by decide
theorem d16_at (q : Nat) (h : q < 16) : (D16.extract q (q + 1)).data.toList = [hexG q] := by
  rw [ext_any]
  exact d16_fin ⟨q, h⟩
set_option maxRecDepth 100000 in
set_option maxHeartbeats 1600000 in
theorem great_any (n : Nat) (hn : n ≤ 1114111) (least : Nat) (h1 : 1 ≤ least) (hl : least ≤ 4) (w : World) :
    Calls Tryz.prog 43 #[.int .i64 n, .int .i64 least] w fun e w' => e = .returned (.string ⟨(wrt n least).toArray⟩) ∧ w = w' := by
  obtain ⟨TOT, hTOT⟩ : ∃ TOT, wrt n least = TOT := ⟨_, rfl⟩
  have hT0 : grT n least = TOT := by rw [grT_wrt n least hn h1, hTOT]
  have hTl : TOT.length ≤ 6 := by rw [← hT0]; exact grT_len n least hn (by omega)
  rw [hTOT]
  have HT0 := Lib.hid hT0
  have HTL := Lib.hid hTl
  clear hTOT hT0 hTl
  go_enter Tryz.func43, Tryz.ntmps43
  go_wp2
  go_loop [0, 1, 5] (fun vn vl vo => ∃ (m : Nat) (l : Int) (B : ByteArray), vn = .int .i64 m ∧ vl = .int .i64 l ∧ vo = .string B ∧ m ≤ 1114111 ∧ -1200000 + m ≤ l ∧ l ≤ 4 ∧ grT m l ++ B.data.toList = TOT) (fun vn vl _ => (RowKit.intOf vn).toNat + (RowKit.intOf vl).toNat)
  case atStart => exact ⟨n, least, ⟨#[]⟩, rfl, rfl, rfl, hn, by omega, by omega, by rw [HT0.out]; simp⟩
  case round =>
    obtain ⟨m, l', B, rfl, rfl, rfl, hm, hlo, hhi, htot⟩ := hrel
    by_cases hc : 0 < m ∨ 0 < l'
    · have hst := grT_step m l' hm hc
      have hBs : B.size ≤ 6 := by
        have h := congrArg List.length htot
        rw [List.length_append] at h
        have h2 := HTL.out
        have h3 : B.data.toList.length = B.size := Array.length_toList
        omega
      have hq : m % 16 < 16 := Nat.mod_lt _ (by decide)
      have hE := d16_at (m % 16) hq
      have hEs : (D16.extract (m % 16) (m % 16 + 1)).size = 1 := by
        have h := congrArg List.length hE
        have h3 : (D16.extract (m % 16) (m % 16 + 1)).data.toList.length = (D16.extract (m % 16) (m % 16 + 1)).size := Array.length_toList
        rw [← h3, h]
        rfl
      have htot2 : grT (m / 16) (l' - 1) ++ (D16.extract (m % 16) (m % 16 + 1) ++ B).data.toList = TOT := by
        rw [ByteArray.toList_data_append, hE, ← htot, hst, List.append_assoc]
      have HTOT2 := Lib.hid htot2
      have hdv : m / 16 ≤ 1114111 := by omega
      have hcat : ¬ (9223372036854775807 < (D16.extract (m % 16) (m % 16 + 1)).size + B.size) := by omega
      have hwq : IntKind.i64.wrap ((m % 16 : Nat) : Int) = ((m % 16 : Nat) : Int) := IntWalk.i64_in _ (by omega)
      clear hst hE hEs htot htot2
      by_cases hm0 : 0 < m
      · go_wp2_with fail
        go_round
        case rel => exact ⟨m / 16, l' - 1, _, by go_num, rfl, rfl, by omega, by omega, by omega, HTOT2.out⟩
        case measure => simp [RowKit.intOf]; omega
      · obtain rfl : m = 0 := by omega
        have hl0 : 0 < l' := by omega
        go_wp2_with fail
        go_round
        case rel => exact ⟨0, l' - 1, _, rfl, rfl, rfl, by omega, by omega, by omega, HTOT2.out⟩
        case measure => simp [RowKit.intOf]; omega
    · obtain rfl : m = 0 := by omega
      have hl0 : l' ≤ 0 := by omega
      rw [grT_end l' hl0, List.nil_append] at htot
      have HTT := Lib.hid htot
      clear htot hc
      go_wp2_with fail
      go_returns
      exact ⟨congrArg (fun x => Ending.returned (.string x)) (ba_ext HTT.out), rfl⟩
end Go.Proofs.YtopaoejapnakiaaGreatDoor.Mf
