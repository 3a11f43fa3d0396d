/- Walks: a nil table's methods, single.From on a text that is none; the law SingleNil. -/
import Derived.Test.YtkfjmcidcnpijaaGreatDoorGF
import Derived.Test.YtkfjmcidcnpijaaGreatDoorRD
namespace Go.Proofs.YtkfjmcidcnpijaaGreatDoor.Mf
open Go.RowKit Pl
set_option maxRecDepth 100000 in
theorem read_noneL (s : List UInt8) (hs : s.length ≤ 100) : readL oneU ([10, 110, 111, 110, 101, 10] ++ s) = ([], 2, 10) := by
  have e : ([10, 110, 111, 110, 101, 10] ++ s : List UInt8) = [10, 110, 111, 110, 101] ++ 10 :: s := by simp
  have hc : cutL [10, 110, 111, 110, 101] = [[], [110, 111, 110, 101]] := by decide
  have hf : fits ([10, 110, 111, 110, 101] ++ 10 :: s) = true := by
    rw [fits_cut _ _ (by simp) (by omega) (by rw [hc]; decide)]
    exact fits_of s (by omega) (fun l hl => by have := lines_each s l hl; omega)
  have h1 : oneU (clean []) = .none := by rfl
  have h2 : oneU (clean [110, 111, 110, 101]) = .err 10 := by rfl
  rw [e]
  unfold readL
  rw [if_pos hf, linesOf_cut, hc]
  show readGo oneU 0 [] ([] :: [110, 111, 110, 101] :: linesOf s) = _
  rw [readGo_cons, h1]
  show readGo oneU 1 [] ([110, 111, 110, 101] :: linesOf s) = _
  rw [readGo_cons, h2]
  rfl
end Go.Proofs.YtkfjmcidcnpijaaGreatDoor.Mf
namespace Go.Proofs.YtkfjmcidcnpijaaGreatDoor.Sg
open Go.RowKit Pl Go.Lib
theorem tabs_of {w : World} (h : Mf.TabsM w) : Tabs w := h
set_option maxRecDepth 100000 in
theorem byte_nil (b : Int) (w : World) : Calls Tryz.prog 6 #[.pointer none, .int .u8 b] w fun e w' => e = .returned (.tuple #[.string ⟨#[]⟩, .bool false]) ∧ w = w' := by
  go_enter Tryz.func6, Tryz.ntmps6
  go_wp2_with fail
  go_returns
  exact ⟨rfl, rfl⟩
set_option maxRecDepth 100000 in
theorem decode_nil (how : Int) (s : ByteArray) (w : World) : Calls Tryz.prog 7 #[.pointer none, .int .i64 how, .string s] w fun e w' => e = .returned (.tuple #[.string ⟨#[]⟩, .slice none 0 0, .int .i64 2]) ∧ w = w' := by
  go_enter Tryz.func7, Tryz.ntmps7
  go_wp2_with fail
  go_returns
  exact ⟨rfl, rfl⟩
set_option maxRecDepth 100000 in
theorem whole_nil (w : World) : Calls Tryz.prog 10 #[.pointer none] w fun e w' => e = .returned (.bool false) ∧ w = w' := by
  go_enter Tryz.func10, Tryz.ntmps10
  go_wp2_with fail
  go_returns
  exact ⟨rfl, rfl⟩
set_option maxRecDepth 100000 in
theorem bytes_nil (A : Option Addr) (n c : Nat) (w : World) : Calls Tryz.prog 11 #[.pointer none, .slice A n c] w fun e w' => e = .returned (.slice none 0 0) ∧ Below w.heap.size w w' := by
  have h1 : Below w.heap.size w (w.alloc (.cells #[.pointer none] 23)) := (Below.refl _ _).alloc (Nat.le_refl _) _
  have hb : Below w.heap.size w ((w.alloc (.cells #[.pointer none] 23)).alloc (.cells #[.slice A n c] 72)) := h1.alloc h1.size _
  have HB := Lib.hid hb
  clear hb h1
  go_enter Tryz.func11, Tryz.ntmps11
  go_wp2_with fail
  go_returns
  exact ⟨rfl, HB.out⟩
set_option maxRecDepth 100000 in
theorem unlike_nil (w : World) : Calls Tryz.prog 12 #[.pointer none, .pointer none] w fun e w' => e = .returned (.slice none 0 0) ∧ Below w.heap.size w w' := by
  have h1 : Below w.heap.size w (w.alloc (.cells #[.pointer none] 23)) := (Below.refl _ _).alloc (Nat.le_refl _) _
  have hb : Below w.heap.size w ((w.alloc (.cells #[.pointer none] 23)).alloc (.cells #[.pointer none] 23)) := h1.alloc h1.size _
  have HB := Lib.hid hb
  clear hb h1
  go_enter Tryz.func12, Tryz.ntmps12
  go_wp2_with fail
  go_returns
  exact ⟨rfl, HB.out⟩
abbrev noneS : ByteArray := ⟨#[10, 110, 111, 110, 101, 10]⟩
set_option maxRecDepth 100000 in
theorem from_none (s : ByteArray) (hs : s.size ≤ 100) (w : World) (hO : Mf.Okw w) : Calls Tryz.prog 8 #[smallI, .string (noneS ++ s)] w fun e w' => e = .returned (.tuple #[.pointer none, .int .i64 2, .int .i64 10]) ∧ Below w.heap.size w w' := by
  have hr : Mf.readL Mf.oneU (noneS ++ s).data.toList = ([], 2, 10) := by
    have := Mf.read_noneL s.data.toList (by rw [code_len]; exact hs)
    rw [← this]
    congr 1
  have hz : (noneS ++ s).size ≤ 1000000 := by rw [ByteArray.size_append]; show 6 + s.size ≤ _; omega
  have HU := Lib.hid (Mf.mapU_any (noneS ++ s) hz w hO)
  unfold Mf.ReadP at HU
  rw [hr] at HU
  generalize noneS ++ s = t at *
  clear hO hr hz hs
  go_enter Tryz.func8, Tryz.ntmps8
  go_wp2_with fail
  refine HU.out.mono ?_
  rintro _ w1 ⟨v, rfl, h1, hb⟩
  have HB := Lib.hid hb
  clear h1 hb
  go_wp2_with fail
  go_returns
  exact ⟨rfl, HB.out⟩
set_option maxRecDepth 100000 in
set_option maxHeartbeats 3200000 in
theorem singleNil_law {w : World} (hO : Mf.Okw w) (b : Int) (s : ByteArray) (_hs : s.size ≤ maxLen) (how : Int) :
    Calls Tryz.prog 3 #[.int .u8 b, .string s, .int .i64 how] w fun e w' => e = .returned (.bool true) ∧ Below w.heap.size w w' := by
  have HAW := Lib.hid (fun (w' : World) (hb : Below w.heap.size w w') => awake18_any w' (tabs_of (hO.keep hb).tabs))
  have HO := Lib.hid hO
  have HSM := Lib.hid (fun w => small17_any w)
  clear hO
  go_enter Tryz.func3, Tryz.ntmps3
  by_cases hsz : 100 < s.size
  · have x2 : decide ((100 : Int) < (s.size : Int)) = true := decide_eq_true (by omega)
    clear hsz
    go_wp2_with fail
    refine (HAW.out w (Below.refl _ _)).mono ?_
    rintro _ w3 ⟨rfl, hb3⟩
    have HB3 := Lib.hid hb3
    clear hb3
    go_wp2_with fail
    go_returns
    exact ⟨rfl, HB3.out⟩
  have x2 : decide ((100 : Int) < (s.size : Int)) = false := decide_eq_false (by omega)
  have HFR := Lib.hid (fun (w' : World) (hb : Below w.heap.size w w') => from_none s (by omega) w' (HO.out.keep hb))
  have szs : ((⟨#[10, 110, 111, 110, 101, 10]⟩ : ByteArray) ++ s).size = 6 + s.size := by rw [ByteArray.size_append]; rfl
  have hle : s.size ≤ 100 := by omega
  have HBY := Lib.hid byte_nil
  have HDE := Lib.hid decode_nil
  have HWH := Lib.hid whole_nil
  have HBS := Lib.hid bytes_nil
  have HUN := Lib.hid unlike_nil
  clear hsz
  go_wp2_with fail
  refine (HBY.out _ _).mono ?_
  rintro _ _ ⟨rfl, rfl⟩
  go_wp2_with fail
  refine (HDE.out _ _ _).mono ?_
  rintro _ _ ⟨rfl, rfl⟩
  go_wp2_with fail
  refine (HSM.out _).mono ?_
  rintro _ _ ⟨rfl, rfl⟩
  go_wp2_with fail
  refine (HFR.out _ (Below.refl _ _)).mono ?_
  rintro _ w1 ⟨rfl, hb1⟩
  have HB1 := Lib.hid hb1
  clear hb1
  go_wp2_with fail
  refine (HWH.out _).mono ?_
  rintro _ _ ⟨rfl, rfl⟩
  have hal : ∀ v : Value, Below w.heap.size w (w1.alloc (.cells #[v] 21)) := fun _ => HB1.out.alloc HB1.out.size _
  have HAL := Lib.hid hal
  clear hal
  go_wp2_with fail
  refine (HBS.out _ _ _ _).mono ?_
  rintro _ w2 ⟨rfl, hb2⟩
  have HB2 := Lib.hid ((HAL.out _).trans (hb2.mono (HAL.out _).size))
  clear hb2
  go_wp2_with fail
  refine (HUN.out _).mono ?_
  rintro _ w3 ⟨rfl, hb3⟩
  have HB3 := Lib.hid (HB2.out.trans (hb3.mono HB2.out.size))
  clear hb3
  go_wp2_with fail
  refine (HAW.out w3 HB3.out).mono ?_
  rintro _ w4 ⟨rfl, hb4⟩
  have HB4 := Lib.hid (HB3.out.trans (hb4.mono HB3.out.size))
  clear hb4
  go_wp2_with fail
  go_returns
  exact ⟨rfl, HB4.out⟩
end Go.Proofs.YtkfjmcidcnpijaaGreatDoor.Sg
namespace Go.Proofs.YtkfjmcidcnpijaaGreatDoor.Mf
open Go.RowKit
theorem singleNil_law {w : World} (hO : Okw w) (b : Int) (s : ByteArray) (hs : s.size ≤ maxLen) (how : Int) :
    Calls Tryz.prog 3 #[.int .u8 b, .string s, .int .i64 how] w fun e w' => e = .returned (.bool true) ∧ Below w.heap.size w w' := Sg.singleNil_law hO b s hs how
end Go.Proofs.YtkfjmcidcnpijaaGreatDoor.Mf
