/- Walks: inkhornref01.Bytes. Written by mkUh.py. -/
import Derived.Test.YtlfhmkjomogkiaaDoorUg
namespace Go.Proofs.YtlfhmkjomogkiaaDoor.Utf
open Go.RowKit Pl

theorem conv_new (w : World) (vs : List Nat) (h : ∀ n ∈ vs, n < 256) (cs : Array Value) (hcs : cs.toList = vs.map fun n : Nat => Value.int .u8 n) (n cap : Nat) (hn : n = vs.length) :
    (convert 78 9 (.slice (some ⟨w.heap.size, 0, none⟩) n cap)).run Tryd.prog (w.alloc (.cells cs ByteT)) = .ok (.string ⟨(vs.map UInt8.ofNat).toArray⟩) (w.alloc (.cells cs ByteT)) := by
  subst hn
  have h2 := run_convert_bytes_back (P := Tryd.prog) (w.alloc (.cells cs ByteT)) 78 9 ByteT ⟨w.heap.size, 0, none⟩ cap (vs.map UInt8.ofNat) Tryd.underlying78 Tryd.underlying5 Tryd.underlying9 (by
    intro i hi
    rw [show ((⟨w.heap.size, 0, none⟩ : Addr).add i) = ⟨w.heap.size, i, none⟩ from by unfold Addr.add; split <;> simp_all]
    rw [cell_of_row _ _ i cs ByteT (0, 0) (heap_alloc_new w _), ← Array.getElem?_toList, hcs]
    rw [List.length_map] at hi
    simp only [List.getElem?_map, List.getElem?_eq_getElem hi, Option.map_some, List.getElem_map]
    rw [of_u8 _ (h _ (List.getElem_mem hi))])
  rw [List.length_map] at h2
  exact h2
set_option maxRecDepth 100000 in
theorem bytes_1 (x : Nat) (x0 : 0 ≤ x) (x1 : x ≤ 127) (w : World) :
    Calls Tryd.prog 21 #[.int .i32 x] w fun e w' => e = .returned (.string ⟨(uch x).toArray⟩) ∧ Below w.heap.size w w' := by
  have hch : uch (x : Int) = [x].map UInt8.ofNat := by
    unfold uch
    rw [show ((x : Int)).toNat = x from rfl, uchN_1 (by omega)]
  obtain ⟨S, hS⟩ : ∃ S : ByteArray, ⟨(uch (x : Int)).toArray⟩ = S := ⟨_, rfl⟩
  have hconv := conv_new w [x] (by simp; omega) #[.int .u8 ((x : Int))] (by simp) 1 1 rfl
  rw [← hch, hS] at hconv
  rw [hS]
  clear hch hS
  have t1 : decide ((x : Int) < 128) = true := by simp; omega
  go_enter Tryd.func21, Tryd.ntmps21
  go_wp2
  go_returns
  exact ⟨rfl, by go_grown⟩
set_option maxRecDepth 100000 in
theorem bytes_2 (x : Nat) (x0 : 128 ≤ x) (x1 : x ≤ 2047) (w : World) :
    Calls Tryd.prog 21 #[.int .i32 x] w fun e w' => e = .returned (.string ⟨(uch x).toArray⟩) ∧ Below w.heap.size w w' := by
  have hch : uch (x : Int) = [192 + x / 64, 128 + x % 64].map UInt8.ofNat := by
    unfold uch
    rw [show ((x : Int)).toNat = x from rfl, uchN_2 (by omega) (by omega)]
  obtain ⟨S, hS⟩ : ∃ S : ByteArray, ⟨(uch (x : Int)).toArray⟩ = S := ⟨_, rfl⟩
  have hconv := conv_new w [192 + x / 64, 128 + x % 64] (by simp; omega) #[.int .u8 (192 + (x : Int) / 64), .int .u8 (128 + (x : Int) % 64)] (by simp) 2 2 rfl
  rw [← hch, hS] at hconv
  rw [hS]
  clear hch hS
  have t1 : decide ((x : Int) < 128) = false := by simp; omega
  have t2 : decide ((x : Int) < 2048) = true := by simp; omega
  go_enter Tryd.func21, Tryd.ntmps21
  go_wp2
  go_returns
  exact ⟨rfl, by go_grown⟩
set_option maxRecDepth 100000 in
theorem bytes_3 (x : Nat) (x0 : 2048 ≤ x) (x1 : x ≤ 65535) (w : World) :
    Calls Tryd.prog 21 #[.int .i32 x] w fun e w' => e = .returned (.string ⟨(uch x).toArray⟩) ∧ Below w.heap.size w w' := by
  have hch : uch (x : Int) = [224 + x / 4096, 128 + x / 64 % 64, 128 + x % 64].map UInt8.ofNat := by
    unfold uch
    rw [show ((x : Int)).toNat = x from rfl, uchN_3 (by omega) (by omega)]
  obtain ⟨S, hS⟩ : ∃ S : ByteArray, ⟨(uch (x : Int)).toArray⟩ = S := ⟨_, rfl⟩
  have hconv := conv_new w [224 + x / 4096, 128 + x / 64 % 64, 128 + x % 64] (by simp; omega) #[.int .u8 (224 + (x : Int) / 4096), .int .u8 (128 + (x : Int) / 64 % 64), .int .u8 (128 + (x : Int) % 64)] (by simp) 3 3 rfl
  rw [← hch, hS] at hconv
  rw [hS]
  clear hch hS
  have t1 : decide ((x : Int) < 128) = false := by simp; omega
  have t2 : decide ((x : Int) < 2048) = false := by simp; omega
  have t3 : decide ((x : Int) < 65536) = true := by simp; omega
  go_enter Tryd.func21, Tryd.ntmps21
  go_wp2
  go_returns
  exact ⟨rfl, by go_grown⟩
set_option maxRecDepth 100000 in
theorem bytes_4 (x : Nat) (x0 : 65536 ≤ x) (x1 : x ≤ 1114111) (w : World) :
    Calls Tryd.prog 21 #[.int .i32 x] w fun e w' => e = .returned (.string ⟨(uch x).toArray⟩) ∧ Below w.heap.size w w' := by
  have hch : uch (x : Int) = [240 + x / 262144, 128 + x / 4096 % 64, 128 + x / 64 % 64, 128 + x % 64].map UInt8.ofNat := by
    unfold uch
    rw [show ((x : Int)).toNat = x from rfl, uchN_4 (by omega)]
  obtain ⟨S, hS⟩ : ∃ S : ByteArray, ⟨(uch (x : Int)).toArray⟩ = S := ⟨_, rfl⟩
  have hconv := conv_new w [240 + x / 262144, 128 + x / 4096 % 64, 128 + x / 64 % 64, 128 + x % 64] (by simp; omega) #[.int .u8 (240 + (x : Int) / 262144), .int .u8 (128 + (x : Int) / 4096 % 64), .int .u8 (128 + (x : Int) / 64 % 64), .int .u8 (128 + (x : Int) % 64)] (by simp) 4 4 rfl
  rw [← hch, hS] at hconv
  rw [hS]
  clear hch hS
  have t1 : decide ((x : Int) < 128) = false := by simp; omega
  have t2 : decide ((x : Int) < 2048) = false := by simp; omega
  have t3 : decide ((x : Int) < 65536) = false := by simp; omega
  go_enter Tryd.func21, Tryd.ntmps21
  go_wp2
  go_returns
  exact ⟨rfl, by go_grown⟩
theorem bytes_any (r : Int) (hs : scal r = true) (w : World) :
    Calls Tryd.prog 21 #[.int .i32 r] w fun e w' => e = .returned (.string ⟨(uch r).toArray⟩) ∧ Below w.heap.size w w' := by
  have hr : 0 ≤ r ∧ r ≤ 1114111 := by simp [scal] at hs; omega
  obtain ⟨x, rfl⟩ := Int.eq_ofNat_of_zero_le hr.1
  by_cases h1 : x ≤ 127
  · exact bytes_1 x (Nat.zero_le _) h1 w
  by_cases h2 : x ≤ 2047
  · exact bytes_2 x (by omega) h2 w
  by_cases h3 : x ≤ 65535
  · exact bytes_3 x (by omega) h3 w
  · exact bytes_4 x (by omega) (by omega) w
end Go.Proofs.YtlfhmkjomogkiaaDoor.Utf
