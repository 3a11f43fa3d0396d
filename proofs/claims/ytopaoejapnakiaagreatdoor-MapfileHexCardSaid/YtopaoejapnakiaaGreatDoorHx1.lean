/- Plain: what is printed, with small digits, other gaps, or a bare row ahead. -/
import Derived.Test.YtopaoejapnakiaaGreatDoorT11
import Derived.Test.YtopaoejapnakiaaGreatDoorT12
namespace Go.Proofs.YtopaoejapnakiaaGreatDoor.Mf
open Go.RowKit Pl Go.Lib
def lw (D : Nat → List UInt8) (n : Nat) : List UInt8 := (D n).map lowB
theorem lw4 : Dig4 (lw w4) := fun n h => (w4_dig n h).low
theorem lw2 : Dig2 (lw w2) := fun n h => (w2_dig n h).low
theorem charG_low (D : Nat → List UInt8) : ∀ l, (charG D l).map lowB = charG (lw D) l
  | [] => rfl
  | r :: t => by
    show ([60, 85] ++ D r.toNat ++ [62] ++ charG D t).map lowB = [60, 85] ++ (D r.toNat).map lowB ++ [62] ++ charG (lw D) t
    rw [List.map_append, List.map_append, List.map_append, charG_low D t]
    rfl
theorem codeG_low (E : Nat → List UInt8) (pre : List UInt8) (hp : pre.map lowB = pre) : ∀ l, (codeG E pre l).map lowB = codeG (lw E) pre l
  | [] => rfl
  | b :: t => by
    show (pre ++ E b.toNat ++ codeG E pre t).map lowB = pre ++ (E b.toNat).map lowB ++ codeG (lw E) pre t
    rw [List.map_append, List.map_append, codeG_low E pre hp t, hp]
theorem markG_low (D : Nat → List UInt8) : ∀ (l : List Int) (m : List UInt8), m.map lowB = m → (markG D m l).map lowB = markG (lw D) m l
  | [], _, _ => rfl
  | r :: t, m, hm => by
    show (m ++ D r.toNat ++ markG D [43] t).map lowB = m ++ (D r.toNat).map lowB ++ markG (lw D) [43] t
    rw [List.map_append, List.map_append, markG_low D t [43] rfl, hm]
theorem lineC_low (D E : Nat → List UInt8) (code : List UInt8) (text : List Int) (fl : UInt8) (hf : lowB fl = fl) : (lineC D E code text fl).map lowB = lineC (lw D) (lw E) code text fl := by
  unfold lineC
  simp only [List.map_append, List.map_cons, List.map_nil, charG_low, codeG_low E [92, 120] rfl, hf]
  rfl
theorem lineU_low (D E : Nat → List UInt8) (gap code : List UInt8) (text : List Int) (hg : gap.map lowB = gap) : (lineU D E gap code text).map lowB = lineU (lw D) (lw E) gap code text := by
  unfold lineU
  simp only [List.map_append, List.map_cons, List.map_nil, codeG_low E [] rfl, markG_low D text [] rfl, hg]
  rfl
theorem flag_low {f : Int} (h : f = 0 ∨ f = 1 ∨ f = 3) : lowB (flagB f) = flagB f := by rcases h with rfl | rfl | rfl <;> decide
theorem one_flat (line : LRow → List UInt8) (x : LRow) : [x].flatMap line = line x := by simp
/-- The row's line in a ucm, with small digits. -/
theorem small_ucm {r : RowV} (h : chkR r = 0) : readL oneC ((ucmL r).map lowB) = ([toL r], 0, 0) := by
  have hw := chk_toL h
  have hf := (wrongL_facts hw).2.2.2
  have e : (ucmL r).map lowB = [toL r].flatMap fun x => lineC (lw w4) (lw w2) x.code x.text (flagB x.flag) ++ [10] := by
    rw [ucmL_eq h, one_flat, List.map_append, lineC_low _ _ _ _ _ (flag_low hf)]
    rfl
  rw [e]
  exact read_ucm lw4 lw2 [toL r] (by simp) (fun x hx => by rw [List.mem_singleton.1 hx]; exact hw)
theorem small_uni {r : RowV} (h : chkR r = 0) (h0 : r.flag = 0) : readL oneU ((uniL r).map lowB) = ([toL r], 0, 0) := by
  have hw := chk_toL h
  have e : (uniL r).map lowB = [toL r].flatMap fun x => lineU (lw w4) (lw w2) [9] x.code x.text ++ [10] := by
    rw [uniL_eq h, one_flat, List.map_append, lineU_low _ _ _ _ _ rfl]
    rfl
  rw [e]
  exact read_uni lw4 lw2 [9] (by simp) (by decide) (by decide) [toL r] (by simp) (fun x hx => by rw [List.mem_singleton.1 hx]; exact ⟨hw, h0⟩)
/-- The line's parts: the code ahead of the tab, the text behind it. -/
def preU (r : RowV) : List UInt8 := [48, 120] ++ codeG w2 [] r.code.data.toList
def postU (r : RowV) : List UInt8 := ([48, 120] ++ markG w4 [] (runesL r.text.data.toList)) ++ [10]
theorem uni_parts {r : RowV} (h : chkR r = 0) : uniL r = preU r ++ ([9] ++ postU r) := by
  rw [uniL_eq h]
  unfold lineU preU postU toL
  simp
theorem preU_len (r : RowV) : (preU r).length = 2 + 2 * r.code.size := by
  unfold preU
  rw [List.length_append, (codeG_len w2_dig [] r.code.data.toList).2, dl]
  simp
theorem gap_uni {r : RowV} (h : chkR r = 0) (h0 : r.flag = 0) : readL oneU (preU r ++ [32, 32, 9, 32] ++ postU r) = ([toL r], 0, 0) := by
  have hw := chk_toL h
  have e : preU r ++ [32, 32, 9, 32] ++ postU r = [toL r].flatMap fun x => lineU w4 w2 [32, 32, 9, 32] x.code x.text ++ [10] := by
    rw [one_flat]
    unfold lineU preU postU toL
    simp
  rw [e]
  exact read_uni w4_dig w2_dig [32, 32, 9, 32] (by simp) (by decide) (by decide) [toL r] (by simp) (fun x hx => by rw [List.mem_singleton.1 hx]; exact ⟨hw, h0⟩)
theorem two_uni {r : RowV} (h : chkR r = 0) (h0 : r.flag = 0) : readL oneU (preU r ++ [10] ++ uniL r) = ([toL r], 0, 0) := by
  have hw := chk_toL h
  obtain ⟨⟨c1, c2⟩, _, _, _⟩ := chkV_facts h
  obtain ⟨a1, a2, a3⟩ := oneU_bare w2_dig r.code.data.toList (by rw [dl]; exact c1) (by rw [dl]; exact c2)
  obtain ⟨b1, b2, b3⟩ := oneU_line w4_dig w2_dig [9] (by simp) (by decide) (by decide) (toL r) hw h0
  have e : preU r ++ [10] ++ uniL r = ([48, 120] ++ codeG w2 [] r.code.data.toList) ++ 10 :: (lineU w4 w2 [9] (toL r).code (toL r).text ++ 10 :: []) := by
    rw [uniL_eq h]
    unfold preU
    simp
  have hl : linesOf (preU r ++ [10] ++ uniL r) = [[48, 120] ++ codeG w2 [] r.code.data.toList, lineU w4 w2 [9] (toL r).code (toL r).text] := by
    rw [e, linesOf_cut, linesOf_cut, cutL_one _ a1, cutL_one _ b1]
    rfl
  unfold readL fits
  rw [hl, if_pos]
  · rw [readGo_cons, a3]
    simp only
    rw [readGo_cons, b3]
    rfl
  · rw [List.all_cons, List.all_cons, decide_eq_true a2, decide_eq_true b2]
    rfl
theorem firstBad_one (f : RowV → Int) (r : RowV) (h : f r ≠ 0) : printP f (fun _ => []) [r] = ([], 1, f r) := by
  unfold printP firstBad
  rw [if_neg h, if_neg h]
  rfl
theorem printP_one (f : RowV → Int) (line : RowV → List UInt8) (r : RowV) (h : f r ≠ 0) : printP f line [r] = ([], 1, f r) := by
  unfold printP firstBad
  rw [if_neg h, if_neg h]
  rfl
theorem printP_ok1 (f : RowV → Int) (line : RowV → List UInt8) (r : RowV) (h : f r = 0) : printP f line [r] = (line r, 0, 0) := by
  rw [printP_ok f line [r] (fun x hx => by rw [List.mem_singleton.1 hx]; exact h)]
  simp
/-- A row that a call lays by itself. -/
theorem one_rows (w : World) (r : RowV) : RowsAt (w.alloc (.cells #[.string r.code, .string r.text, .int .i64 r.flag] RowT)) (some ⟨w.heap.size, 0, none⟩) [r] := by
  have hk : Blk (w.alloc (.cells #[.string r.code, .string r.text, .int .i64 r.flag] RowT)) w.heap.size RowT #[.string r.code, .string r.text, .int .i64 r.flag] := Blk.new _ _ _
  intro _
  refine ⟨w.heap.size, 0, rfl, hk.lt, fun i hi => ?_⟩
  obtain rfl : i = 0 := by simpa using hi
  refine ⟨?_, ?_, ?_⟩
  · show World.cell? _ ⟨w.heap.size, 0, none⟩ = _
    rw [hk.cell]; rfl
  · show World.cell? _ ⟨w.heap.size, 1, none⟩ = _
    rw [hk.cell]; rfl
  · show World.cell? _ ⟨w.heap.size, 2, none⟩ = _
    rw [hk.cell]; rfl
end Go.Proofs.YtopaoejapnakiaaGreatDoor.Mf
