/- Joined of: T6, T7. -/
import Derived.Test.YtkfjmcidcnpijaaGreatDoorTA
import Derived.Test.YtkfjmcidcnpijaaGreatDoorKM
import Derived.Deep.RegionHeld3
/- Walk: mapfile.Row.unicode. -/
namespace Go.Proofs.YtkfjmcidcnpijaaGreatDoor.Mf
open Go.RowKit Pl Go.Lib
/-- What the rows' printing wants of memory. -/
def codeL : List UInt8 → List UInt8
  | [] => []
  | b :: t => wrt b.toNat 2 ++ codeL t
theorem codeL_append (a b : List UInt8) : codeL (a ++ b) = codeL a ++ codeL b := by
  induction a with
  | nil => rfl
  | cons x t ih => show wrt x.toNat 2 ++ codeL (t ++ b) = _; rw [ih, ← List.append_assoc]; rfl
theorem bytes_at (w : World) (s : ByteArray) : ∃ w2 cap, (convert 9 35 (.string s)).run Tryz.prog w = .ok (.slice (some ⟨w.heap.size, 0, none⟩) s.size cap) w2 ∧ Froz w2 w.heap.size (bytesRow s cap) ∧ Below w.heap.size w w2 ∧ w.heap.size < w2.heap.size :=
  ⟨_, _, run_bytes_of_string w 9 35 5 s Tryz.underlying9 Tryz.underlying35 Tryz.underlying5, heap_alloc_new w.drew _, (Below.refl _ _).drew.alloc (Nat.le_refl _) _, by simp⟩
theorem froz_cell {w : World} {X : Nat} {s : ByteArray} {cap : Nat} (h : Froz w X (bytesRow s cap)) (j : Nat) (hj : j < s.size) : w.cell? ⟨X, j, none⟩ = some (.int .u8 (s[j].toNat : Int)) := by
  have h2 := cell_of_row w X j _ ByteT _ h
  rw [bytesRow_at s _ j hj] at h2
  exact h2
theorem Froz.keep {w w' : World} {X : Nat} {cs : Array Value} (h : Froz w X cs) (hb : Below w.heap.size w w') : Froz w' X cs := (hb.block X (Array.getElem?_eq_some_iff.1 h).1).trans h
theorem wrt_len (n least : Nat) (hn : n ≤ 1114111) (hl : least ≤ 4) : (wrt n least).length ≤ 11 := by
  obtain ⟨f1, f2, f3⟩ := hxF_facts 6 n [] (fun h => by cases h) (by omega) (fun b hb => by cases hb)
  have hul : (upL n).length ≤ 7 := by unfold upL; simp [Lib.toUpperA] at f2 ⊢; omega
  unfold wrt
  rw [List.length_append, Lib.repeatL_length]
  show _ * 1 + _ ≤ _
  omega
theorem codeL_len (l : List UInt8) : (codeL l).length ≤ 11 * l.length := by
  induction l with
  | nil => exact Nat.zero_le _
  | cons b t ih =>
    show (wrt b.toNat 2 ++ codeL t).length ≤ _
    have := wrt_len b.toNat 2 (by have := b.toNat_lt; omega) (by omega)
    rw [List.length_append, List.length_cons]
    omega
theorem wr_at (H : Nat) (o : List UInt8) (s : ByteArray) (w : World) (h : Lib.IsBuilderF BuilT ByteT H H (Lib.byteCells o) w) (ho : o.length ≤ 1000000) (hs : s.size ≤ 1000000) (hH : H ≤ w.heap.size) :
    Calls Tryz.prog 19 #[.pointer (some ⟨H, 0, none⟩), .string s] w fun e w' => ∃ k : Int, e = .returned (.tuple #[.int .i64 k, .nilIface]) ∧ Lib.IsBuilderF BuilT ByteT H H (Lib.byteCells (o ++ s.data.toList)) w' ∧ Below H w w' := by
  refine (writeString_k H H (Lib.byteCells o) s w h (by simp [Lib.byteCells]; omega) hH).mono ?_
  rintro e w' ⟨rfl, hb, hbl, _⟩
  exact ⟨_, rfl, .inr (by rw [Lib.strCells_eq, byteCells_append] at hb; exact hb), hbl⟩
/-- .. beside an iterator. -/
theorem wr_it (H : Nat) (o : List UInt8) (s : ByteArray) (w : World) (N : Nat) (x : ByteArray) (p : Nat) (h : Lib.IsBuilderF BuilT ByteT H H (Lib.byteCells o) w) (hN : w.heap[N]? = some (.stringIter x p)) (ho : o.length ≤ 1000000) (hs : s.size ≤ 1000000) (hH : H ≤ w.heap.size) :
    Calls Tryz.prog 19 #[.pointer (some ⟨H, 0, none⟩), .string s] w fun e w' => ∃ k : Int, e = .returned (.tuple #[.int .i64 k, .nilIface]) ∧ Lib.IsBuilderF BuilT ByteT H H (Lib.byteCells (o ++ s.data.toList)) w' ∧ Below H w w' ∧ w'.heap[N]? = some (.stringIter x p) := by
  have hne : N ≠ H := by
    rintro rfl
    rcases h with ⟨_, v, hbk, _⟩ | ⟨_, v, hbk, _⟩ <;> (rw [hN] at hbk; cases hbk)
  refine (writeString_k H H (Lib.byteCells o) s w h (by simp [Lib.byteCells]; omega) hH).mono ?_
  rintro e w' ⟨rfl, hb, hbl, hok⟩
  exact ⟨_, rfl, .inr (by rw [Lib.strCells_eq, byteCells_append] at hb; exact hb), hbl, hok N _ hN (fun e => hne (Option.some.inj e)) (fun c fz e => by cases e)⟩
/-- The characters as printed: a mark ahead of the first, '+' ahead of each other one. -/
def markL : List UInt8 → List Int → List UInt8
  | _, [] => []
  | m, r :: t => m ++ wrt r.toNat 4 ++ markL [43] t
/-- A row's line of unicode.org's kind. -/
def uniLine (code text : ByteArray) : List UInt8 := ([48, 120] ++ codeL code.data.toList) ++ markL [9, 48, 120] (runesL text.data.toList) ++ [10]
theorem markL_len : ∀ (l : List Int) (m : List UInt8), (∀ r ∈ l, r ≤ 1114111) → (markL m l).length ≤ m.length + 12 * l.length
  | [], m, _ => Nat.zero_le _
  | r :: t, m, h => by
    have h1 := wrt_len r.toNat 4 (by have := h r List.mem_cons_self; omega) (by omega)
    have h2 := markL_len t [43] (fun x hx => h x (List.mem_cons_of_mem _ hx))
    show (m ++ wrt r.toNat 4 ++ markL [43] t).length ≤ _
    rw [List.length_append, List.length_append, List.length_cons]
    have : ([43] : List UInt8).length = 1 := rfl
    omega
set_option maxRecDepth 100000 in
set_option maxHeartbeats 3200000 in
theorem rowUni_any (code text : ByteArray) (flag : Int) (hc : code.size ≤ 1000) (ht : text.size ≤ 1000) (w : World) (hT : TzV w) (hTB : 6 < w.heap.size) :
    Calls Tryz.prog 29 #[.agg #[.string code, .string text, .int .i64 flag]] w fun e w' => e = .returned (.string ⟨(uniLine code text).toArray⟩) ∧ Below w.heap.size w w' := by
  have HWR : Hid (∀ (n least : Nat) (w' : World), n ≤ 1114111 → least ≤ 4 → Below w.heap.size w w' → Calls Tryz.prog 43 #[.int .i64 n, .int .i64 least] w' fun e w2 => e = .returned (.string ⟨(wrt n least).toArray⟩) ∧ Below w'.heap.size w' w2) := Lib.hid fun n least w' hn hl hb => written_any n hn least hl w' (hT.keep hb hTB) (Nat.lt_of_lt_of_le hTB hb.size)
  have HWX : Hid (∀ (o : List UInt8) (s : ByteArray) (w3 : World) (X : Nat) (cs : Array Value), Lib.IsBuilderF BuilT ByteT (w.heap.size + 1) (w.heap.size + 1) (Lib.byteCells o) w3 → Froz w3 X cs → o.length ≤ 1000000 → s.size ≤ 1000000 → w.heap.size + 1 ≤ w3.heap.size → _) := Lib.hid fun o s w3 X cs => wr_x (w.heap.size + 1) o s w3 X cs
  have HWS : Hid (∀ (o : List UInt8) (s : ByteArray) (w3 : World), Lib.IsBuilderF BuilT ByteT (w.heap.size + 1) (w.heap.size + 1) (Lib.byteCells o) w3 → o.length ≤ 1000000 → s.size ≤ 1000000 → w.heap.size + 1 ≤ w3.heap.size → _) := Lib.hid fun o s w3 => wr_at (w.heap.size + 1) o s w3
  obtain ⟨W, hW⟩ : ∃ W, ((w.alloc (.cells #[.string code, .string text, .int .i64 flag] RowT)).alloc (.cells #[.pointer none, .slice none 0 0] BuilT)) = W := ⟨_, rfl⟩
  have hsz : (w.alloc (.cells #[.string code, .string text, .int .i64 flag] RowT)).heap.size = w.heap.size + 1 := by simp
  have hb0 : Lib.IsBuilderF BuilT ByteT (w.heap.size + 1) (w.heap.size + 1) (Lib.byteCells []) W := by
    have h := fresh_builder (w.alloc (.cells #[.string code, .string text, .int .i64 flag] RowT))
    rw [hsz, hW] at h
    exact h
  have hk0 : Blk W w.heap.size RowT #[.string code, .string text, .int .i64 flag] := hW ▸ Blk.alloc (Blk.new _ _ _) _
  have hbw : Below w.heap.size w W := hW ▸ ((Below.refl _ _).alloc (Nat.le_refl _) _).alloc (by simp) _
  have hszW : w.heap.size + 1 ≤ W.heap.size := by rw [← hW]; simp
  have HW := Lib.hid hW
  have HK0 := Lib.hid hk0
  have HBW := Lib.hid hbw
  have HB0 := Lib.hid hb0
  have HSW := Lib.hid hszW
  have hcode : code.data.toList.length = code.size := Array.length_toList
  clear hW hk0 hbw hb0 hszW hsz
  go_enter Tryz.func29, Tryz.ntmps29
  go_wp2_with fail
  rw [HW.out]
  refine (HWS.out [] ⟨#[48, 120]⟩ W HB0.out (Nat.zero_le _) (by decide) HSW.out).mono ?_
  rintro _ w1 ⟨k1, rfl, hb1, hl1⟩
  have hk1 : Blk w1 w.heap.size RowT #[.string code, .string text, .int .i64 flag] := HK0.out.below hl1 (Nat.lt_succ_self _)
  have c0 : w1.cell? ⟨w.heap.size, 0, none⟩ = some (.string code) := by rw [hk1.cell]; rfl
  have c1 : w1.cell? ⟨w.heap.size, 1, none⟩ = some (.string text) := by rw [hk1.cell]; rfl
  have HK1 := Lib.hid hk1
  have HB1 := Lib.hid hb1
  have HL1 := Lib.hid hl1
  clear hk1 hb1 hl1
  obtain ⟨w2, cap, hrun, hfz, hl2, hs2⟩ := bytes_at w1 code
  have hsz1 : w.heap.size + 1 ≤ w1.heap.size := Nat.le_trans HSW.out HL1.out.size
  have HF := Lib.hid hfz
  have HL2 := Lib.hid (HL1.out.trans (hl2.mono hsz1))
  have HB2 := Lib.hid (builder_keep HB1.out hl2)
  have HS2 := Lib.hid hs2
  have HS1 := Lib.hid hsz1
  clear hfz hl2 hs2 hsz1
  go_wp2_with fail
  obtain ⟨X, hXX⟩ : ∃ X, w1.heap.size = X := ⟨_, rfl⟩
  rw [hXX] at HF HS2 HS1 ⊢
  clear hXX hrun
  go_loopw [14] (fun vi wr => ∃ i : Nat, i ≤ code.size ∧ vi = .int .i64 i ∧ Lib.IsBuilderF BuilT ByteT (w.heap.size + 1) (w.heap.size + 1) (Lib.byteCells ([48, 120] ++ codeL (code.data.toList.take i))) wr ∧ Below (w.heap.size + 1) W wr ∧ Froz wr X (bytesRow code cap)) (fun vi _ => code.size - (RowKit.intOf vi).toNat)
  case atStart => exact ⟨0, Nat.zero_le _, rfl, HB2.out, HL2.out, HF.out⟩
  case round =>
    obtain ⟨i, hi, rfl, hbi, hli, hfi⟩ := hrel
    have HBI := Lib.hid hbi
    have HLI := Lib.hid hli
    have HFI := Lib.hid hfi
    clear hbi hli
    by_cases hlt : i < code.size
    · have a1 : decide ((i : Int) < (code.size : Int)) = true := decide_eq_true (by omega)
      have j0 : (0 : Int) ≤ (i : Int) := by omega
      have j1 : (i : Int) < (code.size : Int) := by omega
      have hkw : IntKind.i64.wrap ((i : Int) + 1) = (i : Int) + 1 := IntWalk.i64_in _ (by omega)
      have hc := froz_cell hfi i hlt
      have htk : code.data.toList.take (i + 1) = code.data.toList.take i ++ [code[i]] := by rw [List.take_succ_eq_append_getElem (by rw [hcode]; exact hlt), b_at code i hlt]
      have HTK := Lib.hid htk
      have hb256 := code[i].toNat_lt
      have hbw : IntKind.i64.wrap (code[i].toNat : Int) = (code[i].toNat : Int) := IntWalk.i64_in _ (by omega)
      have hlen := codeL_len (code.data.toList.take i)
      have hlen2 : (code.data.toList.take i).length ≤ i := by rw [List.length_take]; omega
      have HOL : Hid (([48, 120] ++ codeL (code.data.toList.take i)).length ≤ 1000000) := Lib.hid (by rw [List.length_append]; show 2 + _ ≤ _; omega)
      clear htk hfi hlen hlen2
      generalize code[i] = b at *
      have HWL := Lib.hid (wrt_len b.toNat 2 (by omega) (by omega))
      have HWR2 := Lib.hid (HWR.out b.toNat 2 wr (by omega) (by omega) (HBW.out.trans (HLI.out.mono (Nat.le_succ _))))
      go_wp2_with fail
      refine HWR2.out.mono ?_
      rintro _ w3 ⟨rfl, hb3⟩
      have hH3 : w.heap.size + 1 ≤ w3.heap.size := Nat.le_trans (Nat.le_trans HSW.out HLI.out.size) hb3.size
      have HWX2 := Lib.hid (HWX.out _ ⟨(wrt b.toNat 2).toArray⟩ w3 X _ (builder_keep HBI.out hb3) (HFI.out.keep hb3) HOL.out (by show (wrt b.toNat 2).toArray.size ≤ _; rw [List.size_toArray]; have := HWL.out; omega) hH3)
      have HL3 := Lib.hid (HLI.out.trans (hb3.mono (Nat.le_trans HSW.out HLI.out.size)))
      clear hb3 hH3
      go_wp2_with fail
      refine HWX2.out.mono ?_
      rintro _ w4 ⟨k4, rfl, hb4, hl4, hf4⟩
      have HB4 := Lib.hid hb4
      have HL4 := Lib.hid (HL3.out.trans hl4)
      have HF4 := Lib.hid hf4
      clear hb4 hl4 hf4
      go_wp2_with fail
      go_roundw
      case rel =>
        refine ⟨i + 1, by omega, by go_num, ?_, HL4.out, HF4.out⟩
        rw [HTK.out, codeL_append, ← List.append_assoc]
        have h := HB4.out
        have e : codeL [b] = wrt b.toNat 2 := by show wrt b.toNat 2 ++ [] = _; rw [List.append_nil]
        rw [e]
        exact h
      case measure => simp [RowKit.intOf]; omega
    · obtain rfl : i = code.size := by omega
      have a1 : decide ((code.size : Int) < (code.size : Int)) = false := decide_eq_false (by omega)
      have hkr : Blk wr w.heap.size RowT #[.string code, .string text, .int .i64 flag] := HK0.out.below HLI.out (Nat.lt_succ_self _)
      have d1 : wr.cell? ⟨w.heap.size, 1, none⟩ = some (.string text) := by rw [hkr.cell]; rfl
      have hall : codeL (code.data.toList.take code.size) = codeL code.data.toList := by rw [List.take_of_length_le (by rw [hcode]; exact Nat.le_refl _)]
      rw [hall] at HBI
      clear hfi hkr hall
      go_wp2_with fail
      obtain ⟨N, hN⟩ : ∃ N, wr.heap.size = N := ⟨_, rfl⟩
      have hHN : w.heap.size + 1 ≤ wr.heap.size := Nat.le_trans HSW.out HLI.out.size
      have hiter : (wr.iter text 0).heap[wr.heap.size]? = some (.stringIter text 0) := World.iter_heap _ _ _
      have hbI : Below wr.heap.size wr (wr.iter text 0) := (Below.refl _ _).alloc (Nat.le_refl _) _
      obtain ⟨TOT, hTOT⟩ : ∃ TOT, ([48, 120] ++ codeL code.data.toList) ++ markL [9, 48, 120] (runesL text.data.toList) = TOT := ⟨_, rfl⟩
      have HTOT := Lib.hid hTOT
      have HB5 := Lib.hid (builder_keep HBI.out hbI)
      have HL5 := Lib.hid (HLI.out.trans (hbI.mono hHN))
      have HIT := Lib.hid hiter
      have HTL : Hid (TOT.length ≤ 1000000) := Lib.hid (by
        have h1 := markL_len (runesL text.data.toList) [9, 48, 120] (fun r hr => (runesL_scal _ r hr).2.2)
        have h2 := runesL_le text.data.toList
        have h3 := codeL_len code.data.toList
        have h4 : text.data.toList.length = text.size := Array.length_toList
        rw [← hTOT, List.length_append, List.length_append]
        have h5 : ([9, 48, 120] : List UInt8).length = 3 := rfl
        have h6 : ([48, 120] : List UInt8).length = 2 := rfl
        rw [hcode] at h3
        omega)
      have hszI : wr.heap.size < (wr.iter text 0).heap.size := (Array.getElem?_eq_some_iff.1 hiter).1
      clear hTOT hbI hiter d1
      rw [hN] at HIT hHN hszI ⊢
      generalize wr.iter text 0 = wi at *
      go_loopw [6, 8] (fun vm _ wx => ∃ (pos : Nat) (m : List UInt8) (o : List UInt8), vm = .string ⟨m.toArray⟩ ∧ m.length ≤ 3 ∧ Lib.IsBuilderF BuilT ByteT (w.heap.size + 1) (w.heap.size + 1) (Lib.byteCells o) wx ∧ o ++ markL m (runesL (text.data.toList.drop pos)) = TOT ∧ wx.heap[N]? = some (.stringIter text pos) ∧ Below (w.heap.size + 1) W wx) (fun _ _ wx => match wx.heap[N]? with | some (.stringIter _ p) => text.size - p | _ => 0)
      case atStart => exact ⟨0, [9, 48, 120], [48, 120] ++ codeL code.data.toList, rfl, by decide, HB5.out, by rw [List.drop_zero]; exact HTOT.out, HIT.out, HL5.out⟩
      case round =>
        obtain ⟨pos, m, o, rfl, hm, hbo, htot, hit, hlx⟩ := hrel
        have hHx : w.heap.size + 1 ≤ wr.heap.size := Nat.le_trans HSW.out hlx.size
        by_cases hlt : pos < text.size
        · have hnx := fun ty => run_next_any_at (P := Tryz.prog) wr N text pos ty hit hlt
          have hd := decodeL_drop text pos
          have hne : text.data.toList.drop pos ≠ [] := by
            intro h
            have := congrArg List.length h
            simp at this
            omega
          have hle := decodeL_rune (text.data.toList.drop pos)
          have hnp := decodeL_pos (text.data.toList.drop pos)
          rw [runesL_cons _ hne, hd, List.drop_drop] at htot
          rw [hd] at hle hnp
          have hit2 := iterAt_heap wr N text pos (pos + (Utf8.decode text pos).2) hit
          have hb2 := below_iterAt (k := N) hlx hHN text (pos + (Utf8.decode text pos).2)
          have hsz2 := iterAt_size wr N text (pos + (Utf8.decode text pos).2)
          have hbo2 := hbo.iterAt hit (pos + (Utf8.decode text pos).2)
          generalize Utf8.decode text pos = d at *
          obtain ⟨r, wd⟩ := d
          replace hle : r ≤ 1114111 := hle
          replace hnp : 1 ≤ wd := hnp
          replace htot : o ++ markL m ((r : Int) :: runesL (text.data.toList.drop (pos + wd))) = TOT := htot
          replace hnx : ∀ ty, (Instr.next (.pointer (some ⟨N, 0, none⟩)) true ty).run Tryz.prog wr = .ok (.tuple #[.bool true, .int .i64 pos, .int .i32 r]) (wr.iterAt N text (pos + wd)) := hnx
          replace hit2 : (wr.iterAt N text (pos + wd)).heap[N]? = some (.stringIter text (pos + wd)) := hit2
          obtain ⟨W1, hW1⟩ : ∃ W1, wr.iterAt N text (pos + wd) = W1 := ⟨_, rfl⟩
          rw [hW1] at hnx hit2
          replace hb2 : Below (w.heap.size + 1) W W1 := hW1 ▸ hb2
          replace hsz2 : W1.heap.size = wr.heap.size := hW1 ▸ hsz2
          replace hbo2 : Lib.IsBuilderF BuilT ByteT (w.heap.size + 1) (w.heap.size + 1) (Lib.byteCells o) W1 := hW1 ▸ hbo2
          have hol : o.length ≤ TOT.length := by rw [← htot, List.length_append]; omega
          have HWR2 := Lib.hid (HWR.out r 4 W1 (by omega) (by omega) (HBW.out.trans (hb2.mono (Nat.le_succ _))))
          have HB6 := Lib.hid hbo2
          have HL6 := Lib.hid hb2
          have HIT2 := Lib.hid hit2
          have HT2 := Lib.hid htot
          have HOL2 := Lib.hid hol
          have hrw : IntKind.i64.wrap (r : Int) = (r : Int) := IntWalk.i64_in _ (by omega)
          have HWL := Lib.hid (wrt_len r 4 (by omega) (by omega))
          obtain ⟨M, hM⟩ : ∃ M : ByteArray, (⟨m.toArray⟩ : ByteArray) = M := ⟨_, rfl⟩
          have hMs : M.size = m.length := by rw [← hM]; show m.toArray.size = _; simp
          obtain ⟨R, hR⟩ : ∃ R : ByteArray, (⟨(wrt r 4).toArray⟩ : ByteArray) = R := ⟨_, rfl⟩
          have hRs : R.size ≤ 11 := by rw [← hR]; show (wrt r 4).toArray.size ≤ _; rw [List.size_toArray]; exact HWL.out
          have hcat : ¬ (9223372036854775807 < M.size + R.size) := by omega
          have hMR : (M ++ R).data.toList = m ++ wrt r 4 := by rw [← hM, ← hR]; simp
          have HMR := Lib.hid hMR
          rw [hM]
          rw [hR] at HWR2
          have hms : (M ++ R).size ≤ 1000000 := by rw [ByteArray.size_append]; omega
          have hH1 : w.heap.size + 1 ≤ W1.heap.size := by rw [hsz2]; exact hHx
          have HMS := Lib.hid hms
          have HH1 := Lib.hid hH1
          have HLT := Lib.hid hlt
          have HPS := Lib.hid hnp
          have HITO := Lib.hid hit
          clear hd hne hle hit hit2 hb2 hsz2 hbo hbo2 htot hlx hol hM hMs hR hRs hMR hms hH1 hW1 hlt hnp
          go_wp2_with fail
          refine HWR2.out.mono ?_
          rintro _ w3 ⟨rfl, hb3⟩
          have HWX2 := Lib.hid (wr_it (w.heap.size + 1) o (M ++ R) w3 N text (pos + wd) (builder_keep HB6.out hb3) ((hb3.block N (Array.getElem?_eq_some_iff.1 HIT2.out).1).trans HIT2.out) (Nat.le_trans HOL2.out HTL.out) HMS.out (Nat.le_trans HH1.out hb3.size))
          have HL7 := Lib.hid (HL6.out.trans (hb3.mono HH1.out))
          clear hb3
          go_wp2_with fail
          refine HWX2.out.mono ?_
          rintro _ w4 ⟨k4, rfl, hb4, hl4, hi4⟩
          have HB8 := Lib.hid hb4
          have HL8 := Lib.hid (HL7.out.trans hl4)
          have HI8 := Lib.hid hi4
          clear hb4 hl4 hi4
          go_wp2_with fail
          go_roundw
          case rel =>
            refine ⟨pos + wd, [43], o ++ (M ++ R).data.toList, rfl, by decide, HB8.out, ?_, HI8.out, HL8.out⟩
            rw [HMR.out, List.append_assoc]
            exact HT2.out
          case measure =>
            have h1 := HI8.out
            have h2 := HITO.out
            simp only [h1, h2]
            have := HLT.out
            have := HPS.out
            omega
        · have hnx := fun ty => run_next_end_at (P := Tryz.prog) wr N text pos ty hit hlt
          have hoT : o = TOT := by
            rw [List.drop_eq_nil_of_le (by have : text.data.toList.length = text.size := Array.length_toList; omega)] at htot
            have h : o ++ [] = TOT := htot
            rwa [List.append_nil] at h
          subst hoT
          have HBF := Lib.hid hbo
          have HLX := Lib.hid hlx
          have HST := Lib.hid (builderString_k (w.heap.size + 1) (w.heap.size + 1) o wr hbo hHx)
          obtain ⟨R, hR⟩ : ∃ R : ByteArray, (⟨o.toArray⟩ : ByteArray) = R := ⟨_, rfl⟩
          have hRs : R.size = o.length := by rw [← hR]; show o.toArray.size = _; simp
          have hcat : ¬ (9223372036854775807 < R.size + 1) := by have := HTL.out; omega
          have HRR := Lib.hid hR
          rw [hR] at HST
          clear hbo hlx hit htot hR hRs hlt
          go_wp2_with fail
          refine HST.out.mono ?_
          rintro _ w3 ⟨rfl, _, hb3, _⟩
          have HL9 := Lib.hid (HLX.out.trans hb3)
          clear hb3
          go_wp2_with fail
          go_returns
          refine ⟨congrArg (fun x => Ending.returned (.string x)) (ba_ext ?_), HBW.out.trans (HL9.out.mono (Nat.le_succ _))⟩
          unfold uniLine
          rw [HTOT.out, ← HRR.out]
          simp
end Go.Proofs.YtkfjmcidcnpijaaGreatDoor.Mf
/- Walk: mapfile.Row.ucm. -/
namespace Go.Proofs.YtkfjmcidcnpijaaGreatDoor.Mf
open Go.RowKit Pl Go.Lib
/-- The characters, and the bytes, of a ucm's line. -/
def charU : List Int → List UInt8
  | [] => []
  | r :: t => [60, 85] ++ wrt r.toNat 4 ++ [62] ++ charU t
def codeU : List UInt8 → List UInt8
  | [] => []
  | b :: t => [92, 120] ++ wrt b.toNat 2 ++ codeU t
theorem charU_len : ∀ (l : List Int), (∀ r ∈ l, r ≤ 1114111) → (charU l).length ≤ 14 * l.length
  | [], _ => Nat.zero_le _
  | r :: t, h => by
    have h1 := wrt_len r.toNat 4 (by have := h r List.mem_cons_self; omega) (by omega)
    have h2 := charU_len t (fun x hx => h x (List.mem_cons_of_mem _ hx))
    show ([60, 85] ++ wrt r.toNat 4 ++ [62] ++ charU t).length ≤ _
    simp only [List.length_append, List.length_cons, List.length_nil]
    omega
theorem codeU_append (a b : List UInt8) : codeU (a ++ b) = codeU a ++ codeU b := by
  induction a with
  | nil => rfl
  | cons x t ih => show [92, 120] ++ wrt x.toNat 2 ++ codeU (t ++ b) = _; rw [ih, ← List.append_assoc]; rfl
theorem codeU_len (l : List UInt8) : (codeU l).length ≤ 13 * l.length := by
  induction l with
  | nil => exact Nat.zero_le _
  | cons b t ih =>
    show ([92, 120] ++ wrt b.toNat 2 ++ codeU t).length ≤ _
    have := wrt_len b.toNat 2 (by have := b.toNat_lt; omega) (by omega)
    simp only [List.length_append, List.length_cons, List.length_nil]
    omega
/-- A row's line in a ucm. -/
def ucmLine (code text : ByteArray) (fl : Nat) : List UInt8 := (charU (runesL text.data.toList) ++ [32] ++ codeU code.data.toList) ++ [32, 124] ++ Lib.decDigits fl ++ [10]
theorem dec_small (fl : Nat) (h : fl < 10) : (Lib.decDigits fl).length = 1 := by rw [Lib.decDigits_one h]; rfl














































































































































































































































































end Go.Proofs.YtkfjmcidcnpijaaGreatDoor.Mf
