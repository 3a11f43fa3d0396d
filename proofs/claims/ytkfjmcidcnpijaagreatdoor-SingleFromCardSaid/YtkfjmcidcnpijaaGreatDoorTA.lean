/- Joined of: T1, T2, T3, T4, T5, T5x. -/
import Derived.Test.YtkfjmcidcnpijaaGreatDoorRD
import Derived.Test.YtkfjmcidcnpijaaGreatDoorPA
import Derived.Test.YtkfjmcidcnpijaaGreatDoorWbits
import Derived.Test.YtkfjmcidcnpijaaGreatDoorKM
import Derived.Lib.OthersKept
/- Walk: math/bits.TrailingZeros and internal/strconv.isPowerOfTwo at 16. -/
namespace Go.Proofs.YtkfjmcidcnpijaaGreatDoor.Mf
open Go.RowKit Pl

/-- The table of math/bits, as far as base 16 wants it. -/
def TzV (w : World) : Prop := w.cell? ⟨6, 15, none⟩ = some (.int .u8 4)
theorem TzV.keep {w w' : World} {B : Nat} (h : TzV w) (hb : Below B w w') (hB : 6 < B) : TzV w' := (hb.cell (p := ⟨6, 15, none⟩) hB).trans h
set_option maxRecDepth 100000 in
theorem ispow16 (w : World) : Calls Tryz.prog 138 #[.int .i64 16] w fun e w' => e = .returned (.bool true) ∧ w = w' := by
  go_enter Tryz.func138, Tryz.ntmps138
  go_wp2_with fail
  go_returns
  exact ⟨rfl, rfl⟩
set_option maxRecDepth 100000 in
theorem tz64_16 (w : World) (hT : TzV w) : Calls Tryz.prog 148 #[.int .u64 16] w fun e w' => e = .returned (.int .i64 4) ∧ w = w' := by
  have hk : IntKind.u64.wrap (bits BinOp.and IntKind.u64 16 (IntKind.u64.wrap (-16)) * 285870213051353865) / 288230376151711744 = 15 := by decide
  have h4 : w.cell? ⟨6, 15, none⟩ = some (.int .u8 4) := hT
  go_enter Tryz.func148, Tryz.ntmps148
  go_wp2_with fail
  go_returns
  exact ⟨rfl, rfl⟩
set_option maxRecDepth 100000 in
theorem tz_16 (w : World) (hT : TzV w) : Calls Tryz.prog 139 #[.int .u64 16] w fun e w' => e = .returned (.int .i64 4) ∧ w = w' := by
  have H := Lib.hid (tz64_16 w hT)
  clear hT
  go_enter Tryz.func139, Tryz.ntmps139
  go_wp2_with fail
  refine H.out.mono ?_
  rintro _ _ ⟨rfl, rfl⟩
  go_wp2_with fail
  go_returns
  exact ⟨rfl, rfl⟩
end Go.Proofs.YtkfjmcidcnpijaaGreatDoor.Mf
/- Walk: internal/strconv.formatBits at base 16. -/
namespace Go.Proofs.YtkfjmcidcnpijaaGreatDoor.Mf
open Go.RowKit Pl
theorem wrapu (x : Nat) (h : x < 9223372036854775808) : IntKind.u64.wrap (x : Int) = (x : Int) := by
  simp [IntKind.wrap, IntKind.bits, IntKind.signed] <;> omega
theorem u64_and15 (m : Nat) (h : m < 9223372036854775808) : bits BinOp.and IntKind.u64 (m : Int) 15 = ((m % 16 : Nat) : Int) := by
  have h1 : m &&& 15 = m % 16 := Nat.and_two_pow_sub_one_eq_mod m 4
  rw [← h1]
  have hx : m &&& 15 < 16 := by rw [h1]; omega
  show IntKind.u64.wrap ((BitVec.ofInt 64 (m : Int) &&& BitVec.ofInt 64 ((15 : Nat) : Int)).toNat : Int) = _
  rw [BitVec.toNat_and, ofInt_i64 m h, ofInt_i64 15 (by omega)]
  exact wrapu _ (by omega)
theorem drop_set {α : Type} (v : α) : ∀ (l : List α) (p : Nat), p < l.length → (l.set p v).drop p = v :: l.drop (p + 1)
  | [], p, h => by simp at h
  | a :: l, 0, _ => rfl
  | a :: l, p + 1, h => by
    have := drop_set v l p (by simpa using h)
    simpa using this
theorem hex_at (q : Nat) (h : q < 16) : ∀ (h' : q < (⟨#[48, 49, 50, 51, 52, 53, 54, 55, 56, 57, 97, 98, 99, 100, 101, 102, 103, 104, 105, 106, 107, 108, 109, 110, 111, 112, 113, 114, 115, 116, 117, 118, 119, 120, 121, 122]⟩ : ByteArray).size), (⟨#[48, 49, 50, 51, 52, 53, 54, 55, 56, 57, 97, 98, 99, 100, 101, 102, 103, 104, 105, 106, 107, 108, 109, 110, 111, 112, 113, 114, 115, 116, 117, 118, 119, 120, 121, 122]⟩ : ByteArray)[q] = hexd q := by
  match q, h with
  | 0, _ | 1, _ | 2, _ | 3, _ | 4, _ | 5, _ | 6, _ | 7, _ | 8, _ | 9, _ | 10, _ | 11, _ | 12, _ | 13, _ | 14, _ | 15, _ => intro _; rfl
  | _ + 16, h => omega
set_option maxRecDepth 100000 in
set_option maxHeartbeats 3200000 in
theorem fmtBits16 (n : Nat) (hn : n ≤ 1114111) (w : World) (hT : TzV w) (hTB : 6 < w.heap.size) :
    Calls Tryz.prog 117 #[.slice none 0 0, .int .u64 n, .int .i64 16, .bool false, .bool false] w fun e w' => e = .returned (.tuple #[.slice none 0 0, .string ⟨(hxF 6 n []).toArray⟩]) ∧ Below w.heap.size w w' := by
  have HP : Hid (∀ w1, Calls Tryz.prog 138 #[.int .i64 16] w1 fun e w' => e = .returned (.bool true) ∧ w1 = w') := Lib.hid fun w1 => ispow16 w1
  have HTZ : Hid (∀ w1, Below w.heap.size w w1 → Calls Tryz.prog 139 #[.int .u64 16] w1 fun e w' => e = .returned (.int .i64 4) ∧ w1 = w') := Lib.hid fun w1 hb => tz_16 w1 (hT.keep hb hTB)
  clear hT
  obtain ⟨D, hD⟩ : ∃ D, hxF 6 n [] = D := ⟨_, rfl⟩
  rw [hD]
  have HD := Lib.hid hD
  clear hD
  go_enter Tryz.func117, Tryz.ntmps117
  go_wp2_with fail
  refine (HP.out _).mono ?_
  rintro _ _ ⟨rfl, rfl⟩
  go_wp2_with fail
  refine (HTZ.out _ ((Below.refl _ _).alloc (Nat.le_refl _) _)).mono ?_
  rintro _ _ ⟨rfl, rfl⟩
  go_wp2_with fail
  go_loopw [1, 13] (fun vu vi wr => ∃ (m : Nat) (acc : List UInt8) (cs : Array Value), vu = .int .u64 m ∧ vi = .int .i64 ((65 - acc.length : Nat) : Int) ∧ ((acc.length = 0 ∧ m ≤ 1114111) ∨ (acc.length = 1 ∧ m ≤ 69631) ∨ (acc.length = 2 ∧ m ≤ 4351) ∨ (acc.length = 3 ∧ m ≤ 271) ∨ (acc.length = 4 ∧ m ≤ 16) ∨ (acc.length = 5 ∧ m ≤ 1)) ∧
      Blk wr w.heap.size 208 cs ∧ cs.size = 65 ∧ cs.toList.drop (65 - acc.length) = u8s acc ∧ hxF (6 - acc.length) m acc = D ∧ Below w.heap.size w wr) (fun vu _ _ => (RowKit.intOf vu).toNat)
  case atStart =>
    refine ⟨n, [], Tryz.zeroCells208, rfl, rfl, .inl ⟨rfl, hn⟩, Blk.new _ _ _, by kernel_rfl, ?_, HD.out, (Below.refl _ _).alloc (Nat.le_refl _) _⟩
    exact List.drop_eq_nil_of_le (by rw [show (Tryz.zeroCells208).toList.length = 65 by kernel_rfl]; exact Nat.le_refl _)
  case round =>
    obtain ⟨m, acc, cs, rfl, rfl, hm, hk, hcs, hdr, hD, hb⟩ := hrel
    have HDR := Lib.hid hdr
    have HD2 := Lib.hid hD
    have HB := Lib.hid hb
    have HK := Lib.hid hk
    have HCS := Lib.hid hcs
    have hand : bits BinOp.and IntKind.u64 (m : Int) 15 = ((m % 16 : Nat) : Int) := u64_and15 m (by omega)
    have kw : IntKind.i64.wrap (((65 - acc.length : Nat) : Int) - 1) = ((64 - acc.length : Nat) : Int) := by rw [IntWalk.i64_in _ (by omega)]; omega
    have kf := Blk.frz hk (64 - acc.length)
    have j0 : (0 : Int) ≤ ((64 - acc.length : Nat) : Int) := by omega
    have j1 : ((64 - acc.length : Nat) : Int) < 65 := by omega
    have j2 : (0 : Int) ≤ ((m % 16 : Nat) : Int) := by omega
    have j3 : ((m % 16 : Nat) : Int) < 36 := by omega
    obtain ⟨x, hx, hc⟩ : ∃ x, cs[64 - acc.length]? = some x ∧ wr.cell? ⟨w.heap.size, 64 - acc.length, none⟩ = some x := ⟨cs[64 - acc.length]'(by omega), (by first | (simp; done) | (simp; omega)), by rw [hk.cell]; first | (simp; done) | (simp; omega)⟩
    clear hdr hD hb hk hcs hx
    obtain ⟨p, hp⟩ : ∃ p, 64 - acc.length = p := ⟨_, rfl⟩
    obtain ⟨q, hq⟩ : ∃ q, m % 16 = q := ⟨_, rfl⟩
    rw [hp] at kf kw j0 j1 hc
    rw [hq] at hand j2 j3
    by_cases h16 : 16 ≤ m
    · have a1 : decide ((16 : Int) ≤ (m : Int)) = true := decide_eq_true (by omega)
      have hq16 : q < 16 := by omega
      have hxa := hex_at q hq16
      go_wp2_with fail
      go_roundw
      case rel =>
        refine ⟨m / 16, hexd q :: acc, cs.setIfInBounds p (.int .u8 ((hexd q).toNat : Int)), congrArg _ (by omega), ?_, by rw [List.length_cons]; omega, ?_, by rw [Array.size_setIfInBounds]; exact HCS.out, ?_, ?_, below_set HB.out _ _ _ (Nat.le_refl _)⟩
        · rw [List.length_cons, show 65 - (acc.length + 1) = p by omega]
        · exact Blk.set HK.out p _
        · rw [List.length_cons, show 65 - (acc.length + 1) = p by omega, Array.toList_setIfInBounds, drop_set _ _ _ (by rw [Array.length_toList, HCS.out]; omega), show p + 1 = 65 - acc.length by omega, HDR.out]
          rfl
        · have h := HD2.out
          rw [show 6 - acc.length = (6 - (acc.length + 1)) + 1 by omega] at h
          unfold hxF at h
          rw [if_neg (by omega), hq] at h
          exact h
      case measure => simp [RowKit.intOf]; omega
    · have a1 : decide ((16 : Int) ≤ (m : Int)) = false := decide_eq_false (by omega)
      have hq2 : q = m := by omega
      subst hq2
      have hxa := hex_at q (by omega)
      have hDe : hexd q :: acc = D := by
        have h := HD2.out
        cases hf : 6 - acc.length with
        | zero => rw [hf] at h; exact h
        | succ k => rw [hf] at h; unfold hxF at h; rw [if_pos (by omega)] at h; exact h
      have hlen : (hexd q :: acc).length = 65 - p := by rw [List.length_cons]; omega
      have hsl : ∀ W : World, (Instr.sliceAt 208 (.pointer (some ⟨w.heap.size, 0, none⟩)) (some (.int .i64 (p : Int))) none none).run Tryz.prog W = .ok (.slice (some ⟨w.heap.size, p, none⟩) (65 - p) (65 - p)) W := fun W => by
        have e1 : Tryz.prog.arrayLen 208 = 65 := by kernel_rfl
        have e2 : Tryz.prog.elem 208 = 5 := by kernel_rfl
        have e3 : (sizeOf 5).run Tryz.prog W = .ok 1 W := by kernel_rfl
        rw [run_sliceAt_array_l (P := Tryz.prog) W 208 ⟨w.heap.size, 0, none⟩ (by kernel_rfl) .i64 (p : Int) j0 (by rw [e1]; omega), e1, e2, e3]
        have e4 : ¬ (65 = p) := by omega
        have e5 : p * 1 = p := Nat.mul_one p
        simp only [Result.andThen_ok, slicedAt, Int.toNat_natCast, if_neg e4, Addr.add_lit, e5, Nat.zero_add]
      obtain ⟨W1, hW1⟩ : ∃ W1, wr.setCell ⟨w.heap.size, p, none⟩ (.int .u8 ((hexd q).toNat : Int)) = W1 := ⟨_, rfl⟩
      have hk1 : Blk W1 w.heap.size 208 (cs.setIfInBounds p (.int .u8 ((hexd q).toNat : Int))) := hW1 ▸ Blk.set HK.out p _
      have hcv : (convert 35 9 (.slice (some ⟨w.heap.size, p, none⟩) (65 - p) (65 - p))).run Tryz.prog W1 = .ok (.string ⟨D.toArray⟩) W1 := by
        rw [← hDe]
        have h := run_convert_bytes_back (P := Tryz.prog) W1 35 9 ByteT ⟨w.heap.size, p, none⟩ (65 - p) (hexd q :: acc) Tryz.underlying35 Tryz.underlying5 Tryz.underlying9 (fun j hj => by
          rw [Addr.add_lit, hk1.cell]
          have hd : (cs.setIfInBounds p (.int .u8 ((hexd q).toNat : Int))).toList.drop p = u8s (hexd q :: acc) := by
            rw [Array.toList_setIfInBounds, drop_set _ _ _ (by rw [Array.length_toList, HCS.out]; omega), show p + 1 = 65 - acc.length by omega, HDR.out]
            rfl
          have h2 : ((cs.setIfInBounds p (.int .u8 ((hexd q).toNat : Int))).toList.drop p)[j]? = some (.int .u8 (((hexd q :: acc)[j]'hj).toNat : Int)) := by
            rw [hd]
            simp only [u8s, List.getElem?_map, List.getElem?_eq_getElem hj, Option.map_some]
          rw [List.getElem?_drop, Array.getElem?_toList] at h2
          exact h2)
        rw [hlen] at h
        exact h
      have hb1 : Below w.heap.size w W1 := hW1 ▸ below_set HB.out _ _ _ (Nat.le_refl _)
      have HB1 := Lib.hid hb1
      have HW1 := Lib.hid hW1
      rw [← hW1] at hcv
      clear hk1 hb1 hW1 hDe hlen
      go_wp2_with fail
      go_returns
      exact ⟨rfl, by rw [HW1.out]; exact HB1.out⟩
end Go.Proofs.YtkfjmcidcnpijaaGreatDoor.Mf
/- Walk: strconv.FormatInt at base 16. -/
namespace Go.Proofs.YtkfjmcidcnpijaaGreatDoor.Mf
open Go.RowKit Pl
set_option maxRecDepth 100000 in
theorem ifmt16 (n : Nat) (hn : n ≤ 1114111) (w : World) (hT : TzV w) (hTB : 6 < w.heap.size) :
    Calls Tryz.prog 84 #[.int .i64 n, .int .i64 16] w fun e w' => e = .returned (.string ⟨(hxF 6 n []).toArray⟩) ∧ Below w.heap.size w w' := by
  have H := Lib.hid (fmtBits16 n hn w hT hTB)
  have kw : IntKind.u64.wrap (n : Int) = (n : Int) := wrapu n (by omega)
  have a1 : decide ((n : Int) < 0) = false := decide_eq_false (by omega)
  clear hT hTB
  go_enter Tryz.func84, Tryz.ntmps84
  go_wp2_with fail
  refine H.out.mono ?_
  rintro _ w1 ⟨rfl, hb⟩
  have HB := Lib.hid hb
  clear hb
  go_wp2_with fail
  go_returns
  exact ⟨rfl, HB.out⟩
set_option maxRecDepth 100000 in
theorem fmt16 (n : Nat) (hn : n ≤ 1114111) (w : World) (hT : TzV w) (hTB : 6 < w.heap.size) :
    Calls Tryz.prog 62 #[.int .i64 n, .int .i64 16] w fun e w' => e = .returned (.string ⟨(hxF 6 n []).toArray⟩) ∧ Below w.heap.size w w' := by
  have H := Lib.hid (ifmt16 n hn w hT hTB)
  clear hT hTB
  go_enter Tryz.func62, Tryz.ntmps62
  go_wp2_with fail
  refine H.out.mono ?_
  rintro _ w1 ⟨rfl, hb⟩
  have HB := Lib.hid hb
  clear hb
  go_wp2_with fail
  go_returns
  exact ⟨rfl, HB.out⟩
end Go.Proofs.YtkfjmcidcnpijaaGreatDoor.Mf
/- Walk: mapfile.written. -/
namespace Go.Proofs.YtkfjmcidcnpijaaGreatDoor.Mf
open Go.RowKit Pl
set_option maxRecDepth 100000 in
set_option maxHeartbeats 1600000 in
theorem written_any (n : Nat) (hn : n ≤ 1114111) (least : Nat) (hl : least ≤ 4) (w : World) (hT : TzV w) (hTB : 6 < w.heap.size) :
    Calls Tryz.prog 43 #[.int .i64 n, .int .i64 least] w fun e w' => e = .returned (.string ⟨(wrt n least).toArray⟩) ∧ Below w.heap.size w w' := by
  obtain ⟨f1, f2, f3⟩ := hxF_facts 6 n [] (fun h => by cases h) (by omega) (fun b hb => by cases hb)
  have H := Lib.hid (fmt16 n hn w hT hTB)
  have hul : (upL n).length ≤ 7 := by unfold upL; simp [Lib.toUpperA] at f2 ⊢; omega
  have HU : Hid (∀ w1, Calls Tryz.prog 61 #[.string ⟨(hxF 6 n []).toArray⟩] w1 fun e w' => e = .returned (.string ⟨(upL n).toArray⟩) ∧ Below w1.heap.size w1 w') := Lib.hid fun w1 =>
    Any.strings_ToUpper_ascii lays158 extra158 ⟨(hxF 6 n []).toArray⟩ w1 (by show (hxF 6 n []).toArray.size ≤ _; simp at f2 ⊢; omega) (fun j b hb => f1 b (List.mem_of_getElem? hb))
  have HRp : Hid (∀ w1, Calls Tryz.prog 63 #[.string ⟨#[48]⟩, .int .i64 ((least - (upL n).length : Nat) : Int)] w1 fun e w' => e = .returned (.string ⟨(Lib.repeatL [48] (least - (upL n).length)).toArray⟩) ∧ Below w1.heap.size w1 w') := Lib.hid fun w1 =>
    Any.strings_Repeat lays105 extra105 ⟨#[48]⟩ (least - (upL n).length) w1 (by omega) (by show 1 * _ ≤ _; omega)
  unfold wrt
  obtain ⟨U, hU⟩ : ∃ U, upL n = U := ⟨_, rfl⟩
  rw [hU] at HU HRp hul ⊢
  obtain ⟨R, hR⟩ : ∃ R : ByteArray, (⟨(Lib.repeatL [48] (least - U.length)).toArray⟩ : ByteArray) = R := ⟨_, rfl⟩
  have hRs : R.size ≤ 4 := by
    rw [← hR]
    show (Lib.repeatL [48] (least - U.length)).toArray.size ≤ 4
    rw [List.size_toArray, Lib.repeatL_length]
    show _ * 1 ≤ 4
    omega
  have HRr := Lib.hid hR
  rw [hR] at HRp
  have hmx : max (0 : Int) ((least : Int) - (U.length : Int)) = ((least - U.length : Nat) : Int) := by omega
  obtain ⟨B, hB⟩ : ∃ B : ByteArray, (⟨U.toArray⟩ : ByteArray) = B := ⟨_, rfl⟩
  have hBs : B.size = U.length := by rw [← hB]; show U.toArray.size = _; simp
  have HB := Lib.hid hB
  rw [hB] at HU
  have hcat : ¬ (9223372036854775807 < R.size + U.length) := by omega
  have hcat2 : ¬ (9223372036854775807 < R.size + B.size) := by omega
  clear f1 f2 f3 hT hTB hU hB hR hRs
  go_enter Tryz.func43, Tryz.ntmps43
  go_wp2_with fail
  refine H.out.mono ?_
  rintro _ w1 ⟨rfl, hb1⟩
  have HB1 := Lib.hid hb1
  clear hb1
  go_wp2_with fail
  refine (HU.out w1).mono ?_
  rintro _ w2 ⟨rfl, hb2⟩
  have HB2 := Lib.hid (HB1.out.trans (hb2.mono HB1.out.size))
  clear hb2
  go_wp2_with fail
  refine (HRp.out w2).mono ?_
  rintro _ w3 ⟨rfl, hb3⟩
  have HB3 := Lib.hid (HB2.out.trans (hb3.mono HB2.out.size))
  clear hb3
  go_wp2_with fail
  go_returns
  exact ⟨congrArg (fun x => Ending.returned (.string x)) (ba_ext (by rw [← HRr.out, ← HB.out]; simp)), HB3.out⟩
end Go.Proofs.YtkfjmcidcnpijaaGreatDoor.Mf
/- Words for a strings.Builder (Mapfile's printing). -/
namespace Go.Proofs.YtkfjmcidcnpijaaGreatDoor.Mf
open Go.RowKit Pl Go.Lib
abbrev BuilT : TypeId := 59
theorem builder_keep {w w' : World} {B b : Nat} {bs : List Value} (h : Lib.IsBuilderF BuilT ByteT B b bs w) (hb : Below w.heap.size w w') : Lib.IsBuilderF BuilT ByteT B b bs w' := by
  have keep : ∀ (g : Nat) (cs : Array Value) (t : TypeId) (fz : Nat × Nat), w.heap[g]? = some (Obj.cells cs t fz) → w'.heap[g]? = some (Obj.cells cs t fz) := fun g cs t fz hh => (hb.block g (Array.getElem?_eq_some_iff.1 hh).1).trans hh
  have one : ∀ p, Lib.BuilderAtF BuilT ByteT B b p bs w → Lib.BuilderAtF BuilT ByteT B b p bs w' := by
    rintro p ⟨hB, u, hb, ho, hne⟩
    refine ⟨hB, u, keep _ _ _ _ hb, ⟨ho.1, ?_⟩, hne⟩
    rcases ho.2 with h3 | ⟨g, cap, cur, fz, e1, hg1, hh, h4⟩
    · exact .inl h3
    · exact .inr ⟨g, cap, cur, fz, e1, hg1, keep _ _ _ _ hh, h4⟩
  exact h.imp (one _) (one _)
theorem builder_type {w : World} {B b : Nat} {bs : List Value} (h : Lib.IsBuilderF BuilT ByteT B b bs w) : ∀ cs t fz, w.heap[b]? = some (Obj.cells cs t fz) → t = BuilT := by
  intro cs t fz hh
  rcases h with ⟨_, u, hb, _⟩ | ⟨_, u, hb, _⟩
  · rw [hb] at hh; injection hh with hh; injection hh with _ h2; exact h2.symm
  · rw [hb] at hh; injection hh with hh; injection hh with _ h2; exact h2.symm
theorem fresh_builder (w : World) : Lib.IsBuilderF BuilT ByteT w.heap.size w.heap.size (Lib.byteCells []) (w.alloc (.cells #[.pointer none, .slice none 0 0] BuilT)) := by
  refine .inl ⟨Nat.le_refl _, .slice none 0 0, heap_alloc_new w _, ?_, by simp [Value.ownBlock]⟩
  exact World.ownsRowF_of (World.ownsRow_nil _ _ _ _)
theorem byteCells_append (a b : List UInt8) : Lib.byteCells a ++ Lib.byteCells b = Lib.byteCells (a ++ b) := by simp [Lib.byteCells]
end Go.Proofs.YtkfjmcidcnpijaaGreatDoor.Mf
/- Walk: (*strings.Builder).WriteString beside a []byte(s): the frozen row of bytes is left. -/
namespace Go.Proofs.YtkfjmcidcnpijaaGreatDoor.Mf
open Go.RowKit Pl Go.Lib
/-- The row that '[]byte(s)' lays. -/
def Froz (w : World) (X : Nat) (cs : Array Value) : Prop := w.heap[X]? = some (.cells cs ByteT (cs.size, cs.size + 1))
theorem buf_ne {w : World} {B X : Nat} {v : Value} {n : Nat} {xs : List Value} {cs : Array Value} (h : w.ownsRowF B ByteT 1 v n xs) (hX : Froz w X cs) : v.ownBlock ≠ some X := by
  intro he
  rcases h.2 with ⟨rfl, _⟩ | ⟨g, cap, cur, fz, rfl, _, hg, hfz, hnc, _, hcs, _⟩
  · simp [Value.ownBlock] at he
  · have hgX : g = X := by simpa [Value.ownBlock] using he
    subst hgX
    unfold Froz at hX
    rw [hX] at hg
    injection hg with hg
    injection hg with h1 _ h3
    subst h1
    rw [← h3] at hfz
    simp at hfz hcs
    omega
theorem froz_ne {w : World} {B b X : Nat} {p : Value} {bs : List Value} {cs : Array Value} (h : Lib.BuilderAtF BuilT ByteT B b p bs w) (hX : Froz w X cs) : X ≠ b := by
  rintro rfl
  obtain ⟨_, v, hbk, _⟩ := h
  unfold Froz at hX
  rw [hX] at hbk
  injection hbk with hbk
  injection hbk with _ h2
  exact absurd h2 (by decide)
theorem check_x (H : Nat) (bs : List Value) (w : World) (X : Nat) (cs : Array Value) (h : Lib.IsBuilderF BuilT ByteT H H bs w) (hX : Froz w X cs) :
    Calls Tryz.prog 36 #[.pointer (some ⟨H, 0, none⟩)] w fun e w' => e = .returned (.tuple #[]) ∧ Lib.BuilderAtF BuilT ByteT H H (.pointer (some ⟨H, 0, none⟩)) bs w' ∧ Below H w w' ∧ Froz w' X cs := by
  rcases h with h | h
  · refine (Any.Builder_copyCheck_fresh (ρ := lays166_ren) { lays166 with } extra166.toX72 H w h.cell0 h.shape h.frozen0).mono ?_
    rintro e w' ⟨rfl, rfl⟩
    exact ⟨rfl, h.used _, (Below.refl H w).setCell (p := ⟨H, 0, none⟩) h.1 _, (heap_setCell_other w ⟨H, 0, none⟩ X _ (froz_ne h hX)).trans hX⟩
  · refine (Any.Builder_copyCheck_used (ρ := lays166_ren) { lays166 with } extra166.toX72 H w h.cell0).mono ?_
    rintro e w' ⟨rfl, rfl⟩
    exact ⟨rfl, h, Below.refl H _, hX⟩
set_option maxRecDepth 100000 in
set_option maxHeartbeats 1600000 in
theorem wr_x (H : Nat) (o : List UInt8) (s : ByteArray) (w : World) (X : Nat) (cs : Array Value) (h : Lib.IsBuilderF BuilT ByteT H H (Lib.byteCells o) w) (hX : Froz w X cs) (ho : o.length ≤ 1000000) (hs : s.size ≤ 1000000) (hH : H ≤ w.heap.size) :
    Calls Tryz.prog 19 #[.pointer (some ⟨H, 0, none⟩), .string s] w fun e w' => ∃ k : Int, e = .returned (.tuple #[.int .i64 k, .nilIface]) ∧ Lib.IsBuilderF BuilT ByteT H H (Lib.byteCells (o ++ s.data.toList)) w' ∧ Below H w w' ∧ Froz w' X cs := by
  obtain ⟨i0, hi, hz0, hz1, hz2⟩ := info_parts (extra166 : Builder.Extra Tryz.prog lays166_ren).infoByte
  have HCC := Lib.hid (check_x H (Lib.byteCells o) w X cs h hX)
  clear h hX
  go_enter Tryz.func19, Tryz.ntmps19
  go_wp2_with fail
  refine HCC.out.mono ?_
  rintro _ w1 ⟨rfl, h1, hb1, hX1⟩
  have hXH := froz_ne h1 hX1
  obtain ⟨hB, v, hbk, hown, hne⟩ := h1
  have hvX := buf_ne hown hX1
  have c0 : w1.cell? ⟨H, 0, none⟩ = some (.pointer (some ⟨H, 0, none⟩)) := by rw [Lib.cell_of_heap hbk]; rfl
  have c1 : w1.cell? ⟨H, 1, none⟩ = some v := by rw [Lib.cell_of_heap hbk]; rfl
  have hol : (Lib.byteCells o).length = o.length := by simp [Lib.byteCells]
  go_wp2_with (at_builtin; refine Lib.wpList_append_own_stringF _ rfl _ _ 35 9 rfl H ByteT i0 Tryz.underlying35 Tryz.underlying9 hi hz0 hz1 hz2 _ _ _ rfl hown s rfl ?c3 ?c4 ?c5 ?_)
  case c3 => rw [hol]; unfold maxLen; omega
  case c4 => rw [hol]; omega
  case c5 => have := hb1.size; omega
  intro v' w2 hown' hgrow _
  have hlt : H < w1.heap.size := (Array.getElem?_eq_some_iff.1 hbk).1
  have hb2 : w2.heap[H]? = some (.cells #[.pointer (some ⟨H, 0, none⟩), v] BuilT (0, 0)) := by
    rw [hgrow.block H hlt (fun e => hne e.symm)]
    exact hbk
  have hX2 : Froz w2 X cs := by
    have hltX : X < w1.heap.size := (Array.getElem?_eq_some_iff.1 hX1).1
    unfold Froz
    rw [hgrow.block X hltX (fun e => hvX e.symm)]
    exact hX1
  have d0 : w2.cell? ⟨H, 0, none⟩ = some (.pointer (some ⟨H, 0, none⟩)) := by rw [Lib.cell_of_heap hb2]; rfl
  have d1 : w2.cell? ⟨H, 1, none⟩ = some v := by rw [Lib.cell_of_heap hb2]; rfl
  have f1 : w2.frozen? ⟨H, 1, none⟩ = false := Lib.frozen_of_heap hb2 1
  obtain ⟨ao, n', cap, rfl⟩ : ∃ ao n' cap, v' = .slice ao n' cap := by
    rcases hown'.2 with ⟨hv, _⟩ | ⟨g, cap, cur, fz, hv, _⟩
    · exact ⟨_, _, _, hv⟩
    · exact ⟨_, _, _, hv⟩
  go_wp2
  go_returns
  refine ⟨_, rfl, .inr ?_, ?_, ?_⟩
  · rw [← byteCells_append]
    have e := Lib.strCells_eq s
    exact Lib.BuilderAtF.put (T := BuilT) (e := ByteT) hB hb2 (bs' := Lib.byteCells o ++ Lib.byteCells s.data.toList) (by rw [← e, List.length_append, Lib.strCells_length, hol]; exact hown') (by decide)
  · exact (hb1.grown hgrow (by have := hb1.size; omega) (fun k hk => (hown.lt k hk).1)).setCell (p := ⟨H, 1, none⟩) hB _
  · exact (heap_setCell_other w2 ⟨H, 1, none⟩ X _ hXH).trans hX2
end Go.Proofs.YtkfjmcidcnpijaaGreatDoor.Mf
