/- Walks: single.pick, (*single.Table).Bytes. -/
import Derived.Test.YtkphecmdilefgaaDoorG35
namespace Go.Proofs.YtkphecmdilefgaaDoor.Sg
open Go.RowKit Pl Go.Lib

theorem range_snoc (P : Nat → Bool) (k : Nat) : (List.range (k + 1)).filter P = (List.range k).filter P ++ (if P k = true then [k] else []) := by
  rw [List.range_succ, List.filter_append]
  congr 1
  by_cases h : P k = true
  · simp [h]
  · simp [h]
set_option maxRecDepth 100000 in
set_option maxHeartbeats 1600000 in
theorem pick_any (kt kl : Nat) (P : Nat → Bool) (w : World)
    (HF : ∀ (n : Nat), n < 256 → ∀ W, Below w.heap.size w W → Calls Tryd.prog 31 #[.int .u8 (n : Int), .pointer (some ⟨kt, 0, none⟩), .pointer (some ⟨kl, 0, none⟩)] W fun e w' => e = .returned (.bool (P n)) ∧ Below W.heap.size W w') :
    Calls Tryd.prog 30 #[.func (.func 31) #[] #[.pointer (some ⟨kt, 0, none⟩), .pointer (some ⟨kl, 0, none⟩)]] w fun e w' => ∃ v, e = .returned v ∧ w'.ownsRow w.heap.size ByteT 1 v ((List.range 256).filter P).length (u8s ((List.range 256).filter P)) ∧ Below w.heap.size w w' := by
  have HF := Lib.hid HF
  go_enter Tryd.func30, Tryd.ntmps30
  go_wp2_with fail
  go_loopw [3, 5] (fun v vi wr => ∃ k : Nat, k ≤ 256 ∧ vi = .int .i64 k ∧ wr.ownsRow w.heap.size ByteT 1 v ((List.range k).filter P).length (u8s ((List.range k).filter P)) ∧ Below w.heap.size w wr) (fun _ vi _ => 256 - (RowKit.intOf vi).toNat)
  case atStart => exact ⟨0, by omega, rfl, World.ownsRow_nil _ _ _ _, Below.refl _ _⟩
  case round =>
    obtain ⟨k, hk, rfl, ho, hb⟩ := hrel
    have HO := Lib.hid ho
    have HB := Lib.hid hb
    clear ho hb
    by_cases hlt : k < 256
    · have hu : IntKind.u8.wrap (k : Int) = (k : Int) := IntWalk.u8_in _ (by omega)
      have j1 : (k : Int) < 256 := by omega
      have hrs := range_snoc P k
      have hfl : ((List.range k).filter P).length ≤ 256 := by
        have := List.length_filter_le P (List.range k)
        rw [List.length_range] at this
        omega
      have HC := Lib.hid (HF.out k hlt wr HB.out)
      cases hp : P k
      · rw [hp] at HC
        rw [hp, if_neg (by decide), List.append_nil] at hrs
        have HRS := Lib.hid hrs
        clear hrs hp
        go_wp2_with fail
        refine HC.out.mono ?_
        rintro _ w1 ⟨rfl, hb1⟩
        have HO1 := Lib.hid (own_below HO.out hb1)
        have HB1 := Lib.hid (HB.out.trans (hb1.mono HB.out.size))
        clear hb1
        go_wp2_with fail
        go_roundw
        case rel => exact ⟨k + 1, by omega, by go_num, by rw [HRS.out]; exact HO1.out, HB1.out⟩
        case measure => simp [RowKit.intOf]; omega
      · rw [hp] at HC
        rw [hp, if_pos rfl] at hrs
        have HRS := Lib.hid hrs
        generalize (List.range k).filter P = F at *
        clear hrs hp
        go_wp2_with fail
        refine HC.out.mono ?_
        rintro _ w1 ⟨rfl, hb1⟩
        have HO1 := Lib.hid (own_below HO.out hb1)
        have HB1 := Lib.hid (HB.out.trans (hb1.mono HB.out.size))
        clear hb1
        go_wp2_with (at_builtin; go_loud (refine wpList_u8 w1 rfl _ _ rfl w.heap.size u3 F rfl HO1.out HB1.out.size [k] _ rfl 1 rfl 1 rfl (by rw [show [k].length = 1 from rfl]; omega) ?_); intro v2 w2 ho2 hb2)
        go_roundw
        case rel => exact ⟨k + 1, by omega, by go_num, by rw [HRS.out]; exact ho2, HB1.out.trans hb2⟩
        case measure => simp [RowKit.intOf]; omega
    · obtain rfl : k = 256 := by omega
      go_wp2_with fail
      go_returns
      exact ⟨_, rfl, HO.out, HB.out⟩
theorem isB_nil (l : List RowV) (n : Nat) : isB l [] n = false := by
  unfold isB
  by_cases h : (tx l n).data.toList = []
  · have : (tx l n).toList.isEmpty = true := by rw [ByteArray.toList_eq, h]; rfl
    rw [this]; rfl
  · rw [runesL_cons _ h]
    simp
theorem bytesOf_nil (l : List RowV) : bytesOf l [] = [] := by
  unfold bytesOf
  rw [List.filter_eq_nil_iff]
  intro n _
  rw [isB_nil]
  decide
def BytesPost (w : World) (L : List Nat) (e : Ending) (w' : World) : Prop := ∃ v, e = .returned v ∧ w'.ownsRow w.heap.size ByteT 1 v L.length (u8s L) ∧ Below w.heap.size w w'
set_option maxRecDepth 100000 in
set_option maxHeartbeats 1600000 in
theorem bytesT_any (tb : Nat) (l : List RowV) (A : Option Addr) (c : Nat) (cs : List Int) (w : World) (h : TabOk w tb l) (hN : ∀ b : UInt8, (tx l b.toNat).size ≤ 1000) (hR : Rd w A cs.length (i32s cs)) (hcs : cs.length ≤ 1000000) :
    Calls Tryd.prog 16 #[.pointer (some ⟨tb, 0, none⟩), .slice A cs.length c] w (BytesPost w (bytesOf l cs)) := by
  have hq : ∀ w, (binOp .eql 30 (.pointer (some ⟨tb, 0, none⟩)) (.pointer none)).run Tryd.prog w = .ok (.bool false) w := fun _ => rfl
  have hmf : ∀ (fn : Fn) (first cap : Array Value) (w : World), (Instr.makeFunc fn first cap).run Tryd.prog w = .ok (.func fn first cap) w := fun _ _ _ _ => rfl
  obtain ⟨W, hW⟩ : ∃ W, w.alloc (.cells #[.pointer (some ⟨tb, 0, none⟩)] 30) = W := ⟨_, rfl⟩
  have hb1 : Below w.heap.size w W := hW ▸ (Below.refl _ _).alloc (Nat.le_refl _) _
  have hk1 : Blk W w.heap.size 30 #[.pointer (some ⟨tb, 0, none⟩)] := hW ▸ Blk.new _ _ _
  obtain ⟨V, hV⟩ : ∃ V, W.alloc (.cells #[.slice A cs.length c] 50) = V := ⟨_, rfl⟩
  have hb2 : Below W.heap.size W V := hV ▸ (Below.refl _ _).alloc (Nat.le_refl _) _
  have hk2 : Blk V W.heap.size 50 #[.slice A cs.length c] := hV ▸ Blk.new _ _ _
  have hk1 := hk1.below hb2 hk1.lt
  have hbv := hb1.trans (hb2.mono hb1.size)
  have c1 : V.cell? ⟨w.heap.size, 0, none⟩ = some (.pointer (some ⟨tb, 0, none⟩)) := by rw [hk1.cell]; rfl
  have c2 : V.cell? ⟨W.heap.size, 0, none⟩ = some (.slice A cs.length c) := by rw [hk2.cell]; rfl
  have HBV := Lib.hid hbv
  have hF : ∀ (n : Nat), n < 256 → ∀ X, Below V.heap.size V X → Calls Tryd.prog 31 #[.int .u8 (n : Int), .pointer (some ⟨w.heap.size, 0, none⟩), .pointer (some ⟨W.heap.size, 0, none⟩)] X fun e w' => e = .returned (.bool (isB l cs n)) ∧ Below X.heap.size X w' := by
    intro n hn X hX
    have hbx : Below w.heap.size w X := hbv.trans (hX.mono hbv.size)
    exact isB_any _ _ tb l A c cs n hn X (h.keep hbx) hN ((hX.cell (p := ⟨w.heap.size, 0, none⟩) hk1.lt).trans c1) ((hX.cell (p := ⟨W.heap.size, 0, none⟩) hk2.lt).trans c2) (Nat.lt_of_lt_of_le hk2.lt hX.size) (hR.keep hbx) hcs
  have HPK := Lib.hid (pick_any w.heap.size W.heap.size (isB l cs) V hF)
  clear hF hb1 hk1 hb2 hk2 hbv h hN hR
  by_cases h0 : cs.length = 0
  · have hcn : bytesOf l cs = [] := by rw [List.eq_nil_of_length_eq_zero h0, bytesOf_nil]
    rw [hcn]
    have e1 : ((cs.length : Int) == 0) = true := by rw [beq_iff_eq]; omega
    clear h0 hcn
    go_enter Tryd.func16, Tryd.ntmps16
    go_wp2_with fail
    go_returns
    exact ⟨_, rfl, World.ownsRow_nil _ _ _ _, HBV.out⟩
  · have e1 : ((cs.length : Int) == 0) = false := by rw [beq_eq_false_iff_ne]; omega
    unfold BytesPost bytesOf
    go_enter Tryd.func16, Tryd.ntmps16
    go_wp2_with fail
    refine HPK.out.mono ?_
    rintro _ w1 ⟨v, rfl, ho, hb⟩
    have HO := Lib.hid (own_low ho HBV.out.size)
    have HB1 := Lib.hid (HBV.out.trans (hb.mono HBV.out.size))
    clear ho hb c1 c2
    go_wp2_with fail
    go_returns
    exact ⟨_, rfl, HO.out, HB1.out⟩
end Go.Proofs.YtkphecmdilefgaaDoor.Sg
