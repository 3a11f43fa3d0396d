/- Walks: (*single.Table).Unlike with its test; the law's unlike. -/
import Derived.Test.YtkfjmcidcnpijaaGreatDoorGJ
import Derived.Test.YtkfjmcidcnpijaaGreatDoorGB
namespace Go.Proofs.YtkfjmcidcnpijaaGreatDoor.Sg
open Go.RowKit Pl Go.Lib

/-- Has a byte another text in another table? -/
def unl (l m : List RowV) (n : Nat) : Bool := !((tx l n).toList == (tx m n).toList)
set_option maxRecDepth 100000 in
set_option maxHeartbeats 1600000 in
theorem unlB_any (kt ku t1 t2 : Nat) (l m : List RowV) (n : Nat) (hn : n < 256) (w : World) (h1 : TabOk w t1 l) (h2 : TabOk w t2 m) (hkt : w.cell? ⟨kt, 0, none⟩ = some (.pointer (some ⟨t1, 0, none⟩))) (hku : w.cell? ⟨ku, 0, none⟩ = some (.pointer (some ⟨t2, 0, none⟩))) :
    Calls Tryz.prog 27 #[.int .u8 (n : Int), .pointer (some ⟨kt, 0, none⟩), .pointer (some ⟨ku, 0, none⟩)] w fun e w' => e = .returned (.bool (unl l m n)) ∧ Below w.heap.size w w' := by
  obtain ⟨ca, a1, a2, a3⟩ := h1.mem
  obtain ⟨cb, b1, b2, b3⟩ := h2.mem
  have hc : w.cell? ⟨t1, 1 + n, none⟩ = some (.string (tx l n)) := by rw [a1.cell]; exact a3 _ hn
  have hd : w.cell? ⟨t2, 1 + n, none⟩ = some (.string (tx m n)) := by rw [b1.cell]; exact b3 _ hn
  unfold unl
  generalize tx l n = s at *
  generalize tx m n = t at *
  have j0 : (0 : Int) ≤ (n : Int) := by omega
  have j1 : (n : Int) < 256 := by omega
  clear h1 h2 a1 a2 a3 b1 b2 b3
  go_enter Tryz.func27, Tryz.ntmps27
  go_wp2_with fail
  go_quiet (fail)
  go_wp2_with fail
  go_returns
  exact ⟨rfl, bdN (Below.refl _ _) _⟩
set_option maxRecDepth 100000 in
set_option maxHeartbeats 1600000 in
theorem pickU_any (kt kl : Nat) (P : Nat → Bool) (w : World)
    (HF : ∀ (n : Nat), n < 256 → ∀ W, Below w.heap.size w W → Calls Tryz.prog 27 #[.int .u8 (n : Int), .pointer (some ⟨kt, 0, none⟩), .pointer (some ⟨kl, 0, none⟩)] W fun e w' => e = .returned (.bool (P n)) ∧ Below W.heap.size W w') :
    Calls Tryz.prog 24 #[.func (.func 27) #[] #[.pointer (some ⟨kt, 0, none⟩), .pointer (some ⟨kl, 0, none⟩)]] w fun e w' => ∃ v, e = .returned v ∧ w'.ownsRow w.heap.size ByteT 1 v ((List.range 256).filter P).length (u8s ((List.range 256).filter P)) ∧ Below w.heap.size w w' := by
  have HF := Lib.hid HF
  go_enter Tryz.func24, Tryz.ntmps24
  go_wp2_with fail
  go_loopw [3, 5] (fun v vi wr => ∃ k : Nat, k ≤ 256 ∧ vi = .int .i64 k ∧ wr.ownsRow w.heap.size ByteT 1 v ((List.range k).filter P).length (u8s ((List.range k).filter P)) ∧ Below w.heap.size w wr) (fun _ vi _ => 256 - (RowKit.intOf vi).toNat)
  case atStart => exact ⟨0, by omega, rfl, World.ownsRow_nil _ _ _ _, Below.refl _ _⟩
  case round =>
    obtain ⟨k, hk, rfl, ho, hb⟩ := hrel
    have HO := Lib.hid ho
    have HB := Lib.hid hb
    clear ho hb
    by_cases hlt : k < 256
    · have hu : IntKind.u8.wrap (k : Int) = (k : Int) := IntWalk.u8_in _ (by omega)
      have j1 : (k : Int) < 256 := by omega
      have hrs := range_snoc P k
      have hfl : ((List.range k).filter P).length ≤ 256 := by
        have := List.length_filter_le P (List.range k)
        rw [List.length_range] at this
        omega
      have HC := Lib.hid (HF.out k hlt wr HB.out)
      cases hp : P k
      · rw [hp] at HC
        rw [hp, if_neg (by decide), List.append_nil] at hrs
        have HRS := Lib.hid hrs
        clear hrs hp
        go_wp2_with fail
        refine HC.out.mono ?_
        rintro _ w1 ⟨rfl, hb1⟩
        have HO1 := Lib.hid (own_below HO.out hb1)
        have HB1 := Lib.hid (HB.out.trans (hb1.mono HB.out.size))
        clear hb1
        go_wp2_with fail
        go_roundw
        case rel => exact ⟨k + 1, by omega, by go_num, by rw [HRS.out]; exact HO1.out, HB1.out⟩
        case measure => simp [RowKit.intOf]; omega
      · rw [hp] at HC
        rw [hp, if_pos rfl] at hrs
        have HRS := Lib.hid hrs
        generalize (List.range k).filter P = F at *
        clear hrs hp
        go_wp2_with fail
        refine HC.out.mono ?_
        rintro _ w1 ⟨rfl, hb1⟩
        have HO1 := Lib.hid (own_below HO.out hb1)
        have HB1 := Lib.hid (HB.out.trans (hb1.mono HB.out.size))
        clear hb1
        go_wp2_with (at_builtin; go_loud (refine wpList_u8 w1 rfl _ _ rfl w.heap.size u3 F rfl HO1.out HB1.out.size [k] _ rfl 1 rfl 1 rfl (by rw [show [k].length = 1 from rfl]; omega) ?_); intro v2 w2 ho2 hb2)
        go_roundw
        case rel => exact ⟨k + 1, by omega, by go_num, by rw [HRS.out]; exact ho2, HB1.out.trans hb2⟩
        case measure => simp [RowKit.intOf]; omega
    · obtain rfl : k = 256 := by omega
      go_wp2_with fail
      go_returns
      exact ⟨_, rfl, HO.out, HB.out⟩
set_option maxRecDepth 100000 in
set_option maxHeartbeats 1600000 in
theorem unlikeT_any (t1 t2 : Nat) (l m : List RowV) (w : World) (h1 : TabOk w t1 l) (h2 : TabOk w t2 m) :
    Calls Tryz.prog 12 #[.pointer (some ⟨t1, 0, none⟩), .pointer (some ⟨t2, 0, none⟩)] w (BytesPost w ((List.range 256).filter (unl l m))) := by
  have hq1 : ∀ w, (binOp .eql 23 (.pointer (some ⟨t1, 0, none⟩)) (.pointer none)).run Tryz.prog w = .ok (.bool false) w := fun _ => rfl
  have hq2 : ∀ w, (binOp .eql 23 (.pointer (some ⟨t2, 0, none⟩)) (.pointer none)).run Tryz.prog w = .ok (.bool false) w := fun _ => rfl
  have hmf : ∀ (fn : Fn) (first cap : Array Value) (w : World), (Instr.makeFunc fn first cap).run Tryz.prog w = .ok (.func fn first cap) w := fun _ _ _ _ => rfl
  obtain ⟨W, hW⟩ : ∃ W, w.alloc (.cells #[.pointer (some ⟨t1, 0, none⟩)] 23) = W := ⟨_, rfl⟩
  have hb1 : Below w.heap.size w W := hW ▸ (Below.refl _ _).alloc (Nat.le_refl _) _
  have hk1 : Blk W w.heap.size 23 #[.pointer (some ⟨t1, 0, none⟩)] := hW ▸ Blk.new _ _ _
  obtain ⟨V, hV⟩ : ∃ V, W.alloc (.cells #[.pointer (some ⟨t2, 0, none⟩)] 23) = V := ⟨_, rfl⟩
  have hb2 : Below W.heap.size W V := hV ▸ (Below.refl _ _).alloc (Nat.le_refl _) _
  have hk2 : Blk V W.heap.size 23 #[.pointer (some ⟨t2, 0, none⟩)] := hV ▸ Blk.new _ _ _
  have hk1 := hk1.below hb2 hk1.lt
  have hbv := hb1.trans (hb2.mono hb1.size)
  have c1 : V.cell? ⟨w.heap.size, 0, none⟩ = some (.pointer (some ⟨t1, 0, none⟩)) := by rw [hk1.cell]; rfl
  have c2 : V.cell? ⟨W.heap.size, 0, none⟩ = some (.pointer (some ⟨t2, 0, none⟩)) := by rw [hk2.cell]; rfl
  have HBV := Lib.hid hbv
  have hF : ∀ (n : Nat), n < 256 → ∀ X, Below V.heap.size V X → Calls Tryz.prog 27 #[.int .u8 (n : Int), .pointer (some ⟨w.heap.size, 0, none⟩), .pointer (some ⟨W.heap.size, 0, none⟩)] X fun e w' => e = .returned (.bool (unl l m n)) ∧ Below X.heap.size X w' := by
    intro n hn X hX
    have hbx : Below w.heap.size w X := hbv.trans (hX.mono hbv.size)
    exact unlB_any _ _ t1 t2 l m n hn X (h1.keep hbx) (h2.keep hbx) ((hX.cell (p := ⟨w.heap.size, 0, none⟩) hk1.lt).trans c1) ((hX.cell (p := ⟨W.heap.size, 0, none⟩) hk2.lt).trans c2)
  have HPK := Lib.hid (pickU_any w.heap.size W.heap.size (unl l m) V hF)
  clear hF hb1 hk1 hb2 hk2 hbv h1 h2
  unfold BytesPost
  go_enter Tryz.func12, Tryz.ntmps12
  go_wp2_with fail
  refine HPK.out.mono ?_
  rintro _ w1 ⟨v, rfl, ho, hb⟩
  have HO := Lib.hid (own_low ho HBV.out.size)
  have HB1 := Lib.hid (HBV.out.trans (hb.mono HBV.out.size))
  clear ho hb c1 c2
  go_wp2_with fail
  go_returns
  exact ⟨_, rfl, HO.out, HB1.out⟩
theorem filter_len (P : Nat → Bool) (k : Nat) : ((List.range k).filter P).length ≤ k := by
  have := List.length_filter_le P (List.range k)
  rw [List.length_range] at this
  exact this
/-- .. by the reference. -/
def unlR (x y : List RRow) (n : Nat) : Bool := !((byteS x (UInt8.ofNat n)).toList == (byteS y (UInt8.ofNat n)).toList)
set_option maxRecDepth 100000 in
set_option maxHeartbeats 1600000 in
theorem unlikeR_any (A1 : Option Addr) (c1 : Nat) (x : List RRow) (A2 : Option Addr) (c2 : Nat) (y : List RRow) (w : World) (h1 : RefsAt w A1 x) (h2 : RefsAt w A2 y) (hx : x.length ≤ 1048576) (hy : y.length ≤ 1048576) :
    Calls Tryz.prog 18 #[.slice A1 x.length c1, .slice A2 y.length c2] w (BytesPost w ((List.range 256).filter (unlR x y))) := by
  have HX : Hid (∀ k : Nat, k < 256 → ∀ W, Below w.heap.size w W → Calls Tryz.prog 35 #[.slice A1 x.length c1, .int .u8 (k : Int)] W fun e w' => e = .returned (.string (byteS x (UInt8.ofNat k))) ∧ Below W.heap.size W w') := Lib.hid fun k hk W hb => by
    have h := byte18_any A1 c1 x (UInt8.ofNat k) W (h1.keep hb) hx
    rw [UInt8.toNat_ofNat_of_lt' (by show k < 256; exact hk)] at h
    exact h
  have HY : Hid (∀ k : Nat, k < 256 → ∀ W, Below w.heap.size w W → Calls Tryz.prog 35 #[.slice A2 y.length c2, .int .u8 (k : Int)] W fun e w' => e = .returned (.string (byteS y (UInt8.ofNat k))) ∧ Below W.heap.size W w') := Lib.hid fun k hk W hb => by
    have h := byte18_any A2 c2 y (UInt8.ofNat k) W (h2.keep hb) hy
    rw [UInt8.toNat_ofNat_of_lt' (by show k < 256; exact hk)] at h
    exact h
  clear h1 h2 hx hy
  unfold BytesPost
  go_enter Tryz.func18, Tryz.ntmps18
  go_wp2_with fail
  go_loopw [5, 6] (fun v vi wr => ∃ k : Nat, k ≤ 256 ∧ vi = .int .i64 k ∧ wr.ownsRow w.heap.size ByteT 1 v ((List.range k).filter (unlR x y)).length (u8s ((List.range k).filter (unlR x y))) ∧ Below w.heap.size w wr) (fun _ vi _ => 256 - (RowKit.intOf vi).toNat)
  case atStart => exact ⟨0, by omega, rfl, World.ownsRow_nil _ _ _ _, Below.refl _ _⟩
  case round =>
    obtain ⟨k, hk, rfl, ho, hb⟩ := hrel
    have HO := Lib.hid ho
    have HB := Lib.hid hb
    clear ho hb
    by_cases hlt : k < 256
    · have hu : IntKind.u8.wrap (k : Int) = (k : Int) := IntWalk.u8_in _ (by omega)
      have j1 : decide ((k : Int) < 256) = true := decide_eq_true (by omega)
      have hkw : IntKind.i64.wrap ((k : Int) + 1) = (k : Int) + 1 := IntWalk.i64_in _ (by omega)
      have hrs := range_snoc (unlR x y) k
      have hfl := filter_len (unlR x y) k
      have HC := Lib.hid (HX.out k hlt wr HB.out)
      have HD := Lib.hid (fun W hb => HY.out k hlt W hb)
      obtain ⟨p, hp⟩ : ∃ p, unlR x y k = p := ⟨_, rfl⟩
      rw [hp] at hrs
      unfold unlR at hp
      generalize byteS x (UInt8.ofNat k) = s at *
      generalize byteS y (UInt8.ofNat k) = t at *
      cases p
      · have hp2 : (s.toList == t.toList) = true := by cases h : (s.toList == t.toList) <;> rw [h] at hp <;> first | rfl | cases hp
        clear hp
        rw [if_neg (by decide), List.append_nil] at hrs
        have HRS := Lib.hid hrs
        clear hrs
        go_wp2_with fail
        refine HC.out.mono ?_
        rintro _ w1 ⟨rfl, hb1⟩
        have HB1 := Lib.hid (HB.out.trans (hb1.mono HB.out.size))
        have HO1 := Lib.hid (own_below HO.out hb1)
        clear hb1
        go_wp2_with fail
        refine (HD.out w1 HB1.out).mono ?_
        rintro _ w2 ⟨rfl, hb2⟩
        have HO2 := Lib.hid (own_below HO1.out hb2)
        have HB2 := Lib.hid (HB1.out.trans (hb2.mono HB1.out.size))
        clear hb2
        go_wp2_with fail
        go_roundw
        case rel => exact ⟨k + 1, by omega, by go_num, by rw [HRS.out]; exact HO2.out, HB2.out⟩
        case measure => simp [RowKit.intOf]; omega
      · have hp2 : (s.toList == t.toList) = false := by cases h : (s.toList == t.toList) <;> rw [h] at hp <;> first | rfl | cases hp
        clear hp
        rw [if_pos rfl] at hrs
        have HRS := Lib.hid hrs
        generalize (List.range k).filter (unlR x y) = F at *
        clear hrs
        go_wp2_with fail
        refine HC.out.mono ?_
        rintro _ w1 ⟨rfl, hb1⟩
        have HB1 := Lib.hid (HB.out.trans (hb1.mono HB.out.size))
        have HO1 := Lib.hid (own_below HO.out hb1)
        clear hb1
        go_wp2_with fail
        refine (HD.out w1 HB1.out).mono ?_
        rintro _ w2 ⟨rfl, hb2⟩
        have HO2 := Lib.hid (own_below HO1.out hb2)
        have HB2 := Lib.hid (HB1.out.trans (hb2.mono HB1.out.size))
        clear hb2
        go_wp2_with (at_builtin; go_loud (refine wpList_u8 w2 rfl _ _ rfl w.heap.size u5 F rfl HO2.out HB2.out.size [k] _ rfl 1 rfl 1 rfl (by rw [show [k].length = 1 from rfl]; omega) ?_); intro v2 w3 ho2 hb3)
        go_roundw
        case rel => exact ⟨k + 1, by omega, by go_num, by rw [HRS.out]; exact ho2, HB2.out.trans hb3⟩
        case measure => simp [RowKit.intOf]; omega
    · obtain rfl : k = 256 := by omega
      have j1 : decide (((256 : Nat) : Int) < 256) = false := by decide
      go_wp2_with fail
      go_returns
      exact ⟨_, rfl, HO.out, HB.out⟩
end Go.Proofs.YtkfjmcidcnpijaaGreatDoor.Sg
