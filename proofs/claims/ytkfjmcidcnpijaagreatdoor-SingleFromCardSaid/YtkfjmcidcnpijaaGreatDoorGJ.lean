/- Joined of: G35, G36, G37. -/
import Derived.Test.YtkfjmcidcnpijaaGreatDoorGF
import Derived.Deep.RegionLaw
/- Walks: (*single.Table).Bytes with its test, single.pick. -/
namespace Go.Proofs.YtkfjmcidcnpijaaGreatDoor.Sg
open Go.RowKit Pl Go.Lib

/-- Is a text a byte's? -/
def isB (l : List RowV) (cs : List Int) (n : Nat) : Bool := !(tx l n).toList.isEmpty && decide (runesL (tx l n).data.toList = cs)
def bytesOf (l : List RowV) (cs : List Int) : List Nat := (List.range 256).filter (isB l cs)
set_option maxRecDepth 100000 in
set_option maxHeartbeats 3200000 in
theorem isB_any (kt kl tb : Nat) (l : List RowV) (A : Option Addr) (c : Nat) (cs : List Int) (n : Nat) (hn : n < 256) (w : World) (h : TabOk w tb l) (hN : ∀ b : UInt8, (tx l b.toNat).size ≤ 1000) (hkt : w.cell? ⟨kt, 0, none⟩ = some (.pointer (some ⟨tb, 0, none⟩))) (hkl : w.cell? ⟨kl, 0, none⟩ = some (.slice A cs.length c)) (hkb : kl < w.heap.size)
    (hR : Rd w A cs.length (i32s cs)) (_hcs : cs.length ≤ 1000000) :
    Calls Tryz.prog 25 #[.int .u8 (n : Int), .pointer (some ⟨kt, 0, none⟩), .pointer (some ⟨kl, 0, none⟩)] w fun e w' => e = .returned (.bool (isB l cs n)) ∧ Below w.heap.size w w' := by
  obtain ⟨ct, h1, h2, h3⟩ := h.mem
  have hc : w.cell? ⟨tb, 1 + n, none⟩ = some (.string (tx l n)) := by rw [h1.cell]; exact h3 _ hn
  have hsz : (tx l n).size ≤ 1000 := by
    have := hN (UInt8.ofNat n)
    rw [UInt8.toNat_ofNat_of_lt' (by show n < 256; exact hn)] at this
    exact this
  unfold isB
  generalize tx l n = t at *
  have j0 : (0 : Int) ≤ (n : Int) := by omega
  have j1 : (n : Int) < 256 := by omega
  have HR := Lib.hid hR
  clear h h1 h2 h3 hN hR
  cases he : t.toList.isEmpty
  rotate_left
  · have hE : (!true && decide (runesL t.data.toList = cs)) = false := rfl
    rw [hE]
    clear hE
    go_enter Tryz.func25, Tryz.ntmps25
    go_wp2_with fail
    go_quiet (fail)
    go_wp2_with fail
    go_returns
    exact ⟨rfl, bdN (Below.refl _ _) _⟩
  · obtain ⟨v, w2, hcv, hb2, htx⟩ := conv_text t (by omega) w.drew
    obtain ⟨Ac, cc, rfl, hrd⟩ := htx.rd
    have hE : (!false && decide (runesL t.data.toList = cs)) = decide (runesL t.data.toList = cs) := rfl
    rw [hE]
    have hlen := runesL_le t.data.toList
    rw [code_len] at hlen
    generalize runesL t.data.toList = K at *
    have hb02 : Below w.heap.size w w2 := (Below.refl _ _).drew.trans hb2
    have hkl2 : w2.cell? ⟨kl, 0, none⟩ = some (.slice A cs.length c) := (hb02.cell (p := ⟨kl, 0, none⟩) hkb).trans hkl
    have HEQ := Lib.hid (equal_any Ac K.length cc K A cs.length c cs w2 hrd (HR.out.keep hb02) (by omega))
    have HB2 := Lib.hid hb02
    obtain ⟨Z, hZ⟩ : ∃ Z, decide (K = cs) = Z := ⟨_, rfl⟩
    rw [hZ] at HEQ ⊢
    clear hE hlen htx hrd hb2 hb02 hsz hZ
    go_enter Tryz.func25, Tryz.ntmps25
    go_wp2_with fail
    go_region_law (go_simp; go_at_call 26; refine HEQ.out.mono ?_; rintro _ w3 ⟨rfl, m, rfl⟩)
    all_goals
      go_wp2_with fail
      go_returns
      exact ⟨rfl, bdN HB2.out m⟩
end Go.Proofs.YtkfjmcidcnpijaaGreatDoor.Sg
/- Walks: single.pick, (*single.Table).Bytes. -/
namespace Go.Proofs.YtkfjmcidcnpijaaGreatDoor.Sg
open Go.RowKit Pl Go.Lib

theorem range_snoc (P : Nat → Bool) (k : Nat) : (List.range (k + 1)).filter P = (List.range k).filter P ++ (if P k = true then [k] else []) := by
  rw [List.range_succ, List.filter_append]
  congr 1
  by_cases h : P k = true
  · simp [h]
  · simp [h]
set_option maxRecDepth 100000 in
set_option maxHeartbeats 1600000 in
theorem pick_any (kt kl : Nat) (P : Nat → Bool) (w : World)
    (HF : ∀ (n : Nat), n < 256 → ∀ W, Below w.heap.size w W → Calls Tryz.prog 25 #[.int .u8 (n : Int), .pointer (some ⟨kt, 0, none⟩), .pointer (some ⟨kl, 0, none⟩)] W fun e w' => e = .returned (.bool (P n)) ∧ Below W.heap.size W w') :
    Calls Tryz.prog 24 #[.func (.func 25) #[] #[.pointer (some ⟨kt, 0, none⟩), .pointer (some ⟨kl, 0, none⟩)]] w fun e w' => ∃ v, e = .returned v ∧ w'.ownsRow w.heap.size ByteT 1 v ((List.range 256).filter P).length (u8s ((List.range 256).filter P)) ∧ Below w.heap.size w w' := by
  have HF := Lib.hid HF
  go_enter Tryz.func24, Tryz.ntmps24
  go_wp2_with fail
  go_loopw [3, 5] (fun v vi wr => ∃ k : Nat, k ≤ 256 ∧ vi = .int .i64 k ∧ wr.ownsRow w.heap.size ByteT 1 v ((List.range k).filter P).length (u8s ((List.range k).filter P)) ∧ Below w.heap.size w wr) (fun _ vi _ => 256 - (RowKit.intOf vi).toNat)
  case atStart => exact ⟨0, by omega, rfl, World.ownsRow_nil _ _ _ _, Below.refl _ _⟩
  case round =>
    obtain ⟨k, hk, rfl, ho, hb⟩ := hrel
    have HO := Lib.hid ho
    have HB := Lib.hid hb
    clear ho hb
    by_cases hlt : k < 256
    · have hu : IntKind.u8.wrap (k : Int) = (k : Int) := IntWalk.u8_in _ (by omega)
      have j1 : (k : Int) < 256 := by omega
      have hrs := range_snoc P k
      have hfl : ((List.range k).filter P).length ≤ 256 := by
        have := List.length_filter_le P (List.range k)
        rw [List.length_range] at this
        omega
      have HC := Lib.hid (HF.out k hlt wr HB.out)
      cases hp : P k
      · rw [hp] at HC
        rw [hp, if_neg (by decide), List.append_nil] at hrs
        have HRS := Lib.hid hrs
        clear hrs hp
        go_wp2_with fail
        refine HC.out.mono ?_
        rintro _ w1 ⟨rfl, hb1⟩
        have HO1 := Lib.hid (own_below HO.out hb1)
        have HB1 := Lib.hid (HB.out.trans (hb1.mono HB.out.size))
        clear hb1
        go_wp2_with fail
        go_roundw
        case rel => exact ⟨k + 1, by omega, by go_num, by rw [HRS.out]; exact HO1.out, HB1.out⟩
        case measure => simp [RowKit.intOf]; omega
      · rw [hp] at HC
        rw [hp, if_pos rfl] at hrs
        have HRS := Lib.hid hrs
        generalize (List.range k).filter P = F at *
        clear hrs hp
        go_wp2_with fail
        refine HC.out.mono ?_
        rintro _ w1 ⟨rfl, hb1⟩
        have HO1 := Lib.hid (own_below HO.out hb1)
        have HB1 := Lib.hid (HB.out.trans (hb1.mono HB.out.size))
        clear hb1
        go_wp2_with (at_builtin; go_loud (refine wpList_u8 w1 rfl _ _ rfl w.heap.size u3 F rfl HO1.out HB1.out.size [k] _ rfl 1 rfl 1 rfl (by rw [show [k].length = 1 from rfl]; omega) ?_); intro v2 w2 ho2 hb2)
        go_roundw
        case rel => exact ⟨k + 1, by omega, by go_num, by rw [HRS.out]; exact ho2, HB1.out.trans hb2⟩
        case measure => simp [RowKit.intOf]; omega
    · obtain rfl : k = 256 := by omega
      go_wp2_with fail
      go_returns
      exact ⟨_, rfl, HO.out, HB.out⟩
theorem isB_nil (l : List RowV) (n : Nat) : isB l [] n = false := by
  unfold isB
  by_cases h : (tx l n).data.toList = []
  · have : (tx l n).toList.isEmpty = true := by rw [ByteArray.toList_eq, h]; rfl
    rw [this]; rfl
  · rw [runesL_cons _ h]
    simp
theorem bytesOf_nil (l : List RowV) : bytesOf l [] = [] := by
  unfold bytesOf
  rw [List.filter_eq_nil_iff]
  intro n _
  rw [isB_nil]
  decide
def BytesPost (w : World) (L : List Nat) (e : Ending) (w' : World) : Prop := ∃ v, e = .returned v ∧ w'.ownsRow w.heap.size ByteT 1 v L.length (u8s L) ∧ Below w.heap.size w w'
set_option maxRecDepth 100000 in
set_option maxHeartbeats 1600000 in
theorem bytesT_any (tb : Nat) (l : List RowV) (A : Option Addr) (c : Nat) (cs : List Int) (w : World) (h : TabOk w tb l) (hN : ∀ b : UInt8, (tx l b.toNat).size ≤ 1000) (hR : Rd w A cs.length (i32s cs)) (hcs : cs.length ≤ 1000000) :
    Calls Tryz.prog 11 #[.pointer (some ⟨tb, 0, none⟩), .slice A cs.length c] w (BytesPost w (bytesOf l cs)) := by
  have hq : ∀ w, (binOp .eql 23 (.pointer (some ⟨tb, 0, none⟩)) (.pointer none)).run Tryz.prog w = .ok (.bool false) w := fun _ => rfl
  have hmf : ∀ (fn : Fn) (first cap : Array Value) (w : World), (Instr.makeFunc fn first cap).run Tryz.prog w = .ok (.func fn first cap) w := fun _ _ _ _ => rfl
  obtain ⟨W, hW⟩ : ∃ W, w.alloc (.cells #[.pointer (some ⟨tb, 0, none⟩)] 23) = W := ⟨_, rfl⟩
  have hb1 : Below w.heap.size w W := hW ▸ (Below.refl _ _).alloc (Nat.le_refl _) _
  have hk1 : Blk W w.heap.size 23 #[.pointer (some ⟨tb, 0, none⟩)] := hW ▸ Blk.new _ _ _
  obtain ⟨V, hV⟩ : ∃ V, W.alloc (.cells #[.slice A cs.length c] 72) = V := ⟨_, rfl⟩
  have hb2 : Below W.heap.size W V := hV ▸ (Below.refl _ _).alloc (Nat.le_refl _) _
  have hk2 : Blk V W.heap.size 72 #[.slice A cs.length c] := hV ▸ Blk.new _ _ _
  have hk1 := hk1.below hb2 hk1.lt
  have hbv := hb1.trans (hb2.mono hb1.size)
  have c1 : V.cell? ⟨w.heap.size, 0, none⟩ = some (.pointer (some ⟨tb, 0, none⟩)) := by rw [hk1.cell]; rfl
  have c2 : V.cell? ⟨W.heap.size, 0, none⟩ = some (.slice A cs.length c) := by rw [hk2.cell]; rfl
  have HBV := Lib.hid hbv
  have hF : ∀ (n : Nat), n < 256 → ∀ X, Below V.heap.size V X → Calls Tryz.prog 25 #[.int .u8 (n : Int), .pointer (some ⟨w.heap.size, 0, none⟩), .pointer (some ⟨W.heap.size, 0, none⟩)] X fun e w' => e = .returned (.bool (isB l cs n)) ∧ Below X.heap.size X w' := by
    intro n hn X hX
    have hbx : Below w.heap.size w X := hbv.trans (hX.mono hbv.size)
    exact isB_any _ _ tb l A c cs n hn X (h.keep hbx) hN ((hX.cell (p := ⟨w.heap.size, 0, none⟩) hk1.lt).trans c1) ((hX.cell (p := ⟨W.heap.size, 0, none⟩) hk2.lt).trans c2) (Nat.lt_of_lt_of_le hk2.lt hX.size) (hR.keep hbx) hcs
  have HPK := Lib.hid (pick_any w.heap.size W.heap.size (isB l cs) V hF)
  clear hF hb1 hk1 hb2 hk2 hbv h hN hR
  by_cases h0 : cs.length = 0
  · have hcn : bytesOf l cs = [] := by rw [List.eq_nil_of_length_eq_zero h0, bytesOf_nil]
    rw [hcn]
    have e1 : ((cs.length : Int) == 0) = true := by rw [beq_iff_eq]; omega
    clear h0 hcn
    go_enter Tryz.func11, Tryz.ntmps11
    go_wp2_with fail
    go_returns
    exact ⟨_, rfl, World.ownsRow_nil _ _ _ _, HBV.out⟩
  · have e1 : ((cs.length : Int) == 0) = false := by rw [beq_eq_false_iff_ne]; omega
    unfold BytesPost bytesOf
    go_enter Tryz.func11, Tryz.ntmps11
    go_wp2_with fail
    refine HPK.out.mono ?_
    rintro _ w1 ⟨v, rfl, ho, hb⟩
    have HO := Lib.hid (own_low ho HBV.out.size)
    have HB1 := Lib.hid (HBV.out.trans (hb.mono HBV.out.size))
    clear ho hb c1 c2
    go_wp2_with fail
    go_returns
    exact ⟨_, rfl, HO.out, HB1.out⟩
end Go.Proofs.YtkfjmcidcnpijaaGreatDoor.Sg
/- Walks: (*single.Table).Whole, inkhornlaw18.bytes. -/
namespace Go.Proofs.YtkfjmcidcnpijaaGreatDoor.Sg
open Go.RowKit Pl Go.Lib

/-- Have all of the first k bytes texts? -/
def wholeB (l : List RowV) (k : Nat) : Bool := (List.range k).all fun n => !(tx l n).toList.isEmpty
theorem whole_has (l : List RowV) : hasS ⟨#[]⟩ ((List.range 256).map (tx l)) = !wholeB l 256 := by
  unfold hasS wholeB
  rw [List.any_map, List.not_all_eq_any_not]
  congr 1
  funext n
  show ((⟨#[]⟩ : ByteArray).toList == (tx l n).toList) = !(!(tx l n).toList.isEmpty)
  rw [Bool.not_not, show (⟨#[]⟩ : ByteArray).toList = [] from by rw [ba_toList]]
  cases (tx l n).toList <;> rfl
theorem whole_succ (l : List RowV) (k : Nat) : wholeB l (k + 1) = (wholeB l k && !(tx l k).toList.isEmpty) := by
  unfold wholeB
  rw [List.range_succ, List.all_append]
  simp
set_option maxRecDepth 100000 in
set_option maxHeartbeats 1600000 in
theorem whole_any (tb : Nat) (l : List RowV) (w : World) (h : TabOk w tb l) :
    Calls Tryz.prog 10 #[.pointer (some ⟨tb, 0, none⟩)] w fun e w' => e = .returned (.bool (wholeB l 256)) ∧ w = w' := by
  obtain ⟨cs, h1, h2, h3⟩ := h.mem
  have hrd : Rd w (some ⟨tb, 1, none⟩) 256 (strs ((List.range 256).map (tx l))) := by
    refine ⟨by rw [strs_length, List.length_map, List.length_range], fun _ => ⟨tb, 1, rfl, h1.lt, fun i x hx => ?_⟩⟩
    unfold strs at hx
    rw [List.getElem?_map, List.getElem?_map] at hx
    by_cases hi : i < 256
    · rw [List.getElem?_range hi] at hx
      rw [h1.cell, h3 i hi]
      exact hx
    · rw [List.getElem?_eq_none (by rw [List.length_range]; omega)] at hx
      cases hx
  have hc := containsS_any (some ⟨tb, 1, none⟩) 256 256 ((List.range 256).map (tx l)) ⟨#[]⟩ w hrd (by omega)
  rw [whole_has] at hc
  have HC := Lib.hid hc
  have hq : ∀ w, (binOp .neq 23 (.pointer (some ⟨tb, 0, none⟩)) (.pointer none)).run Tryz.prog w = .ok (.bool true) w := fun _ => rfl
  generalize wholeB l 256 = W at *
  clear h h1 h2 h3 hrd hc
  go_enter Tryz.func10, Tryz.ntmps10
  go_wp2_with fail
  refine HC.out.mono ?_
  rintro _ _ ⟨rfl, rfl⟩
  cases W
  · go_wp2_with fail
    go_returns
    exact ⟨rfl, rfl⟩
  · go_wp2_with fail
    go_returns
    exact ⟨rfl, rfl⟩
set_option maxRecDepth 100000 in
theorem bytesEq_any (B1 B2 : Nat) (v1 v2 : Value) (L : List Nat) (w : World) (h1 : w.ownsRow B1 ByteT 1 v1 L.length (u8s L)) (h2 : w.ownsRow B2 ByteT 1 v2 L.length (u8s L)) (hl : ∀ n ∈ L, n < 256) :
    Calls Tryz.prog 17 #[v1, v2] w fun e w' => e = .returned (.bool true) ∧ w = w' := by
  have c1 := bytes_conv h1 hl
  have c2 := bytes_conv h2 hl
  obtain ⟨A1, n1, k1, rfl⟩ := own_slice h1
  obtain ⟨A2, n2, k2, rfl⟩ := own_slice h2
  generalize (⟨(L.map UInt8.ofNat).toArray⟩ : ByteArray) = t at *
  clear h1 h2 hl
  go_enter Tryz.func17, Tryz.ntmps17
  go_wp2_with fail
  go_returns
  exact ⟨by simp, rfl⟩
theorem bytesOf_lt (l : List RowV) (cs : List Int) : ∀ n ∈ bytesOf l cs, n < 256 := fun _n hn => List.mem_range.1 (List.mem_filter.1 hn).1
end Go.Proofs.YtkfjmcidcnpijaaGreatDoor.Sg
