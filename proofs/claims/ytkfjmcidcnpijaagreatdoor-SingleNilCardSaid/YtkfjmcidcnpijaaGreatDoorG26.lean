/- Walk: (*charset.Charset).row. -/
import Derived.Test.YtkfjmcidcnpijaaGreatDoorG25
namespace Go.Proofs.YtkfjmcidcnpijaaGreatDoor.Sg
open Go.RowKit Pl Go.Lib Go.Maps Go.WideMaps

theorem nfd_pos (l : List Int) (h0 : 0 < l.length) : 0 < (nfd l).length := by
  have h2 : (nfd l).length = (l.flatMap oneR).length := sortRef_len _
  rw [h2]
  cases l with
  | nil => simp at h0
  | cons a l =>
    have := (oneR_len a).1
    simp only [List.flatMap_cons, List.length_append]
    omega
/-- What row answers. -/
def rowE (f : List UInt8 → Option ByteArray) (g : List UInt8 → Option Bool) (r : RowV) : Int :=
  if wrong13 (plainR r) ≠ 0 then wrong13 (plainR r) else if 18 < (nfd (runesL r.text.data.toList)).length then 11 else if r.flag = 1 then 0 else errD f g r.code.data.toList
structure RowOk (w : World) (r : RowV) (f f' : List UInt8 → Option ByteArray) (g g' : List UInt8 → Option Bool) (v : Value) (w' : World) : Prop where
  own : w'.ownsRow w.heap.size RuneT 1 v (nfd (runesL r.text.data.toList)).length (i32s (nfd (runesL r.text.data.toList)))
  texts : f' = if r.flag = 1 then f else fun t => if t = r.code.data.toList then some r.text else f t
  heads : g' = if r.flag = 1 then g else headsK r.code.data.toList r.code.data.toList.length g
def RowP (H : Nat) (w0 w : World) (n : Nat) (cs : Array Value) (f : List UInt8 → Option ByteArray) (g : List UInt8 → Option Bool) (h : List UInt8 → Option Int) (r : RowV) (e : Ending) (w' : World) : Prop :=
  ∃ v, e = .returned (.tuple #[v, .int .i64 (rowE f g r)]) ∧ CK w w' ∧ ∃ f' g', HS H w0 w' (n + 5) cs f' g' h ∧ (rowE f g r = 0 → RowOk w r f f' g g' v w')
set_option maxRecDepth 100000 in
set_option maxHeartbeats 3200000 in
theorem row_any (H : Nat) (w0 w : World) (n : Nat) (p : Option Addr) (vr vk vc : Value) (f : List UInt8 → Option ByteArray) (g : List UInt8 → Option Bool) (h : List UInt8 → Option Int) (r : RowV)
    (hs : HS H w0 w n (chC H p vr vk vc) f g h) (hg : TrueOnly g) (hT : Tabs w) (hc : r.code.size ≤ 1048576) (ht : r.text.size ≤ 1048576) (hn : n ≤ 1000000) :
    Calls Tryz.prog 45 #[.pointer (some ⟨H + 2, 0, none⟩), rowV r] w (RowP H w0 w n (chC H p vr vk vc) f g h r) := by
  have hE : rowE f g r = if wrong13 (plainR r) ≠ 0 then wrong13 (plainR r) else if 18 < (nfd (runesL r.text.data.toList)).length then 11 else if r.flag = 1 then 0 else errD f g r.code.data.toList := rfl
  have hck := fun (W : World) (hT : Tabs W) => check_any r hc ht W hT
  have hpv := plainR_valid r
  generalize wrong13 (plainR r) = X at *
  obtain ⟨code, text, flag⟩ := r
  have hc : code.size ≤ 1048576 := hc
  have ht : text.size ≤ 1048576 := ht
  obtain ⟨W, hW⟩ : ∃ W, w.alloc (.cells #[.string code, .string text, .int .i64 flag] 50) = W := ⟨_, rfl⟩
  have hb : Below w.heap.size w W := hW ▸ (Below.refl _ _).alloc (Nat.le_refl _) _
  have hk : Blk W w.heap.size 50 #[.string code, .string text, .int .i64 flag] := hW ▸ Blk.new _ _ _
  have k0 : W.cell? ⟨w.heap.size, 0, none⟩ = some (.string code) := by rw [hk.cell]; rfl
  have k1 : W.cell? ⟨w.heap.size, 1, none⟩ = some (.string text) := by rw [hk.cell]; rfl
  have k2 : W.cell? ⟨w.heap.size, 2, none⟩ = some (.int .i64 flag) := by rw [hk.cell]; rfl
  have HK := Lib.hid hk
  have HB := Lib.hid hb
  have HS0 := Lib.hid (hs.keep hb)
  have HC := Lib.hid (hck W (hT.keep hb))
  have HE := Lib.hid hE
  have HPV := Lib.hid hpv
  have HG := Lib.hid hg
  unfold RowP
  generalize rowE f g ⟨code, text, flag⟩ = Z at *
  clear hb hk hs hck hE hT hpv hg
  go_enter Tryz.func45, Tryz.ntmps45
  go_wp2_with fail
  refine HC.out.mono ?_
  rintro _ w1 ⟨rfl, hb1⟩
  have hb01 := HB.out.trans (hb1.mono HB.out.size)
  by_cases hX : X = 0
  rotate_left
  · have x1 : (X != 0) = true := by simp [hX]
    have hz : Z = X := by rw [HE.out, if_pos hX]
    subst hz
    have HX := Lib.hid hX
    have HS1 := Lib.hid (HS0.out.keep hb1)
    have HB1 := Lib.hid hb01
    clear hX hb1 hb01
    go_wp2_with fail
    go_returns
    exact ⟨_, rfl, .of_below HB1.out, _, _, HS1.out.mono (by omega), fun h => absurd h HX.out⟩
  subst hX
  obtain ⟨_, _, hz1, hz2, hz3, hz4⟩ := HPV.out rfl
  have hz : Z = if 18 < (nfd (runesL text.data.toList)).length then 11 else if flag = 1 then 0 else errD f g code.data.toList := by rw [HE.out, if_neg (by decide)]
  have hb2 : Below W.heap.size W w1.drew := hb1.drew
  have k0 := (hb2.cell (p := ⟨w.heap.size, 0, none⟩) HK.out.lt).trans k0
  have k1 := (hb2.cell (p := ⟨w.heap.size, 1, none⟩) HK.out.lt).trans k1
  have k2 := (hb2.cell (p := ⟨w.heap.size, 2, none⟩) HK.out.lt).trans k2
  have hs2 := HS0.out.keep hb2
  have t1 : w1.drew.cell? ⟨H + 2, 1, none⟩ = some smallI := by rw [hs2.blk.cell]; rfl
  obtain ⟨cv, w2, hcv, hb3, hta⟩ := conv_text text ht w1.drew
  obtain ⟨Ac, cc, rfl, hrd⟩ := hta.rd
  have hb02 : Below w.heap.size w w2 := (hb01.drew).trans (hb3.mono hb01.size)
  have hs3 := hs2.keep hb3
  have q1 : w2.cell? ⟨H + 2, 1, none⟩ = some smallI := by rw [hs3.blk.cell]; rfl
  have hlt : w.heap.size < w1.drew.heap.size := Nat.lt_of_lt_of_le HK.out.lt hb2.size
  have m0 := (hb3.cell (p := ⟨w.heap.size, 0, none⟩) hlt).trans k0
  have m1 := (hb3.cell (p := ⟨w.heap.size, 1, none⟩) hlt).trans k1
  have m2 := (hb3.cell (p := ⟨w.heap.size, 2, none⟩) hlt).trans k2
  have hlt2 : w.heap.size < w2.heap.size := Nat.lt_of_lt_of_le hlt hb3.size
  have HN := Lib.hid (nfd_any Ac cc (runesL text.data.toList) w2 hrd (by omega))
  have hpos := nfd_pos (runesL text.data.toList) hz3
  have HS3 := Lib.hid hs3
  have HB02 := Lib.hid hb02
  have hz1' : code.size ≤ 4 := hz2
  have x1 : ((0 : Int) != 0) = false := rfl
  clear hz1 hz2 hz3 hz4 hb1 hb2 hs2 hs3 hb3 hta hrd hb02 hb01
  generalize hK : nfd (runesL text.data.toList) = K at *
  generalize hL : runesL text.data.toList = L at *
  have HKE : Hid (nfd (runesL text.data.toList) = K) := Lib.hid (by rw [hL]; exact hK)
  clear hK hL
  have HZ := Lib.hid hz
  clear hz
  go_wp2_with fail
  have hmeth266 : ∀ w, (method 266 69 (.agg #[]) "NFD").run Tryz.prog w = .ok (175, .agg #[]) w := fun _ => rfl
  have hmeth340 : ∀ w, (method 340 69 (.agg #[]) "NFD").run Tryz.prog w = .ok (175, .agg #[]) w := fun _ => rfl
  go_cut [7] (fun s7 wx => ∃ g3 c3, s7 = .slice (some ⟨g3, 0, none⟩) K.length c3 ∧ Below w2.heap.size w2 wx ∧ wx.ownsRow w2.heap.size RuneT 1 (.slice (some ⟨g3, 0, none⟩) K.length c3) K.length (i32s K))
  case first =>
    go_region_law (go_simp; go_at_call 175; refine HN.out.mono ?_; rintro _ w3 ⟨v3, rfl, ho3, hb3⟩; obtain ⟨g3, c3, rfl⟩ := own_pos ho3 hpos)
    all_goals
      go_wp2_with fail
      go_meet
      exact ⟨_, _, rfl, hb3, ho3⟩
  case rest =>
  obtain ⟨g3, c3, rfl, hb3, ho3⟩ := hcut
  have HS4 := Lib.hid (HS3.out.keep hb3)
  have n1 := (hb3.cell (p := ⟨w.heap.size, 1, none⟩) hlt2).trans m1
  have n0 := (hb3.cell (p := ⟨w.heap.size, 0, none⟩) hlt2).trans m0
  have n2 := (hb3.cell (p := ⟨w.heap.size, 2, none⟩) hlt2).trans m2
  have hb03 := HB02.out.trans (hb3.mono HB02.out.size)
  have HB03 := Lib.hid hb03
  have HOW := Lib.hid (own_low (B := w.heap.size) ho3 HB02.out.size)
  clear k0 k1 k2 t1 hcv q1 m0 m1 m2 hlt hlt2 hb3 ho3 hb03
  by_cases h18 : 18 < K.length
  · have x2 : decide ((18 : Int) < (K.length : Int)) = true := decide_eq_true (by omega)
    have hz : Z = 11 := by rw [HZ.out, if_pos h18]
    subst hz
    clear h18
    go_wp2_with fail
    go_returns
    exact ⟨_, rfl, .of_below HB03.out, _, _, HS4.out.mono (by omega), fun h => by cases h⟩
  have x2 : decide ((18 : Int) < (K.length : Int)) = false := decide_eq_false (by omega)
  have hz : Z = if flag = 1 then 0 else errD f g code.data.toList := by rw [HZ.out, if_neg h18]
  by_cases hf : flag = 1
  · have x3 : (flag == 1) = true := by simp [hf]
    replace hz : Z = 0 := by rw [hz, if_pos hf]
    subst hz
    have HF := Lib.hid hf
    clear hf h18
    go_wp2_with fail
    go_returns
    exact ⟨.slice (some ⟨g3, 0, none⟩) K.length c3, rfl, .of_below HB03.out, _, _, HS4.out.mono (by omega), ⟨by { show wc.ownsRow _ RuneT 1 _ (nfd (runesL text.data.toList)).length (i32s (nfd (runesL text.data.toList))); rw [HKE.out]; exact HOW.out }, by rw [if_pos HF.out], by rw [if_pos HF.out]⟩⟩
  have x3 : (flag == 1) = false := by simp [hf]
  replace hz : Z = errD f g code.data.toList := by rw [hz, if_neg hf]
  subst hz
  have HF := Lib.hid hf
  clear hf h18
  have HD := Lib.hid (decodes_any H w0 wc n p vr vk vc f g h ⟨code, text, flag⟩ HS4.out HG.out hz1' ht hn)
  go_wp2_with fail
  refine HD.out.mono ?_
  rintro _ w4 ⟨rfl, hck4, f', g', hs4, hfg⟩
  have HS5 := Lib.hid hs4
  have HFG := Lib.hid hfg
  have HCK4 := Lib.hid hck4
  clear hs4 hfg hck4 n0 n1 n2
  go_wp2_with fail
  go_returns
  exact ⟨.slice (some ⟨g3, 0, none⟩) K.length c3, rfl, (CK.of_below HB03.out).trans HCK4.out, f', g', HS5.out, fun h0 => ⟨by { show w4.ownsRow _ RuneT 1 _ (nfd (runesL text.data.toList)).length (i32s (nfd (runesL text.data.toList))); rw [HKE.out]; exact own_ck HOW.out HCK4.out }, by rw [if_neg HF.out]; exact (HFG.out h0).1, by rw [if_neg HF.out]; exact (HFG.out h0).2⟩⟩
end Go.Proofs.YtkfjmcidcnpijaaGreatDoor.Sg
