/- Walk: inkhornlaw18.awake. -/
import Derived.Test.YtkphecmdilefgaaDoorG33
namespace Go.Proofs.YtkphecmdilefgaaDoor.Sg
open Go.RowKit Pl Go.Lib

theorem tx_le (l : List RowV) (N : Nat) (h : ∀ r ∈ l, r.text.size ≤ N) (j : Nat) : (tx l j).size ≤ N := by
  unfold tx textsF
  cases hf : l.find? (hasCode [UInt8.ofNat j]) with
  | none => show (0 : Nat) ≤ N; omega
  | some r => exact h r (List.mem_of_find?_eq_some hf)
def rows2 : List RowV := [⟨⟨#[65]⟩, ⟨#[65]⟩, 0⟩, ⟨⟨#[128]⟩, ⟨#[226, 130, 172]⟩, 0⟩]
theorem rows2_ok : (wrong18 (rows2.map plainR)).2 = 0 := by decide +kernel
theorem rows2_dec (pol : Int) (x : List UInt8 × List Nat × Int) (h : decGo (fun b => (tx rows2 b.toNat).data.toList) pol 0 [65, 129, 128] = x) (tb : Nat) (hp1 : 1 ≤ pol) (hp3 : pol ≤ 3) (w : World) (hT : TabOk w tb rows2) :
    Calls Tryd.prog 12 #[.pointer (some ⟨tb, 0, none⟩), .int .i64 pol, .string ⟨#[65, 129, 128]⟩] w (DecPostT w x) := by
  subst h
  exact decodeT_any tb rows2 pol hp1 hp3 ⟨#[65, 129, 128]⟩ w hT (by show (3 : Nat) ≤ _; omega) (fun b => tx_le rows2 1000 (by decide) _)
set_option maxRecDepth 100000 in
set_option maxHeartbeats 3200000 in
theorem awake18_any (w : World) (hT : Tabs w) : Calls Tryd.prog 9 #[] w fun e w' => e = .returned (.bool true) ∧ Below w.heap.size w w' := by
  obtain ⟨W, hW⟩ : ∃ W, w.alloc (.cells #[.string ⟨#[65]⟩, .string ⟨#[65]⟩, .int .i64 0, .string ⟨#[128]⟩, .string ⟨#[226, 130, 172]⟩, .int .i64 0] 60) = W := ⟨_, rfl⟩
  have hb : Below w.heap.size w W := hW ▸ (Below.refl _ _).alloc (Nat.le_refl _) _
  have hk : Blk W w.heap.size 60 #[.string ⟨#[65]⟩, .string ⟨#[65]⟩, .int .i64 0, .string ⟨#[128]⟩, .string ⟨#[226, 130, 172]⟩, .int .i64 0] := hW ▸ Blk.new _ _ _
  have hR : RowsAt W (some ⟨w.heap.size, 0, none⟩) rows2 := by
    intro _
    refine ⟨_, _, rfl, hk.lt, fun i hi => ?_⟩
    match i, hi with
    | 0, _ => exact ⟨by rw [hk.cell]; rfl, by rw [hk.cell]; rfl, by rw [hk.cell]; rfl⟩
    | 1, _ => exact ⟨by rw [hk.cell]; rfl, by rw [hk.cell]; rfl, by rw [hk.cell]; rfl⟩
  have hN : Calls Tryd.prog 10 #[smallI, .slice (some ⟨w.heap.size, 0, none⟩) 2 2] W (SNewP W rows2) := singleNew_any _ 2 rows2 W hR (by decide) (by decide) (hT.keep hb)
  have HN := Lib.hid hN
  have HB := Lib.hid hb
  have HS := Lib.hid (fun w => small17_any w)
  have hq : ∀ (tb : Nat) w, (binOp .eql 30 (.pointer (some ⟨tb, 0, none⟩)) (.pointer none)).run Tryd.prog w = .ok (.bool false) w := fun _ _ => rfl
  have HD1 := Lib.hid (rows2_dec 1 ([65], [1], 17) (by decide +kernel))
  have HD2 := Lib.hid (rows2_dec 2 ([65, 239, 191, 189, 226, 130, 172], [1], 0) (by decide +kernel))
  have HD3 := Lib.hid (rows2_dec 3 ([65, 226, 130, 172], [1], 0) (by decide +kernel))
  clear hb hk hR hN hT
  go_enter Tryd.func9, Tryd.ntmps9
  go_wp2_with fail
  refine (HS.out _).mono ?_
  rintro _ _ ⟨rfl, rfl⟩
  go_wp2_with fail
  refine HN.out.mono ?_
  rintro e w1 ⟨hb1, _, h1⟩
  obtain ⟨tb, rfl, htab⟩ := h1 rows2_ok
  have HT1 := Lib.hid htab
  have HB1 := Lib.hid (HB.out.trans (hb1.mono HB.out.size))
  have hqt := hq tb
  clear hb1 h1 htab hq
  go_wp2_with fail
  refine (HD1.out tb (by decide) (by decide) w1 HT1.out).mono ?_
  rintro _ w2 ⟨v2, rfl, ho2, hb2⟩
  have HT2 := Lib.hid (HT1.out.keep hb2)
  have HB2 := Lib.hid (HB1.out.trans (hb2.mono HB1.out.size))
  have HO2 := Lib.hid ho2
  clear ho2 hb2
  go_wp2_with fail
  refine (HD2.out tb (by decide) (by decide) w2 HT2.out).mono ?_
  rintro _ w3 ⟨v3, rfl, ho3, hb3⟩
  have HT3 := Lib.hid (HT2.out.keep hb3)
  have HB3 := Lib.hid (HB2.out.trans (hb3.mono HB2.out.size))
  have HO23 := Lib.hid (own_below HO2.out hb3)
  have HO3 := Lib.hid ho3
  clear ho3 hb3
  go_wp2_with fail
  refine (HD3.out tb (by decide) (by decide) w3 HT3.out).mono ?_
  rintro _ w4 ⟨v4, rfl, ho4, hb4⟩
  have HB4 := Lib.hid (HB3.out.trans (hb4.mono HB3.out.size))
  have HO24 := Lib.hid (own_below HO23.out hb4)
  obtain ⟨g2, c2, rfl⟩ : ∃ g c, v2 = .slice (some ⟨g, 0, none⟩) 1 c := by
    rcases own_shapeS HO24.out with ⟨_, h⟩ | h
    · cases h
    · exact h
  obtain ⟨g3, c3, rfl⟩ : ∃ g c, v3 = .slice (some ⟨g, 0, none⟩) 1 c := by
    rcases own_shapeS HO3.out with ⟨_, h⟩ | h
    · cases h
    · exact h
  obtain ⟨g4, c4, rfl⟩ : ∃ g c, v4 = .slice (some ⟨g, 0, none⟩) 1 c := by
    rcases own_shapeS ho4 with ⟨_, h⟩ | h
    · cases h
    · exact h
  have p0 : w4.cell? ⟨g2, 0, none⟩ = some (.int .i64 1) := own_cellS HO24.out _ (by rfl)
  have p1 : w4.cell? ⟨g2, 1, none⟩ = some (.int .i64 1) := own_cellS HO24.out _ (by rfl)
  clear ho4 hb4
  go_wp2_with fail
  go_returns
  exact ⟨rfl, HB4.out⟩
end Go.Proofs.YtkphecmdilefgaaDoor.Sg
