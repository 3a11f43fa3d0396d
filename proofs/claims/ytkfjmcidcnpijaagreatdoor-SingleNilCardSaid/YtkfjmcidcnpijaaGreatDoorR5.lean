/- Walk: (*reader).rune. -/
import Derived.Test.YtkfjmcidcnpijaaGreatDoorR4
namespace Go.Proofs.YtkfjmcidcnpijaaGreatDoor.Mf
open Go.RowKit

section
variable {ops : Array Oper} {rest : List Oper} {oo : Oper} {a : Act} {Q : Exit → Act → World → Prop}
theorem wpList_runeN (w : World) (hgd : oo.guard = none) (s x : Operand) (ho : oo.op = .call { callee := .builtin .append, args := #[s, x], argTypes := #[72, 72] })
    (B : Nat) (v : Value) (l : List Int) (hs : a.eval s = v) (hst : w.ownsRow B RuneT 1 v l.length (i32s l)) (hB : B ≤ w.heap.size) (r : Int)
    (N c : Nat) (hN : w.heap.size = N) (hx : a.eval x = .slice (some ⟨N, 0, none⟩) 1 c) (hsm : l.length ≤ 1048576)
    (h : ∀ v' w', w'.ownsRow B RuneT 1 v' (l ++ [r]).length (i32s (l ++ [r])) → Below B w w' → (∀ g t cs, t ≠ RuneT → Blk w g t cs → Blk w' g t cs) → wpList Tryz.prog ops Q rest (a.put oo.dst v') w') : wpList Tryz.prog ops Q (oo :: rest) a (w.alloc (.cells #[.int .i32 r] RuneT)) := by
  subst hN
  exact wpList_rune w hgd s x ho B v l hs hst hB r c hx hsm h
end
set_option maxRecDepth 100000 in
set_option maxHeartbeats 3200000 in
theorem rune_any (B b : Nat) (x : RS) (hx : x.s.length ≤ 1048576) (hc : x.t.length ≤ 1048000) (w : World) (h : RdAt B w b x) (hB : B ≤ w.heap.size) :
    Calls Tryz.prog 58 #[.pointer (some ⟨b, 0, none⟩)] w fun e w' => e = .returned (.tuple #[]) ∧ RdAt B w' b x.rune ∧ Below B w w' := by
  obtain ⟨D, hD⟩ : ∃ D, digs 7 x.s = D := ⟨_, rfl⟩
  have hdl : D.length ≤ 7 := hD ▸ digs_len 7 x.s
  have hdg := digits_any B b x hx 7 (by decide) w h hB
  have hhx := fun w => hex_any ⟨D.toArray⟩ (by show D.toArray.size ≤ 7; simp; omega) w
  have hp := hexP_digs 7 x.s
  rw [hD] at hp hdg
  change ∀ w, Calls _ _ _ w fun e w' => e = .returned (.tuple #[.int .i64 (hexP D).1, .bool (hexP D).2]) ∧ _ at hhx
  have v2 := rune_val D hdl
  have hrune : x.rune = ⟨x.s.drop D.length, x.ok && (!D.isEmpty && (decide ((4 : Int) ≤ (D.length : Int)) && decide ((D.length : Int) ≤ 6))), x.c, x.t ++ [(numOf D : Int)], x.f⟩ := by
    unfold RS.rune
    rw [hD]
    congr 2
    by_cases h2 : 4 ≤ D.length ∧ D.length ≤ 6
    · have : D.isEmpty = false := by rw [List.isEmpty_eq_false_iff]; intro h0; rw [h0] at h2; simp at h2
      rw [this, decide_eq_true h2, decide_eq_true (show (4 : Int) ≤ (D.length : Int) by omega), decide_eq_true (show (D.length : Int) ≤ 6 by omega)]
      rfl
    · rw [decide_eq_false h2]
      by_cases h3 : (4 : Int) ≤ (D.length : Int)
      · rw [decide_eq_false (show ¬ (D.length : Int) ≤ 6 by omega)]; simp
      · rw [decide_eq_false h3]; simp
  rw [hrune]
  obtain ⟨K, hK⟩ : ∃ K, (x.ok && (!D.isEmpty && (decide ((4 : Int) ≤ (D.length : Int)) && decide ((D.length : Int) ≤ 6)))) = K := ⟨_, rfl⟩
  rw [hK]
  have hp1 : (hexP D).1 = (numOf D : Int) := by rw [hp]
  have hp2 : (hexP D).2 = !D.isEmpty := by rw [hp]
  rw [hp1, hp2] at hhx
  obtain ⟨r, hr⟩ : ∃ r : Int, (numOf D : Int) = r := ⟨_, rfl⟩
  rw [hr] at v2 hhx ⊢
  obtain ⟨E, hE⟩ : ∃ E, (!D.isEmpty) = E := ⟨_, rfl⟩
  obtain ⟨F, hF⟩ : ∃ F, decide ((4 : Int) ≤ (D.length : Int)) = F := ⟨_, rfl⟩
  obtain ⟨G, hG⟩ : ∃ G, decide ((D.length : Int) ≤ 6) = G := ⟨_, rfl⟩
  rw [hE] at hhx
  rw [hE, hF, hG] at hK
  have HB := Lib.hid h.le
  have HDG := Lib.hid hdg
  have HHX := Lib.hid hhx
  have HK := Lib.hid hK
  have HC := Lib.hid hc
  clear hD hdg hhx hp hp1 hp2 hrune hr hE hK h hc
  go_enter Tryz.func58, Tryz.ntmps58
  go_wp2_with fail
  refine HDG.out.mono ?_
  rintro _ w1 ⟨rfl, h1, hb1⟩
  go_wp2_with fail
  refine (HHX.out w1).mono ?_
  rintro _ w2 ⟨rfl, hb2⟩
  have h2 := h1.keep hb2
  have c1 : w2.cell? ⟨b, 1, none⟩ = some (.bool x.ok) := h2.c1
  have f1 := h2.fz 1
  have HB2 := Lib.hid (hb1.trans (hb2.mono (Nat.le_trans hB hb1.size)))
  have h3 := h2.set1 K
  have HS3 : Hid (w2.heap.size = (w2.setCell ⟨b, 1, none⟩ (.bool K)).heap.size) := Lib.hid (by simp)
  have HB3 := Lib.hid (below_set HB2.out b 1 (.bool K) HB.out)
  obtain ⟨vc, vt, hk, hoc, hot, hle⟩ := h3
  have c2 : (w2.setCell ⟨b, 1, none⟩ (.bool K)).cell? ⟨b, 3, none⟩ = some vt := by rw [hk.cell]; rfl
  rw [World.cell?_setCell_other (w := w2) (a := ⟨b, 1, none⟩) (b := ⟨b, 3, none⟩) (v := .bool K) (by simp)] at c2
  have HK3 := Lib.hid hk
  have HOC := Lib.hid hoc
  have HOT := Lib.hid hot
  obtain ⟨Ac, cc, rfl⟩ := own_shapeN hot
  clear h1 hb1 hb2 h2 hk hoc hot
  have hBs : B ≤ (w2.setCell ⟨b, 1, none⟩ (.bool K)).heap.size := Nat.le_trans hB HB3.out.size
  have HBS := Lib.hid hBs
  have HLN : Hid ((x.t ++ [r]).length = x.t.length + 1) := Lib.hid (by simp)
  clear hBs
  cases hok : x.ok <;> cases E <;> cases F <;> cases G <;> cases K <;> first | (have hkk := HK.out; rw [hok] at hkk; cases hkk; done) | (
    rw [hok] at c1
    clear HK
    go_wp2_with (at_builtin; go_loud (refine wpList_runeN (w2.setCell ⟨b, 1, none⟩ _) rfl _ _ rfl B (.slice Ac x.t.length cc) x.t rfl HOT.out HBS.out r _ _ (by simp) rfl (Nat.le_trans HC.out (by decide)) ?_); intro v' w4 ho4 hb4 hk4; have hkk := hk4 b ReaderT _ (by decide) HK3.out; have f4 := Blk.frz hkk 3; have g4 : w4.cell? ⟨b, 3, none⟩ = some (.slice Ac x.t.length cc) := (by rw [hkk.cell]; rfl); have HRD := Lib.hid (rd_put3 (xs := ⟨x.s.drop D.length, _, x.c, x.t ++ [r], x.f⟩) hkk rfl rfl rfl (own_via HOC.out (fun g cs h => hk4 g ByteT cs (by decide) h)) ho4 HB.out); have HBB := Lib.hid (below_set (HB3.out.trans hb4) b 3 v' HB.out); obtain ⟨A4, c4, rfl⟩ := own_shapeN ho4; rw [HLN.out] at HRD HBB ⊢; clear ho4 hb4 hk4 hkk)
    go_returns
    exact ⟨rfl, HRD.out, HBB.out⟩)
end Go.Proofs.YtkfjmcidcnpijaaGreatDoor.Mf
