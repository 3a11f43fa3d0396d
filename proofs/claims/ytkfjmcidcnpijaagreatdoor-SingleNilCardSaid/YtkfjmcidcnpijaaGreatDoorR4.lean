/- Walks: (*reader).byte, rune. -/
import Derived.Test.YtkfjmcidcnpijaaGreatDoorRA
namespace Go.Proofs.YtkfjmcidcnpijaaGreatDoor.Mf
open Go.RowKit

theorem own_via {w w' : World} {B e sz n : Nat} {v : Value} {xs : List Value} (h : w.ownsRow B e sz v n xs) (hk : ∀ g cs, Blk w g e cs → Blk w' g e cs) : w'.ownsRow B e sz v n xs := by
  refine ⟨h.1, ?_⟩
  rcases h.2 with h1 | ⟨g, cap, cur, e1, hg, hh, h4⟩
  · exact .inl h1
  · exact .inr ⟨g, cap, cur, e1, hg, hk g cur hh, h4⟩
theorem infoByte : (Tryz.prog.info? ByteT).map (fun i => (i.zero, i.size, i.bytes)) = some (some (.int .u8 0), 1, 1) := by kernel_rfl
section
variable {ops : Array Oper} {rest : List Oper} {oo : Oper} {a : Act} {Q : Exit → Act → World → Prop}
/-- 'code = append(code, c)'. -/
theorem wpList_byte (w : World) (hgd : oo.guard = none) (s x : Operand) (ho : oo.op = .call { callee := .builtin .append, args := #[s, x], argTypes := #[35, 35] })
    (B : Nat) (v : Value) (l : List UInt8) (hs : a.eval s = v) (hst : w.ownsRow B ByteT 1 v l.length (u8s l)) (hB : B ≤ w.heap.size) (r : UInt8)
    (N c : Nat) (hN : w.heap.size = N) (hx : a.eval x = .slice (some ⟨N, 0, none⟩) 1 c) (hsm : l.length ≤ 1048576)
    (h : ∀ v' w', w'.ownsRow B ByteT 1 v' (l ++ [r]).length (u8s (l ++ [r])) → Below B w w' → (∀ g t cs, t ≠ ByteT → Blk w g t cs → Blk w' g t cs) → wpList Tryz.prog ops Q rest (a.put oo.dst v') w') : wpList Tryz.prog ops Q (oo :: rest) a (w.alloc (.cells #[.int .u8 (r.toNat : Int)] ByteT)) := by
  subst hN
  obtain ⟨i0, hi, hz0, hz1, hz2⟩ := info_parts infoByte
  have hown' := hst.alloc (.cells #[.int .u8 (r.toNat : Int)] ByteT)
  refine wpList_append_own _ hgd s x 35 ho B ByteT i0 (.int .u8 0) 1 1 Tryz.underlying35 hi hz0 hz1 hz2 rfl (by decide) v l.length (u8s l) hs hown' ⟨w.heap.size, 0, none⟩ 1 c [.int .u8 (r.toNat : Int)] hx rfl ?_ ?_ ?_ ?_ ?_ ?_
  · intro j u hj
    match j, hj with
    | 0, hj => simp at hj; subst hj; simp [Addr.add]
  · intro u hu; simp at hu; subst hu; rfl
  · unfold maxLen; omega
  · omega
  · simp; omega
  · intro v' w1 hown1 hgrow _
    refine h v' w1 ?_ (((Below.refl B w).alloc hB _).grown hgrow (by simp; omega) (fun k hk => (hst.lt k hk).1)) ?_
    · rw [u8s_append, List.length_append]
      exact hown1
    · intro g t cs ht hk
      have hk' := hk.alloc (.cells #[.int .u8 (r.toNat : Int)] ByteT)
      exact (hgrow.block g hk'.lt (fun he => own_blk_ne hown' hk' ht he.symm)).trans hk'
end
theorem rd_put2 {B b : Nat} {W : World} {cs ct f so ok : Value} {xs : RS} {v : Value} (hk : Blk W b ReaderT #[so, ok, cs, ct, f]) (hso : so = .string ⟨xs.s.toArray⟩) (hok : ok = .bool xs.ok) (hf : f = .int .i64 xs.f)
    (hv : W.ownsRow B ByteT 1 v xs.c.length (u8s xs.c)) (ht : W.ownsRow B RuneT 1 ct xs.t.length (i32s xs.t)) (hB : B ≤ b) : RdAt B (W.setCell ⟨b, 2, none⟩ v) b xs := by
  subst hso; subst hok; subst hf
  exact ⟨v, ct, Blk.set hk 2 _, own_set hv hk (by decide), own_set ht hk (by decide), hB⟩
theorem rd_put3 {B b : Nat} {W : World} {cs ct f so ok : Value} {xs : RS} {v : Value} (hk : Blk W b ReaderT #[so, ok, cs, ct, f]) (hso : so = .string ⟨xs.s.toArray⟩) (hok : ok = .bool xs.ok) (hf : f = .int .i64 xs.f)
    (hv : W.ownsRow B ByteT 1 cs xs.c.length (u8s xs.c)) (ht : W.ownsRow B RuneT 1 v xs.t.length (i32s xs.t)) (hB : B ≤ b) : RdAt B (W.setCell ⟨b, 3, none⟩ v) b xs := by
  subst hso; subst hok; subst hf
  exact ⟨cs, v, Blk.set hk 3 _, own_set hv hk (by decide), own_set ht hk (by decide), hB⟩
theorem byte_val (d : List UInt8) (h : d.length ≤ 2) : ((UInt8.ofNat (numOf d)).toNat : Int) = numOf d ∧ IntKind.u8.wrap (numOf d : Int) = numOf d := by
  have h1 := numOf_lt d
  have h2 : 16 ^ d.length ≤ 16 ^ 2 := Nat.pow_le_pow_right (by decide) h
  have h3 : numOf d < 256 := by omega
  refine ⟨?_, ?_⟩
  · rw [UInt8.toNat_ofNat']; omega
  · rw [IntKind.wrap_u8]; omega
theorem rune_val (d : List UInt8) (h : d.length ≤ 7) : IntKind.i32.wrap (numOf d : Int) = numOf d := by
  have h1 := numOf_7 d h
  rw [IntKind.wrap_i32]; omega
set_option maxRecDepth 100000 in
set_option maxHeartbeats 3200000 in
theorem byte_any (B b : Nat) (x : RS) (hx : x.s.length ≤ 1048576) (hc : x.c.length ≤ 1048000) (w : World) (h : RdAt B w b x) (hB : B ≤ w.heap.size) :
    Calls Tryz.prog 55 #[.pointer (some ⟨b, 0, none⟩)] w fun e w' => e = .returned (.tuple #[]) ∧ RdAt B w' b x.byte ∧ Below B w w' := by
  obtain ⟨D, hD⟩ : ∃ D, digs 2 x.s = D := ⟨_, rfl⟩
  have hdl : D.length ≤ 2 := hD ▸ digs_len 2 x.s
  have hdg := digits_any B b x hx 2 (by decide) w h hB
  have hhx := fun w => hex_any ⟨D.toArray⟩ (by show D.toArray.size ≤ 7; simp; omega) w
  have hp := hexP_digs 2 x.s
  rw [hD] at hp hdg
  change ∀ w, Calls _ _ _ w fun e w' => e = .returned (.tuple #[.int .i64 (hexP D).1, .bool (hexP D).2]) ∧ _ at hhx
  obtain ⟨v1, v2⟩ := byte_val D hdl
  have hbyte : x.byte = ⟨x.s.drop D.length, x.ok && (!D.isEmpty && ((D.length : Int) == 2)), x.c ++ [UInt8.ofNat (numOf D)], x.t, x.f⟩ := by
    unfold RS.byte
    rw [hD]
    congr 2
    by_cases h2 : D.length = 2
    · have : D.isEmpty = false := by rw [List.isEmpty_eq_false_iff]; intro h0; rw [h0] at h2; cases h2
      simp [h2, this]
    · have : ((D.length : Int) == 2) = false := by rw [beq_eq_false_iff_ne]; omega
      rw [this, Bool.and_false]
      exact decide_eq_false h2
  rw [hbyte]
  obtain ⟨K, hK⟩ : ∃ K, (x.ok && (!D.isEmpty && ((D.length : Int) == 2))) = K := ⟨_, rfl⟩
  rw [hK]
  obtain ⟨r, hr⟩ : ∃ r, UInt8.ofNat (numOf D) = r := ⟨_, rfl⟩
  rw [hr] at v1 ⊢
  rw [← v1] at v2
  have hp1 : (hexP D).1 = (r.toNat : Int) := by rw [hp, v1]
  have hp2 : (hexP D).2 = !D.isEmpty := by rw [hp]
  rw [hp1, hp2] at hhx
  obtain ⟨E, hE⟩ : ∃ E, (!D.isEmpty) = E := ⟨_, rfl⟩
  obtain ⟨F, hF⟩ : ∃ F, ((D.length : Int) == 2) = F := ⟨_, rfl⟩
  rw [hE] at hhx
  rw [hE, hF] at hK
  have HB := Lib.hid h.le
  have HDG := Lib.hid hdg
  have HHX := Lib.hid hhx
  have HK := Lib.hid hK
  have HC := Lib.hid hc
  clear hD hdg hhx hp hp1 hp2 hbyte hr hE hK h v1 hc
  go_enter Tryz.func55, Tryz.ntmps55
  go_wp2_with fail
  refine HDG.out.mono ?_
  rintro _ w1 ⟨rfl, h1, hb1⟩
  go_wp2_with fail
  refine (HHX.out w1).mono ?_
  rintro _ w2 ⟨rfl, hb2⟩
  have h2 := h1.keep hb2
  have c1 : w2.cell? ⟨b, 1, none⟩ = some (.bool x.ok) := h2.c1
  have f1 := h2.fz 1
  have HB2 := Lib.hid (hb1.trans (hb2.mono (Nat.le_trans hB hb1.size)))
  have h3 := h2.set1 K
  have HS3 : Hid (w2.heap.size = (w2.setCell ⟨b, 1, none⟩ (.bool K)).heap.size) := Lib.hid (by simp)
  have HB3 := Lib.hid (below_set HB2.out b 1 (.bool K) HB.out)
  obtain ⟨vc, vt, hk, hoc, hot, hle⟩ := h3
  have c2 : (w2.setCell ⟨b, 1, none⟩ (.bool K)).cell? ⟨b, 2, none⟩ = some vc := by rw [hk.cell]; rfl
  rw [World.cell?_setCell_other (w := w2) (a := ⟨b, 1, none⟩) (b := ⟨b, 2, none⟩) (v := .bool K) (by simp)] at c2
  have HK3 := Lib.hid hk
  have HOC := Lib.hid hoc
  have HOT := Lib.hid hot
  obtain ⟨Ac, cc, rfl⟩ := own_shapeN hoc
  clear h1 hb1 hb2 h2 hk hoc hot
  have hBs : B ≤ (w2.setCell ⟨b, 1, none⟩ (.bool K)).heap.size := Nat.le_trans hB HB3.out.size
  have HBS := Lib.hid hBs
  have HLN : Hid ((x.c ++ [r]).length = x.c.length + 1) := Lib.hid (by simp)
  clear hBs
  cases hok : x.ok <;> cases E <;> cases F <;> cases K <;> first | (have hkk := HK.out; rw [hok] at hkk; cases hkk; done) | (
    rw [hok] at c1
    clear HK
    go_wp2_with (at_builtin; go_loud (refine wpList_byte (w2.setCell ⟨b, 1, none⟩ _) rfl _ _ rfl B (.slice Ac x.c.length cc) x.c rfl HOC.out HBS.out r _ _ (by simp) rfl (Nat.le_trans HC.out (by decide)) ?_); intro v' w4 ho4 hb4 hk4; have hkk := hk4 b ReaderT _ (by decide) HK3.out; have f4 := Blk.frz hkk 2; have g4 : w4.cell? ⟨b, 2, none⟩ = some (.slice Ac x.c.length cc) := (by rw [hkk.cell]; rfl); have HRD := Lib.hid (rd_put2 (xs := ⟨x.s.drop D.length, _, x.c ++ [r], x.t, x.f⟩) hkk rfl rfl rfl ho4 (own_via HOT.out (fun g cs h => hk4 g RuneT cs (by decide) h)) HB.out); have HBB := Lib.hid (below_set (HB3.out.trans hb4) b 2 v' HB.out); obtain ⟨A4, c4, rfl⟩ := own_shapeN ho4; rw [HLN.out] at HRD HBB ⊢; clear ho4 hb4 hk4 hkk)
    go_returns
    exact ⟨rfl, HRD.out, HBB.out⟩)
end Go.Proofs.YtkfjmcidcnpijaaGreatDoor.Mf
