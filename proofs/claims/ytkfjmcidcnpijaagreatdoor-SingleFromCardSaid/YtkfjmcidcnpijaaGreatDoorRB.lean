/- Joined of: R4, R5, R6, R7, R8. -/
import Derived.Test.YtkfjmcidcnpijaaGreatDoorRA
import Derived.Test.YtkfjmcidcnpijaaGreatDoorKM
import Derived.Deep.CutRange
import Derived.Deep.DeepCutAuto
import Derived.Deep.CutBlock
import Derived.Lib.AtoiErrMem
import Derived.Shelf.Strconv.Atoi
/- Walks: (*reader).byte, rune. -/
namespace Go.Proofs.YtkfjmcidcnpijaaGreatDoor.Mf
open Go.RowKit

theorem own_via {w w' : World} {B e sz n : Nat} {v : Value} {xs : List Value} (h : w.ownsRow B e sz v n xs) (hk : ∀ g cs, Blk w g e cs → Blk w' g e cs) : w'.ownsRow B e sz v n xs := by
  refine ⟨h.1, ?_⟩
  rcases h.2 with h1 | ⟨g, cap, cur, e1, hg, hh, h4⟩
  · exact .inl h1
  · exact .inr ⟨g, cap, cur, e1, hg, hk g cur hh, h4⟩
theorem infoByte : (Tryz.prog.info? ByteT).map (fun i => (i.zero, i.size, i.bytes)) = some (some (.int .u8 0), 1, 1) := by kernel_rfl
section
variable {ops : Array Oper} {rest : List Oper} {oo : Oper} {a : Act} {Q : Exit → Act → World → Prop}
/-- 'code = append(code, c)'. -/
theorem wpList_byte (w : World) (hgd : oo.guard = none) (s x : Operand) (ho : oo.op = .call { callee := .builtin .append, args := #[s, x], argTypes := #[35, 35] })
    (B : Nat) (v : Value) (l : List UInt8) (hs : a.eval s = v) (hst : w.ownsRow B ByteT 1 v l.length (u8s l)) (hB : B ≤ w.heap.size) (r : UInt8)
    (N c : Nat) (hN : w.heap.size = N) (hx : a.eval x = .slice (some ⟨N, 0, none⟩) 1 c) (hsm : l.length ≤ 1048576)
    (h : ∀ v' w', w'.ownsRow B ByteT 1 v' (l ++ [r]).length (u8s (l ++ [r])) → Below B w w' → (∀ g t cs, t ≠ ByteT → Blk w g t cs → Blk w' g t cs) → wpList Tryz.prog ops Q rest (a.put oo.dst v') w') : wpList Tryz.prog ops Q (oo :: rest) a (w.alloc (.cells #[.int .u8 (r.toNat : Int)] ByteT)) := by
  subst hN
  obtain ⟨i0, hi, hz0, hz1, hz2⟩ := info_parts infoByte
  have hown' := hst.alloc (.cells #[.int .u8 (r.toNat : Int)] ByteT)
  refine wpList_append_own _ hgd s x 35 ho B ByteT i0 (.int .u8 0) 1 1 Tryz.underlying35 hi hz0 hz1 hz2 rfl (by decide) v l.length (u8s l) hs hown' ⟨w.heap.size, 0, none⟩ 1 c [.int .u8 (r.toNat : Int)] hx rfl ?_ ?_ ?_ ?_ ?_ ?_
  · intro j u hj
    match j, hj with
    | 0, hj => simp at hj; subst hj; simp [Addr.add]
  · intro u hu; simp at hu; subst hu; rfl
  · unfold maxLen; omega
  · omega
  · simp; omega
  · intro v' w1 hown1 hgrow _
    refine h v' w1 ?_ (((Below.refl B w).alloc hB _).grown hgrow (by simp; omega) (fun k hk => (hst.lt k hk).1)) ?_
    · rw [u8s_append, List.length_append]
      exact hown1
    · intro g t cs ht hk
      have hk' := hk.alloc (.cells #[.int .u8 (r.toNat : Int)] ByteT)
      exact (hgrow.block g hk'.lt (fun he => own_blk_ne hown' hk' ht he.symm)).trans hk'
end
theorem rd_put2 {B b : Nat} {W : World} {cs ct f so ok : Value} {xs : RS} {v : Value} (hk : Blk W b ReaderT #[so, ok, cs, ct, f]) (hso : so = .string ⟨xs.s.toArray⟩) (hok : ok = .bool xs.ok) (hf : f = .int .i64 xs.f)
    (hv : W.ownsRow B ByteT 1 v xs.c.length (u8s xs.c)) (ht : W.ownsRow B RuneT 1 ct xs.t.length (i32s xs.t)) (hB : B ≤ b) : RdAt B (W.setCell ⟨b, 2, none⟩ v) b xs := by
  subst hso; subst hok; subst hf
  exact ⟨v, ct, Blk.set hk 2 _, own_set hv hk (by decide), own_set ht hk (by decide), hB⟩
theorem rd_put3 {B b : Nat} {W : World} {cs ct f so ok : Value} {xs : RS} {v : Value} (hk : Blk W b ReaderT #[so, ok, cs, ct, f]) (hso : so = .string ⟨xs.s.toArray⟩) (hok : ok = .bool xs.ok) (hf : f = .int .i64 xs.f)
    (hv : W.ownsRow B ByteT 1 cs xs.c.length (u8s xs.c)) (ht : W.ownsRow B RuneT 1 v xs.t.length (i32s xs.t)) (hB : B ≤ b) : RdAt B (W.setCell ⟨b, 3, none⟩ v) b xs := by
  subst hso; subst hok; subst hf
  exact ⟨cs, v, Blk.set hk 3 _, own_set hv hk (by decide), own_set ht hk (by decide), hB⟩
theorem byte_val (d : List UInt8) (h : d.length ≤ 2) : ((UInt8.ofNat (numOf d)).toNat : Int) = numOf d ∧ IntKind.u8.wrap (numOf d : Int) = numOf d := by
  have h1 := numOf_lt d
  have h2 : 16 ^ d.length ≤ 16 ^ 2 := Nat.pow_le_pow_right (by decide) h
  have h3 : numOf d < 256 := by omega
  refine ⟨?_, ?_⟩
  · rw [UInt8.toNat_ofNat']; omega
  · rw [IntKind.wrap_u8]; omega
theorem rune_val (d : List UInt8) (h : d.length ≤ 7) : IntKind.i32.wrap (numOf d : Int) = numOf d := by
  have h1 := numOf_7 d h
  rw [IntKind.wrap_i32]; omega
set_option maxRecDepth 100000 in
set_option maxHeartbeats 3200000 in
theorem byte_any (B b : Nat) (x : RS) (hx : x.s.length ≤ 1048576) (hc : x.c.length ≤ 1048000) (w : World) (h : RdAt B w b x) (hB : B ≤ w.heap.size) :
    Calls Tryz.prog 55 #[.pointer (some ⟨b, 0, none⟩)] w fun e w' => e = .returned (.tuple #[]) ∧ RdAt B w' b x.byte ∧ Below B w w' := by
  obtain ⟨D, hD⟩ : ∃ D, digs 2 x.s = D := ⟨_, rfl⟩
  have hdl : D.length ≤ 2 := hD ▸ digs_len 2 x.s
  have hdg := digits_any B b x hx 2 (by decide) w h hB
  have hhx := fun w => hex_any ⟨D.toArray⟩ (by show D.toArray.size ≤ 7; simp; omega) w
  have hp := hexP_digs 2 x.s
  rw [hD] at hp hdg
  change ∀ w, Calls _ _ _ w fun e w' => e = .returned (.tuple #[.int .i64 (hexP D).1, .bool (hexP D).2]) ∧ _ at hhx
  obtain ⟨v1, v2⟩ := byte_val D hdl
  have hbyte : x.byte = ⟨x.s.drop D.length, x.ok && (!D.isEmpty && ((D.length : Int) == 2)), x.c ++ [UInt8.ofNat (numOf D)], x.t, x.f⟩ := by
    unfold RS.byte
    rw [hD]
    congr 2
    by_cases h2 : D.length = 2
    · have : D.isEmpty = false := by rw [List.isEmpty_eq_false_iff]; intro h0; rw [h0] at h2; cases h2
      simp [h2, this]
    · have : ((D.length : Int) == 2) = false := by rw [beq_eq_false_iff_ne]; omega
      rw [this, Bool.and_false]
      exact decide_eq_false h2
  rw [hbyte]
  obtain ⟨K, hK⟩ : ∃ K, (x.ok && (!D.isEmpty && ((D.length : Int) == 2))) = K := ⟨_, rfl⟩
  rw [hK]
  obtain ⟨r, hr⟩ : ∃ r, UInt8.ofNat (numOf D) = r := ⟨_, rfl⟩
  rw [hr] at v1 ⊢
  rw [← v1] at v2
  have hp1 : (hexP D).1 = (r.toNat : Int) := by rw [hp, v1]
  have hp2 : (hexP D).2 = !D.isEmpty := by rw [hp]
  rw [hp1, hp2] at hhx
  obtain ⟨E, hE⟩ : ∃ E, (!D.isEmpty) = E := ⟨_, rfl⟩
  obtain ⟨F, hF⟩ : ∃ F, ((D.length : Int) == 2) = F := ⟨_, rfl⟩
  rw [hE] at hhx
  rw [hE, hF] at hK
  have HB := Lib.hid h.le
  have HDG := Lib.hid hdg
  have HHX := Lib.hid hhx
  have HK := Lib.hid hK
  have HC := Lib.hid hc
  clear hD hdg hhx hp hp1 hp2 hbyte hr hE hK h v1 hc
  go_enter Tryz.func55, Tryz.ntmps55
  go_wp2_with fail
  refine HDG.out.mono ?_
  rintro _ w1 ⟨rfl, h1, hb1⟩
  go_wp2_with fail
  refine (HHX.out w1).mono ?_
  rintro _ w2 ⟨rfl, hb2⟩
  have h2 := h1.keep hb2
  have c1 : w2.cell? ⟨b, 1, none⟩ = some (.bool x.ok) := h2.c1
  have f1 := h2.fz 1
  have HB2 := Lib.hid (hb1.trans (hb2.mono (Nat.le_trans hB hb1.size)))
  have h3 := h2.set1 K
  have HS3 : Hid (w2.heap.size = (w2.setCell ⟨b, 1, none⟩ (.bool K)).heap.size) := Lib.hid (by simp)
  have HB3 := Lib.hid (below_set HB2.out b 1 (.bool K) HB.out)
  obtain ⟨vc, vt, hk, hoc, hot, hle⟩ := h3
  have c2 : (w2.setCell ⟨b, 1, none⟩ (.bool K)).cell? ⟨b, 2, none⟩ = some vc := by rw [hk.cell]; rfl
  rw [World.cell?_setCell_other (w := w2) (a := ⟨b, 1, none⟩) (b := ⟨b, 2, none⟩) (v := .bool K) (by simp)] at c2
  have HK3 := Lib.hid hk
  have HOC := Lib.hid hoc
  have HOT := Lib.hid hot
  obtain ⟨Ac, cc, rfl⟩ := own_shapeN hoc
  clear h1 hb1 hb2 h2 hk hoc hot
  have hBs : B ≤ (w2.setCell ⟨b, 1, none⟩ (.bool K)).heap.size := Nat.le_trans hB HB3.out.size
  have HBS := Lib.hid hBs
  have HLN : Hid ((x.c ++ [r]).length = x.c.length + 1) := Lib.hid (by simp)
  clear hBs
  cases hok : x.ok <;> cases E <;> cases F <;> cases K <;> first | (have hkk := HK.out; rw [hok] at hkk; cases hkk; done) | (
    rw [hok] at c1
    clear HK
    go_wp2_with (at_builtin; go_loud (refine wpList_byte (w2.setCell ⟨b, 1, none⟩ _) rfl _ _ rfl B (.slice Ac x.c.length cc) x.c rfl HOC.out HBS.out r _ _ (by simp) rfl (Nat.le_trans HC.out (by decide)) ?_); intro v' w4 ho4 hb4 hk4; have hkk := hk4 b ReaderT _ (by decide) HK3.out; have f4 := Blk.frz hkk 2; have g4 : w4.cell? ⟨b, 2, none⟩ = some (.slice Ac x.c.length cc) := (by rw [hkk.cell]; rfl); have HRD := Lib.hid (rd_put2 (xs := ⟨x.s.drop D.length, _, x.c ++ [r], x.t, x.f⟩) hkk rfl rfl rfl ho4 (own_via HOT.out (fun g cs h => hk4 g RuneT cs (by decide) h)) HB.out); have HBB := Lib.hid (below_set (HB3.out.trans hb4) b 2 v' HB.out); obtain ⟨A4, c4, rfl⟩ := own_shapeN ho4; rw [HLN.out] at HRD HBB ⊢; clear ho4 hb4 hk4 hkk)
    go_returns
    exact ⟨rfl, HRD.out, HBB.out⟩)
end Go.Proofs.YtkfjmcidcnpijaaGreatDoor.Mf
/- Walk: (*reader).rune. -/
namespace Go.Proofs.YtkfjmcidcnpijaaGreatDoor.Mf
open Go.RowKit

section
variable {ops : Array Oper} {rest : List Oper} {oo : Oper} {a : Act} {Q : Exit → Act → World → Prop}
theorem wpList_runeN (w : World) (hgd : oo.guard = none) (s x : Operand) (ho : oo.op = .call { callee := .builtin .append, args := #[s, x], argTypes := #[72, 72] })
    (B : Nat) (v : Value) (l : List Int) (hs : a.eval s = v) (hst : w.ownsRow B RuneT 1 v l.length (i32s l)) (hB : B ≤ w.heap.size) (r : Int)
    (N c : Nat) (hN : w.heap.size = N) (hx : a.eval x = .slice (some ⟨N, 0, none⟩) 1 c) (hsm : l.length ≤ 1048576)
    (h : ∀ v' w', w'.ownsRow B RuneT 1 v' (l ++ [r]).length (i32s (l ++ [r])) → Below B w w' → (∀ g t cs, t ≠ RuneT → Blk w g t cs → Blk w' g t cs) → wpList Tryz.prog ops Q rest (a.put oo.dst v') w') : wpList Tryz.prog ops Q (oo :: rest) a (w.alloc (.cells #[.int .i32 r] RuneT)) := by
  subst hN
  exact wpList_rune w hgd s x ho B v l hs hst hB r c hx hsm h
end
set_option maxRecDepth 100000 in
set_option maxHeartbeats 3200000 in
theorem rune_any (B b : Nat) (x : RS) (hx : x.s.length ≤ 1048576) (hc : x.t.length ≤ 1048000) (w : World) (h : RdAt B w b x) (hB : B ≤ w.heap.size) :
    Calls Tryz.prog 58 #[.pointer (some ⟨b, 0, none⟩)] w fun e w' => e = .returned (.tuple #[]) ∧ RdAt B w' b x.rune ∧ Below B w w' := by
  obtain ⟨D, hD⟩ : ∃ D, digs 7 x.s = D := ⟨_, rfl⟩
  have hdl : D.length ≤ 7 := hD ▸ digs_len 7 x.s
  have hdg := digits_any B b x hx 7 (by decide) w h hB
  have hhx := fun w => hex_any ⟨D.toArray⟩ (by show D.toArray.size ≤ 7; simp; omega) w
  have hp := hexP_digs 7 x.s
  rw [hD] at hp hdg
  change ∀ w, Calls _ _ _ w fun e w' => e = .returned (.tuple #[.int .i64 (hexP D).1, .bool (hexP D).2]) ∧ _ at hhx
  have v2 := rune_val D hdl
  have hrune : x.rune = ⟨x.s.drop D.length, x.ok && (!D.isEmpty && (decide ((4 : Int) ≤ (D.length : Int)) && decide ((D.length : Int) ≤ 6))), x.c, x.t ++ [(numOf D : Int)], x.f⟩ := by
    unfold RS.rune
    rw [hD]
    congr 2
    by_cases h2 : 4 ≤ D.length ∧ D.length ≤ 6
    · have : D.isEmpty = false := by rw [List.isEmpty_eq_false_iff]; intro h0; rw [h0] at h2; simp at h2
      rw [this, decide_eq_true h2, decide_eq_true (show (4 : Int) ≤ (D.length : Int) by omega), decide_eq_true (show (D.length : Int) ≤ 6 by omega)]
      rfl
    · rw [decide_eq_false h2]
      by_cases h3 : (4 : Int) ≤ (D.length : Int)
      · rw [decide_eq_false (show ¬ (D.length : Int) ≤ 6 by omega)]; simp
      · rw [decide_eq_false h3]; simp
  rw [hrune]
  obtain ⟨K, hK⟩ : ∃ K, (x.ok && (!D.isEmpty && (decide ((4 : Int) ≤ (D.length : Int)) && decide ((D.length : Int) ≤ 6)))) = K := ⟨_, rfl⟩
  rw [hK]
  have hp1 : (hexP D).1 = (numOf D : Int) := by rw [hp]
  have hp2 : (hexP D).2 = !D.isEmpty := by rw [hp]
  rw [hp1, hp2] at hhx
  obtain ⟨r, hr⟩ : ∃ r : Int, (numOf D : Int) = r := ⟨_, rfl⟩
  rw [hr] at v2 hhx ⊢
  obtain ⟨E, hE⟩ : ∃ E, (!D.isEmpty) = E := ⟨_, rfl⟩
  obtain ⟨F, hF⟩ : ∃ F, decide ((4 : Int) ≤ (D.length : Int)) = F := ⟨_, rfl⟩
  obtain ⟨G, hG⟩ : ∃ G, decide ((D.length : Int) ≤ 6) = G := ⟨_, rfl⟩
  rw [hE] at hhx
  rw [hE, hF, hG] at hK
  have HB := Lib.hid h.le
  have HDG := Lib.hid hdg
  have HHX := Lib.hid hhx
  have HK := Lib.hid hK
  have HC := Lib.hid hc
  clear hD hdg hhx hp hp1 hp2 hrune hr hE hK h hc
  go_enter Tryz.func58, Tryz.ntmps58
  go_wp2_with fail
  refine HDG.out.mono ?_
  rintro _ w1 ⟨rfl, h1, hb1⟩
  go_wp2_with fail
  refine (HHX.out w1).mono ?_
  rintro _ w2 ⟨rfl, hb2⟩
  have h2 := h1.keep hb2
  have c1 : w2.cell? ⟨b, 1, none⟩ = some (.bool x.ok) := h2.c1
  have f1 := h2.fz 1
  have HB2 := Lib.hid (hb1.trans (hb2.mono (Nat.le_trans hB hb1.size)))
  have h3 := h2.set1 K
  have HS3 : Hid (w2.heap.size = (w2.setCell ⟨b, 1, none⟩ (.bool K)).heap.size) := Lib.hid (by simp)
  have HB3 := Lib.hid (below_set HB2.out b 1 (.bool K) HB.out)
  obtain ⟨vc, vt, hk, hoc, hot, hle⟩ := h3
  have c2 : (w2.setCell ⟨b, 1, none⟩ (.bool K)).cell? ⟨b, 3, none⟩ = some vt := by rw [hk.cell]; rfl
  rw [World.cell?_setCell_other (w := w2) (a := ⟨b, 1, none⟩) (b := ⟨b, 3, none⟩) (v := .bool K) (by simp)] at c2
  have HK3 := Lib.hid hk
  have HOC := Lib.hid hoc
  have HOT := Lib.hid hot
  obtain ⟨Ac, cc, rfl⟩ := own_shapeN hot
  clear h1 hb1 hb2 h2 hk hoc hot
  have hBs : B ≤ (w2.setCell ⟨b, 1, none⟩ (.bool K)).heap.size := Nat.le_trans hB HB3.out.size
  have HBS := Lib.hid hBs
  have HLN : Hid ((x.t ++ [r]).length = x.t.length + 1) := Lib.hid (by simp)
  clear hBs
  cases hok : x.ok <;> cases E <;> cases F <;> cases G <;> cases K <;> first | (have hkk := HK.out; rw [hok] at hkk; cases hkk; done) | (
    rw [hok] at c1
    clear HK
    go_wp2_with (at_builtin; go_loud (refine wpList_runeN (w2.setCell ⟨b, 1, none⟩ _) rfl _ _ rfl B (.slice Ac x.t.length cc) x.t rfl HOT.out HBS.out r _ _ (by simp) rfl (Nat.le_trans HC.out (by decide)) ?_); intro v' w4 ho4 hb4 hk4; have hkk := hk4 b ReaderT _ (by decide) HK3.out; have f4 := Blk.frz hkk 3; have g4 : w4.cell? ⟨b, 3, none⟩ = some (.slice Ac x.t.length cc) := (by rw [hkk.cell]; rfl); have HRD := Lib.hid (rd_put3 (xs := ⟨x.s.drop D.length, _, x.c, x.t ++ [r], x.f⟩) hkk rfl rfl rfl (own_via HOC.out (fun g cs h => hk4 g ByteT cs (by decide) h)) ho4 HB.out); have HBB := Lib.hid (below_set (HB3.out.trans hb4) b 3 v' HB.out); obtain ⟨A4, c4, rfl⟩ := own_shapeN ho4; rw [HLN.out] at HRD HBB ⊢; clear ho4 hb4 hk4 hkk)
    go_returns
    exact ⟨rfl, HRD.out, HBB.out⟩)
end Go.Proofs.YtkfjmcidcnpijaaGreatDoor.Mf
/- Walks: strings.ContainsAny at one byte. -/
namespace Go.Proofs.YtkfjmcidcnpijaaGreatDoor.Mf
open Go.RowKit Go.Lib

abbrev spS : ByteArray := ⟨#[32, 9]⟩
set_option maxRecDepth 100000 in
theorem dec_fin : ∀ n : Fin 128, Utf8.decode ⟨#[UInt8.ofNat (n.val + 128)]⟩ 0 = (65533, 1) := by decide
theorem dec_one (c : UInt8) (h : ¬ c.toNat < 128) : Utf8.decode ⟨#[c]⟩ 0 = (65533, 1) := by
  have hc := c.toNat_lt
  have h1 := dec_fin ⟨c.toNat - 128, by omega⟩
  have e : UInt8.ofNat (c.toNat - 128 + 128) = c := by rw [show c.toNat - 128 + 128 = c.toNat by omega]; simp
  simp only [e] at h1
  exact h1
set_option maxRecDepth 100000 in
theorem indexRune_bad (w : World) : Calls Tryz.prog 102 #[.string spS, .int .i32 65533] w fun e w' => e = .returned (.int .i64 (-1)) ∧ Below w.heap.size w w' := by
  go_enter Tryz.func102, Tryz.ntmps102
  go_wp2_with fail
  go_loopw [5] (fun _ wr => ∃ pos : Nat, pos ≤ 2 ∧ wr.heap[w.heap.size]? = some (.stringIter spS pos) ∧ Below w.heap.size w wr) (fun _ wr => match wr.heap[w.heap.size]? with | some (.stringIter _ p) => 2 - p | _ => 0)
  case atStart => exact ⟨0, Nat.zero_le _, World.iter_heap _ _ _, (Below.refl _ _).alloc (Nat.le_refl _) _⟩
  case round =>
    obtain ⟨pos, hp, hit, hb⟩ := hrel
    have hklt : w.heap.size < wr.heap.size := (Array.getElem?_eq_some_iff.1 hit).1
    have HB := Lib.hid hb
    by_cases h2 : pos < 2
    · obtain ⟨r, hr, hnx⟩ : ∃ r : Nat, r < 100 ∧ ∀ ty, (Instr.next (.pointer (some ⟨w.heap.size, 0, none⟩)) true ty).run Tryz.prog wr = .ok (.tuple #[.bool true, .int .i64 pos, .int .i32 r]) (wr.iterAt w.heap.size spS (pos + 1)) := by
        rcases (by omega : pos = 0 ∨ pos = 1) with rfl | rfl
        · exact ⟨32, by decide, fun ty => run_next_ascii_at wr w.heap.size spS 0 ty hit (by decide) (by decide)⟩
        · exact ⟨9, by decide, fun ty => run_next_ascii_at wr w.heap.size spS 1 ty hit (by decide) (by decide)⟩
      have a1 : ((r : Int) == 65533) = false := by rw [beq_eq_false_iff_ne]; omega
      have hit2 := iterAt_heap wr w.heap.size spS pos (pos + 1) hit
      have hb2 := below_iterAt hb (Nat.le_refl w.heap.size) spS (pos + 1)
      have HIT := Lib.hid hit
      have HIT2 := Lib.hid hit2
      have HB2 := Lib.hid hb2
      clear hb hit hit2 hb2 hr
      go_wp2_with fail
      go_roundw
      case rel => exact ⟨pos + 1, by omega, HIT2.out, HB2.out⟩
      case measure => rw [HIT2.out, HIT.out]; simp only; omega
    · have hnx := fun ty => run_next_end_at (P := Tryz.prog) wr w.heap.size spS pos ty hit (by show ¬ pos < 2; exact h2)
      clear hb hit
      go_wp2_with fail
      go_returns
      exact ⟨rfl, HB.out⟩
theorem shouldUse_any (n : Nat) (w : World) (hn : n ≤ 8) : Calls Tryz.prog 103 #[.int .i64 n] w fun e w' => e = .returned (.bool false) ∧ w = w' := by
  have a1 : decide ((8 : Int) < (n : Int)) = false := decide_eq_false (by omega)
  go_enter Tryz.func103, Tryz.ntmps103
  go_wp2_with fail
  go_returns
  exact ⟨rfl, rfl⟩
theorem info256c : (Tryz.prog.info? (lays150_ren.t 116)).map (fun i => (i.zero, i.size)) = some (some (.agg (Array.replicate 256 (.bool false))), 256) := by kernel_rfl
set_option maxRecDepth 100000 in
theorem indexAny_bad (c : UInt8) (hc : ¬ c.toNat < 128) (w : World) : Calls Tryz.prog 77 #[.string ⟨#[c]⟩, .string spS] w fun e w' => e = .returned (.int .i64 (-1)) ∧ Below w.heap.size w w' := by
  have hdec := dec_one c hc
  obtain ⟨s, hs⟩ : ∃ s : ByteArray, (⟨#[c]⟩ : ByteArray) = s := ⟨_, rfl⟩
  have hs1 : s.size = 1 := by rw [← hs]; rfl
  rw [hs] at hdec ⊢
  have HSU := Lib.hid (shouldUse_any 1 w (by decide))
  have HD := Lib.hid hdec
  clear hs hdec hc
  go_enter Tryz.func77, Tryz.ntmps77
  go_wp2_with fail
  refine HSU.out.mono ?_
  rintro _ _ ⟨rfl, rfl⟩
  go_wp2_with fail
  go_loopw [9, 10] (fun _ _ wr => ∃ pos : Nat, pos ≤ 1 ∧ wr.heap[w.heap.size]? = some (.stringIter s pos) ∧ Below w.heap.size w wr) (fun _ _ wr => match wr.heap[w.heap.size]? with | some (.stringIter _ p) => 1 - p | _ => 0)
  case atStart => exact ⟨0, Nat.zero_le _, World.iter_heap _ _ _, (Below.refl _ _).alloc (Nat.le_refl _) _⟩
  case round =>
    obtain ⟨pos, hp, hit, hb⟩ := hrel
    have hklt : w.heap.size < wr.heap.size := (Array.getElem?_eq_some_iff.1 hit).1
    have HB := Lib.hid hb
    by_cases h2 : pos < 1
    · obtain rfl : pos = 0 := by omega
      have hnx := fun ty => run_next_any_at (P := Tryz.prog) wr w.heap.size s 0 ty hit (by omega)
      rw [HD.out] at hnx
      replace hnx : ∀ ty, (Instr.next (.pointer (some ⟨w.heap.size, 0, none⟩)) true ty).run Tryz.prog wr = .ok (.tuple #[.bool true, .int .i64 0, .int .i32 65533]) (wr.iterAt w.heap.size s 1) := hnx
      have hit2 := iterAt_heap wr w.heap.size s 0 1 hit
      have hb2 := below_iterAt hb (Nat.le_refl w.heap.size) s 1
      have HIT := Lib.hid hit
      have HIT2 := Lib.hid hit2
      have HB2 := Lib.hid hb2
      have hsz : (wr.iterAt w.heap.size s 1).heap.size = wr.heap.size := iterAt_size wr w.heap.size s 1
      clear hb hit hit2 hb2
      go_wp2_with fail
      refine (indexRune_bad _).mono ?_
      rintro _ w2 ⟨rfl, hb3⟩
      go_wp2_with fail
      go_roundw
      case rel => exact ⟨1, by omega, (hb3.block _ (by rw [hsz]; exact hklt)).trans HIT2.out, HB2.out.trans (hb3.mono HB2.out.size)⟩
      case measure => rw [(hb3.block _ (by rw [hsz]; exact hklt)).trans HIT2.out, HIT.out]; simp only; omega
    · have hnx := fun ty => run_next_end_at (P := Tryz.prog) wr w.heap.size s pos ty hit (by omega)
      clear hb hit
      go_wp2_with fail
      go_returns
      exact ⟨rfl, HB.out⟩
theorem containsAny_any (c : UInt8) (w : World) : Calls Tryz.prog 56 #[.string ⟨#[c]⟩, .string spS] w fun e w' => e = .returned (.bool (sp c)) ∧ Below w.heap.size w w' := by
  by_cases hc : c.toNat < 128
  · have h := Any.strings_ContainsAny_laid lays150 info256c ⟨#[c]⟩ spS w (by show 1 < _; decide) (by decide) (by
      intro j b hj
      have := List.mem_of_getElem? hj
      have e : b = c := by simpa using this
      rw [e]; exact hc) (ascii_of_all (by decide))
    have e : Lib.containsAny ((⟨#[c]⟩ : ByteArray).data.toList) spS.data.toList = sp c := by
      have h2 : ([32, 9] : List UInt8).contains c = sp c := congrFun sp_set c
      show decide (0 ≤ (if ([32, 9] : List UInt8).contains c then (0 : Int) else if (-1 : Int) == -1 then -1 else -1 + 1)) = sp c
      rw [h2]
      cases sp c <;> rfl
    rw [e] at h
    exact h
  · have hsp : sp c = false := by
      rw [sp_nat]
      simp
      omega
    rw [hsp]
    have HI := Lib.hid (indexAny_bad c hc w)
    clear hc hsp
    go_enter Tryz.func56, Tryz.ntmps56
    go_wp2_with fail
    refine HI.out.mono ?_
    rintro _ w2 ⟨rfl, hb3⟩
    go_wp2_with fail
    go_returns
    exact ⟨rfl, hb3⟩
end Go.Proofs.YtkfjmcidcnpijaaGreatDoor.Mf
/- Walk: (*reader).unicode. -/
namespace Go.Proofs.YtkfjmcidcnpijaaGreatDoor.Mf
open Go.RowKit

/-- What is left to read, and whether all was right. -/
def RS.mz (x : RS) : Nat := x.s.length + (if x.ok = true then 1 else 0)
def meas (b : Nat) (w : World) : Nat := (match w.cell? ⟨b, 0, none⟩ with | some (.string s) => s.size | _ => 0) + (match w.cell? ⟨b, 1, none⟩ with | some (.bool true) => 1 | _ => 0)
theorem meas_eq {B b : Nat} {w : World} {x : RS} (h : RdAt B w b x) : meas b w = x.mz := by
  unfold meas RS.mz
  rw [h.c0, h.c1]
  simp only
  congr 1
  cases x.ok <;> rfl
theorem byte_less (x : RS) (h : x.ok = true) : x.byte.s.length ≤ x.s.length ∧ (x.byte.ok = true → x.byte.s.length + 2 = x.s.length) ∧ x.byte.c.length = x.c.length + 1 ∧ x.byte.t = x.t := by
  have hd := digs_le 2 x.s
  unfold RS.byte
  simp only [List.length_drop, List.length_append, h, Bool.true_and, decide_eq_true_eq]
  refine ⟨by omega, fun h => by omega, by simp, trivial⟩
theorem rune_less (x : RS) : x.rune.s.length ≤ x.s.length ∧ x.rune.t.length = x.t.length + 1 ∧ x.rune.c = x.c := by
  unfold RS.rune
  simp only [List.length_drop, List.length_append]
  exact ⟨by omega, by simp, trivial⟩
theorem word_less (x : RS) (p : List UInt8) : (x.word p).s.length ≤ x.s.length ∧ (p.isPrefixOf x.s = true → (x.word p).s.length + p.length = x.s.length) ∧ (x.word p).ok = x.ok ∧ (x.word p).c = x.c ∧ (x.word p).t = x.t := by
  unfold RS.word
  refine ⟨?_, fun h => ?_, rfl, rfl, rfl⟩
  · show (if p.isPrefixOf x.s = true then x.s.drop p.length else x.s).length ≤ _
    split
    · rw [List.length_drop]; omega
    · exact Nat.le_refl _
  · show (if p.isPrefixOf x.s = true then x.s.drop p.length else x.s).length + _ = _
    rw [if_pos h, List.length_drop]
    have := (List.isPrefixOf_iff_prefix.1 h).length_le
    omega
theorem needs_less (x : RS) (p : List UInt8) : (x.needs p).s.length ≤ x.s.length ∧ (x.needs p).c = x.c ∧ (x.needs p).t = x.t := ⟨(word_less x p).1, rfl, rfl⟩
theorem word_no (x : RS) (p : List UInt8) (h : ¬ p.isPrefixOf x.s = true) : x.word p = x := by
  unfold RS.word
  rw [if_neg h]
theorem byte_le (x : RS) : x.byte.s.length ≤ x.s.length ∧ x.byte.c.length = x.c.length + 1 ∧ x.byte.t = x.t := by
  unfold RS.byte
  simp only [List.length_drop, List.length_append]
  exact ⟨by omega, by simp, trivial⟩
theorem mz_le (x : RS) : x.mz ≤ x.s.length + 1 := by unfold RS.mz; split <;> omega
theorem bytesS_stop (n : Nat) (x : RS) (h : x.more = false) : bytesS n x = x := by
  cases n with
  | zero => rfl
  | succ n => unfold bytesS; simp [h]
theorem bytesS_step (n : Nat) (x : RS) (h : x.more = true) : bytesS (n + 1) x = bytesS n x.byte := by
  show (if x.more = true then _ else _) = _
  rw [if_pos h]
theorem gap_less (x : RS) : x.gap.s.length ≤ x.s.length ∧ x.gap.c = x.c ∧ x.gap.t = x.t := ⟨drop_while sp x.s, rfl, rfl⟩
theorem runesS_off2 (n : Nat) (x : RS) (h : ¬ (x.ok = true ∧ [43].isPrefixOf x.s = true)) : runesS n x = x := by
  cases n with
  | zero => rfl
  | succ n =>
    show (if _ ∧ _ then _ else _) = _
    rw [if_neg h]
theorem runesS_step (n : Nat) (x : RS) (h : x.ok = true ∧ [43].isPrefixOf x.s = true) : runesS (n + 1) x = runesS n (x.word [43]).rune := by
  show (if _ ∧ _ then _ else _) = _
  rw [if_pos h]
set_option maxRecDepth 100000 in
set_option maxHeartbeats 3200000 in
theorem unicode_any (B b : Nat) (x : RS) (hx : x.s.length ≤ 100000) (hxc : x.c = []) (hxt : x.t = []) (w : World) (h : RdAt B w b x) (hB : B ≤ w.heap.size) :
    Calls Tryz.prog 39 #[.pointer (some ⟨b, 0, none⟩)] w fun e w' => e = .returned (.bool (unicodeS x).2) ∧ RdAt B w' b (unicodeS x).1 ∧ Below B w w' := by
  obtain ⟨n1, n2, n3⟩ := needs_less x [48, 120]
  obtain ⟨m1, m2, m3⟩ := byte_le (x.needs [48, 120])
  unfold unicodeS
  have HN := Lib.hid (needs_any B b x ⟨#[48, 120]⟩ w h hB)
  change Hid (Calls _ _ _ _ fun e w' => _ ∧ RdAt B w' b (x.needs [48, 120]) ∧ _) at HN
  have hy2 := mz_le (x.needs [48, 120]).byte
  have HBY := Lib.hid (fun (w1 : World) (h1 : RdAt B w1 b (x.needs [48, 120])) (hB1 : B ≤ w1.heap.size) => byte_any B b (x.needs [48, 120]) (by omega) (by rw [n2, hxc]; simp) w1 h1 hB1)
  rw [n2, hxc] at m2
  rw [n3, hxt] at m3
  have m2 : (x.needs [48, 120]).byte.c.length = 1 := m2
  have m1 : (x.needs [48, 120]).byte.s.length ≤ x.s.length := Nat.le_trans m1 n1
  clear n1 n2 n3
  generalize x.needs [48, 120] = xn at *
  generalize xn.byte = y at *
  obtain ⟨L, hL⟩ : ∃ L, x.s.length = L := ⟨_, rfl⟩
  rw [hL] at hx m1 ⊢
  obtain ⟨T, hT⟩ : ∃ T, bytesS (L + 1) y = T := ⟨_, rfl⟩
  rw [hT]
  have HT := Lib.hid hT
  have HB := Lib.hid hB
  obtain ⟨R1, hR1⟩ : ∃ R1, (if T.s = [] then (T, false) else (runesS (L + 1) (T.gap.needs [48, 120]).rune, true)).1 = R1 := ⟨_, rfl⟩
  obtain ⟨R2, hR2⟩ : ∃ R2, (if T.s = [] then (T, false) else (runesS (L + 1) (T.gap.needs [48, 120]).rune, true)).2 = R2 := ⟨_, rfl⟩
  rw [hR1, hR2]
  have HR1 := Lib.hid hR1
  have HR2 := Lib.hid hR2
  clear hT h hxc hxt hL hB hR1 hR2
  go_enter Tryz.func39, Tryz.ntmps39
  go_wp2_with fail
  refine HN.out.mono ?_
  rintro _ w1 ⟨rfl, h1, hb1⟩
  have HB1 := Lib.hid (Nat.le_trans HB.out hb1.size)
  have HH1 := Lib.hid h1
  have HBW1 := Lib.hid hb1
  clear h1 hb1
  go_wp2_with fail
  refine (HBY.out w1 HH1.out HB1.out).mono ?_
  rintro _ w2 ⟨rfl, h2, hb2⟩
  have HB2 := Lib.hid (HBW1.out.trans hb2)
  have HH2 := Lib.hid h2
  clear h2 hb2
  go_upto_block 0 with fail
  go_cut [2] (fun v wx => v = .bool false ∧ RdAt B wx b T ∧ Below B w wx ∧ T.s.length ≤ L ∧ T.t = [])
  case first =>
    go_wp2_with fail
    go_loopw [9] (fun _ wr => ∃ (n : Nat) (y : RS), RdAt B wr b y ∧ Below B w wr ∧ bytesS n y = T ∧ (y.ok = true → y.s.length < n) ∧ y.s.length ≤ L ∧ y.c.length + y.mz ≤ L + 2 ∧ y.t = []) (fun _ wr => meas b wr)
    case atStart => exact ⟨L + 1, y, HH2.out, HB2.out, HT.out, fun _ => by omega, m1, by omega, m3⟩
    case round =>
      obtain ⟨n, z, hz, hbz, hTz, hn, hzL, hzc, hzt⟩ := hrel
      have hme := meas_eq hz
      have c0 := hz.c0
      have c1 := hz.c1
      have HZ := Lib.hid hz
      have HBZ := Lib.hid hbz
      have HTZ := Lib.hid hTz
      have HNN := Lib.hid hn
      have HME := Lib.hid hme
      have HZC := Lib.hid hzc
      have HZT := Lib.hid hzt
      have HMO : Hid (z.more = (z.ok && !ends z.s)) := Lib.hid rfl
      obtain ⟨sb, hsb⟩ : ∃ sb : ByteArray, (⟨z.s.toArray⟩ : ByteArray) = sb := ⟨_, rfl⟩
      have hsl : sb.data.toList = z.s := by rw [← hsb]
      rw [hsb] at c0
      have HSL := Lib.hid hsl
      clear hz hbz hTz hn hme hsb hsl hzc hzt
      cases hok : z.ok with
      | false =>
        rw [hok] at c1
        have hTe : T = z := HTZ.out.symm.trans (bytesS_stop n z (by rw [HMO.out, hok]; rfl))
        subst hTe
        clear hok
        go_wp2_with fail
        go_meet
        exact ⟨rfl, HZ.out, HBZ.out, hzL, HZT.out⟩
      | true =>
        rw [hok] at c1
        cases hs : z.s with
        | nil =>
          have hte : sb.toList.isEmpty = true := by rw [ByteArray.toList_eq, HSL.out, hs]; rfl
          have hTe : T = z := HTZ.out.symm.trans (bytesS_stop n z (by rw [HMO.out, hok, hs]; rfl))
          subst hTe
          clear hok hs
          go_wp2_with fail
          go_meet
          exact ⟨rfl, HZ.out, HBZ.out, hzL, HZT.out⟩
        | cons c t =>
          have hte : sb.toList.isEmpty = false := by rw [ByteArray.toList_eq, HSL.out, hs]; rfl
          have hsz : sb.size = t.length + 1 := by rw [← bl, HSL.out, hs]; rfl
          have j1 : (1 : Int) ≤ (sb.size : Int) := by omega
          have hex : sb.extract 0 1 = ⟨#[c]⟩ := ba_ext (by rw [ext_take, HSL.out, hs]; rfl)
          have HCA := Lib.hid (containsAny_any c wr)
          rw [← hex] at HCA
          have HE : Hid (ends z.s = sp c) := Lib.hid (by rw [hs]; rfl)
          have HS2 : Hid (z.s.length = t.length + 1) := Lib.hid (by rw [hs]; rfl)
          have HOK := Lib.hid hok
          clear hex hs hok
          cases hsp : sp c with
          | true =>
            rw [hsp] at HCA
            have hTe : T = z := HTZ.out.symm.trans (bytesS_stop n z (by rw [HMO.out, HE.out, hsp]; simp))
            subst hTe
            clear hsp
            go_wp2_with fail
            refine HCA.out.mono ?_
            rintro _ w3 ⟨rfl, hb3⟩
            have HZ3 := Lib.hid (HZ.out.keep hb3)
            have HB3 := Lib.hid (HBZ.out.trans (hb3.mono (Nat.le_trans HB.out HBZ.out.size)))
            clear hb3
            go_wp2_with fail
            go_meet
            exact ⟨rfl, HZ3.out, HB3.out, hzL, HZT.out⟩
          | false =>
            rw [hsp] at HCA
            have hmo : z.more = true := by rw [HMO.out, HE.out, hsp, HOK.out]; rfl
            have HMO2 := Lib.hid hmo
            clear hsp hmo
            go_wp2_with fail
            refine HCA.out.mono ?_
            rintro _ w3 ⟨rfl, hb3⟩
            have HZ3 := Lib.hid (HZ.out.keep hb3)
            have HB3 := Lib.hid (HBZ.out.trans (hb3.mono (Nat.le_trans HB.out HBZ.out.size)))
            clear hb3
            go_wp2_with fail
            refine (byte_any B b z (by omega) (by have := HZC.out; omega) w3 HZ3.out (Nat.le_trans HB.out HB3.out.size)).mono ?_
            rintro _ w4 ⟨rfl, h4, hb4⟩
            have hme4 := meas_eq h4
            have HH4 := Lib.hid h4
            have HB4 := Lib.hid (HB3.out.trans hb4)
            have HME4 := Lib.hid hme4
            clear h4 hb4 hme4
            go_wp2_with fail
            obtain ⟨q1, q2, q3, q4⟩ := byte_less z HOK.out
            have hn := HNN.out HOK.out
            have hzm : z.mz = z.s.length + 1 := by unfold RS.mz; rw [if_pos HOK.out]
            have hbm : z.byte.mz + 1 ≤ z.mz := by
              rw [hzm]
              unfold RS.mz
              by_cases ho : z.byte.ok = true
              · have := q2 ho
                rw [if_pos ho]; omega
              · rw [if_neg ho]; omega
            have hzc := HZC.out
            go_roundw
            case rel =>
              refine ⟨n - 1, z.byte, HH4.out, HB4.out, ?_, fun ho => by have := q2 ho; omega, by omega, by omega, by rw [q4]; exact HZT.out⟩
              rw [← HTZ.out]
              obtain ⟨m, hm⟩ : ∃ m, n = m + 1 := ⟨n - 1, by omega⟩
              rw [hm, bytesS_step m z HMO2.out]
              rfl
            case measure => rw [HME4.out, HME.out]; omega
  case rest =>
    obtain ⟨rfl, hT, hbT, hTL, hTt⟩ := hcut
    have c0 := hT.c0
    obtain ⟨sb, hsb⟩ : ∃ sb : ByteArray, (⟨T.s.toArray⟩ : ByteArray) = sb := ⟨_, rfl⟩
    have hsl : sb.data.toList = T.s := by rw [← hsb]
    rw [hsb] at c0
    have HTT := Lib.hid hT
    have HBT := Lib.hid hbT
    have hBT := Nat.le_trans HB.out hbT.size
    have HG := Lib.hid (gap_any B b T (by omega) wc hT hBT)
    obtain ⟨g1, g2, g3⟩ := gap_less T
    clear HN HBY HH1 HH2 HB1 HB2 HBW1 HT m1 m2 m3 hy2 hT hbT hsb
    cases hs : T.s with
    | nil =>
      have hte : sb.toList.isEmpty = true := by rw [ByteArray.toList_eq, hsl, hs]; rfl
      have h1 := HR1.out
      have h2 := HR2.out
      rw [if_pos hs] at h1 h2
      obtain rfl : T = R1 := h1
      obtain rfl : false = R2 := h2
      clear hs hsl
      go_wp2_with fail
      go_returns
      exact ⟨rfl, HTT.out, HBT.out⟩
    | cons c t =>
      have hte : sb.toList.isEmpty = false := by rw [ByteArray.toList_eq, hsl, hs]; rfl
      have h1 := HR1.out
      have h2 := HR2.out
      rw [if_neg (by rw [hs]; simp)] at h1 h2
      have h1 : runesS (L + 1) (T.gap.needs [48, 120]).rune = R1 := h1
      obtain rfl : true = R2 := h2
      have HR := Lib.hid h1
      clear hs hsl h1 HR1 HR2
      rw [hTt] at g3
      generalize T.gap = G at *
      obtain ⟨n1, n2, n3⟩ := needs_less G [48, 120]
      have hnn : ∀ w, RdAt B w b G → B ≤ w.heap.size → Calls Tryz.prog 54 #[.pointer (some ⟨b, 0, none⟩), .string ⟨#[48, 120]⟩] w fun e w' => e = .returned (.tuple #[]) ∧ RdAt B w' b (G.needs [48, 120]) ∧ Below B w w' := fun w h hB => needs_any B b G ⟨#[48, 120]⟩ w h hB
      have HNN := Lib.hid hnn
      clear hnn
      generalize G.needs [48, 120] = N at *
      rw [g3] at n3
      obtain ⟨r1, r2, r3⟩ := rune_less N
      have HRU : Hid (∀ w, RdAt B w b N → B ≤ w.heap.size → _) := Lib.hid fun w h hB => rune_any B b N (by omega) (by rw [n3]; simp) w h hB
      generalize N.rune = y at *
      rw [n3] at r2
      have r2 : y.t.length = 1 := r2
      have hym := mz_le y
      have HYL : Hid (y.s.length ≤ L) := Lib.hid (by omega)
      have HYT : Hid (y.t.length + y.mz ≤ L + 2) := Lib.hid (by omega)
      clear g1 g2 g3 n1 n2 n3 r1 r2 r3 hym hTL hTt
      go_wp2_with fail
      refine HG.out.mono ?_
      rintro _ w1 ⟨rfl, h1, hb1⟩
      have HH1 := Lib.hid h1
      have HB1 := Lib.hid (HBT.out.trans hb1)
      clear h1 hb1
      go_wp2_with fail
      refine (HNN.out w1 HH1.out (Nat.le_trans HB.out HB1.out.size)).mono ?_
      rintro _ w2 ⟨rfl, h2, hb2⟩
      have HH2 := Lib.hid h2
      have HB2 := Lib.hid (HB1.out.trans hb2)
      clear h2 hb2
      go_wp2_with fail
      refine (HRU.out w2 HH2.out (Nat.le_trans HB.out HB2.out.size)).mono ?_
      rintro _ w3 ⟨rfl, h3, hb3⟩
      have HH3 := Lib.hid h3
      have HB3 := Lib.hid (HB2.out.trans hb3)
      clear h3 hb3
      go_wp2_with fail
      go_loopw [50] (fun _ wr => ∃ (n : Nat) (y : RS), RdAt B wr b y ∧ Below B w wr ∧ runesS n y = R1 ∧ (y.ok = true → y.s.length < n) ∧ y.s.length ≤ L ∧ y.t.length + y.mz ≤ L + 2) (fun _ wr => meas b wr)
      case atStart => exact ⟨L + 1, y, HH3.out, HB3.out, HR.out, fun _ => by have := HYL.out; omega, HYL.out, HYT.out⟩
      case round =>
        obtain ⟨n, z, hz, hbz, hTz, hn, hzL, hzc⟩ := hrel
        have hme := meas_eq hz
        have c1 := hz.c1
        have HZ := Lib.hid hz
        have HBZ := Lib.hid hbz
        have HTZ := Lib.hid hTz
        have HNZ := Lib.hid hn
        have HME := Lib.hid hme
        have HZC := Lib.hid hzc
        clear c0 hte hz hbz hTz hn hme hzc
        cases hok : z.ok with
        | false =>
          rw [hok] at c1
          have hTe : R1 = z := HTZ.out.symm.trans (runesS_off2 n z (by rw [hok]; simp))
          subst hTe
          clear hok
          go_wp2_with fail
          go_returns
          exact ⟨rfl, HZ.out, HBZ.out⟩
        | true =>
          rw [hok] at c1
          have HOK := Lib.hid hok
          have HWD := Lib.hid (word_any B b z ⟨#[43]⟩ wr HZ.out (Nat.le_trans HB.out HBZ.out.size))
          change Hid (Calls _ _ _ _ fun e w' => e = .returned (.bool (preP [43] z.s)) ∧ RdAt B w' b (z.word [43]) ∧ _) at HWD
          have HPR : Hid (preP [43] z.s = [43].isPrefixOf z.s) := Lib.hid rfl
          obtain ⟨q1, q2, q3, q4, q5⟩ := word_less z [43]
          have HQ1 := Lib.hid q1
          have HQ2 := Lib.hid q2
          have HQ5 := Lib.hid q5
          have HWN := Lib.hid (word_no z [43])
          clear hok q1 q2 q3 q4 q5
          cases hp : preP [43] z.s with
          | false =>
            rw [hp] at HWD HPR
            have hTe : R1 = z := HTZ.out.symm.trans (runesS_off2 n z (by rw [← HPR.out]; simp))
            have hwz := HWN.out (by rw [← HPR.out]; simp)
            rw [hwz] at HWD
            subst hTe
            clear hp hwz
            go_wp2_with fail
            refine HWD.out.mono ?_
            rintro _ w4 ⟨rfl, h4, hb4⟩
            have HH4 := Lib.hid h4
            have HB4 := Lib.hid (HBZ.out.trans hb4)
            clear h4 hb4
            go_wp2_with fail
            go_returns
            exact ⟨rfl, HH4.out, HB4.out⟩
          | true =>
            rw [hp] at HWD HPR
            clear hp
            go_wp2_with fail
            refine HWD.out.mono ?_
            rintro _ w4 ⟨rfl, h4, hb4⟩
            have HH4 := Lib.hid h4
            have HB4 := Lib.hid (HBZ.out.trans hb4)
            clear h4 hb4
            go_wp2_with fail
            refine (rune_any B b (z.word [43]) (by have := HQ1.out; omega) (by rw [HQ5.out]; have := HZC.out; omega) w4 HH4.out (Nat.le_trans HB.out HB4.out.size)).mono ?_
            rintro _ w5 ⟨rfl, h5, hb5⟩
            have hme5 := meas_eq h5
            have HH5 := Lib.hid h5
            have HB5 := Lib.hid (HB4.out.trans hb5)
            have HME5 := Lib.hid hme5
            clear h5 hb5 hme5
            go_wp2_with fail
            have q2 := HQ2.out HPR.out.symm
            have q2 : (z.word [43]).s.length + 1 = z.s.length := q2
            obtain ⟨u1, u2, u3⟩ := rune_less (z.word [43])
            rw [HQ5.out] at u2
            have hn := HNZ.out HOK.out
            have hzm : z.mz = z.s.length + 1 := by unfold RS.mz; rw [if_pos HOK.out]
            have hrm := mz_le (z.word [43]).rune
            have hzc := HZC.out
            go_roundw
            case rel =>
              refine ⟨n - 1, (z.word [43]).rune, HH5.out, HB5.out, ?_, fun ho => by omega, by omega, by omega⟩
              rw [← HTZ.out]
              obtain ⟨m, hm⟩ : ∃ m, n = m + 1 := ⟨n - 1, by omega⟩
              rw [hm, runesS_step m z ⟨HOK.out, HPR.out.symm⟩]
              rfl
            case measure => rw [HME5.out, HME.out]; omega
end Go.Proofs.YtkfjmcidcnpijaaGreatDoor.Mf
/- Walk: (*reader).ucm. -/
namespace Go.Proofs.YtkfjmcidcnpijaaGreatDoor.Mf
open Go.RowKit

/-- The library's error for what is no numeral. -/












def ErrV (_ : World) : Prop := True
def ErrLt (_ : Nat) : Prop := True
theorem ErrLt.mono {B C : Nat} (_ : ErrLt B) (_ : B ≤ C) : ErrLt C := trivial
theorem ErrV.keep {w w' : World} {B : Nat} (_ : ErrV w) (_ : Below B w w') (_ : ErrLt B) : ErrV w' := trivial
theorem ErrV.lt {w : World} (_ : ErrV w) : ErrLt w.heap.size := trivial
def atoiOk (c : UInt8) : Bool := !isHex c || (match Lib.atoi [c] with | some v => flagK [c] && (v == flagN [c]) | none => !flagK [c] && (flagN [c] == 0))
set_option maxRecDepth 100000 in
theorem atoi_fin : ∀ n : Fin 256, atoiOk (UInt8.ofNat n.val) = true := by decide
theorem atoi_digs (s : List UInt8) : (Lib.atoi (digs 1 s) = some (flagN (digs 1 s)) ∧ flagK (digs 1 s) = true) ∨ (Lib.atoi (digs 1 s) = none ∧ flagK (digs 1 s) = false ∧ flagN (digs 1 s) = 0) := by
  cases s with
  | nil => right; exact ⟨rfl, rfl, rfl⟩
  | cons c t =>
    have h0 : digs 0 t = [] := by cases t <;> rfl
    have hd : digs 1 (c :: t) = if isHex c = true then [c] else [] := by
      unfold digs
      rw [h0]
    by_cases hc : isHex c = true
    · rw [hd, if_pos hc]
      have h1 := atoi_fin ⟨c.toNat, c.toNat_lt⟩
      have e : UInt8.ofNat c.toNat = c := by simp
      simp only [e] at h1
      unfold atoiOk at h1
      rw [hc] at h1
      cases ha : Lib.atoi [c] with
      | none => rw [ha] at h1; right; simp at h1; exact ⟨rfl, h1.1, h1.2⟩
      | some v => rw [ha] at h1; left; simp at h1; exact ⟨by rw [h1.2], h1.1⟩
    · rw [hd, if_neg hc]; right; exact ⟨rfl, rfl, rfl⟩












theorem hasPrefix_any (s p : ByteArray) (w : World) : Calls Tryz.prog 86 #[.string s, .string p] w fun e w' => e = .returned (.bool (preP p.data.toList s.data.toList)) ∧ w = w' :=
  (Any.strings_HasPrefix lays99 s p w).mono fun _ _ hh => ⟨hh.1, hh.2.symm⟩
theorem needs_ok_less (x : RS) (p : List UInt8) (h : (x.needs p).ok = true) : x.ok = true ∧ (x.needs p).s.length + p.length = x.s.length := by
  have h2 : (p.isPrefixOf x.s && x.ok) = true := h
  rw [Bool.and_eq_true] at h2
  exact ⟨h2.2, (word_less x p).2.1 h2.1⟩
theorem rune_ok_less (x : RS) (h : x.rune.ok = true) : x.ok = true := by
  unfold RS.rune at h
  simp only [Bool.and_eq_true] at h
  exact h.1
theorem byte_ok_less (x : RS) (h : x.byte.ok = true) : x.ok = true := by
  unfold RS.byte at h
  simp only [Bool.and_eq_true] at h
  exact h.1
theorem char_less (x : RS) : (charS x).s.length ≤ x.s.length ∧ (charS x).t.length = x.t.length + 1 ∧ (charS x).c = x.c ∧ ((charS x).ok = true → x.ok = true ∧ (charS x).s.length < x.s.length) := by
  unfold charS
  obtain ⟨a1, a2, a3⟩ := needs_less x [60, 85]
  obtain ⟨b1, b2, b3⟩ := rune_less (x.needs [60, 85])
  obtain ⟨c1, c2, c3⟩ := needs_less (x.needs [60, 85]).rune [62]
  refine ⟨by omega, by rw [c3, b2, a3], by rw [c2, b3, a2], fun h => ?_⟩
  obtain ⟨h1, h2⟩ := needs_ok_less _ _ h
  obtain ⟨h3, h4⟩ := needs_ok_less _ _ (rune_ok_less _ h1)
  have h2 : _ + 1 = _ := h2
  exact ⟨h3, by omega⟩
theorem code_less (x : RS) : (codeS x).s.length ≤ x.s.length ∧ (codeS x).c.length = x.c.length + 1 ∧ (codeS x).t = x.t ∧ ((codeS x).ok = true → x.ok = true ∧ (codeS x).s.length < x.s.length) := by
  unfold codeS
  obtain ⟨a1, a2, a3⟩ := needs_less x [92, 120]
  obtain ⟨b1, b2, b3⟩ := byte_le (x.needs [92, 120])
  refine ⟨by omega, by rw [b2, a2], by rw [b3, a3], fun h => ?_⟩
  obtain ⟨h3, h4⟩ := needs_ok_less _ _ (byte_ok_less _ h)
  have h4 : _ + 2 = _ := h4
  exact ⟨h3, by omega⟩
theorem charsS_stop (n : Nat) (x : RS) (h : ¬ (x.ok = true ∧ [60].isPrefixOf x.s = true)) : charsS n x = x := by
  cases n with
  | zero => rfl
  | succ n =>
    show (if _ ∧ _ then _ else _) = _
    rw [if_neg h]
theorem charsS_step (n : Nat) (x : RS) (h : x.ok = true ∧ [60].isPrefixOf x.s = true) : charsS (n + 1) x = charsS n (charS x) := by
  show (if _ ∧ _ then _ else _) = _
  rw [if_pos h]
theorem codesS_stop (n : Nat) (x : RS) (h : ¬ (x.ok = true ∧ [92].isPrefixOf x.s = true)) : codesS n x = x := by
  cases n with
  | zero => rfl
  | succ n =>
    show (if _ ∧ _ then _ else _) = _
    rw [if_neg h]
theorem codesS_step (n : Nat) (x : RS) (h : x.ok = true ∧ [92].isPrefixOf x.s = true) : codesS (n + 1) x = codesS n (codeS x) := by
  show (if _ ∧ _ then _ else _) = _
  rw [if_pos h]









































































































































































































































































































































end Go.Proofs.YtkfjmcidcnpijaaGreatDoor.Mf
