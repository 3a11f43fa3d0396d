/- Walks: cover.New and policy.New on good keys. -/
import Derived.Test.YtkfjmcidcnpijaaGreatDoorGE
import Derived.Test.YtkfjmcidcnpijaaGreatDoorGS
/- Walk: cover.New on good keys. -/
namespace Go.Proofs.YtkfjmcidcnpijaaGreatDoor.Sg
open Go.RowKit Pl Go.Lib Go.Maps Go.WideMaps

/-- A key as cover.New wants it. -/
def goodKey (l : List Int) : Prop := l ≠ [] ∧ l.length ≤ 18 ∧ Rising l ∧ scal l
theorem cs_start (w : World) : CS w.heap.size w ((((w.alloc (.map #[] 0)).alloc (.map #[] 0)).alloc (.cells (cov w.heap.size (.slice none 0 0)) CovT)).alloc (.map #[] 0)) 0 (seenF []) (.slice none 0 0) [] := by
  have s1 : (w.alloc (.map #[] 0)).heap.size = w.heap.size + 1 := by simp
  have s2 : ((w.alloc (.map #[] 0)).alloc (.map #[] 0)).heap.size = w.heap.size + 2 := by simp
  have s3 : (((w.alloc (.map #[] 0)).alloc (.map #[] 0)).alloc (.cells (cov w.heap.size (.slice none 0 0)) CovT)).heap.size = w.heap.size + 3 := by simp
  have a : ∀ (W : World) (o : Obj), W.grownBy (W.alloc o) none := fun W o => World.grownBy_alloc W o none
  have n : ∀ (r b : Nat), (none : Option Nat) = some r → r ≠ b := fun r b h => by cases h
  refine ⟨?_, ⟨fun p hp => absurd hp (by simp), World.ownsRow_nil _ _ _ _⟩, Nat.le_refl _, ?_, ?_, ?_, ?_, ?_⟩
  · have h := Blk.new ((w.alloc (.map #[] 0)).alloc (.map #[] 0)) CovT (cov w.heap.size (.slice none 0 0))
    rw [s2] at h
    exact h.alloc _
  · have h := SMap.made elB (((w.alloc (.map #[] 0)).alloc (.map #[] 0)).alloc (.cells (cov w.heap.size (.slice none 0 0)) CovT))
    rw [s3] at h
    exact h
  · exact (((GMap.made w (w.heap.size + 4) (by omega)).turn (a _ _) (fun r => n r _) (noRow_none _ _)).turn (a _ _) (fun r => n r _) (noRow_none _ _)).turn (a _ _) (fun r => n r _) (noRow_none _ _)
  · have h := RMap.made (w.alloc (.map #[] 0))
    rw [s1] at h
    exact (h.turn (a _ _) (fun r => n r _)).turn (a _ _) (fun r => n r _)
  · exact ((((Below.refl _ _).alloc (Nat.le_refl _) _).alloc (by simp) _).alloc (by simp; omega) _).alloc (by simp; omega) _
  · simp
set_option maxRecDepth 100000 in
set_option maxHeartbeats 3200000 in
theorem coverNew_any (B2 : Nat) (vks : Value) (ks : List (Value × List Int)) (w : World) (hK : KeysV B2 w vks ks) (h0 : ∀ p ∈ ks, goodKey p.2) (hd : (ks.map (·.2)).Nodup) (hn : ks.length ≤ 1000) :
    Calls Tryz.prog 68 #[smallI, vks] w fun e w' => e = .returned (.tuple #[.pointer (some ⟨w.heap.size + 2, 0, none⟩), .int .i64 0]) ∧ Below w.heap.size w w' := by
  obtain ⟨A, cc, rfl⟩ : ∃ A cc, vks = .slice A ks.length cc := by
    rcases own_shape hK.2 with ⟨rfl, h⟩ | ⟨g, c, rfl⟩
    · exact ⟨none, 0, by rw [h]⟩
    · exact ⟨_, _, rfl⟩
  have HK := Lib.hid hK
  have H0 := Lib.hid h0
  have HD := Lib.hid hd
  have HST := Lib.hid (cs_start w)
  have hmm := @run_makeMap Tryz.prog
  have hq : ∀ w, (binOp .eql 142 smallI .nilIface).run Tryz.prog w = .ok (.bool false) w := fun _ => rfl
  have e1 : decide (4096 < (ks.length : Int)) = false := decide_eq_false (by omega)
  have e2 : decide ((ks.length : Int) > 4096) = false := decide_eq_false (by omega)
  clear hK h0 hd
  go_enter Tryz.func68, Tryz.ntmps68
  go_wp2_with fail
  go_loopw [29] (fun vi wr => ∃ (k : Nat) (vk : Value) (ps : List (Value × List Int)), k ≤ ks.length ∧ vi = .int .i64 k ∧ CS w.heap.size w wr (20 * k) (seenF ((ks.take k).map (·.2))) vk ps) (fun vi _ => ks.length - (intOf vi).toNat)
  case atStart => exact ⟨0, _, _, Nat.zero_le _, rfl, HST.out⟩
  case round =>
    obtain ⟨k, vk, ps, hk, rfl, hcs⟩ := hrel
    have HCS := Lib.hid hcs
    clear hcs
    by_cases hlt : k < ks.length
    · have hmem : ks[k] ∈ ks := List.getElem_mem hlt
      obtain ⟨hne, h18, hri, hsc⟩ := H0.out _ hmem
      have hkr := HK.out.2
      obtain ⟨B0, hA⟩ : ∃ g, A = some ⟨g, 0, none⟩ := by
        rcases own_shape hkr with ⟨_, h⟩ | ⟨g, c, h⟩
        · omega
        · injection h with h; exact ⟨g, h⟩
      subst hA
      have c0 := own_cell (own_below hkr HCS.out.below) (i := k) ks[k].1 (by rw [List.getElem?_map, List.getElem?_eq_getElem hlt]; rfl)
      have hkey := own_below (HK.out.1 _ hmem) HCS.out.below
      have HK0 := Lib.hid (HK.out.1 _ hmem)
      have hnew : ks[k].2 ∉ (ks.take k).map (·.2) := by
        intro hin
        have hd := HD.out
        rw [← List.take_append_drop k (ks.map (·.2)), List.nodup_append] at hd
        refine hd.2.2 _ (by rw [← List.map_take]; exact hin) ks[k].2 ?_ rfl
        rw [List.drop_eq_getElem_cons (by simpa using hlt)]
        simp
      have hold : ∀ x ∈ (ks.take k).map (·.2), scal x := by
        intro x hx
        obtain ⟨p, hp, rfl⟩ := List.mem_map.1 hx
        exact (H0.out p (List.mem_of_mem_take hp)).2.2.2
      have htk : (ks.take (k + 1)).map (·.2) = (ks.take k).map (·.2) ++ [ks[k].2] := by rw [List.take_succ_eq_append_getElem hlt, List.map_append]; rfl
      have hsn := seenF_new _ _ hold hsc hnew
      have hss := seenF_snoc ((ks.take k).map (·.2)) ks[k].2
      rw [← htk] at hss
      have HTK := Lib.hid hss
      generalize ks[k] = p at *
      obtain ⟨pv, l⟩ := p
      dsimp only at hne h18 hri hsc hkey hnew HTK hsn
      have hl0 : 0 < l.length := List.length_pos_iff.2 hne
      obtain ⟨kb, kc, rfl⟩ : ∃ g c, pv = .slice (some ⟨g, 0, none⟩) l.length c := by
        rcases own_shape hkey with ⟨_, h⟩ | h
        · omega
        · exact h
      have hcap := own_cap hkey
      unfold maxLen at hcap
      have hlow : kb < wr.heap.size := (hkey.lt kb rfl).2
      have HW := Lib.hid (wrongC_any 0 _ l wr hkey hne h18 hri)
      have HKEY := Lib.hid hkey
      have HSC := Lib.hid hsc
      have i1 : (0 : Int) ≤ (k : Int) := by omega
      have i2 : (k : Int) < (ks.length : Int) := by omega
      have HNE := Lib.hid hne
      have HSN := Lib.hid hsn
      clear hkr hkey hnew hold htk hss hne hri hsc hsn hmem
      go_wp2_with fail
      refine HW.out.mono ?_
      rintro _ w1 ⟨rfl, hb1⟩
      have HC1 := Lib.hid (HCS.out.keep hb1)
      have HK1 := Lib.hid (own_below HKEY.out hb1)
      have HP := Lib.hid (plainC_any (some ⟨kb, 0, none⟩) kc l w1 (own_rd HK1.out) (by omega) HSC.out)
      have HL1 : Hid (w.heap.size + 4 ≤ wr.heap.size) := Lib.hid HCS.out.size
      clear hb1 c0
      go_wp2_with fail
      refine HP.out.mono ?_
      rintro _ w2 ⟨rfl, hb2⟩
      have HC2 := Lib.hid (HC1.out.keep hb2)
      have HK2 := Lib.hid (own_below HK1.out hb2)
      have hps : (plain4 l).size ≤ maxLen := by rw [plain4_size]; unfold maxLen; omega
      have hlk := HC2.out.seen.look 98 Tryz.underlying98 (plain4 l) hps
      rw [HSN.out] at hlk
      have hlk : (Instr.lookup 98 (.map (some (w.heap.size + 3))) (.string (plain4 l)) false).run Tryz.prog w2 = .ok (.bool false) w2 := hlk
      obtain ⟨w3, hup, hc3⟩ := HC2.out.putSeen (by unfold maxLen; omega) (plain4 l) hps
      rw [HTK.out] at hc3
      have HC3 := Lib.hid hc3
      clear hb2 hc3
      go_wp2_with fail
      have hk3 := own_below HK0.out HC3.out.below
      have HCL : Hid (Calls Tryz.prog 92 #[.slice (some ⟨kb, 0, none⟩) l.length kc] w3.drew (OnePost w3.drew l)) := Lib.hid (cloneR_any 0 _ l w3.drew hk3.drew HNE.out (by omega))
      have HC3d := Lib.hid (HC3.out.keep (Below.refl _ _).drew)
      have hcd : w3.drew.cell? ⟨w.heap.size + 2, 1, none⟩ = some vk := by rw [HC3d.out.blk.cell]; rfl
      obtain ⟨i0, hi, hz0, hz1, hz2⟩ := info_parts infoKey
      go_cut [] (fun wx => ∃ (vk' : Value) (ps' : List (Value × List Int)), CS w.heap.size w wx (20 * k + 2) (seenF ((ks.take (k + 1)).map (·.2))) vk' ps')
      case first =>
        go_region_law (first | (refine step_append_lies _ rfl _ _ 100 rfl (w.heap.size + 4) KeyT i0 (.slice none 0 0) 1 24 Tryz.underlying100 hi hz0 hz1 hz2 rfl (by decide) vk ps.length (ps.map (·.1)) rfl HC5.out.keys.2 ⟨w4.heap.size, 0, none⟩ 1 1 [.slice (some ⟨gc, 0, none⟩) l.length cv] rfl rfl (one_cell _ _ _) (by simp [Value.oneCell']) (by decide) (by have := HC5.out.len; unfold maxLen; omega) (by have := HC5.out.len; omega) HC5.out.size _ rfl ?_; intro g cap w6 hown hgrow _ _; have b6 := Blk.turn HC5.out.blk hgrow (noRow_own HC5.out.keys.2 (by decide)); have hf6 := Blk.frz b6 1; have c6 : w6.cell? ⟨w.heap.size + 2, 1, none⟩ = some vk := by { rw [b6.cell]; rfl }; have HC6 := Lib.hid (HC5.out.putKey HV5.out hgrow hown)) | (go_simp; go_at_call 92; refine HCL.out.mono ?_; rintro _ w4 ⟨vc, rfl, ho4, hb4⟩; obtain ⟨gc, cv, rfl⟩ := own_pos ho4 hl0; have HC4 := Lib.hid (HC3d.out.keep hb4); have hc4 : w4.cell? ⟨w.heap.size + 2, 1, none⟩ = some vk := by { rw [HC4.out.blk.cell]; rfl }; have HC5 := Lib.hid (HC4.out.keep ((Below.refl _ _).alloc (Nat.le_refl _) (.cells #[.slice (some ⟨gc, 0, none⟩) l.length cv] KeyT))); have HV5 := Lib.hid (ho4.alloc (.cells #[.slice (some ⟨gc, 0, none⟩) l.length cv] KeyT)); have hc5 : (w4.alloc (.cells #[.slice (some ⟨gc, 0, none⟩) l.length cv] KeyT)).cell? ⟨w.heap.size + 2, 1, none⟩ = some vk := by { rw [HC5.out.blk.cell]; rfl }))
        all_goals
          go_wp2_with fail
          go_meet
          exact ⟨_, _, HC6.out⟩
      case rest =>
        obtain ⟨vk', ps', hcs⟩ := hcut
        have HCS := Lib.hid hcs
        clear hcs
        go_wp2_with fail
        obtain ⟨x0, hx0⟩ : ∃ x0, l[0]? = some x0 := ⟨l[0], by rw [List.getElem?_eq_getElem hl0]⟩
        have hx0r := HSC.out x0 (List.mem_of_getElem? hx0)
        have hx0c : (i32s l)[0]? = some (.int .i32 x0) := by unfold i32s; rw [List.getElem?_map, hx0]; rfl
        have HX0 := Lib.hid hx0c
        have HD1 := Lib.hid (HCS.out.keep (Below.refl _ _).drew)
        have HD2 := Lib.hid (HD1.out.keep ((Below.refl _ _).alloc (Nat.le_refl _) (.cells #[.int .i64 k] IntE)))
        obtain ⟨v1, zs1, hlk1, hoi1, hzl1, hback1⟩ := HD1.out.first.look (by unfold maxLen; omega) x0 hx0r
        obtain ⟨v2, zs2, hlk2, hoi2, hzl2, hback2⟩ := HD2.out.first.look (by unfold maxLen; omega) x0 hx0r
        have HO1 := Lib.hid hoi1; have HO2 := Lib.hid hoi2; have HB1 := Lib.hid hback1; have HB2 := Lib.hid hback2
        have a1 : wc.drew.cell? ⟨w.heap.size + 2, 2, none⟩ = some (.map (some w.heap.size)) := by rw [HD1.out.blk.cell]; rfl
        have a2 : wc.drew.cell? ⟨kb, 0, none⟩ = some (.int .i32 x0) := own_cell (own_below HK0.out HD1.out.below) _ hx0c
        have b1 : (wc.drew.alloc (.cells #[.int .i64 k] IntE)).cell? ⟨w.heap.size + 2, 2, none⟩ = some (.map (some w.heap.size)) := by rw [HD2.out.blk.cell]; rfl
        have b2 : (wc.drew.alloc (.cells #[.int .i64 k] IntE)).cell? ⟨kb, 0, none⟩ = some (.int .i32 x0) := own_cell (own_below HK0.out HD2.out.below) _ hx0c
        have hlk2 : (Instr.lookup 170 (.map (some w.heap.size)) (.int .i32 x0) false).run Tryz.prog (wc.alloc (.cells #[.int .i64 k] IntE)).drew = .ok v2 (wc.alloc (.cells #[.int .i64 k] IntE)).drew := hlk2
        have hal : wc.drew.grownBy (wc.drew.alloc (.cells #[.int .i64 k] IntE)) v1.ownBlock := World.grownBy_alloc _ _ _
        have hwf : (Lit.int .i64 (k : Int)).wf = true := WalkArith.wf_i64 (by omega)
        have j0 : (0 : Int) < (l.length : Int) := by omega
        obtain ⟨i1, hi, hz0, hz1, hz2⟩ := info_parts infoIntE
        have HAL := Lib.hid hal
        clear hoi1 hoi2 hback1 hback2 hx0 hx0c hal
        go_cut [] (fun wx => ∃ (vk' : Value) (ps' : List (Value × List Int)), CS w.heap.size w wx (20 * k + 3) (seenF ((ks.take (k + 1)).map (·.2))) vk' ps')
        case first =>
          go_region_held3 (fun w' => w'.cell? ⟨w.heap.size + 2, 2, none⟩ = some (.map (some w.heap.size)) ∧ w'.cell? ⟨kb, 0, none⟩ = some (.int .i32 x0)) (first | exact ⟨a1, a2⟩ | exact ⟨b1, b2⟩ | exact ⟨s1, s2⟩ | exact ⟨t1, t2⟩) (first | (refine step_append_lies _ rfl _ _ 169 rfl (w.heap.size + 4) IntE i1 (.int .i64 0) 1 8 Tryz.underlying169 hi hz0 hz1 hz2 rfl (by decide) v1 zs1.length (zs1.map (Value.int .i64)) rfl (HO1.out.1.alloc _) ⟨wc.heap.size, 0, none⟩ 1 1 [.int .i64 k] rfl rfl (one_cell wc.drew _ _) (by simp [Value.oneCell']) (by decide) (by unfold maxLen; omega) (by omega) HD2.out.size _ rfl ?_; intro g cap w3 hown hgrow hat _; have hgr := HAL.out.trans hgrow; obtain ⟨w4, hup, hm, hg2⟩ := HB1.out w3 _ (zs1 ++ [(k : Int)]) hgr (HO1.out.appended hown hwf) (by simp; omega) (lies_loc hat (by simp)); have hc4 := HD1.out.putFirst HO1.out hgr hm hg2; have s1 : w3.cell? ⟨w.heap.size + 2, 2, none⟩ = some (.map (some w.heap.size)) := by { rw [(Blk.turn HD1.out.blk hgr (noRow_own HO1.out.1 (by decide))).cell]; rfl }; have s2 : w3.cell? ⟨kb, 0, none⟩ = some (.int .i32 x0) := own_cell (own_turn (own_below HK0.out HD1.out.below) hgr (noRow_own HO1.out.1 (by decide))) _ HX0.out; have t1 : w4.cell? ⟨w.heap.size + 2, 2, none⟩ = some (.map (some w.heap.size)) := by { rw [hc4.blk.cell]; rfl }; have t2 : w4.cell? ⟨kb, 0, none⟩ = some (.int .i32 x0) := own_cell (own_below HK0.out hc4.below) _ HX0.out; have HC4 := Lib.hid hc4; clear hc4 hgr hg2) | (refine step_append_lies _ rfl _ _ 169 rfl (w.heap.size + 4) IntE i1 (.int .i64 0) 1 8 Tryz.underlying169 hi hz0 hz1 hz2 rfl (by decide) v2 zs2.length (zs2.map (Value.int .i64)) rfl HO2.out.1 ⟨wc.heap.size, 0, none⟩ 1 1 [.int .i64 k] rfl rfl (one_cell wc.drew _ _) (by simp [Value.oneCell']) (by decide) (by unfold maxLen; omega) (by omega) HD2.out.size _ rfl ?_; intro g cap w3 hown hgrow hat _; have hgr := hgrow; obtain ⟨w4, hup, hm, hg2⟩ := HB2.out w3 _ (zs2 ++ [(k : Int)]) hgr (HO2.out.appended hown hwf) (by simp; omega) (lies_loc hat (by simp)); have hc4 := HD2.out.putFirst HO2.out hgr hm hg2; have s1 : w3.cell? ⟨w.heap.size + 2, 2, none⟩ = some (.map (some w.heap.size)) := by { rw [(Blk.turn HD2.out.blk hgr (noRow_own HO2.out.1 (by decide))).cell]; rfl }; have s2 : w3.cell? ⟨kb, 0, none⟩ = some (.int .i32 x0) := own_cell (own_turn (own_below HK0.out HD2.out.below) hgr (noRow_own HO2.out.1 (by decide))) _ HX0.out; have t1 : w4.cell? ⟨w.heap.size + 2, 2, none⟩ = some (.map (some w.heap.size)) := by { rw [hc4.blk.cell]; rfl }; have t2 : w4.cell? ⟨kb, 0, none⟩ = some (.int .i32 x0) := own_cell (own_below HK0.out hc4.below) _ HX0.out; have HC4 := Lib.hid hc4; clear hc4 hgr hg2))
          all_goals
            go_wp2_with fail
            go_meet
            exact ⟨_, _, HC4.out⟩
        case rest =>
          obtain ⟨vk'', ps'', hcs⟩ := hcut
          have HCS := Lib.hid hcs
          clear hcs
          have j1 : (1 : Int) ≤ (l.length : Int) := by omega
          have j2 : (1 : Int) ≤ (kc : Int) := by omega
          have j3 : (l.length : Int) ≤ (kc : Int) := by omega
          go_upto_region 19 with fail
          go_cut [77, 78, 79] (fun s77 s78 s79 wx => ∃ A1 c1, s77 = .slice A1 (l.length - 1) c1 ∧ s78 = .int .i64 ((l.length - 1 : Nat) : Int) ∧ s79 = .int .i64 0 ∧ wx = wc ∧ (A1 = some ⟨kb, 1, none⟩ ∨ l.length - 1 = 0))
          case first =>
            by_cases hkc : kc = 1
            · subst hkc
              have hl1 : l.length - 1 = 0 := by omega
              go_wp2_with fail
              go_meet
              exact ⟨_, _, by first | rfl | rw [hl1], by rw [hl1]; rfl, rfl, rfl, .inr (by omega)⟩
            · have hk1 : 1 < kc := by omega
              have hk2 : (1 : Int) < (kc : Int) := by omega
              go_wp2_with fail
              go_meet
              exact ⟨_, _, rfl, rfl, rfl, rfl, .inl rfl⟩
          case rest =>
            obtain ⟨A1, c1, rfl, rfl, rfl, rfl, hA1⟩ := hcut
            clear j1 j2 j3
            go_wp2_with fail
            go_loopw [79] (fun vj wr => ∃ (j : Nat) (vk3 : Value) (ps3 : List (Value × List Int)), j ≤ l.length - 1 ∧ vj = .int .i64 j ∧ CS w.heap.size w wr (20 * k + 3 + j) (seenF ((ks.take (k + 1)).map (·.2))) vk3 ps3) (fun vj _ => l.length - (intOf vj).toNat)
            case atStart => exact ⟨0, _, _, Nat.zero_le _, rfl, HCS.out⟩
            case round =>
              obtain ⟨j, vk3, ps3, hj, rfl, hcs⟩ := hrel
              have HCS3 := Lib.hid hcs
              clear hcs
              by_cases hjl : j < l.length - 1
              · obtain rfl : A1 = some ⟨kb, 1, none⟩ := by rcases hA1 with h | h; exact h; omega
                obtain ⟨x, hx⟩ : ∃ x, l[1 + j]? = some x := ⟨l[1 + j]'(by omega), by rw [List.getElem?_eq_getElem]⟩
                have hxr := HSC.out x (List.mem_of_getElem? hx)
                have c0 : wr.cell? ⟨kb, 1 + j, none⟩ = some (.int .i32 x) := own_cell (own_below HK0.out HCS3.out.below) _ (by unfold i32s; rw [List.getElem?_map, hx]; rfl)
                have HD := Lib.hid (HCS3.out.keep (Below.refl _ _).drew)
                have a1 : wr.drew.cell? ⟨w.heap.size + 2, 3, none⟩ = some (.map (some (w.heap.size + 1))) := by rw [HD.out.blk.cell]; rfl
                obtain ⟨bx, hlk⟩ := HD.out.within.look 171 Tryz.underlying171 x hxr
                have j0 : (0 : Int) ≤ (j : Int) := by omega
                have j1 : (j : Int) < ((l.length - 1 : Nat) : Int) := by omega
                clear hx
                cases bx
                · have HCX := Lib.hid (class17_any x wr.drew)
                  have HXR := Lib.hid hxr
                  go_wp2_with fail
                  go_region_held3 (fun w' => w'.cell? ⟨w.heap.size + 2, 3, none⟩ = some (.map (some (w.heap.size + 1)))) (first | exact a1 | exact b1 | exact t1) (first | (go_at_call 174; refine HCX.out.mono ?_; rintro _ w1 ⟨rfl, hb1⟩; have HD1 := Lib.hid (HD.out.keep hb1); have b1 : w1.cell? ⟨w.heap.size + 2, 3, none⟩ = some (.map (some (w.heap.size + 1))) := by { rw [HD1.out.blk.cell]; rfl }; obtain ⟨w2, hup, hc2⟩ := HD1.out.putWithin (by unfold maxLen; omega) x HXR.out (cls x == 0); have t1 : w2.cell? ⟨w.heap.size + 2, 3, none⟩ = some (.map (some (w.heap.size + 1))) := by { rw [hc2.blk.cell]; rfl }; have HC2 := Lib.hid hc2; clear hc2))
                  go_wp2_with fail
                  go_roundw
                  case rel => exact ⟨j + 1, _, _, by omega, by go_num, HC2.out⟩
                  case measure => simp [intOf]; omega
                · obtain ⟨w2, hup, hc2⟩ := HD.out.putWithin (by unfold maxLen; omega) x hxr true
                  have t1 : w2.cell? ⟨w.heap.size + 2, 3, none⟩ = some (.map (some (w.heap.size + 1))) := by rw [hc2.blk.cell]; rfl
                  have HC2 := Lib.hid hc2
                  clear hc2
                  go_wp2_with fail
                  go_still_tail 17, (by kernel_rfl)
                  change wpList _ _ _ _ _ wr.drew
                  go_wp2_with fail
                  go_roundw
                  case rel => exact ⟨j + 1, _, _, by omega, by go_num, HC2.out⟩
                  case measure => simp [intOf]; omega
              · obtain rfl : j = l.length - 1 := by omega
                have j1 : decide (((l.length - 1 : Nat) : Int) < ((l.length - 1 : Nat) : Int)) = false := decide_eq_false (by omega)
                go_wp2_with fail
                go_roundw
                case rel => exact ⟨k + 1, _, _, by omega, by go_num, HCS3.out.mono (by omega)⟩
                case measure => simp [intOf]; omega
    · obtain rfl : k = ks.length := by omega
      go_wp2_with fail
      go_returns
      exact ⟨rfl, HCS.out.below⟩
set_option maxRecDepth 100000 in
theorem policyNew_any (B1 B2 : Nat) (vcs vks : Value) (cs : List ByteArray) (ks : List (Value × List Int)) (w : World) (hC : w.ownsRow B1 StrT 1 vcs cs.length (strs cs)) (hK : KeysV B2 w vks ks) (hlen : cs.length = ks.length)
    (hc0 : ∀ s ∈ cs, 0 < s.size) (h0 : ∀ p ∈ ks, goodKey p.2) (hd : (ks.map (·.2)).Nodup) (hn : ks.length ≤ 1000) :
    Calls Tryz.prog 47 #[smallI, vcs, vks] w fun e w' => ∃ p, e = .returned (.tuple #[.pointer p, .int .i64 0]) ∧ Below w.heap.size w w' := by
  have HN := Lib.hid (coverNew_any B2 vks ks w hK h0 hd hn)
  have hq2 := hasS_nil cs hc0
  obtain ⟨A1, c1, rfl, hrd⟩ : ∃ A c, vcs = .slice A cs.length c ∧ Rd w A cs.length (strs cs) := by
    rcases own_shape hC with ⟨rfl, h⟩ | ⟨g, c, rfl⟩
    · exact ⟨none, 0, by rw [h], ⟨strs_length _, fun h2 => by omega⟩⟩
    · exact ⟨_, _, rfl, own_str_rd hC⟩
  obtain ⟨A2, c2, rfl⟩ : ∃ A c, vks = .slice A ks.length c := by
    rcases own_shape hK.2 with ⟨rfl, h⟩ | ⟨g, c, rfl⟩
    · exact ⟨none, 0, by rw [h]⟩
    · exact ⟨_, _, rfl⟩
  have HC := Lib.hid hC
  have HR := Lib.hid hrd
  have e1 : ((cs.length : Int) == (ks.length : Int)) = true := by simp [hlen]
  have e2 : ((cs.length : Int) != (ks.length : Int)) = false := by simp [hlen]
  have HLEN := Lib.hid hlen
  clear hC hK hc0 h0 hd hrd hlen
  go_enter Tryz.func47, Tryz.ntmps47
  go_wp2_with fail
  refine HN.out.mono ?_
  rintro _ w1 ⟨rfl, hb1⟩
  have HX := Lib.hid (containsS_any A1 cs.length c1 cs ⟨#[]⟩ w1 (HR.out.keep hb1) (by have := HLEN.out; omega))
  have HCL := Lib.hid (cloneS_any B1 _ cs w1 (own_below HC.out hb1) (by have := HLEN.out; omega))
  go_wp2_with fail
  refine HX.out.mono ?_
  rintro _ _ ⟨rfl, rfl⟩
  go_wp2_with fail
  refine HCL.out.mono ?_
  rintro _ w2 ⟨v2, n2, k2, rfl, hb2⟩
  go_wp2_with fail
  go_returns
  exact ⟨_, rfl, (hb1.trans (hb2.mono hb1.size)).alloc (Nat.le_trans hb1.size hb2.size) _⟩
end Go.Proofs.YtkfjmcidcnpijaaGreatDoor.Sg
