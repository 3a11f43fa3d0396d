/- Walk: charset.New. -/
import Derived.Test.YtkfjmcidcnpijaaGreatDoorG28a
import Derived.Test.YtkfjmcidcnpijaaGreatDoorGr
import Derived.Deep.RegionLaw
import Derived.Deep.AppendLies
namespace Go.Proofs.YtkfjmcidcnpijaaGreatDoor.Sg
open Go.RowKit Pl Go.Lib Go.Maps Go.WideMaps

theorem hs_start (w : World) (vr : Value) : HS w.heap.size w ((((w.alloc (.map #[] 0)).alloc (.map #[] 0)).alloc (.cells (chC w.heap.size none vr (.slice none 0 0) (.slice none 0 0)) ChT)).alloc (.map #[] 0)) 0 (chC w.heap.size none vr (.slice none 0 0) (.slice none 0 0)) (fun _ => none) (fun _ => none) (fun _ => none) := by
  have s1 : (w.alloc (.map #[] 0)).heap.size = w.heap.size + 1 := by simp
  have s2 : ((w.alloc (.map #[] 0)).alloc (.map #[] 0)).heap.size = w.heap.size + 2 := by simp
  have s3 : (((w.alloc (.map #[] 0)).alloc (.map #[] 0)).alloc (.cells (chC w.heap.size none vr (.slice none 0 0) (.slice none 0 0)) ChT)).heap.size = w.heap.size + 3 := by simp
  have a : ∀ (W : World) (o : Obj), Below W.heap.size W (W.alloc o) := fun W o => (Below.refl _ _).alloc (Nat.le_refl _) _
  refine ⟨?_, ?_, ?_, ?_, ?_, ?_⟩
  · have h := Blk.new ((w.alloc (.map #[] 0)).alloc (.map #[] 0)) ChT (chC w.heap.size none vr (.slice none 0 0) (.slice none 0 0))
    rw [s2] at h
    exact h.alloc _
  · exact (((SMap.made elS w).below (a _ _)).below (a _ _)).below (a _ _)
  · have h := SMap.made elB (w.alloc (.map #[] 0))
    rw [s1] at h
    exact (h.below (a _ _)).below (a _ _)
  · have h := SMap.made elI (((w.alloc (.map #[] 0)).alloc (.map #[] 0)).alloc (.cells (chC w.heap.size none vr (.slice none 0 0) (.slice none 0 0)) ChT))
    rw [s3] at h
    exact h
  · exact ((((Below.refl _ _).alloc (Nat.le_refl _) _).alloc (by simp) _).alloc (by simp; omega) _).alloc (by simp; omega) _
  · simp
/-- A charset that was made of rows. -/
structure ChAt (w : World) (b : Nat) (l : List RowV) : Prop where
  valid : ∀ q ∈ l, wrong13 (plainR q) = 0
  mem : ∃ cs k n, Blk w b ChT cs ∧ cs[3]? = some (.map (some k)) ∧ SMap elS w k n (textsF l)
def NewP (w : World) (l : List RowV) (e : Ending) (w' : World) : Prop :=
  Below w.heap.size w w' ∧ ((wrong17 (l.map plainR)).2 ≠ 0 → e = .returned (.tuple #[.pointer none, .int .i64 (wrong17 (l.map plainR)).1, .int .i64 (wrong17 (l.map plainR)).2])) ∧
    ((wrong17 (l.map plainR)).2 = 0 → ∃ b, e = .returned (.tuple #[.pointer (some ⟨b, 0, none⟩), .int .i64 0, .int .i64 0]) ∧ ChAt w' b l)
set_option maxRecDepth 100000 in
set_option maxHeartbeats 16000000 in
theorem charsetNew_any (A : Option Addr) (c : Nat) (l : List RowV) (w : World) (hR : RowsAt w A l) (hn : l.length ≤ 1000) (hS : ∀ r ∈ l, r.code.size ≤ 1048576 ∧ r.text.size ≤ 1048576) (hT : Tabs w) :
    Calls Tryz.prog 30 #[smallI, .slice A l.length c] w (NewP w l) := by
  unfold NewP
  have hY : wrong17 (l.map plainR) = wrongGo [] (l.map plainR) := by unfold wrong17; rw [if_neg (by simp; omega)]
  generalize wrong17 (l.map plainR) = Y at *
  have HY := Lib.hid hY
  have HC := Lib.hid (cloneRow_any A c l w hR (by omega))
  have HR := Lib.hid hR
  have HSZ := Lib.hid hS
  have HT := Lib.hid hT
  have hmm := @run_makeMap Tryz.prog
  have hq : ∀ w, (binOp .eql 33 smallI .nilIface).run Tryz.prog w = .ok (.bool false) w := fun _ => rfl
  have e1 : decide ((4096 : Int) < (l.length : Int)) = false := decide_eq_false (by omega)
  clear hY hR hS hT
  go_enter Tryz.func30, Tryz.ntmps30
  go_wp2_with fail
  refine HC.out.mono ?_
  rintro _ w1 ⟨A1, n1, c1, rfl, hb1⟩
  have HST := Lib.hid (hs_start w1 (.slice A1 n1 c1))
  have HB1 := Lib.hid hb1
  clear hb1
  go_wp2_with fail
  go_loopw [9, 37] (fun va vi wr => ∃ (k : Nat) (h : List UInt8 → Option Int) (ks : List KRow), k ≤ l.length ∧ vi = .int .i64 k ∧ HS w1.heap.size w1 wr (20 * k) (chC w1.heap.size none (.slice A1 n1 c1) (.slice none 0 0) (.slice none 0 0)) (textsF (l.take k)) (headsF (l.take k)) h ∧ KAll (w1.heap.size + 4) wr va ks ∧ ks.length ≤ k ∧ KOk h ks ∧ (∀ q ∈ l.take k, wrong13 (plainR q) = 0) ∧ wrongGo ((l.map plainR).take k) ((l.map plainR).drop k) = Y) (fun _ vi _ => l.length - (RowKit.intOf vi).toNat)
  case atStart => exact ⟨0, _, [], Nat.zero_le _, rfl, HST.out, ⟨fun p hp => by simp at hp, World.ownsRow_nil _ _ _ _⟩, Nat.le_refl _, KOk.nil, by simp, HY.out.symm⟩
  case round =>
    obtain ⟨k, h, ks, hk, rfl, hs, hka, hkl, hok, hval, hgo⟩ := hrel
    have HSR := Lib.hid hs
    have HKA := Lib.hid hka
    have HOK := Lib.hid hok
    have HVAL := Lib.hid hval
    have HGO := Lib.hid hgo
    have hbw : Below w.heap.size w wr := HB1.out.trans (hs.below.mono HB1.out.size)
    have HBW := Lib.hid hbw
    clear hs hka hok hval hgo
    by_cases hlt : k < l.length
    · obtain ⟨bk, o, rfl, hbk, q0, q1, q2⟩ := (HR.out.keep hbw).at_ hlt
      have hsz := HSZ.out l[k] (List.getElem_mem hlt)
      have htk : l.take (k + 1) = l.take k ++ [l[k]] := List.take_succ_eq_append_getElem hlt
      have hgo := go_at (l.map plainR) k (by simpa using hlt)
      rw [HGO.out, List.getElem_map, ← List.map_take, ← rowE_eq _ _ HVAL.out] at hgo
      generalize l[k] = r at *
      have j1 : (k : Int) < (l.length : Int) := by omega
      have j2 : (0 : Int) ≤ (k : Int) := by omega
      have hkw : IntKind.i64.wrap ((k : Int) + 1) = (k : Int) + 1 := IntWalk.i64_in _ (by omega)
      obtain ⟨W, hW⟩ : ∃ W, wr.alloc (.cells #[.string r.code, .string r.text, .int .i64 r.flag] 50) = W := ⟨_, rfl⟩
      have hbW : Below wr.heap.size wr W := hW ▸ (Below.refl _ _).alloc (Nat.le_refl _) _
      have hkW : Blk W wr.heap.size 50 #[.string r.code, .string r.text, .int .i64 r.flag] := hW ▸ Blk.new _ _ _
      have HKW := Lib.hid hkW
      have hl3 : w1.heap.size + 4 ≤ wr.heap.size := HSR.out.size
      have hl4 : w.heap.size ≤ w1.heap.size := HB1.out.size
      have HROW := Lib.hid (row_any w1.heap.size w1 W (20 * k) none (.slice A1 n1 c1) (.slice none 0 0) (.slice none 0 0) _ _ h r (HSR.out.keep hbW) (headsF_true (l.take k)) (HT.out.keep (hbw.trans (hbW.mono hbw.size))) hsz.1 hsz.2 (by omega))
      have k0 : W.cell? ⟨wr.heap.size, 0, none⟩ = some (.string r.code) := by rw [hkW.cell]; rfl
      have k1 : W.cell? ⟨wr.heap.size, 1, none⟩ = some (.string r.text) := by rw [hkW.cell]; rfl
      have k2 : W.cell? ⟨wr.heap.size, 2, none⟩ = some (.int .i64 r.flag) := by rw [hkW.cell]; rfl
      have HKAW := Lib.hid (HKA.out.keep hbW)
      have HTK := Lib.hid htk
      have HGOAT := Lib.hid hgo
      have hc2 : r.code.size ≤ 1048576 := hsz.1
      clear hbw htk hgo hbW hkW hbk
      go_wp2_with fail
      refine HROW.out.mono ?_
      rintro _ w2 ⟨v, rfl, hck, f', g', hs2, hok2⟩
      have m0 : w2.cell? ⟨wr.heap.size, 0, none⟩ = some (.string r.code) := by rw [(Blk.ck HKW.out hck).cell]; rfl
      have m1 : w2.cell? ⟨wr.heap.size, 1, none⟩ = some (.string r.text) := by rw [(Blk.ck HKW.out hck).cell]; rfl
      have m2 : w2.cell? ⟨wr.heap.size, 2, none⟩ = some (.int .i64 r.flag) := by rw [(Blk.ck HKW.out hck).cell]; rfl
      have HKA2 := Lib.hid (HKAW.out.ck hck)
      have HKW2 := Lib.hid (Blk.ck HKW.out hck)
      have HOK2 := Lib.hid hok2
      have HS2 := Lib.hid hs2
      have HBW2 := Lib.hid (HB1.out.trans (hs2.below.mono HB1.out.size))
      clear hck hok2 hs2 k0 k1 k2 q0 q1 q2 hsz hl3 hl4
      by_cases hE : rowE (textsF (l.take k)) (headsF (l.take k)) r = 0
      rotate_left
      · have hy : Y = ((k : Int) + 1, rowE (textsF (l.take k)) (headsF (l.take k)) r) := by rw [HGOAT.out, if_pos hE]
        subst hy
        have x1 : (rowE (textsF (l.take k)) (headsF (l.take k)) r != 0) = true := by simp [hE]
        have HE := Lib.hid hE
        clear hE
        go_wp2_with fail
        go_returns
        exact ⟨HBW2.out, fun _ => rfl, fun h => absurd h HE.out⟩
      have hy : Y = wrongGo ((l.map plainR).take (k + 1)) ((l.map plainR).drop (k + 1)) := by rw [HGOAT.out, if_neg (fun h => h hE)]
      have x1 : (rowE (textsF (l.take k)) (headsF (l.take k)) r != 0) = false := by simp [hE]
      obtain ⟨ho2, hf2, hg2⟩ := HOK2.out hE
      obtain ⟨hv13, hn18, _⟩ := rowE_zero hE
      obtain ⟨_, _, hz1, hz2, hz3, hz4⟩ := plainR_valid r hv13
      have hgood := nfd_good (runesL r.text.data.toList) hz3 (scal_runes _) hn18
      rw [took_texts _ _ hE, ← HTK.out] at hf2
      rw [took_heads, ← HTK.out] at hg2
      subst hf2 hg2
      have hval2 : ∀ q ∈ l.take (k + 1), wrong13 (plainR q) = 0 := by
        intro q hq
        rw [HTK.out] at hq
        rcases List.mem_append.1 hq with hq | hq
        · exact HVAL.out q hq
        · obtain rfl : q = r := by simpa using hq
          exact hv13
      have HVAL2 := Lib.hid hval2
      have HY2 := Lib.hid hy.symm
      have HRC := Lib.hid (⟨hz1, hz2⟩ : 0 < r.code.size ∧ r.code.size ≤ 4)
      rw [hE] at x1 ⊢
      generalize nfd (runesL r.text.data.toList) = K at *
      obtain ⟨g3, c3, rfl⟩ := own_pos ho2 (List.length_pos_iff.2 hgood.1)
      have HO2 := Lib.hid ho2
      have HGOOD := Lib.hid hgood
      have hcap := own_cap ho2
      unfold maxLen at hcap
      clear hE hy hv13 hn18 hz1 hz2 hz3 hz4 hgood hval2 ho2
      by_cases hfl : r.flag = 3
      · have x3 : (r.flag == 3) = true := by simp [hfl]
        clear hfl
        go_wp2_with fail
        go_roundw
        case rel => exact ⟨k + 1, h, ks, by omega, by go_num, HS2.out.mono (by omega), HKA2.out, by omega, HOK.out, HVAL2.out, HY2.out⟩
        case measure => simp [RowKit.intOf]; omega
      have x3 : (r.flag == 3) = false := by simp [hfl]
      have hbs : (runesBytes K).size ≤ maxLen := by
        have h1 := runesBytes_le K HGOOD.out.2.2.2
        have h2 := HGOOD.out.2.1
        unfold maxLen; omega
      have hcv := textback (text_of_own HO2.out)
      have hlk := HS2.out.lookAt (runesBytes K) hbs
      obtain ⟨Aa, ca, rfl⟩ : ∃ A c, u9 = .slice A ks.length c := by
        rcases own_shapeS HKA2.out.own with ⟨rfl, h⟩ | ⟨g, c, rfl⟩
        · exact ⟨none, 0, by rw [h]⟩
        · exact ⟨_, _, rfl⟩
      cases hsome : (h (runesBytes K).data.toList).isSome
      · rw [hsome] at hlk
        obtain ⟨w3, hup, hs3, hck3⟩ := HS2.out.putAt (by unfold maxLen; omega) (runesBytes K) hbs (ks.length : Int) (by omega)
        have HS3 := Lib.hid hs3
        have HKA3 := Lib.hid (HKA2.out.ck hck3)
        have HO3 := Lib.hid (own_ck HO2.out hck3)
        have n0 : w3.cell? ⟨wr.heap.size, 0, none⟩ = some (.string r.code) := by rw [(Blk.ck HKW2.out hck3).cell]; rfl
        have n1' : w3.cell? ⟨wr.heap.size, 1, none⟩ = some (.string r.text) := by rw [(Blk.ck HKW2.out hck3).cell]; rfl
        have n2 : w3.cell? ⟨wr.heap.size, 2, none⟩ = some (.int .i64 r.flag) := by rw [(Blk.ck HKW2.out hck3).cell]; rfl
        have HNEW := Lib.hid (HOK.out.snoc ⟨.slice (some ⟨g3, 0, none⟩) K.length c3, K, r⟩ HGOOD.out HRC.out hsome)
        clear hsome hs3 hck3 hfl
        go_wp2_with (at_builtin; refine wpList_keyed w3 rfl _ _ rfl (w1.heap.size + 4) (.slice Aa ks.length ca) ks rfl HKA3.out HS3.out.size K g3 K.length c3 r (own_low HO3.out (Nat.zero_le _)) _ rfl (by omega) ?_; intro v4 w4 hka4 hb4)
        go_roundw
        case rel => exact ⟨k + 1, _, _, by omega, by go_num, (HS3.out.low hb4).mono (by omega), hka4, by simp; omega, HNEW.out, HVAL2.out, HY2.out⟩
        case measure => simp [RowKit.intOf]; omega
      · obtain ⟨i, hi⟩ := Option.isSome_iff_exists.1 hsome
        rw [hi] at hlk
        obtain ⟨hi0, hi1⟩ := HOK.out.idx _ _ hi
        obtain ⟨j, rfl⟩ : ∃ j : Nat, i = (j : Int) := ⟨i.toNat, by omega⟩
        have hj : j < ks.length := by omega
        obtain ⟨ga, rfl⟩ : ∃ g, Aa = some ⟨g, 0, none⟩ := by
          rcases own_shapeS HKA2.out.own with ⟨h, h0⟩ | ⟨g, c, h⟩
          · omega
          · injection h with h; exact ⟨g, h⟩
        have hlk : (Instr.lookup 103 (.map (some (w1.heap.size + 3))) (.string (runesBytes K)) true).run Tryz.prog w2 = .ok (.tuple #[.int .i64 (j : Int), .bool true]) w2 := hlk
        obtain ⟨_, hp1, hp2, hp3⟩ := kcells_at ks j hj
        have p1 := own_cellS HKA2.out.own _ hp1
        have p2 := own_cellS HKA2.out.own _ hp2
        have p3 := own_cellS HKA2.out.own _ hp3
        have hgj := (HOK.out.good _ (List.getElem_mem hj)).2
        have HBET := Lib.hid (better_any r ks[j].row (by unfold maxLen; omega) (by unfold maxLen; omega) w2.drew)
        have HPUT := Lib.hid (HOK.out.put j hj r HRC.out)
        have HKP := Lib.hid (fun (w' : World) (h : KAll (w1.heap.size + 4) w' (.slice (some ⟨ga, 0, none⟩) ks.length ca) ks) => h.put hj r)
        have HP1 := Lib.hid hp1; have HP2 := Lib.hid hp2; have HP3 := Lib.hid hp3
        have hkj : ∃ q : KRow, q = ks[j] := ⟨_, rfl⟩
        obtain ⟨q, hq⟩ := hkj
        rw [← hq] at p1 p2 p3 hgj HBET HPUT HKP HP1 HP2 HP3
        have t1 : (j : Int) < (ks.length : Int) := by omega
        have t2 : (0 : Int) ≤ (j : Int) := by omega
        have hga : w1.heap.size + 4 ≤ ga := (HKA2.out.own.lt ga rfl).1
        have HGA := Lib.hid hga
        have hgl : ga < w2.heap.size := (HKA2.out.own.lt ga rfl).2
        have hwl : wr.heap.size < w2.heap.size := HKW2.out.lt
        have HGL := Lib.hid hgl; have HWL := Lib.hid hwl
        clear hsome hi hi0 hi1 hp1 hp2 hp3 hq hgj hga hgl hwl hfl
        go_wp2_with fail
        go_region_held3 (fun w' => w'.cell? ⟨wr.heap.size, 0, none⟩ = some (.string r.code) ∧ w'.cell? ⟨wr.heap.size, 1, none⟩ = some (.string r.text) ∧ w'.cell? ⟨wr.heap.size, 2, none⟩ = some (.int .i64 r.flag) ∧ w'.cell? ⟨ga, j * 4 + 1, none⟩ = some (.string q.row.code) ∧ w'.cell? ⟨ga, j * 4 + 2, none⟩ = some (.string q.row.text) ∧ w'.cell? ⟨ga, j * 4 + 3, none⟩ = some (.int .i64 q.row.flag)) (first | exact ⟨m0, m1, m2, p1, p2, p3⟩ | exact ⟨n0, n1', n2, r1, r2, r3⟩) (first | (go_at_call 46; refine HBET.out.mono ?_; rintro _ w3 ⟨⟨kb, rfl⟩, hb3⟩; have n0 := (hb3.cell (p := ⟨wr.heap.size, 0, none⟩) HWL.out).trans m0; have n1' := (hb3.cell (p := ⟨wr.heap.size, 1, none⟩) HWL.out).trans m1; have n2 := (hb3.cell (p := ⟨wr.heap.size, 2, none⟩) HWL.out).trans m2; have r1 := (hb3.cell (p := ⟨ga, j * 4 + 1, none⟩) HGL.out).trans p1; have r2 := (hb3.cell (p := ⟨ga, j * 4 + 2, none⟩) HGL.out).trans p2; have r3 := (hb3.cell (p := ⟨ga, j * 4 + 3, none⟩) HGL.out).trans p3))
        have HS3 := Lib.hid ((HS2.out.keep (Below.refl _ _).drew).keep hb3)
        have HKA3 := Lib.hid (HKA2.out.keep ((Below.refl w2.heap.size w2).drew.trans hb3))
        clear hb3 m0 m1 m2 p1 p2 p3 hlk hcv
        cases kb
        · go_wp2_with fail
          go_roundw
          case rel => exact ⟨k + 1, _, _, by omega, by go_num, HS3.out.mono (by omega), HKA3.out, by omega, HOK.out, HVAL2.out, HY2.out⟩
          case measure => simp [RowKit.intOf]; omega
        · have f1 : w3.frozen? ⟨ga, j * 4 + 1, none⟩ = false := own_frozenS HKA3.out.own
          have f2 : w3.frozen? ⟨ga, j * 4 + 2, none⟩ = false := own_frozenS HKA3.out.own
          have f3 : w3.frozen? ⟨ga, j * 4 + 3, none⟩ = false := own_frozenS HKA3.out.own
          have HKQ := Lib.hid (HKP.out w3 HKA3.out)
          have HBS := Lib.hid (below_set (below_set (below_set (Below.refl (w1.heap.size + 4) w3) ga (j * 4 + 1) (.string r.code) HGA.out) ga (j * 4 + 2) (.string r.text) HGA.out) ga (j * 4 + 3) (.int .i64 r.flag) HGA.out)
          go_wp2_with fail
          go_roundw
          case rel => exact ⟨k + 1, _, _, by omega, by go_num, (HS3.out.low HBS.out).mono (by omega), by have h := HKQ.out; rw [List.length_set] at h; exact h, by rw [List.length_set]; omega, HPUT.out, HVAL2.out, HY2.out⟩
          case measure => simp [RowKit.intOf]; omega
    · obtain rfl : k = l.length := by omega
      have hy : Y = (0, 0) := by
        rw [← HGO.out, List.drop_eq_nil_of_le (by simp)]
        rfl
      subst hy
      have HVL : Hid (∀ q ∈ l, wrong13 (plainR q) = 0) := Lib.hid (by have h := HVAL.out; rw [List.take_of_length_le (Nat.le_refl _)] at h; exact h)
      rw [List.take_of_length_le (Nat.le_refl _)] at HSR
      clear hbw HVAL HGO HY
      obtain ⟨Aa, ca, rfl⟩ : ∃ A c, u9 = .slice A ks.length c := by
        rcases own_shapeS HKA.out.own with ⟨rfl, h⟩ | ⟨g, c, rfl⟩
        · exact ⟨none, 0, by rw [h]⟩
        · exact ⟨_, _, rfl⟩
      have jj : decide ((l.length : Int) < (l.length : Int)) = false := decide_eq_false (by omega)
      go_wp2_with fail
      go_loopw [91] (fun vi wx => ∃ (i : Nat) (vk vc : Value), i ≤ ks.length ∧ vi = .int .i64 i ∧ LI w1.heap.size w1 wx (20 * l.length) (chC w1.heap.size none (.slice A1 n1 c1) vk vc) (textsF l) (headsF l) h (.slice Aa ks.length ca) ks vk ((ks.take i).map fun p => (p.v, p.key)) vc ((ks.take i).map (·.row.code))) (fun vi _ => ks.length - (RowKit.intOf vi).toNat)
      case atStart => exact ⟨0, _, _, Nat.zero_le _, rfl, HSR.out, HKA.out, ⟨fun p hp => by simp at hp, World.ownsRow_nil _ _ _ _⟩, World.ownsRow_nil _ _ _ _⟩
      case round =>
        obtain ⟨i, vk, vc, hi, rfl, hli⟩ := hrel
        have HLI := Lib.hid hli
        by_cases hlt : i < ks.length
        · obtain ⟨ga, rfl⟩ : ∃ g, Aa = some ⟨g, 0, none⟩ := by
            rcases own_shapeS hli.ka.own with ⟨h, h0⟩ | ⟨g, c, h⟩
            · omega
            · injection h with h; exact ⟨g, h⟩
          obtain ⟨hp0, hp1, hp2, hp3⟩ := kcells_at ks i hlt
          have p0 := own_cellS hli.ka.own _ hp0
          have p1 := own_cellS hli.ka.own _ hp1
          have p2 := own_cellS hli.ka.own _ hp2
          have p3 := own_cellS hli.ka.own _ hp3
          have t1 : (i : Int) < (ks.length : Int) := by omega
          have t2 : (0 : Int) ≤ (i : Int) := by omega
          have hgk := (HOK.out.good _ (List.getElem_mem hlt)).1.1
          have hkk := hli.ka.keys _ (List.getElem_mem hlt)
          have htk : (ks.take (i + 1)).map (fun p => (p.v, p.key)) = (ks.take i).map (fun p => (p.v, p.key)) ++ [(ks[i].v, ks[i].key)] := by rw [List.take_succ_eq_append_getElem hlt, List.map_append]; rfl
          have htc : (ks.take (i + 1)).map (·.row.code) = (ks.take i).map (·.row.code) ++ [ks[i].row.code] := by rw [List.take_succ_eq_append_getElem hlt, List.map_append]; rfl
          have hpl : ((ks.take i).map fun p => (p.v, p.key)).length ≤ 1000 := by rw [List.length_map, List.length_take]; omega
          have hcl : ((ks.take i).map (·.row.code)).length ≤ 1000 := by rw [List.length_map, List.length_take]; omega
          generalize ks[i] = q at *
          obtain ⟨qv, key, row⟩ := q
          have hkk : wr.ownsRow 0 RuneT 1 qv key.length (i32s key) := hkk
          obtain ⟨gq, cq, rfl⟩ := own_pos hkk (List.length_pos_iff.2 hgk)
          obtain ⟨W, hW⟩ : ∃ W, wr.alloc (.cells #[.slice (some ⟨gq, 0, none⟩) key.length cq, .string row.code, .string row.text, .int .i64 row.flag] KeyedT) = W := ⟨_, rfl⟩
          have hbW : Below wr.heap.size wr W := hW ▸ (Below.refl _ _).alloc (Nat.le_refl _) _
          have hkW : Blk W wr.heap.size KeyedT #[.slice (some ⟨gq, 0, none⟩) key.length cq, .string row.code, .string row.text, .int .i64 row.flag] := hW ▸ Blk.new _ _ _
          have aD : ∀ (V : World) (o : Obj), Below V.heap.size V (V.alloc o) := fun V o => (Below.refl _ _).alloc (Nat.le_refl _) _
          have hL0 := (hli.keep hbW).keep (Below.refl _ _).drew
          have hR0 := own_below (own_below hkk hbW) (Below.refl _ _).drew
          have m0 : W.drew.cell? ⟨wr.heap.size, 0, none⟩ = some (.slice (some ⟨gq, 0, none⟩) key.length cq) := by rw [hkW.drew.cell]; rfl
          have m1 : W.drew.cell? ⟨wr.heap.size, 1, none⟩ = some (.string row.code) := by rw [hkW.drew.cell]; rfl
          have u5 : W.drew.cell? ⟨w1.heap.size + 2, 5, none⟩ = some vk := by rw [hL0.hs.blk.cell]; rfl
          have u6 : W.drew.cell? ⟨w1.heap.size + 2, 6, none⟩ = some vc := by rw [hL0.hs.blk.cell]; rfl
          have HL0 := Lib.hid hL0
          have HTK := Lib.hid htk
          have HTC := Lib.hid htc
          generalize (ks.take i).map (fun p => (p.v, p.key)) = ps at *
          generalize (ks.take i).map (·.row.code) = cds at *
          have LK := Lib.hid (hL0.keep (aD _ (.cells #[.slice (some ⟨gq, 0, none⟩) key.length cq] KeyT)))
          have RK := Lib.hid (own_below hR0 (aD _ (.cells #[.slice (some ⟨gq, 0, none⟩) key.length cq] KeyT)))
          have BK := Lib.hid (Blk.new W.drew KeyT #[.slice (some ⟨gq, 0, none⟩) key.length cq])
          have LC := Lib.hid (hL0.keep (aD _ (.cells #[.string row.code] StrT)))
          have RC := Lib.hid (own_below hR0 (aD _ (.cells #[.string row.code] StrT)))
          have BC := Lib.hid (Blk.new W.drew StrT #[.string row.code])
          have LKC := Lib.hid (LK.out.keep (aD _ (.cells #[.string row.code] StrT)))
          have RKC := Lib.hid (own_below RK.out (aD _ (.cells #[.string row.code] StrT)))
          have BKC := Lib.hid (BK.out.alloc (.cells #[.string row.code] StrT))
          have BCC : Hid (Blk ((W.drew.alloc (.cells #[.slice (some ⟨gq, 0, none⟩) key.length cq] KeyT)).alloc (.cells #[.string row.code] StrT)) (W.heap.size + 1) StrT #[.string row.code]) := Lib.hid (by have h := Blk.new (W.drew.alloc (.cells #[.slice (some ⟨gq, 0, none⟩) key.length cq] KeyT)) StrT #[.string row.code]; rw [show (W.drew.alloc (.cells #[.slice (some ⟨gq, 0, none⟩) key.length cq] KeyT)).heap.size = W.heap.size + 1 from by simp] at h; exact h)
          have LCK := Lib.hid (LC.out.keep (aD _ (.cells #[.slice (some ⟨gq, 0, none⟩) key.length cq] KeyT)))
          have RCK := Lib.hid (own_below RC.out (aD _ (.cells #[.slice (some ⟨gq, 0, none⟩) key.length cq] KeyT)))
          have BCK := Lib.hid (BC.out.alloc (.cells #[.slice (some ⟨gq, 0, none⟩) key.length cq] KeyT))
          have BKK : Hid (Blk ((W.drew.alloc (.cells #[.string row.code] StrT)).alloc (.cells #[.slice (some ⟨gq, 0, none⟩) key.length cq] KeyT)) (W.heap.size + 1) KeyT #[.slice (some ⟨gq, 0, none⟩) key.length cq]) := Lib.hid (by have h := Blk.new (W.drew.alloc (.cells #[.string row.code] StrT)) KeyT #[.slice (some ⟨gq, 0, none⟩) key.length cq]; rw [show (W.drew.alloc (.cells #[.string row.code] StrT)).heap.size = W.heap.size + 1 from by simp] at h; exact h)
          have m0K : (W.alloc (.cells #[.slice (some ⟨gq, 0, none⟩) key.length cq] KeyT)).cell? ⟨wr.heap.size, 0, none⟩ = some (.slice (some ⟨gq, 0, none⟩) key.length cq) := by show (W.drew.alloc (.cells #[.slice (some ⟨gq, 0, none⟩) key.length cq] KeyT)).cell? ⟨wr.heap.size, 0, none⟩ = _; rw [(hkW.drew.alloc _).cell]; rfl
          have m1K : (W.alloc (.cells #[.slice (some ⟨gq, 0, none⟩) key.length cq] KeyT)).cell? ⟨wr.heap.size, 1, none⟩ = some (.string row.code) := by show (W.drew.alloc (.cells #[.slice (some ⟨gq, 0, none⟩) key.length cq] KeyT)).cell? ⟨wr.heap.size, 1, none⟩ = _; rw [(hkW.drew.alloc _).cell]; rfl
          have u5K : (W.alloc (.cells #[.slice (some ⟨gq, 0, none⟩) key.length cq] KeyT)).cell? ⟨w1.heap.size + 2, 5, none⟩ = some vk := by show (W.drew.alloc (.cells #[.slice (some ⟨gq, 0, none⟩) key.length cq] KeyT)).cell? ⟨w1.heap.size + 2, 5, none⟩ = _; rw [LK.out.hs.blk.cell]; rfl
          have u6K : (W.alloc (.cells #[.slice (some ⟨gq, 0, none⟩) key.length cq] KeyT)).cell? ⟨w1.heap.size + 2, 6, none⟩ = some vc := by show (W.drew.alloc (.cells #[.slice (some ⟨gq, 0, none⟩) key.length cq] KeyT)).cell? ⟨w1.heap.size + 2, 6, none⟩ = _; rw [LK.out.hs.blk.cell]; rfl
          have m0C : (W.alloc (.cells #[.string row.code] StrT)).cell? ⟨wr.heap.size, 0, none⟩ = some (.slice (some ⟨gq, 0, none⟩) key.length cq) := by show (W.drew.alloc (.cells #[.string row.code] StrT)).cell? ⟨wr.heap.size, 0, none⟩ = _; rw [(hkW.drew.alloc _).cell]; rfl
          have m1C : (W.alloc (.cells #[.string row.code] StrT)).cell? ⟨wr.heap.size, 1, none⟩ = some (.string row.code) := by show (W.drew.alloc (.cells #[.string row.code] StrT)).cell? ⟨wr.heap.size, 1, none⟩ = _; rw [(hkW.drew.alloc _).cell]; rfl
          have u5C : (W.alloc (.cells #[.string row.code] StrT)).cell? ⟨w1.heap.size + 2, 5, none⟩ = some vk := by show (W.drew.alloc (.cells #[.string row.code] StrT)).cell? ⟨w1.heap.size + 2, 5, none⟩ = _; rw [LC.out.hs.blk.cell]; rfl
          have u6C : (W.alloc (.cells #[.string row.code] StrT)).cell? ⟨w1.heap.size + 2, 6, none⟩ = some vc := by show (W.drew.alloc (.cells #[.string row.code] StrT)).cell? ⟨w1.heap.size + 2, 6, none⟩ = _; rw [LC.out.hs.blk.cell]; rfl
          have XK := Lib.hid (hkW.drew.alloc (.cells #[.slice (some ⟨gq, 0, none⟩) key.length cq] KeyT))
          have XKC := Lib.hid ((hkW.drew.alloc (.cells #[.slice (some ⟨gq, 0, none⟩) key.length cq] KeyT)).alloc (.cells #[.string row.code] StrT))
          have XCK := Lib.hid ((hkW.drew.alloc (.cells #[.string row.code] StrT)).alloc (.cells #[.slice (some ⟨gq, 0, none⟩) key.length cq] KeyT))
          have m0KC : ((W.alloc (.cells #[.slice (some ⟨gq, 0, none⟩) key.length cq] KeyT)).alloc (.cells #[.string row.code] StrT)).cell? ⟨wr.heap.size, 0, none⟩ = some (.slice (some ⟨gq, 0, none⟩) key.length cq) := by show ((W.drew.alloc (.cells #[.slice (some ⟨gq, 0, none⟩) key.length cq] KeyT)).alloc (.cells #[.string row.code] StrT)).cell? ⟨wr.heap.size, 0, none⟩ = _; rw [XKC.out.cell]; rfl
          have m1KC : ((W.alloc (.cells #[.slice (some ⟨gq, 0, none⟩) key.length cq] KeyT)).alloc (.cells #[.string row.code] StrT)).cell? ⟨wr.heap.size, 1, none⟩ = some (.string row.code) := by show ((W.drew.alloc (.cells #[.slice (some ⟨gq, 0, none⟩) key.length cq] KeyT)).alloc (.cells #[.string row.code] StrT)).cell? ⟨wr.heap.size, 1, none⟩ = _; rw [XKC.out.cell]; rfl
          have u5KC : ((W.alloc (.cells #[.slice (some ⟨gq, 0, none⟩) key.length cq] KeyT)).alloc (.cells #[.string row.code] StrT)).cell? ⟨w1.heap.size + 2, 5, none⟩ = some vk := by show ((W.drew.alloc (.cells #[.slice (some ⟨gq, 0, none⟩) key.length cq] KeyT)).alloc (.cells #[.string row.code] StrT)).cell? ⟨w1.heap.size + 2, 5, none⟩ = _; rw [LKC.out.hs.blk.cell]; rfl
          have u6KC : ((W.alloc (.cells #[.slice (some ⟨gq, 0, none⟩) key.length cq] KeyT)).alloc (.cells #[.string row.code] StrT)).cell? ⟨w1.heap.size + 2, 6, none⟩ = some vc := by show ((W.drew.alloc (.cells #[.slice (some ⟨gq, 0, none⟩) key.length cq] KeyT)).alloc (.cells #[.string row.code] StrT)).cell? ⟨w1.heap.size + 2, 6, none⟩ = _; rw [LKC.out.hs.blk.cell]; rfl
          have m0CK : ((W.alloc (.cells #[.string row.code] StrT)).alloc (.cells #[.slice (some ⟨gq, 0, none⟩) key.length cq] KeyT)).cell? ⟨wr.heap.size, 0, none⟩ = some (.slice (some ⟨gq, 0, none⟩) key.length cq) := by show ((W.drew.alloc (.cells #[.string row.code] StrT)).alloc (.cells #[.slice (some ⟨gq, 0, none⟩) key.length cq] KeyT)).cell? ⟨wr.heap.size, 0, none⟩ = _; rw [XCK.out.cell]; rfl
          have m1CK : ((W.alloc (.cells #[.string row.code] StrT)).alloc (.cells #[.slice (some ⟨gq, 0, none⟩) key.length cq] KeyT)).cell? ⟨wr.heap.size, 1, none⟩ = some (.string row.code) := by show ((W.drew.alloc (.cells #[.string row.code] StrT)).alloc (.cells #[.slice (some ⟨gq, 0, none⟩) key.length cq] KeyT)).cell? ⟨wr.heap.size, 1, none⟩ = _; rw [XCK.out.cell]; rfl
          have u5CK : ((W.alloc (.cells #[.string row.code] StrT)).alloc (.cells #[.slice (some ⟨gq, 0, none⟩) key.length cq] KeyT)).cell? ⟨w1.heap.size + 2, 5, none⟩ = some vk := by show ((W.drew.alloc (.cells #[.string row.code] StrT)).alloc (.cells #[.slice (some ⟨gq, 0, none⟩) key.length cq] KeyT)).cell? ⟨w1.heap.size + 2, 5, none⟩ = _; rw [LCK.out.hs.blk.cell]; rfl
          have u6CK : ((W.alloc (.cells #[.string row.code] StrT)).alloc (.cells #[.slice (some ⟨gq, 0, none⟩) key.length cq] KeyT)).cell? ⟨w1.heap.size + 2, 6, none⟩ = some vc := by show ((W.drew.alloc (.cells #[.string row.code] StrT)).alloc (.cells #[.slice (some ⟨gq, 0, none⟩) key.length cq] KeyT)).cell? ⟨w1.heap.size + 2, 6, none⟩ = _; rw [LCK.out.hs.blk.cell]; rfl
          have HNE : Hid (wr.heap.size ≠ w1.heap.size + 2) := Lib.hid (by have := HLI.out.hs.size; omega)
          clear hp0 hp1 hp2 hp3 hli hgk hkk htk htc hbW hkW hL0 hR0 aD
          --BEGIN
          go_wp2_with fail
          refine wp_region_late (fun w' => w'.cell? ⟨wr.heap.size, 0, none⟩ = some (.slice (some ⟨gq, 0, none⟩) key.length cq) ∧ w'.cell? ⟨wr.heap.size, 1, none⟩ = some (.string row.code)) (fun w' => w'.cell? ⟨w1.heap.size + 2, 5, none⟩ = some vk ∧ w'.cell? ⟨w1.heap.size + 2, 6, none⟩ = some vc) [21, 24] (by kernel_rfl) ⟨m0, m1⟩ ⟨u5, u6⟩ (fun hI => ?_)
          refine late_take (i := 0) (v := ?_) rfl (by kernel_rfl) (by kernel_rfl) (by kernel_rfl) (fun _ _ _ h => h) (by kernel_rfl) (by rfl) hI ?_ (fun hI => ?_)
          rotate_left
          · intro w hSw; (try dsimp only at hSw); (first | (go_simp; done) | (go_simp; with_reducible rfl))
          try simp only [Act.put, List.setIfInBounds_toArray]
          refine late_take (i := 2) (v := ?_) rfl (by kernel_rfl) (by kernel_rfl) (by kernel_rfl) (fun _ _ _ h => h) (by kernel_rfl) (by rfl) hI ?_ (fun hI => ?_)
          rotate_left
          · intro w hSw; (try dsimp only at hSw); (first | (go_simp; done) | (go_simp; with_reducible rfl))
          try simp only [Act.put]
          refine late_take (i := 3) (v := ?_) rfl (by kernel_rfl) (by kernel_rfl) (by kernel_rfl) (fun _ _ _ h => h) (by kernel_rfl) (by rfl) hI ?_ (fun hI => ?_)
          rotate_left
          · intro w hSw; (try dsimp only at hSw); (first | (go_simp; done) | (go_simp; with_reducible rfl))
          try simp only [Act.put]
          refine late_take (i := 4) (v := ?_) rfl (by kernel_rfl) (by kernel_rfl) (by kernel_rfl) (fun _ _ _ h => h) (by kernel_rfl) (by rfl) hI ?_ (fun hI => ?_)
          rotate_left
          · intro w hSw; (try dsimp only at hSw); (first | (go_simp; done) | (go_simp; with_reducible rfl))
          try simp only [Act.put]
          refine late_load (i := 5) (v := ?_) rfl (by kernel_rfl) (by kernel_rfl) (by kernel_rfl) (fun _ _ _ h => h) (by kernel_rfl) (by kernel_rfl) (by kernel_rfl) (by rfl) hI ?_ (fun hI => ?_)
          rotate_left
          · intro w hSw hSv; (try dsimp only at hSw hSv); (first | (go_simp; done) | (go_simp; with_reducible rfl))
          try simp only [Act.put]
          refine late_take (i := 6) (v := ?_) rfl (by kernel_rfl) (by kernel_rfl) (by kernel_rfl) (fun _ _ _ h => h) (by kernel_rfl) (by rfl) hI ?_ (fun hI => ?_)
          rotate_left
          · intro w hSw; (try dsimp only at hSw); (first | (go_simp; done) | (go_simp; with_reducible rfl))
          try simp only [Act.put]
          refine late_take (i := 7) (v := ?_) rfl (by kernel_rfl) (by kernel_rfl) (by kernel_rfl) (fun _ _ _ h => h) (by kernel_rfl) (by rfl) hI ?_ (fun hI => ?_)
          rotate_left
          · intro w hSw; (try dsimp only at hSw); (first | (go_simp; done) | (go_simp; with_reducible rfl))
          try simp only [Act.put]
          refine late_take (i := 10) (v := ?_) rfl (by kernel_rfl) (by kernel_rfl) (by kernel_rfl) (fun _ _ _ h => h) (by kernel_rfl) (by rfl) hI ?_ (fun hI => ?_)
          rotate_left
          · intro w hSw; (try dsimp only at hSw); (first | (go_simp; done) | (go_simp; with_reducible rfl))
          try simp only [Act.put]
          refine late_take (i := 11) (v := ?_) rfl (by kernel_rfl) (by kernel_rfl) (by kernel_rfl) (fun _ _ _ h => h) (by kernel_rfl) (by rfl) hI ?_ (fun hI => ?_)
          rotate_left
          · intro w hSw; (try dsimp only at hSw); (first | (go_simp; done) | (go_simp; with_reducible rfl))
          try simp only [Act.put]
          refine late_take (i := 12) (v := ?_) rfl (by kernel_rfl) (by kernel_rfl) (by kernel_rfl) (fun _ _ _ h => h) (by kernel_rfl) (by rfl) hI ?_ (fun hI => ?_)
          rotate_left
          · intro w hSw; (try dsimp only at hSw); (first | (go_simp; done) | (go_simp; with_reducible rfl))
          try simp only [Act.put]
          refine late_load (i := 13) (v := ?_) rfl (by kernel_rfl) (by kernel_rfl) (by kernel_rfl) (fun _ _ _ h => h) (by kernel_rfl) (by kernel_rfl) (by kernel_rfl) (by rfl) hI ?_ (fun hI => ?_)
          rotate_left
          · intro w hSw hSv; (try dsimp only at hSw hSv); (first | (go_simp; done) | (go_simp; with_reducible rfl))
          try simp only [Act.put]
          refine late_take (i := 14) (v := ?_) rfl (by kernel_rfl) (by kernel_rfl) (by kernel_rfl) (fun _ _ _ h => h) (by kernel_rfl) (by rfl) hI ?_ (fun hI => ?_)
          rotate_left
          · intro w hSw; (try dsimp only at hSw); (first | (go_simp; done) | (go_simp; with_reducible rfl))
          try simp only [Act.put]
          refine late_take (i := 15) (v := ?_) rfl (by kernel_rfl) (by kernel_rfl) (by kernel_rfl) (fun _ _ _ h => h) (by kernel_rfl) (by rfl) hI ?_ (fun hI => ?_)
          rotate_left
          · intro w hSw; (try dsimp only at hSw); (first | (go_simp; done) | (go_simp; with_reducible rfl))
          try simp only [Act.put]
          refine late_take (i := 16) (v := ?_) rfl (by kernel_rfl) (by kernel_rfl) (by kernel_rfl) (fun _ _ _ h => h) (by kernel_rfl) (by rfl) hI ?_ (fun hI => ?_)
          rotate_left
          · intro w hSw; (try dsimp only at hSw); (first | (go_simp; done) | (go_simp; with_reducible rfl))
          try simp only [Act.put]
          refine late_take (i := 1) (v := ?_) rfl (by kernel_rfl) (by kernel_rfl) (by kernel_rfl) (fun _ _ _ h => h) (by kernel_rfl) (by rfl) hI ?_ (fun hI => ?_)
          rotate_left
          · intro w hSw; (try dsimp only at hSw); (first | (go_simp; done) | (go_simp; with_reducible rfl))
          try simp only [Act.put]
          refine late_ready (rs := [8, 17]) (by kernel_rfl) (by simp) ?_
          refine AllLate.cons (o := _) rfl (fun K hK => ?_) ?_
          · go_simp
            refine hK.out _ _ ⟨⟨m0K, m1K⟩, fun _ => ⟨u5K, u6K⟩⟩ (fun hI => ?_)
            clear hK K
            try simp only [Act.put, List.setIfInBounds_toArray, List.set_cons_zero, List.set_cons_succ]
            refine late_ready (rs := [9, 17]) (by kernel_rfl) (by simp) ?_
            refine AllLate.cons (o := _) rfl (fun K hK => ?_) ?_
            · skip
              refine step_key rfl _ _ rfl LK.out rfl W.heap.size _ _ _ BK.out _ rfl key RK.out hpl ?_
              intro gk ck w3 l3 hg3
              have X3 := Lib.hid (Blk.turn XK.out hg3 (noRow_own LK.out.kv.2 (by decide)))
              have y0 : w3.cell? ⟨wr.heap.size, 0, none⟩ = some (.slice (some ⟨gq, 0, none⟩) key.length cq) := by rw [X3.out.cell]; rfl
              have y1 : w3.cell? ⟨wr.heap.size, 1, none⟩ = some (.string row.code) := by rw [X3.out.cell]; rfl
              have y5 : w3.cell? ⟨w1.heap.size + 2, 5, none⟩ = some vk := by rw [l3.hs.blk.cell]; rfl
              have y6 : w3.cell? ⟨w1.heap.size + 2, 6, none⟩ = some vc := by rw [l3.hs.blk.cell]; rfl
              refine hK.out _ _ ⟨⟨y0, y1⟩, fun _ => ⟨y5, y6⟩⟩ (fun hI => ?_)
              clear hK K
              try simp only [Act.put, List.setIfInBounds_toArray]
              refine late_ready (rs := [17]) (by kernel_rfl) (by simp) ?_
              refine AllLate.cons (o := _) rfl (fun K hK => ?_) ?_
              · go_simp
                have L3 := Lib.hid (l3.keep ((Below.refl _ _).alloc (Nat.le_refl _) (.cells #[.string row.code] StrT)))
                have B3 := Lib.hid (Blk.new w3 StrT #[.string row.code])
                have X3c := Lib.hid (X3.out.alloc (.cells #[.string row.code] StrT))
                have z0 : (w3.alloc (.cells #[.string row.code] StrT)).cell? ⟨wr.heap.size, 0, none⟩ = some (.slice (some ⟨gq, 0, none⟩) key.length cq) := by rw [X3c.out.cell]; rfl
                have z1 : (w3.alloc (.cells #[.string row.code] StrT)).cell? ⟨wr.heap.size, 1, none⟩ = some (.string row.code) := by rw [X3c.out.cell]; rfl
                have z5 : (w3.alloc (.cells #[.string row.code] StrT)).cell? ⟨w1.heap.size + 2, 5, none⟩ = some vk := by rw [L3.out.hs.blk.cell]; rfl
                have z6 : (w3.alloc (.cells #[.string row.code] StrT)).cell? ⟨w1.heap.size + 2, 6, none⟩ = some vc := by rw [L3.out.hs.blk.cell]; rfl
                refine hK.out _ _ ⟨⟨z0, z1⟩, fun _ => ⟨z5, z6⟩⟩ (fun hI => ?_)
                clear hK K
                try simp only [Act.put, List.setIfInBounds_toArray, List.set_cons_zero, List.set_cons_succ]
                refine late_ready (rs := [18]) (by kernel_rfl) (by simp) ?_
                refine AllLate.cons (o := _) rfl (fun K hK => ?_) ?_
                · refine step_code rfl _ _ rfl L3.out rfl w3.heap.size _ B3.out _ rfl hcl ?_
                  intro gc cc w4 l4 hg4
                  have X4 := Lib.hid (Blk.turn X3c.out hg4 (noRow_own L3.out.cv (by decide)))
                  have v0 : w4.cell? ⟨wr.heap.size, 0, none⟩ = some (.slice (some ⟨gq, 0, none⟩) key.length cq) := by rw [X4.out.cell]; rfl
                  have v1 : w4.cell? ⟨wr.heap.size, 1, none⟩ = some (.string row.code) := by rw [X4.out.cell]; rfl
                  have b5 : w4.cell? ⟨w1.heap.size + 2, 5, none⟩ = some vk := by rw [l4.hs.blk.cell]; rfl
                  have v6 : w4.cell? ⟨w1.heap.size + 2, 6, none⟩ = some vc := by rw [l4.hs.blk.cell]; rfl
                  have f5 := Blk.frz l4.hs.blk 5
                  have L5 := Lib.hid (l4.set 5 (.slice (some ⟨gk, 0, none⟩) (ps.length + 1) ck))
                  have X5 := Lib.hid (Blk.set_far (b := w1.heap.size + 2) (i := 5) (u := .slice (some ⟨gk, 0, none⟩) (ps.length + 1) ck) X4.out HNE.out)
                  have L6 := Lib.hid (L5.out.set 6 (.slice (some ⟨gc, 0, none⟩) (cds.length + 1) cc))
                  have X6 := Lib.hid (Blk.set_far (b := w1.heap.size + 2) (i := 6) (u := .slice (some ⟨gc, 0, none⟩) (cds.length + 1) cc) X5.out HNE.out)
                  have b6 : (w4.setCell ⟨w1.heap.size + 2, 5, none⟩ (.slice (some ⟨gk, 0, none⟩) (ps.length + 1) ck)).cell? ⟨w1.heap.size + 2, 6, none⟩ = some vc := by rw [L5.out.hs.blk.cell]; rfl
                  have f6 := Blk.frz L5.out.hs.blk 6
                  have x50 : (w4.setCell ⟨w1.heap.size + 2, 5, none⟩ (.slice (some ⟨gk, 0, none⟩) (ps.length + 1) ck)).cell? ⟨wr.heap.size, 0, none⟩ = some (.slice (some ⟨gq, 0, none⟩) key.length cq) := by rw [X5.out.cell]; rfl
                  have x51 : (w4.setCell ⟨w1.heap.size + 2, 5, none⟩ (.slice (some ⟨gk, 0, none⟩) (ps.length + 1) ck)).cell? ⟨wr.heap.size, 1, none⟩ = some (.string row.code) := by rw [X5.out.cell]; rfl
                  have x60 : ((w4.setCell ⟨w1.heap.size + 2, 5, none⟩ (.slice (some ⟨gk, 0, none⟩) (ps.length + 1) ck)).setCell ⟨w1.heap.size + 2, 6, none⟩ (.slice (some ⟨gc, 0, none⟩) (cds.length + 1) cc)).cell? ⟨wr.heap.size, 0, none⟩ = some (.slice (some ⟨gq, 0, none⟩) key.length cq) := by rw [X6.out.cell]; rfl
                  have x61 : ((w4.setCell ⟨w1.heap.size + 2, 5, none⟩ (.slice (some ⟨gk, 0, none⟩) (ps.length + 1) ck)).setCell ⟨w1.heap.size + 2, 6, none⟩ (.slice (some ⟨gc, 0, none⟩) (cds.length + 1) cc)).cell? ⟨wr.heap.size, 1, none⟩ = some (.string row.code) := by rw [X6.out.cell]; rfl
                  refine hK.out _ _ ⟨⟨v0, v1⟩, fun _ => ⟨b5, v6⟩⟩ (fun hI => ?_)
                  clear hK K
                  try simp only [Act.put, List.setIfInBounds_toArray]
                  refine late_take (i := 19) (v := ?_) rfl (by kernel_rfl) (by kernel_rfl) (by kernel_rfl) (fun _ _ _ h => h) (by kernel_rfl) (by rfl) hI ?_ (fun hI => ?_)
                  rotate_left
                  · intro w hSw; (try dsimp only at hSw); (first | (go_simp; done) | (go_simp; with_reducible rfl))
                  try simp only [Act.put]
                  refine late_take (i := 20) (v := ?_) rfl (by kernel_rfl) (by kernel_rfl) (by kernel_rfl) (fun _ _ _ h => h) (by kernel_rfl) (by rfl) hI ?_ (fun hI => ?_)
                  rotate_left
                  · intro w hSw; (try dsimp only at hSw); (first | (go_simp; done) | (go_simp; with_reducible rfl))
                  try simp only [Act.put]
                  refine late_ready (rs := [21]) (by kernel_rfl) (by simp) ?_
                  refine AllLate.cons (o := _) rfl (fun K hK => ?_) ?_
                  · go_simp
                    refine hK.out _ _ ⟨⟨x50, x51⟩, early_off (by kernel_rfl) (by kernel_rfl)⟩ (fun hI => ?_)
                    clear hK K
                    try simp only [Act.put, List.setIfInBounds_toArray, List.set_cons_zero, List.set_cons_succ]
                    refine late_take (i := 22) (v := ?_) rfl (by kernel_rfl) (by kernel_rfl) (by kernel_rfl) (fun _ _ _ h => h) (by kernel_rfl) (by rfl) hI ?_ (fun hI => ?_)
                    rotate_left
                    · intro w hSw; (try dsimp only at hSw); (first | (go_simp; done) | (go_simp; with_reducible rfl))
                    try simp only [Act.put, List.setIfInBounds_toArray]
                    refine late_take (i := 23) (v := ?_) rfl (by kernel_rfl) (by kernel_rfl) (by kernel_rfl) (fun _ _ _ h => h) (by kernel_rfl) (by rfl) hI ?_ (fun hI => ?_)
                    rotate_left
                    · intro w hSw; (try dsimp only at hSw); (first | (go_simp; done) | (go_simp; with_reducible rfl))
                    try simp only [Act.put]
                    refine late_ready (rs := [24]) (by kernel_rfl) (by simp) ?_
                    refine AllLate.cons (o := _) rfl (fun K hK => ?_) ?_
                    · go_simp
                      refine hK.out _ _ ⟨⟨x60, x61⟩, early_off (by kernel_rfl) (by kernel_rfl)⟩ (fun hI => ?_)
                      clear hK K
                      try simp only [Act.put, List.setIfInBounds_toArray, List.set_cons_zero, List.set_cons_succ]
                      refine late_done (by kernel_rfl) ?_ _
                      go_wp2_with fail
                      go_roundw
                      case rel => exact ⟨i + 1, _, _, by omega, by go_num, by rw [HTK.out, HTC.out]; exact L6.out⟩
                      case measure => simp [RowKit.intOf]; omega
                    · exact AllLate.nil
                  · exact AllLate.nil
                · exact AllLate.nil
              · exact AllLate.nil
            refine AllLate.cons (o := _) rfl (fun K hK => ?_) ?_
            · go_simp
              refine hK.out _ _ ⟨⟨m0KC, m1KC⟩, fun _ => ⟨u5KC, u6KC⟩⟩ (fun hI => ?_)
              clear hK K
              try simp only [Act.put, List.setIfInBounds_toArray, List.set_cons_zero, List.set_cons_succ]
              refine late_ready (rs := [9]) (by kernel_rfl) (by simp) ?_
              refine AllLate.cons (o := _) rfl (fun K hK => ?_) ?_
              · skip
                refine step_key rfl _ _ rfl LKC.out rfl W.heap.size _ _ _ BKC.out _ rfl key RKC.out hpl ?_
                intro gk ck w3 l3 hg3
                have X3 := Lib.hid (Blk.turn XKC.out hg3 (noRow_own LKC.out.kv.2 (by decide)))
                have y0 : w3.cell? ⟨wr.heap.size, 0, none⟩ = some (.slice (some ⟨gq, 0, none⟩) key.length cq) := by rw [X3.out.cell]; rfl
                have y1 : w3.cell? ⟨wr.heap.size, 1, none⟩ = some (.string row.code) := by rw [X3.out.cell]; rfl
                have y5 : w3.cell? ⟨w1.heap.size + 2, 5, none⟩ = some vk := by rw [l3.hs.blk.cell]; rfl
                have y6 : w3.cell? ⟨w1.heap.size + 2, 6, none⟩ = some vc := by rw [l3.hs.blk.cell]; rfl
                refine hK.out _ _ ⟨⟨y0, y1⟩, fun _ => ⟨y5, y6⟩⟩ (fun hI => ?_)
                clear hK K
                try simp only [Act.put, List.setIfInBounds_toArray]
                have L3 := Lib.hid l3
                have B3 := Lib.hid (Blk.turn BCC.out hg3 (noRow_own LKC.out.kv.2 (by decide)))
                refine late_ready (rs := [18]) (by kernel_rfl) (by simp) ?_
                refine AllLate.cons (o := _) rfl (fun K hK => ?_) ?_
                · refine step_code rfl _ _ rfl L3.out rfl (W.heap.size + 1) _ B3.out _ rfl hcl ?_
                  intro gc cc w4 l4 hg4
                  have X4 := Lib.hid (Blk.turn X3.out hg4 (noRow_own L3.out.cv (by decide)))
                  have v0 : w4.cell? ⟨wr.heap.size, 0, none⟩ = some (.slice (some ⟨gq, 0, none⟩) key.length cq) := by rw [X4.out.cell]; rfl
                  have v1 : w4.cell? ⟨wr.heap.size, 1, none⟩ = some (.string row.code) := by rw [X4.out.cell]; rfl
                  have b5 : w4.cell? ⟨w1.heap.size + 2, 5, none⟩ = some vk := by rw [l4.hs.blk.cell]; rfl
                  have v6 : w4.cell? ⟨w1.heap.size + 2, 6, none⟩ = some vc := by rw [l4.hs.blk.cell]; rfl
                  have f5 := Blk.frz l4.hs.blk 5
                  have L5 := Lib.hid (l4.set 5 (.slice (some ⟨gk, 0, none⟩) (ps.length + 1) ck))
                  have X5 := Lib.hid (Blk.set_far (b := w1.heap.size + 2) (i := 5) (u := .slice (some ⟨gk, 0, none⟩) (ps.length + 1) ck) X4.out HNE.out)
                  have L6 := Lib.hid (L5.out.set 6 (.slice (some ⟨gc, 0, none⟩) (cds.length + 1) cc))
                  have X6 := Lib.hid (Blk.set_far (b := w1.heap.size + 2) (i := 6) (u := .slice (some ⟨gc, 0, none⟩) (cds.length + 1) cc) X5.out HNE.out)
                  have b6 : (w4.setCell ⟨w1.heap.size + 2, 5, none⟩ (.slice (some ⟨gk, 0, none⟩) (ps.length + 1) ck)).cell? ⟨w1.heap.size + 2, 6, none⟩ = some vc := by rw [L5.out.hs.blk.cell]; rfl
                  have f6 := Blk.frz L5.out.hs.blk 6
                  have x50 : (w4.setCell ⟨w1.heap.size + 2, 5, none⟩ (.slice (some ⟨gk, 0, none⟩) (ps.length + 1) ck)).cell? ⟨wr.heap.size, 0, none⟩ = some (.slice (some ⟨gq, 0, none⟩) key.length cq) := by rw [X5.out.cell]; rfl
                  have x51 : (w4.setCell ⟨w1.heap.size + 2, 5, none⟩ (.slice (some ⟨gk, 0, none⟩) (ps.length + 1) ck)).cell? ⟨wr.heap.size, 1, none⟩ = some (.string row.code) := by rw [X5.out.cell]; rfl
                  have x60 : ((w4.setCell ⟨w1.heap.size + 2, 5, none⟩ (.slice (some ⟨gk, 0, none⟩) (ps.length + 1) ck)).setCell ⟨w1.heap.size + 2, 6, none⟩ (.slice (some ⟨gc, 0, none⟩) (cds.length + 1) cc)).cell? ⟨wr.heap.size, 0, none⟩ = some (.slice (some ⟨gq, 0, none⟩) key.length cq) := by rw [X6.out.cell]; rfl
                  have x61 : ((w4.setCell ⟨w1.heap.size + 2, 5, none⟩ (.slice (some ⟨gk, 0, none⟩) (ps.length + 1) ck)).setCell ⟨w1.heap.size + 2, 6, none⟩ (.slice (some ⟨gc, 0, none⟩) (cds.length + 1) cc)).cell? ⟨wr.heap.size, 1, none⟩ = some (.string row.code) := by rw [X6.out.cell]; rfl
                  refine hK.out _ _ ⟨⟨v0, v1⟩, fun _ => ⟨b5, v6⟩⟩ (fun hI => ?_)
                  clear hK K
                  try simp only [Act.put]
                  refine late_take (i := 19) (v := ?_) rfl (by kernel_rfl) (by kernel_rfl) (by kernel_rfl) (fun _ _ _ h => h) (by kernel_rfl) (by rfl) hI ?_ (fun hI => ?_)
                  rotate_left
                  · intro w hSw; (try dsimp only at hSw); (first | (go_simp; done) | (go_simp; with_reducible rfl))
                  try simp only [Act.put]
                  refine late_take (i := 20) (v := ?_) rfl (by kernel_rfl) (by kernel_rfl) (by kernel_rfl) (fun _ _ _ h => h) (by kernel_rfl) (by rfl) hI ?_ (fun hI => ?_)
                  rotate_left
                  · intro w hSw; (try dsimp only at hSw); (first | (go_simp; done) | (go_simp; with_reducible rfl))
                  try simp only [Act.put]
                  refine late_ready (rs := [21]) (by kernel_rfl) (by simp) ?_
                  refine AllLate.cons (o := _) rfl (fun K hK => ?_) ?_
                  · go_simp
                    refine hK.out _ _ ⟨⟨x50, x51⟩, early_off (by kernel_rfl) (by kernel_rfl)⟩ (fun hI => ?_)
                    clear hK K
                    try simp only [Act.put, List.setIfInBounds_toArray, List.set_cons_zero, List.set_cons_succ]
                    refine late_take (i := 22) (v := ?_) rfl (by kernel_rfl) (by kernel_rfl) (by kernel_rfl) (fun _ _ _ h => h) (by kernel_rfl) (by rfl) hI ?_ (fun hI => ?_)
                    rotate_left
                    · intro w hSw; (try dsimp only at hSw); (first | (go_simp; done) | (go_simp; with_reducible rfl))
                    try simp only [Act.put, List.setIfInBounds_toArray]
                    refine late_take (i := 23) (v := ?_) rfl (by kernel_rfl) (by kernel_rfl) (by kernel_rfl) (fun _ _ _ h => h) (by kernel_rfl) (by rfl) hI ?_ (fun hI => ?_)
                    rotate_left
                    · intro w hSw; (try dsimp only at hSw); (first | (go_simp; done) | (go_simp; with_reducible rfl))
                    try simp only [Act.put]
                    refine late_ready (rs := [24]) (by kernel_rfl) (by simp) ?_
                    refine AllLate.cons (o := _) rfl (fun K hK => ?_) ?_
                    · go_simp
                      refine hK.out _ _ ⟨⟨x60, x61⟩, early_off (by kernel_rfl) (by kernel_rfl)⟩ (fun hI => ?_)
                      clear hK K
                      try simp only [Act.put, List.setIfInBounds_toArray, List.set_cons_zero, List.set_cons_succ]
                      refine late_done (by kernel_rfl) ?_ _
                      go_wp2_with fail
                      go_roundw
                      case rel => exact ⟨i + 1, _, _, by omega, by go_num, by rw [HTK.out, HTC.out]; exact L6.out⟩
                      case measure => simp [RowKit.intOf]; omega
                    · exact AllLate.nil
                  · exact AllLate.nil
                · exact AllLate.nil
              · exact AllLate.nil
            · exact AllLate.nil
          refine AllLate.cons (o := _) rfl (fun K hK => ?_) ?_
          · go_simp
            refine hK.out _ _ ⟨⟨m0C, m1C⟩, fun _ => ⟨u5C, u6C⟩⟩ (fun hI => ?_)
            clear hK K
            try simp only [Act.put, List.setIfInBounds_toArray, List.set_cons_zero, List.set_cons_succ]
            refine late_ready (rs := [8]) (by kernel_rfl) (by simp) ?_
            refine AllLate.cons (o := _) rfl (fun K hK => ?_) ?_
            · go_simp
              refine hK.out _ _ ⟨⟨m0CK, m1CK⟩, fun _ => ⟨u5CK, u6CK⟩⟩ (fun hI => ?_)
              clear hK K
              try simp only [Act.put, List.setIfInBounds_toArray, List.set_cons_zero, List.set_cons_succ]
              refine late_ready (rs := [9]) (by kernel_rfl) (by simp) ?_
              refine AllLate.cons (o := _) rfl (fun K hK => ?_) ?_
              · skip
                refine step_key rfl _ _ rfl LCK.out rfl (W.heap.size + 1) _ _ _ BKK.out _ rfl key RCK.out hpl ?_
                intro gk ck w3 l3 hg3
                have X3 := Lib.hid (Blk.turn XCK.out hg3 (noRow_own LCK.out.kv.2 (by decide)))
                have y0 : w3.cell? ⟨wr.heap.size, 0, none⟩ = some (.slice (some ⟨gq, 0, none⟩) key.length cq) := by rw [X3.out.cell]; rfl
                have y1 : w3.cell? ⟨wr.heap.size, 1, none⟩ = some (.string row.code) := by rw [X3.out.cell]; rfl
                have y5 : w3.cell? ⟨w1.heap.size + 2, 5, none⟩ = some vk := by rw [l3.hs.blk.cell]; rfl
                have y6 : w3.cell? ⟨w1.heap.size + 2, 6, none⟩ = some vc := by rw [l3.hs.blk.cell]; rfl
                refine hK.out _ _ ⟨⟨y0, y1⟩, fun _ => ⟨y5, y6⟩⟩ (fun hI => ?_)
                clear hK K
                try simp only [Act.put, List.setIfInBounds_toArray]
                have L3 := Lib.hid l3
                have B3 := Lib.hid (Blk.turn BCK.out hg3 (noRow_own LCK.out.kv.2 (by decide)))
                refine late_ready (rs := [18]) (by kernel_rfl) (by simp) ?_
                refine AllLate.cons (o := _) rfl (fun K hK => ?_) ?_
                · refine step_code rfl _ _ rfl L3.out rfl W.heap.size _ B3.out _ rfl hcl ?_
                  intro gc cc w4 l4 hg4
                  have X4 := Lib.hid (Blk.turn X3.out hg4 (noRow_own L3.out.cv (by decide)))
                  have v0 : w4.cell? ⟨wr.heap.size, 0, none⟩ = some (.slice (some ⟨gq, 0, none⟩) key.length cq) := by rw [X4.out.cell]; rfl
                  have v1 : w4.cell? ⟨wr.heap.size, 1, none⟩ = some (.string row.code) := by rw [X4.out.cell]; rfl
                  have b5 : w4.cell? ⟨w1.heap.size + 2, 5, none⟩ = some vk := by rw [l4.hs.blk.cell]; rfl
                  have v6 : w4.cell? ⟨w1.heap.size + 2, 6, none⟩ = some vc := by rw [l4.hs.blk.cell]; rfl
                  have f5 := Blk.frz l4.hs.blk 5
                  have L5 := Lib.hid (l4.set 5 (.slice (some ⟨gk, 0, none⟩) (ps.length + 1) ck))
                  have X5 := Lib.hid (Blk.set_far (b := w1.heap.size + 2) (i := 5) (u := .slice (some ⟨gk, 0, none⟩) (ps.length + 1) ck) X4.out HNE.out)
                  have L6 := Lib.hid (L5.out.set 6 (.slice (some ⟨gc, 0, none⟩) (cds.length + 1) cc))
                  have X6 := Lib.hid (Blk.set_far (b := w1.heap.size + 2) (i := 6) (u := .slice (some ⟨gc, 0, none⟩) (cds.length + 1) cc) X5.out HNE.out)
                  have b6 : (w4.setCell ⟨w1.heap.size + 2, 5, none⟩ (.slice (some ⟨gk, 0, none⟩) (ps.length + 1) ck)).cell? ⟨w1.heap.size + 2, 6, none⟩ = some vc := by rw [L5.out.hs.blk.cell]; rfl
                  have f6 := Blk.frz L5.out.hs.blk 6
                  have x50 : (w4.setCell ⟨w1.heap.size + 2, 5, none⟩ (.slice (some ⟨gk, 0, none⟩) (ps.length + 1) ck)).cell? ⟨wr.heap.size, 0, none⟩ = some (.slice (some ⟨gq, 0, none⟩) key.length cq) := by rw [X5.out.cell]; rfl
                  have x51 : (w4.setCell ⟨w1.heap.size + 2, 5, none⟩ (.slice (some ⟨gk, 0, none⟩) (ps.length + 1) ck)).cell? ⟨wr.heap.size, 1, none⟩ = some (.string row.code) := by rw [X5.out.cell]; rfl
                  have x60 : ((w4.setCell ⟨w1.heap.size + 2, 5, none⟩ (.slice (some ⟨gk, 0, none⟩) (ps.length + 1) ck)).setCell ⟨w1.heap.size + 2, 6, none⟩ (.slice (some ⟨gc, 0, none⟩) (cds.length + 1) cc)).cell? ⟨wr.heap.size, 0, none⟩ = some (.slice (some ⟨gq, 0, none⟩) key.length cq) := by rw [X6.out.cell]; rfl
                  have x61 : ((w4.setCell ⟨w1.heap.size + 2, 5, none⟩ (.slice (some ⟨gk, 0, none⟩) (ps.length + 1) ck)).setCell ⟨w1.heap.size + 2, 6, none⟩ (.slice (some ⟨gc, 0, none⟩) (cds.length + 1) cc)).cell? ⟨wr.heap.size, 1, none⟩ = some (.string row.code) := by rw [X6.out.cell]; rfl
                  refine hK.out _ _ ⟨⟨v0, v1⟩, fun _ => ⟨b5, v6⟩⟩ (fun hI => ?_)
                  clear hK K
                  try simp only [Act.put]
                  refine late_take (i := 19) (v := ?_) rfl (by kernel_rfl) (by kernel_rfl) (by kernel_rfl) (fun _ _ _ h => h) (by kernel_rfl) (by rfl) hI ?_ (fun hI => ?_)
                  rotate_left
                  · intro w hSw; (try dsimp only at hSw); (first | (go_simp; done) | (go_simp; with_reducible rfl))
                  try simp only [Act.put]
                  refine late_take (i := 20) (v := ?_) rfl (by kernel_rfl) (by kernel_rfl) (by kernel_rfl) (fun _ _ _ h => h) (by kernel_rfl) (by rfl) hI ?_ (fun hI => ?_)
                  rotate_left
                  · intro w hSw; (try dsimp only at hSw); (first | (go_simp; done) | (go_simp; with_reducible rfl))
                  try simp only [Act.put]
                  refine late_ready (rs := [21]) (by kernel_rfl) (by simp) ?_
                  refine AllLate.cons (o := _) rfl (fun K hK => ?_) ?_
                  · go_simp
                    refine hK.out _ _ ⟨⟨x50, x51⟩, early_off (by kernel_rfl) (by kernel_rfl)⟩ (fun hI => ?_)
                    clear hK K
                    try simp only [Act.put, List.setIfInBounds_toArray, List.set_cons_zero, List.set_cons_succ]
                    refine late_take (i := 22) (v := ?_) rfl (by kernel_rfl) (by kernel_rfl) (by kernel_rfl) (fun _ _ _ h => h) (by kernel_rfl) (by rfl) hI ?_ (fun hI => ?_)
                    rotate_left
                    · intro w hSw; (try dsimp only at hSw); (first | (go_simp; done) | (go_simp; with_reducible rfl))
                    try simp only [Act.put, List.setIfInBounds_toArray]
                    refine late_take (i := 23) (v := ?_) rfl (by kernel_rfl) (by kernel_rfl) (by kernel_rfl) (fun _ _ _ h => h) (by kernel_rfl) (by rfl) hI ?_ (fun hI => ?_)
                    rotate_left
                    · intro w hSw; (try dsimp only at hSw); (first | (go_simp; done) | (go_simp; with_reducible rfl))
                    try simp only [Act.put]
                    refine late_ready (rs := [24]) (by kernel_rfl) (by simp) ?_
                    refine AllLate.cons (o := _) rfl (fun K hK => ?_) ?_
                    · go_simp
                      refine hK.out _ _ ⟨⟨x60, x61⟩, early_off (by kernel_rfl) (by kernel_rfl)⟩ (fun hI => ?_)
                      clear hK K
                      try simp only [Act.put, List.setIfInBounds_toArray, List.set_cons_zero, List.set_cons_succ]
                      refine late_done (by kernel_rfl) ?_ _
                      go_wp2_with fail
                      go_roundw
                      case rel => exact ⟨i + 1, _, _, by omega, by go_num, by rw [HTK.out, HTC.out]; exact L6.out⟩
                      case measure => simp [RowKit.intOf]; omega
                    · exact AllLate.nil
                  · exact AllLate.nil
                · exact AllLate.nil
              · exact AllLate.nil
            · exact AllLate.nil
          · exact AllLate.nil
          --END
        · obtain rfl : i = ks.length := by omega
          rw [List.take_of_length_le (Nat.le_refl _)] at HLI
          have jk : decide ((ks.length : Int) < (ks.length : Int)) = false := decide_eq_false (by omega)
          have hld := HLI.out.keep (Below.refl _ _).drew
          have HLD := Lib.hid hld
          have u5 : wr.drew.cell? ⟨w1.heap.size + 2, 5, none⟩ = some vk := by rw [hld.hs.blk.cell]; rfl
          have u6 : wr.drew.cell? ⟨w1.heap.size + 2, 6, none⟩ = some vc := by rw [hld.hs.blk.cell]; rfl
          have hgood : ∀ p ∈ ks.map (fun p => (p.v, p.key)), goodKey p.2 := by
            intro p hp
            obtain ⟨q, hq, rfl⟩ := List.mem_map.1 hp
            exact (HOK.out.good q hq).1
          have hcodes : ∀ s ∈ ks.map (·.row.code), 0 < s.size := by
            intro p hp
            obtain ⟨q, hq, rfl⟩ := List.mem_map.1 hp
            exact (HOK.out.good q hq).2.1
          have hnd : ((ks.map (fun p => (p.v, p.key))).map (·.2)).Nodup := by rw [List.map_map]; exact HOK.out.nodup
          have HPN := Lib.hid (policyNew_any (w1.heap.size + 4) (w1.heap.size + 4) vc vk (ks.map (·.row.code)) (ks.map fun p => (p.v, p.key)) wr.drew hld.cv hld.kv (by simp) hcodes hgood hnd (by rw [List.length_map]; omega))
          clear hli hld hgood hcodes hnd
          go_wp2_with fail
          go_region_held3 (fun w' => w'.cell? ⟨w1.heap.size + 2, 5, none⟩ = some vk ∧ w'.cell? ⟨w1.heap.size + 2, 6, none⟩ = some vc) (first | exact ⟨u5, u6⟩ | exact ⟨n5, n6⟩) (first | (go_at_call 47; refine HPN.out.mono ?_; rintro _ w5 ⟨pe, rfl, hb5⟩; have HL5 := Lib.hid (HLD.out.keep hb5); have n5 : w5.cell? ⟨w1.heap.size + 2, 5, none⟩ = some vk := by { rw [HL5.out.hs.blk.cell]; rfl }; have n6 : w5.cell? ⟨w1.heap.size + 2, 6, none⟩ = some vc := by { rw [HL5.out.hs.blk.cell]; rfl }))
          have n0 : w5.cell? ⟨w1.heap.size + 2, 0, none⟩ = some (.pointer none) := by rw [HL5.out.hs.blk.cell]; rfl
          have f0 := Blk.frz HL5.out.hs.blk 0
          have L6 := Lib.hid (HL5.out.set 0 (.pointer pe))
          clear u5 u6 n5 n6 hb5
          go_wp2_with fail
          go_returns
          exact ⟨HB1.out.trans (L6.out.hs.below.mono HB1.out.size), w1.heap.size + 2, rfl, HVL.out, _, _, _, L6.out.hs.blk, rfl, L6.out.hs.texts⟩
end Go.Proofs.YtkfjmcidcnpijaaGreatDoor.Sg
