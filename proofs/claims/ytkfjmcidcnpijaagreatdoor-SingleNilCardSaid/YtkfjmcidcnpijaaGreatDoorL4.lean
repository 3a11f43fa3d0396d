/- Walk: mapfile.lines. -/
import Derived.Test.YtkfjmcidcnpijaaGreatDoorL3
import Derived.RangeFuncBox
import Derived.Maps.AppendAt
namespace Go.Proofs.YtkfjmcidcnpijaaGreatDoor.Mf
open Go.RowKit Go.Shelf
attribute [local go_sem] Oper.semAt_some

abbrev StrsT : TypeId := 71
abbrev ErrT : TypeId := 27
theorem own_base {w : World} {B B' e sz n : Nat} {v : Value} {xs : List Value} (h : w.ownsRow B e sz v n xs) (hB : B' ≤ B) : w.ownsRow B' e sz v n xs := by
  refine ⟨h.1, ?_⟩
  rcases h.2 with h1 | ⟨g, cap, cur, e1, hg, hh, h4⟩
  · exact .inl h1
  · exact .inr ⟨g, cap, cur, e1, Nat.le_trans hB hg, hh, h4⟩
theorem own_grown {w w' : World} {B e sz n : Nat} {v : Value} {xs : List Value} {row : Option Nat} (h : w.ownsRow B e sz v n xs) (hg : w.grownBy w' row) (hr : ∀ g, B ≤ g → ∀ cs, Blk w g e cs → some g ≠ row) : w'.ownsRow B e sz v n xs := by
  refine ⟨h.1, ?_⟩
  rcases h.2 with h1 | ⟨g, cap, cur, e1, hB, hh, h4⟩
  · exact .inl h1
  · exact .inr ⟨g, cap, cur, e1, hB, (hg.block g (Array.getElem?_eq_some_iff.1 hh).1 (hr g hB cur hh)).trans hh, h4⟩
/-- 'append(out, line)' as one operation. -/
theorem opIn_line {F : Fence} {n : Nat} {oo : Oper} {a : Act} {K : Act → World → Prop} {Q : Exit → Act → World → Prop} (w : World) (s x : Operand) (ho : oo.op = .call { callee := .builtin .append, args := #[s, x], argTypes := #[71, 71] })
    (B : Nat) (v : Value) (l : List (List UInt8)) (hs : a.eval s = v) (hst : w.ownsRow B StrT 1 v l.length (strsL l)) (hB : B ≤ w.heap.size) (b : ByteArray)
    (N c : Nat) (hN : w.heap.size = N) (hx : a.eval x = .slice (some ⟨N, 0, none⟩) 1 c) (hsm : l.length ≤ 1048576)
    (h : ∀ v' w', w'.ownsRow B StrT 1 v' (l ++ [b.data.toList]).length (strsL (l ++ [b.data.toList])) → Below B w w' → (∀ g t cs, t ≠ StrT → Blk w g t cs → Blk w' g t cs) → (∀ (k : Nat) (o : Obj), w.heap[k]? = some o → o.isCells = false → w'.heap[k]? = some o) → (∀ g cs, g < B → Blk w g StrT cs → Blk w' g StrT cs) → K (a.put oo.dst v') w') : oo.wpIn F n Tryz.prog a (w.alloc (.cells #[.string b] StrT)) K Q := by
  subst hN
  obtain ⟨i0, hi, hz0, hz1, hz2⟩ := info_parts infoStr
  have hown' := hst.alloc (.cells #[.string b] StrT)
  obtain ⟨v', w', hrun, r1, r2, _⟩ := run_append_own (P := Tryz.prog) (w.alloc (.cells #[.string b] StrT)) B 71 oo.type StrT i0 (.string ⟨#[]⟩) 1 16 Tryz.underlying71 hi hz0 hz1 hz2 rfl (by decide) v l.length (strsL l) hown' ⟨w.heap.size, 0, none⟩ 1 c [.string b] rfl
    (by
      intro j u hj
      match j, hj with
      | 0, hj => simp at hj; subst hj; simp [Addr.add])
    (by intro u hu; simp at hu; subst hu; rfl) (by unfold maxLen; omega) (by omega) (by simp; omega)
  have hbl : ∀ k, k < w.heap.size → v.ownBlock ≠ some k → w'.heap[k]? = w.heap[k]? := fun k hk hne => (r2.block k (by simp; omega) (fun e => hne e.symm)).trans (Below.heap_alloc w _ k hk)
  unfold Oper.wpIn
  refine ⟨?_, ?_⟩
  · simp [Oper.about, ho, resolve, Target.leads, Sem.run_pure]
  · rw [Oper.semAt_plain F _ _ (by rw [ho]; intro c hc'; cases hc')]
    simp [execOp, ho, resolve, invoke, builtin, hs, hx, hrun, Result.andThen]
    refine h v' w' ?_ (((Below.refl B w).alloc hB _).grown r2 (by simp; omega) (fun k hk => (hst.lt k hk).1)) ?_ ?_ ?_
    · rw [strsL_append, List.length_append]
      exact r1
    · intro g t cs ht hk
      exact (hbl g hk.lt (own_blk_ne hst hk ht)).trans hk
    · intro k o hk hc
      refine (hbl k (Array.getElem?_eq_some_iff.1 hk).1 (fun e => ?_)).trans hk
      rcases hst.2 with ⟨rfl, _⟩ | ⟨g, cap, cur, rfl, _, hh, _⟩
      · simp [Value.ownBlock] at e
      · have : g = k := by simpa [Value.ownBlock] using e
        subst this
        rw [hk] at hh
        injection hh with hh
        rw [hh] at hc
        cases hc
    · intro g cs hg hk
      refine (hbl g hk.lt (fun e => ?_)).trans hk
      have := (hst.lt g e).1
      omega
/-- What has come so far, in memory. -/
def LinI (w0 : World) (b0 : Nat) (pre : List LineB) (W : World) : Prop :=
  ∃ v, Blk W (b0 + 2) StrsT #[v] ∧ W.ownsRow (b0 + 4) StrT 1 v (mapS pre).length (strsL ((mapS pre).map clean)) ∧ Blk W b0 StrsT #[.slice none 0 0] ∧ Blk W (b0 + 1) ErrT #[.int .i64 0] ∧ Below b0 w0 W ∧ (mapS pre).all (fun l => decide (l.length ≤ 512)) = true ∧ (mapS pre).length ≤ 4096 ∧ b0 + 4 ≤ W.heap.size
/-- It was given up. -/
def LinX (w0 : World) (b0 : Nat) (pre : List LineB) (W : World) : Prop :=
  Blk W b0 StrsT #[.slice none 0 0] ∧ Blk W (b0 + 1) ErrT #[.int .i64 11] ∧ Below b0 w0 W ∧ (∀ L : List (List UInt8), mapS pre <+: L → (L.all (fun l => decide (l.length ≤ 512)) && decide (L.length ≤ 4096)) = false) ∧ b0 + 4 ≤ W.heap.size
theorem blk_grown {W W' : World} {g : Nat} {t : TypeId} {cs : Array Value} {row : Option Nat} (h : Blk W g t cs) (hg : W.grownBy W' row) (hr : some g ≠ row) : Blk W' g t cs := (hg.block g h.lt hr).trans h
theorem linI_own (w0 : World) (b0 : Nat) (D : Nat) (hD : b0 ≤ D) : OwnFrom D (LinI w0 b0) := by
  rintro s W W' row ⟨v, h1, h2, h3, h4, h5, h6, h7, h8⟩ hg hr
  have hne : ∀ g t cs, Blk W g t cs → some g ≠ row := fun g t cs hk e => by
    obtain ⟨_, o, ho, hc⟩ := hr g e.symm
    unfold Blk at hk
    rw [hk] at ho
    injection ho with ho
    rw [← ho] at hc
    cases hc
  exact ⟨v, blk_grown h1 hg (hne _ _ _ h1), own_grown h2 hg (fun g _ cs hk => hne g _ _ hk), blk_grown h3 hg (hne _ _ _ h3), blk_grown h4 hg (hne _ _ _ h4), h5.grown hg (by omega) (fun k hk => Nat.le_trans hD (hr k hk).1), h6, h7, Nat.le_trans h8 hg.size⟩
theorem linX_own (w0 : World) (b0 : Nat) (D : Nat) (hD : b0 ≤ D) : OwnFrom D (LinX w0 b0) := by
  rintro s W W' row ⟨h3, h4, h5, h6, h8⟩ hg hr
  have hne : ∀ g t cs, Blk W g t cs → some g ≠ row := fun g t cs hk e => by
    obtain ⟨_, o, ho, hc⟩ := hr g e.symm
    unfold Blk at hk
    rw [hk] at ho
    injection ho with ho
    rw [← ho] at hc
    cases hc
  exact ⟨blk_grown h3 hg (hne _ _ _ h3), blk_grown h4 hg (hne _ _ _ h4), h5.grown hg (by omega) (fun k hk => Nat.le_trans hD (hr k hk).1), h6, Nat.le_trans h8 hg.size⟩
theorem linI_box (w0 : World) (b0 : Nat) : AbB (b0 + 3) (LinI w0 b0) := by
  rintro s W W' row ⟨v, h1, h2, h3, h4, h5, h6, h7, h8⟩ hg hr
  have hne : ∀ g, g ≠ b0 + 3 → some g ≠ row := fun g hg e => hg (hr g e.symm)
  exact ⟨v, blk_grown h1 hg (hne _ (by omega)), own_grown h2 hg (fun g hB cs _ => hne g (by omega)), blk_grown h3 hg (hne _ (by omega)), blk_grown h4 hg (hne _ (by omega)), h5.grown hg (by omega) (fun k hk => by rw [hr k hk]; omega), h6, h7, Nat.le_trans h8 hg.size⟩
theorem linX_box (w0 : World) (b0 : Nat) : AbB (b0 + 3) (LinX w0 b0) := by
  rintro s W W' row ⟨h3, h4, h5, h6, h8⟩ hg hr
  have hne : ∀ g, g ≠ b0 + 3 → some g ≠ row := fun g hg e => hg (hr g e.symm)
  exact ⟨blk_grown h3 hg (hne _ (by omega)), blk_grown h4 hg (hne _ (by omega)), h5.grown hg (by omega) (fun k hk => by rw [hr k hk]; omega), h6, Nat.le_trans h8 hg.size⟩
/-- What lines answers. -/
def LinesP (w : World) (s : List UInt8) (e : Ending) (w' : World) : Prop :=
  (fits s = true → ∃ v, e = .returned (.tuple #[v, .int .i64 0]) ∧ w'.ownsRow w.heap.size StrT 1 v (linesOf s).length (strsL ((linesOf s).map clean))) ∧ (fits s = false → e = .returned (.tuple #[.slice none 0 0, .int .i64 11])) ∧ Below w.heap.size w w'
set_option maxRecDepth 100000 in
set_option maxHeartbeats 1600000 in
theorem linesP_any (s : ByteArray) (hs : s.size ≤ 1000000) (w : World) : Calls Tryz.prog 52 #[.string s] w (LinesP w s.data.toList) := by
  refine (callsIn_wide (n := 5)).1 ?_
  refine callsIn_of_wp_marks Tryz.func52 rfl trivial ?_ rfl
  simp only [Tryz.ntmps52, List.size_toArray, List.length_cons, List.length_nil, Nat.reduceAdd, Nat.reduceSub, Array.replicate_succ, Array.replicate_zero, List.push_toArray, List.append_toArray, List.nil_append, List.cons_append]
  gi_wp2_with (refine ⟨trivial, ?_⟩; gi_at_call 70; refine (callsIn_wide.2 (lines_any s _)).mono ?_; rintro _ _ ⟨rfl, rfl⟩)
  obtain ⟨W0, hW0⟩ : ∃ W0, ((((w.alloc (.cells #[.slice none 0 0] StrsT)).alloc (.cells #[.int .i64 0] ErrT)).alloc (.cells #[.slice none 0 0] StrsT)).alloc (.cells #[.string s] StrT)) = W0 := ⟨_, rfl⟩
  rw [hW0]
  have hsz : W0.heap.size = w.heap.size + 4 := by rw [← hW0]; simp
  have k0 : Blk W0 w.heap.size StrsT #[.slice none 0 0] := hW0 ▸ (((Blk.new w StrsT #[.slice none 0 0]).alloc _).alloc _).alloc _
  have k1 : Blk W0 (w.heap.size + 1) ErrT #[.int .i64 0] := by
    have h := ((Blk.new (w.alloc (.cells #[.slice none 0 0] StrsT)) ErrT #[.int .i64 0]).alloc (.cells #[.slice none 0 0] StrsT)).alloc (.cells #[.string s] StrT)
    rw [World.size_alloc, hW0] at h
    exact h
  have k2 : Blk W0 (w.heap.size + 2) StrsT #[.slice none 0 0] := by
    have h := (Blk.new ((w.alloc (.cells #[.slice none 0 0] StrsT)).alloc (.cells #[.int .i64 0] ErrT)) StrsT #[.slice none 0 0]).alloc (.cells #[.string s] StrT)
    rw [World.size_alloc, World.size_alloc, hW0] at h
    exact h
  have k3 : Blk W0 (w.heap.size + 3) StrT #[.string s] := by
    have h := Blk.new (((w.alloc (.cells #[.slice none 0 0] StrsT)).alloc (.cells #[.int .i64 0] ErrT)).alloc (.cells #[.slice none 0 0] StrsT)) StrT #[.string s]
    rw [World.size_alloc, World.size_alloc, World.size_alloc, hW0] at h
    exact h
  have hb0 : Below w.heap.size w W0 := hW0 ▸ ((((Below.refl _ w).alloc (Nat.le_refl _) _).alloc (by simp) _).alloc (by simp; omega) _).alloc (by simp; omega) _
  clear hW0
  refine range_box (n := 5) (by omega) (gf := 93) (lb := #[.pointer (some ⟨w.heap.size + 1 + 1 + 1, 0, none⟩)]) rfl (enters_of Tryz.func93 (by kernel_rfl) rfl) (encs := fun x : LineB => #[Value.string x.1]) (w.heap.size + 3) (by omega)
    (S := fun xs => mapS xs = linesOf s.data.toList) (Sp := fun pre => mapS pre <+: linesOf s.data.toList) (fun _ => rfl)
    (fun l J Jx W hW hJ hJx hY h0 => lines1_any 4 l (w.heap.size + 3) s hs J Jx W hJ hJx hY (by omega) (by rw [hW.cell (p := ⟨w.heap.size + 3, 0, none⟩) (show w.heap.size + 3 < _ by omega), k3.cell]; rfl) (Blk.frz (k3.below hW (by omega)) 0) h0)
    (LinI w w.heap.size) (LinX w w.heap.size) (linI_own w w.heap.size _ (by omega)) (linX_own w w.heap.size _ (by omega)) (linI_box w w.heap.size) (linX_box w w.heap.size)
    ⟨.slice none 0 0, k2, World.ownsRow_nil _ _ _ _, k0, k1, hb0, rfl, Nat.zero_le _, by omega⟩
    (fun x => { tmps := #[.string s, undef, .pointer (some ⟨w.heap.size, 0, none⟩), .pointer (some ⟨w.heap.size + 1, 0, none⟩), .pointer (some ⟨w.heap.size + 1 + 1, 0, none⟩), .string x.1, .string s, .func (.func 93) #[] #[.pointer (some ⟨w.heap.size + 1 + 1 + 1, 0, none⟩)], .string x.1, undef, undef, undef, undef, undef, undef, undef, undef, undef, undef, undef, undef, undef, undef, undef, undef, undef, undef, undef, undef, undef, undef], defers := [] }) ?assign ?body ?done ?stop
  case assign =>
    intro l x W K hK
    gi_wp2
    exact hK
  case body =>
    rintro l pre x W ⟨v, h1, h2, h3, h4, h5, h6, h7, h8⟩
    obtain ⟨x, hxs⟩ := x
    obtain ⟨A, c, rfl⟩ := own_shapeN h2
    have g0 : W.cell? ⟨w.heap.size, 0, none⟩ = some (.slice none 0 0) := by rw [h3.cell]; rfl
    have g1 : W.cell? ⟨w.heap.size + 1, 0, none⟩ = some (.int .i64 0) := by rw [h4.cell]; rfl
    have g2 : W.cell? ⟨w.heap.size + 1 + 1, 0, none⟩ = some (.slice A (mapS pre).length c) := by have := h1.cell 0; exact this
    have f0 := Blk.frz h3 0
    have f1 := Blk.frz h4 0
    have f2 : W.frozen? ⟨w.heap.size + 1 + 1, 0, none⟩ = false := Blk.frz h1 0
    have hstl : (strip x.data.toList).length ≤ x.size := by
      unfold strip Lib.trimSuffix
      rw [← bl x]
      split
      · rw [List.length_take]; omega
      · exact Nat.le_refl _
    have HTS := Lib.hid (trimSuffix_any x hxs W)
    have HMS : Hid (mapS (pre ++ [⟨x, hxs⟩]) = mapS pre ++ [strip x.data.toList]) := Lib.hid (by rw [mapS, List.map_append]; rfl)
    generalize strip x.data.toList = t at *
    have HX : Hid ((512 < t.length ∨ (mapS pre).length = 4096) → LinX w w.heap.size (pre ++ [⟨x, hxs⟩]) ((W.setCell ⟨w.heap.size, 0, none⟩ (.slice none 0 0)).setCell ⟨w.heap.size + 1, 0, none⟩ (.int .i64 11))) := Lib.hid fun hbad => by
      refine ⟨Blk.apart (Blk.set h3 0 _) (by omega), Blk.set (Blk.apart h4 (by omega)) 0 _, below_set (below_set h5 _ 0 _ (Nat.le_refl _)) _ 0 _ (by omega), fun L hL => ?_, by simp; omega⟩
      rw [HMS.out] at hL
      obtain ⟨u, rfl⟩ := hL
      rcases hbad with hb | hb
      · rw [List.all_append, List.all_append, List.all_cons, decide_eq_false (show ¬ t.length ≤ 512 by omega)]
        simp
      · rw [decide_eq_false (show ¬ (mapS pre ++ [t] ++ u).length ≤ 4096 by simp; omega), Bool.and_false]
    have HKF : Hid (KeepsFrom (w.heap.size + 4) W ((W.setCell ⟨w.heap.size, 0, none⟩ (.slice none 0 0)).setCell ⟨w.heap.size + 1, 0, none⟩ (.int .i64 11))) := Lib.hid (((KeepsOthers.setCell _ _ _).trans (KeepsOthers.setCell _ _ _)).from _)
    have H1 := Lib.hid h1
    have H2 := Lib.hid h2
    have H3 := Lib.hid h3
    have H4 := Lib.hid h4
    have H5 := Lib.hid h5
    have H6 := Lib.hid h6
    have H7 := Lib.hid h7
    have H8 := Lib.hid h8
    clear h1 h2 h3 h4 h5 h6 h7 h8 k0 k1 k2 k3 hb0
    rw [hsz]
    by_cases a1 : 512 < t.length
    · have b1 : decide ((512 : Int) < (t.length : Int)) = true := decide_eq_true (by omega)
      have HXX := Lib.hid (HX.out (.inl a1))
      clear a1
      gi_wp2_with (refine ⟨trivial, ?_⟩; gi_at_call 71; refine (CallsIn.inRound l (callsIn_wide.2 HTS.out)).mono ?_; rintro _ _ ⟨rfl, rfl⟩)
      exact ⟨HKF.out, HXX.out⟩
    have b1 : decide ((512 : Int) < (t.length : Int)) = false := decide_eq_false (by omega)
    by_cases a2 : (mapS pre).length = 4096
    · have b2 : (((mapS pre).length : Int) == 4096) = true := by rw [beq_iff_eq]; omega
      have HXX := Lib.hid (HX.out (.inr a2))
      clear a1
      gi_wp2_with (refine ⟨trivial, ?_⟩; gi_at_call 71; refine (CallsIn.inRound l (callsIn_wide.2 HTS.out)).mono ?_; rintro _ _ ⟨rfl, rfl⟩)
      exact ⟨HKF.out, HXX.out⟩
    have b2 : (((mapS pre).length : Int) == 4096) = false := by rw [beq_eq_false_iff_ne]; omega
    have HCT := Lib.hid (cut_any ⟨t.toArray⟩ (by show t.toArray.size ≤ _; simp; omega) W)
    change Hid (Calls _ _ _ _ fun e w' => ∃ a b, e = .returned (.tuple #[.string ⟨(t.takeWhile (· != 35)).toArray⟩, a, b]) ∧ _) at HCT
    gi_wp2_with (first | (refine ⟨trivial, ?_⟩; gi_at_call 71; refine (CallsIn.inRound l (callsIn_wide.2 HTS.out)).mono ?_; rintro _ _ ⟨rfl, rfl⟩) | (refine ⟨trivial, ?_⟩; gi_at_call 72; refine (CallsIn.inRound l (callsIn_wide.2 HCT.out)).mono ?_; rintro _ w1 ⟨a, b, rfl, hb1⟩))
    have hmx : Tryz.prog.follows .mixedOrders = true := by kernel_rfl
    have HTR : Hid (∀ wv, Calls Tryz.prog 73 #[.string ⟨(t.takeWhile (· != 35)).toArray⟩, .string ⟨#[32, 9]⟩] wv fun e w' => e = .returned (.string ⟨(clean t).toArray⟩) ∧ Below wv.heap.size wv w') := Lib.hid fun wv => trimRight_any ⟨(t.takeWhile (· != 35)).toArray⟩ (by show (t.takeWhile (· != 35)).toArray.size ≤ _; have := (List.takeWhile_prefix (l := t) (· != 35)).length_le; simp; omega) wv
    have hbd : Below W.heap.size W w1.drew := hb1.drew
    have e1 : w1.cell? ⟨w.heap.size + 1 + 1, 0, none⟩ = some (.slice A (mapS pre).length c) := (hb1.cell (p := ⟨w.heap.size + 1 + 1, 0, none⟩) (show w.heap.size + 1 + 1 < W.heap.size by have := H8.out; omega)).trans g2
    have H3W : Hid (∀ w3, Below w1.drew.heap.size w1.drew w3 → w3.cell? ⟨w.heap.size + 1 + 1, 0, none⟩ = some (.slice A (mapS pre).length c) ∧ w3.frozen? ⟨w.heap.size + 1 + 1, 0, none⟩ = false ∧ Below W.heap.size W w3 ∧ (w3.alloc (.cells #[.string ⟨(clean t).toArray⟩] StrT)).cell? ⟨w.heap.size + 1 + 1, 0, none⟩ = some (.slice A (mapS pre).length c)) := Lib.hid fun w3 hb3 => by
      have hb := hbd.trans (hb3.mono hbd.size)
      have hlt : w.heap.size + 1 + 1 < W.heap.size := by have := H8.out; omega
      exact ⟨(hb.cell (p := ⟨w.heap.size + 1 + 1, 0, none⟩) hlt).trans g2, Blk.frz (Blk.below H1.out hb hlt) 0, hb, ((((Below.refl w3.heap.size w3).alloc (Nat.le_refl _) (.cells #[.string ⟨(clean t).toArray⟩] StrT)).cell (p := ⟨w.heap.size + 1 + 1, 0, none⟩) (Nat.lt_of_lt_of_le hlt hb.size)).trans (hb.cell (p := ⟨w.heap.size + 1 + 1, 0, none⟩) hlt)).trans g2⟩
    have HROW : Hid (∀ w3, Below W.heap.size W w3 → w3.ownsRow (w.heap.size + 4) StrT 1 (.slice A (mapS pre).length c) ((mapS pre).map clean).length (strsL ((mapS pre).map clean))) := Lib.hid fun w3 hb => by rw [List.length_map]; exact own_keep H2.out hb
    have HSZ : Hid (∀ w3, Below W.heap.size W w3 → w.heap.size + 4 ≤ w3.heap.size) := Lib.hid fun w3 hb => Nat.le_trans H8.out hb.size
    have HEND : Hid (∀ (w3 w4 : World) (v4 : Value), Below W.heap.size W w3 → w4.ownsRow (w.heap.size + 4) StrT 1 v4 ((mapS pre).map clean ++ [clean t]).length (strsL ((mapS pre).map clean ++ [clean t])) → Below (w.heap.size + 4) w3 w4 → (∀ g t cs, t ≠ StrT → Blk w3 g t cs → Blk w4 g t cs) →
        (∀ (k : Nat) (o : Obj), w3.heap[k]? = some o → o.isCells = false → w4.heap[k]? = some o) → (∀ g cs, g < w.heap.size + 4 → Blk w3 g StrT cs → Blk w4 g StrT cs) →
        w4.cell? ⟨w.heap.size + 1 + 1, 0, none⟩ = some (.slice A (mapS pre).length c) ∧ w4.frozen? ⟨w.heap.size + 1 + 1, 0, none⟩ = false ∧ KeepsFrom (w.heap.size + 4) W (w4.setCell ⟨w.heap.size + 1 + 1, 0, none⟩ v4) ∧ KpB (w.heap.size + 3) W (w4.setCell ⟨w.heap.size + 1 + 1, 0, none⟩ v4) ∧ LinI w w.heap.size (pre ++ [⟨x, hxs⟩]) (w4.setCell ⟨w.heap.size + 1 + 1, 0, none⟩ v4)) := Lib.hid fun w3 w4 v4 hb ho4 hb4 hk4 hc4 hs4 => by
      have hO : Blk w4 (w.heap.size + 2) StrsT #[.slice A (mapS pre).length c] := hk4 _ _ _ (by decide) (Blk.below H1.out hb (H1.out.lt))
      have hblk : w4.heap[w.heap.size + 3]? = W.heap[w.heap.size + 3]? := (hb4.block _ (by omega)).trans (hb.block _ (by have := H8.out; omega))
      have hset : (w4.setCell ⟨w.heap.size + 1 + 1, 0, none⟩ v4).heap[w.heap.size + 3]? = W.heap[w.heap.size + 3]? := (heap_setCell_other w4 ⟨w.heap.size + 1 + 1, 0, none⟩ (w.heap.size + 3) v4 (by show w.heap.size + 3 ≠ w.heap.size + 1 + 1; omega)).trans hblk
      refine ⟨by have := hO.cell 0; exact this, Blk.frz hO 0, ?_, ⟨World.cell?_of_block hset, World.frozen?_of_block hset⟩, ?_⟩
      · refine KeepsFrom.trans ⟨Nat.le_trans hb.size hb4.size, fun k o _ hk hc => hc4 k o ((hb.block k (Array.getElem?_eq_some_iff.1 hk).1).trans hk) hc⟩ ((KeepsOthers.setCell _ _ _).from _)
      · refine ⟨v4, Blk.set hO 0 _, ?_, Blk.apart (hk4 _ _ _ (by decide) (Blk.below H3.out hb H3.out.lt)) (by omega), Blk.apart (hk4 _ _ _ (by decide) (Blk.below H4.out hb H4.out.lt)) (by omega), below_set ((H5.out.trans (hb.mono H5.out.size)).trans (hb4.mono (by omega))) _ 0 _ (by omega), ?_, ?_, by simp; exact Nat.le_trans H8.out (Nat.le_trans hb.size hb4.size)⟩
        · rw [HMS.out, List.map_append, List.length_append, List.length_cons, List.length_nil]
          have h := own_set (i := 0) (x := v4) ho4 hO (by decide)
          rw [List.length_append, List.length_map, List.length_cons, List.length_nil] at h
          exact h
        · rw [HMS.out, List.all_append, H6.out, List.all_cons, decide_eq_true (show t.length ≤ 512 by omega)]
          rfl
        · rw [HMS.out, List.length_append, List.length_cons, List.length_nil]
          have := H7.out
          omega
    have HLN : Hid (((mapS pre).map clean ++ [(⟨(clean t).toArray⟩ : ByteArray).data.toList]).length = (mapS pre).length + 1) := Lib.hid (by simp)
    clear hbd hb1 g0 g1 g2 f0 f1 f2
    refine wpIn_region_any hmx ?_
    change wpAnyIn _ _ _ _ _ _ _ _ _ (World.drew _)
    -- ORDERS
    refine wpAnyIn_ready (rs := [0, 1]) (by kernel_rfl) (by simp) ?_
    refine AllReadyIn.cons rfl (fun K hK => ?_) ?_
    · skip
      go_simp
      refine hK _ _ ?_
      clear hK K
      refine wpAnyIn_ready (rs := [1]) (by kernel_rfl) (by simp) ?_
      refine AllReadyIn.cons rfl (fun K hK => ?_) AllReadyIn.nil
      go_simp
      refine hK _ _ ?_
      clear hK K
      refine wpAnyIn_ready (rs := [2]) (by kernel_rfl) (by simp) ?_
      refine AllReadyIn.cons rfl (fun K hK => ?_) AllReadyIn.nil
      go_simp
      gi_wp2_with (refine ⟨trivial, ?_⟩; gi_at_call 73; refine (CallsIn.inRound l (callsIn_wide.2 (HTR.out w1.drew))).mono ?_; rintro _ w3 ⟨rfl, hb3⟩; obtain ⟨e3, z3, hh3, e3a⟩ := H3W.out w3 hb3; have HH3 := Lib.hid hh3; clear hb3 hh3)
      refine wpAnyIn_ready (rs := [3]) (by kernel_rfl) (by simp) ?_
      refine AllReadyIn.cons rfl (fun K hK => ?_) AllReadyIn.nil
      go_simp
      refine hK _ _ ?_
      clear hK K
      refine wpAnyIn_ready (rs := [4]) (by kernel_rfl) (by simp) ?_
      refine AllReadyIn.cons rfl (fun K hK => ?_) AllReadyIn.nil
      refine opIn_line w3 _ _ rfl (w.heap.size + 4) (.slice A (mapS pre).length c) ((mapS pre).map clean) rfl (HROW.out w3 HH3.out) (HSZ.out w3 HH3.out) _ w3.heap.size 1 rfl rfl (by rw [List.length_map]; have := H7.out; omega) ?_
      intro v4 w4 ho4 hb4 hk4 hc4 hs4
      obtain ⟨A4, c4, rfl⟩ := own_shapeN ho4
      refine hK _ _ ?_
      clear hK K
      obtain ⟨e4, z4, hfin⟩ := HEND.out w3 w4 _ HH3.out ho4 hb4 hk4 hc4 hs4
      have HFIN := Lib.hid hfin.1
      have HKPB := Lib.hid hfin.2.1
      have HLIN := Lib.hid hfin.2.2
      rw [HLN.out] at HFIN HKPB HLIN ⊢
      clear ho4 hb4 hk4 hc4 hs4 hfin
      refine wpAnyIn_ready (rs := [5]) (by kernel_rfl) (by simp) ?_
      refine AllReadyIn.cons rfl (fun K hK => ?_) AllReadyIn.nil
      go_simp
      refine hK _ _ ?_
      clear hK K
      refine wpAnyIn_done (by kernel_rfl) ?_ _
      exact ⟨HFIN.out, HKPB.out, HLIN.out⟩
    refine AllReadyIn.cons rfl (fun K hK => ?_) AllReadyIn.nil
    go_simp
    refine hK _ _ ?_
    clear hK K
    refine wpAnyIn_ready (rs := [0, 2]) (by kernel_rfl) (by simp) ?_
    refine AllReadyIn.cons rfl (fun K hK => ?_) ?_
    · skip
      go_simp
      refine hK _ _ ?_
      clear hK K
      refine wpAnyIn_ready (rs := [2]) (by kernel_rfl) (by simp) ?_
      refine AllReadyIn.cons rfl (fun K hK => ?_) AllReadyIn.nil
      go_simp
      gi_wp2_with (refine ⟨trivial, ?_⟩; gi_at_call 73; refine (CallsIn.inRound l (callsIn_wide.2 (HTR.out w1.drew))).mono ?_; rintro _ w3 ⟨rfl, hb3⟩; obtain ⟨e3, z3, hh3, e3a⟩ := H3W.out w3 hb3; have HH3 := Lib.hid hh3; clear hb3 hh3)
      refine wpAnyIn_ready (rs := [3]) (by kernel_rfl) (by simp) ?_
      refine AllReadyIn.cons rfl (fun K hK => ?_) AllReadyIn.nil
      go_simp
      refine hK _ _ ?_
      clear hK K
      refine wpAnyIn_ready (rs := [4]) (by kernel_rfl) (by simp) ?_
      refine AllReadyIn.cons rfl (fun K hK => ?_) AllReadyIn.nil
      refine opIn_line w3 _ _ rfl (w.heap.size + 4) (.slice A (mapS pre).length c) ((mapS pre).map clean) rfl (HROW.out w3 HH3.out) (HSZ.out w3 HH3.out) _ w3.heap.size 1 rfl rfl (by rw [List.length_map]; have := H7.out; omega) ?_
      intro v4 w4 ho4 hb4 hk4 hc4 hs4
      obtain ⟨A4, c4, rfl⟩ := own_shapeN ho4
      refine hK _ _ ?_
      clear hK K
      obtain ⟨e4, z4, hfin⟩ := HEND.out w3 w4 _ HH3.out ho4 hb4 hk4 hc4 hs4
      have HFIN := Lib.hid hfin.1
      have HKPB := Lib.hid hfin.2.1
      have HLIN := Lib.hid hfin.2.2
      rw [HLN.out] at HFIN HKPB HLIN ⊢
      clear ho4 hb4 hk4 hc4 hs4 hfin
      refine wpAnyIn_ready (rs := [5]) (by kernel_rfl) (by simp) ?_
      refine AllReadyIn.cons rfl (fun K hK => ?_) AllReadyIn.nil
      go_simp
      refine hK _ _ ?_
      clear hK K
      refine wpAnyIn_done (by kernel_rfl) ?_ _
      exact ⟨HFIN.out, HKPB.out, HLIN.out⟩
    refine AllReadyIn.cons rfl (fun K hK => ?_) AllReadyIn.nil
    go_simp
    gi_wp2_with (refine ⟨trivial, ?_⟩; gi_at_call 73; refine (CallsIn.inRound l (callsIn_wide.2 (HTR.out w1.drew))).mono ?_; rintro _ w3 ⟨rfl, hb3⟩; obtain ⟨e3, z3, hh3, e3a⟩ := H3W.out w3 hb3; have HH3 := Lib.hid hh3; clear hb3 hh3)
    refine wpAnyIn_ready (rs := [0, 3]) (by kernel_rfl) (by simp) ?_
    refine AllReadyIn.cons rfl (fun K hK => ?_) ?_
    · skip
      go_simp
      refine hK _ _ ?_
      clear hK K
      refine wpAnyIn_ready (rs := [3]) (by kernel_rfl) (by simp) ?_
      refine AllReadyIn.cons rfl (fun K hK => ?_) AllReadyIn.nil
      go_simp
      refine hK _ _ ?_
      clear hK K
      refine wpAnyIn_ready (rs := [4]) (by kernel_rfl) (by simp) ?_
      refine AllReadyIn.cons rfl (fun K hK => ?_) AllReadyIn.nil
      refine opIn_line w3 _ _ rfl (w.heap.size + 4) (.slice A (mapS pre).length c) ((mapS pre).map clean) rfl (HROW.out w3 HH3.out) (HSZ.out w3 HH3.out) _ w3.heap.size 1 rfl rfl (by rw [List.length_map]; have := H7.out; omega) ?_
      intro v4 w4 ho4 hb4 hk4 hc4 hs4
      obtain ⟨A4, c4, rfl⟩ := own_shapeN ho4
      refine hK _ _ ?_
      clear hK K
      obtain ⟨e4, z4, hfin⟩ := HEND.out w3 w4 _ HH3.out ho4 hb4 hk4 hc4 hs4
      have HFIN := Lib.hid hfin.1
      have HKPB := Lib.hid hfin.2.1
      have HLIN := Lib.hid hfin.2.2
      rw [HLN.out] at HFIN HKPB HLIN ⊢
      clear ho4 hb4 hk4 hc4 hs4 hfin
      refine wpAnyIn_ready (rs := [5]) (by kernel_rfl) (by simp) ?_
      refine AllReadyIn.cons rfl (fun K hK => ?_) AllReadyIn.nil
      go_simp
      refine hK _ _ ?_
      clear hK K
      refine wpAnyIn_done (by kernel_rfl) ?_ _
      exact ⟨HFIN.out, HKPB.out, HLIN.out⟩
    refine AllReadyIn.cons rfl (fun K hK => ?_) AllReadyIn.nil
    go_simp
    refine hK _ _ ?_
    clear hK K
    refine wpAnyIn_ready (rs := [0]) (by kernel_rfl) (by simp) ?_
    refine AllReadyIn.cons rfl (fun K hK => ?_) AllReadyIn.nil
    go_simp
    refine hK _ _ ?_
    clear hK K
    refine wpAnyIn_ready (rs := [4]) (by kernel_rfl) (by simp) ?_
    refine AllReadyIn.cons rfl (fun K hK => ?_) AllReadyIn.nil
    refine opIn_line w3 _ _ rfl (w.heap.size + 4) (.slice A (mapS pre).length c) ((mapS pre).map clean) rfl (HROW.out w3 HH3.out) (HSZ.out w3 HH3.out) _ w3.heap.size 1 rfl rfl (by rw [List.length_map]; have := H7.out; omega) ?_
    intro v4 w4 ho4 hb4 hk4 hc4 hs4
    obtain ⟨A4, c4, rfl⟩ := own_shapeN ho4
    refine hK _ _ ?_
    clear hK K
    obtain ⟨e4, z4, hfin⟩ := HEND.out w3 w4 _ HH3.out ho4 hb4 hk4 hc4 hs4
    have HFIN := Lib.hid hfin.1
    have HKPB := Lib.hid hfin.2.1
    have HLIN := Lib.hid hfin.2.2
    rw [HLN.out] at HFIN HKPB HLIN ⊢
    clear ho4 hb4 hk4 hc4 hs4 hfin
    refine wpAnyIn_ready (rs := [5]) (by kernel_rfl) (by simp) ?_
    refine AllReadyIn.cons rfl (fun K hK => ?_) AllReadyIn.nil
    go_simp
    refine hK _ _ ?_
    clear hK K
    refine wpAnyIn_done (by kernel_rfl) ?_ _
    exact ⟨HFIN.out, HKPB.out, HLIN.out⟩
    -- ORDERS END
  case done =>
    rintro D xs W hD hS ⟨v, h1, h2, h3, h4, h5, h6, h7, h8⟩ hK
    obtain ⟨A, c, rfl⟩ := own_shapeN h2
    have g0 : W.cell? ⟨w.heap.size, 0, none⟩ = some (.slice none 0 0) := by rw [h3.cell]; rfl
    have g1 : W.cell? ⟨w.heap.size + 1, 0, none⟩ = some (.int .i64 0) := by rw [h4.cell]; rfl
    have g2 : W.cell? ⟨w.heap.size + 1 + 1, 0, none⟩ = some (.slice A (mapS xs).length c) := by have := h1.cell 0; exact this
    have f0 := Blk.frz h3 0
    have f1 := Blk.frz h4 0
    have HX := Lib.hid h2
    clear k0 k1 k2 k3 hb0
    gi_wp2
    have hK2 := (((KeepsOthers.setCell W ⟨w.heap.size, 0, none⟩ (.slice A (linesOf s.data.toList).length c)).trans (KeepsOthers.setCell _ ⟨w.heap.size + 1, 0, none⟩ (.int .i64 0)))).same D _ hK rfl
    refine ⟨by simp, .inl ⟨_, _, rfl, run_takeDeferred hK2, ?_⟩⟩
    have hr2 : Blk (W.setCell ⟨w.heap.size, 0, none⟩ (.slice A (linesOf s.data.toList).length c)) w.heap.size StrsT #[.slice A (linesOf s.data.toList).length c] := Blk.set h3 0 _
    have hr3 : Blk (W.setCell ⟨w.heap.size, 0, none⟩ (.slice A (linesOf s.data.toList).length c)) (w.heap.size + 1) ErrT #[.int .i64 0] := Blk.apart h4 (by omega)
    have hx2 := Blk.apart (i := 0) (x := .int .i64 0) hr2 (show w.heap.size ≠ w.heap.size + 1 by omega)
    have hx3 : Blk ((W.setCell ⟨w.heap.size, 0, none⟩ (.slice A (linesOf s.data.toList).length c)).setCell ⟨w.heap.size + 1, 0, none⟩ (.int .i64 0)) (w.heap.size + 1) ErrT #[.int .i64 0] := Blk.set hr3 0 _
    rw [hS] at h2 h6 h7
    have ho := own_set (i := 0) (x := .int .i64 0) (own_set (i := 0) (x := .slice A (linesOf s.data.toList).length c) h2 h3 (by decide)) hr3 (by decide)
    have ho2 := ownsRow_putObj ho (.deferred none) hK2 rfl
    have hbe := below_set (below_set h5 w.heap.size 0 (.slice A (linesOf s.data.toList).length c) (Nat.le_refl _)) (w.heap.size + 1) 0 (.int .i64 0) (by omega)
    have hbf : Below w.heap.size w (((W.setCell ⟨w.heap.size, 0, none⟩ (.slice A (linesOf s.data.toList).length c)).setCell ⟨w.heap.size + 1, 0, none⟩ (.int .i64 0)).putObj D (.deferred none)) := hbe.grown (grownBy_putObj' _ D _) (by simp; omega) (fun k e => by cases e; omega)
    have hy2 : Blk (((W.setCell ⟨w.heap.size, 0, none⟩ (.slice A (linesOf s.data.toList).length c)).setCell ⟨w.heap.size + 1, 0, none⟩ (.int .i64 0)).putObj D (.deferred none)) w.heap.size StrsT _ := (World.putObj_heap_other (by omega)).trans hx2
    have hy3 : Blk (((W.setCell ⟨w.heap.size, 0, none⟩ (.slice A (linesOf s.data.toList).length c)).setCell ⟨w.heap.size + 1, 0, none⟩ (.int .i64 0)).putObj D (.deferred none)) (w.heap.size + 1) ErrT _ := (World.putObj_heap_other (by omega)).trans hx3
    generalize (((W.setCell ⟨w.heap.size, 0, none⟩ (.slice A (linesOf s.data.toList).length c)).setCell ⟨w.heap.size + 1, 0, none⟩ (.int .i64 0)).putObj D (.deferred none)) = Wf at *
    have q0 : Wf.cell? ⟨w.heap.size, 0, none⟩ = some (.slice A (linesOf s.data.toList).length c) := by rw [hy2.cell]; rfl
    have q1 : Wf.cell? ⟨w.heap.size + 1, 0, none⟩ = some (.int .i64 0) := by rw [hy3.cell]; rfl
    have hft : fits s.data.toList = true := by
      unfold fits
      rw [h6, decide_eq_true h7]
      rfl
    refine ⟨_, (by simp [results, Tryz.results52, go_sem, q0, q1]; try rfl), ?_⟩
    exact ⟨fun _ => ⟨_, rfl, own_base ho2 (by omega)⟩, fun h => by rw [hft] at h; (exact absurd h (by decide)), hbf⟩
  case stop =>
    rintro D pre W hD hS ⟨h3, h4, h5, h6, h8⟩ hK
    have g0 : W.cell? ⟨w.heap.size, 0, none⟩ = some (.slice none 0 0) := by rw [h3.cell]; rfl
    have g1 : W.cell? ⟨w.heap.size + 1, 0, none⟩ = some (.int .i64 11) := by rw [h4.cell]; rfl
    clear k0 k1 k2 k3 hb0
    gi_wp2
    refine ⟨by simp, .inl ⟨_, _, rfl, run_takeDeferred hK, ?_⟩⟩
    have hbf : Below w.heap.size w (W.putObj D (.deferred none)) := h5.grown (grownBy_putObj' _ D _) (by omega) (fun k e => by cases e; omega)
    have hy2 : Blk (W.putObj D (.deferred none)) w.heap.size StrsT _ := (World.putObj_heap_other (by omega)).trans h3
    have hy3 : Blk (W.putObj D (.deferred none)) (w.heap.size + 1) ErrT _ := (World.putObj_heap_other (by omega)).trans h4
    generalize W.putObj D (.deferred none) = Wf at *
    have q0 : Wf.cell? ⟨w.heap.size, 0, none⟩ = some (.slice none 0 0) := by rw [hy2.cell]; rfl
    have q1 : Wf.cell? ⟨w.heap.size + 1, 0, none⟩ = some (.int .i64 11) := by rw [hy3.cell]; rfl
    have hft : fits s.data.toList = false := h6 _ hS
    refine ⟨_, (by simp [results, Tryz.results52, go_sem, q0, q1]; try rfl), ?_⟩
    exact ⟨fun h => by rw [hft] at h; (exact absurd h (by decide)), fun _ => rfl, hbf⟩
end Go.Proofs.YtkfjmcidcnpijaaGreatDoor.Mf
