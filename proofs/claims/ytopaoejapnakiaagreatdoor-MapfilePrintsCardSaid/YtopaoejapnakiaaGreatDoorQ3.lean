/- Walk: inkhornlaw13.Plain. -/
import Derived.Test.YtopaoejapnakiaaGreatDoorQ2
import Derived.Test.YtopaoejapnakiaaGreatDoorM8
namespace Go.Proofs.YtopaoejapnakiaaGreatDoor.Mf
open Go.RowKit Pl Go.Lib
/-- A row of the reference. -/
structure RRow where
  code : ByteArray
  text : List Int
  flag : Int
def plainR (r : RowV) : RRow := if validD r.text.data.toList = true then ⟨r.code, runesL r.text.data.toList, r.flag⟩ else ⟨⟨#[]⟩, [], 0⟩
def PlainPost (w : World) (x : RRow) (e : Ending) (w' : World) : Prop := ∃ v, e = .returned (.agg #[.string x.code, v, .int .i64 x.flag]) ∧ TextAt w' v x.text ∧ Below w.heap.size w w'
theorem conv_text (s : ByteArray) (hs : s.size ≤ 1048576) (w : World) : ∃ v w', (convert 9 47 (.string s)).run Tryz.prog w = .ok v w' ∧ Below w.heap.size w w' ∧ TextAt w' v (runesL s.data.toList) := by
  have hl := runesL_le s.data.toList
  rw [show s.data.toList.length = s.size from by simp] at hl
  have h := run_runes_of_string (P := Tryz.prog) w 9 47 21 s Tryz.underlying9 Tryz.underlying47 Tryz.underlying21 (by rw [runes_conv]; simp; omega)
  rw [runes_conv] at h
  simp only [List.size_toArray, List.length_map] at h
  refine ⟨_, _, h, (Below.refl _ _).drew.alloc (Nat.le_refl _) _, .inr ⟨_, _, _, rfl, Blk.new w.drew _ _, ?_⟩⟩
  simp [i32s]
set_option maxRecDepth 100000 in
theorem plain13_any (r : RowV) (h1 : r.code.size ≤ 1048576) (h2 : r.text.size ≤ 1048576) (w : World) :
    Calls Tryz.prog 24 #[.agg #[.string r.code, .string r.text, .int .i64 r.flag]] w (PlainPost w (plainR r)) := by
  have HV := Lib.hid (valid_any r.text (by omega))
  obtain ⟨code, text, flag⟩ := r
  unfold plainR
  have HC := Lib.hid (conv_text text h2)
  obtain ⟨W, hW⟩ : ∃ W, w.alloc (.cells #[.string code, .string text, .int .i64 flag] 41) = W := ⟨_, rfl⟩
  have hbw : Below w.heap.size w W := hW ▸ (Below.refl _ _).alloc (Nat.le_refl _) _
  have hk : Blk W w.heap.size 41 #[.string code, .string text, .int .i64 flag] := hW ▸ Blk.new _ _ _
  have hsz : w.heap.size < W.heap.size := hk.lt
  obtain ⟨V, hV⟩ : ∃ V, W.alloc (.cells #[.string ⟨#[]⟩, .slice none 0 0, .int .i64 0] RefT) = V := ⟨_, rfl⟩
  have hbv : Below W.heap.size W V := hV ▸ (Below.refl _ _).alloc (Nat.le_refl _) _
  have hr : Blk V W.heap.size RefT #[.string ⟨#[]⟩, .slice none 0 0, .int .i64 0] := hV ▸ Blk.new _ _ _
  have hkv : Blk V w.heap.size 41 #[.string code, .string text, .int .i64 flag] := hk.below hbv hk.lt
  have HK := Lib.hid hkv
  have HR := Lib.hid hr
  have HB := Lib.hid (hbw.trans (hbv.mono hbw.size))
  have c1 : V.cell? ⟨w.heap.size, 1, none⟩ = some (.string text) := by rw [hkv.cell]; rfl
  clear hbw hk h1 h2 hbv hr hkv
  cases hv : validD text.data.toList
  · rw [hv] at HV
    simp only [Bool.false_eq_true, if_false]
    clear hv
    go_enter Tryz.func24, Tryz.ntmps24
    go_wp2_with fail
    refine (HV.out V).mono ?_
    rintro _ w1 ⟨rfl, hb1⟩
    have hr1 := HR.out.below hb1 HR.out.lt
    have HR1 := Lib.hid hr1
    have r0 : w1.cell? ⟨W.heap.size, 0, none⟩ = some (.string ⟨#[]⟩) := by rw [hr1.cell]; rfl
    have r1 : w1.cell? ⟨W.heap.size, 1, none⟩ = some (.slice none 0 0) := by rw [hr1.cell]; rfl
    have r2 : w1.cell? ⟨W.heap.size, 2, none⟩ = some (.int .i64 0) := by rw [hr1.cell]; rfl
    have f0 := Blk.frz hr1 0
    have f1 := Blk.frz hr1 1
    have f2 := Blk.frz hr1 2
    have HB1 := Lib.hid (HB.out.trans (hb1.mono HB.out.size))
    clear hb1 hr1 c1
    go_wp2_with fail
    have hf := Blk.set (Blk.set (Blk.set HR1.out 0 (.string ⟨#[]⟩)) 1 (.slice none 0 0)) 2 (.int .i64 0)
    have hbf := below_set (below_set (below_set HB1.out W.heap.size 0 (.string ⟨#[]⟩) (by omega)) W.heap.size 1 (.slice none 0 0) (by omega)) W.heap.size 2 (.int .i64 0) (by omega)
    obtain ⟨Wf, hWf⟩ : ∃ Wf, (((w1.setCell ⟨W.heap.size, 0, none⟩ (.string ⟨#[]⟩)).setCell ⟨W.heap.size, 1, none⟩ (.slice none 0 0)).setCell ⟨W.heap.size, 2, none⟩ (.int .i64 0)) = Wf := ⟨_, rfl⟩
    rw [hWf] at hf hbf ⊢
    have e0 : Wf.cell? ⟨W.heap.size, 0, none⟩ = some (.string ⟨#[]⟩) := by rw [hf.cell]; rfl
    have e1 : Wf.cell? ⟨W.heap.size, 1, none⟩ = some (.slice none 0 0) := by rw [hf.cell]; rfl
    have e2 : Wf.cell? ⟨W.heap.size, 2, none⟩ = some (.int .i64 0) := by rw [hf.cell]; rfl
    have HBF := Lib.hid hbf
    clear hf hbf hWf r0 r1 r2 f0 f1 f2
    refine bodyPost_ret (by simp [results, Tryz.results24, go_sem, e0, e1, e2]; try rfl) rfl ?_
    exact ⟨.slice none 0 0, rfl, .inl ⟨rfl, rfl⟩, HBF.out⟩
  · rw [hv] at HV
    simp only [if_true]
    clear hv
    go_enter Tryz.func24, Tryz.ntmps24
    go_wp2_with fail
    refine (HV.out V).mono ?_
    rintro _ w1 ⟨rfl, hb1⟩
    have hr1 := HR.out.below hb1 HR.out.lt
    have hk1 := HK.out.below hb1 HK.out.lt
    have HR1 := Lib.hid hr1
    have k0 : w1.cell? ⟨w.heap.size, 0, none⟩ = some (.string code) := by rw [hk1.cell]; rfl
    have k1 : w1.cell? ⟨w.heap.size, 1, none⟩ = some (.string text) := by rw [hk1.cell]; rfl
    have k2 : w1.cell? ⟨w.heap.size, 2, none⟩ = some (.int .i64 flag) := by rw [hk1.cell]; rfl
    obtain ⟨vt, w2, hcv, hb2, htx⟩ := HC.out w1
    obtain ⟨At, ct, rfl, _⟩ := htx.rd
    generalize runesL text.data.toList = tx at *
    have k3 := (hb2.cell (p := ⟨w.heap.size, 2, none⟩) hk1.lt).trans k2
    have hr2 := hr1.below hb2 hr1.lt
    have r0 : w2.cell? ⟨W.heap.size, 0, none⟩ = some (.string ⟨#[]⟩) := by rw [hr2.cell]; rfl
    have r1 : w2.cell? ⟨W.heap.size, 1, none⟩ = some (.slice none 0 0) := by rw [hr2.cell]; rfl
    have r2 : w2.cell? ⟨W.heap.size, 2, none⟩ = some (.int .i64 0) := by rw [hr2.cell]; rfl
    have f0 := Blk.frz hr2 0
    have f1 := Blk.frz hr2 1
    have f2 := Blk.frz hr2 2
    have HB1 := Lib.hid (HB.out.trans (hb1.mono HB.out.size))
    have HB2 := Lib.hid (HB1.out.trans (hb2.mono HB1.out.size))
    have HTX := Lib.hid htx
    have HR2 := Lib.hid hr2
    clear hb1 hr1 hk1 c1 hb2 htx hr2 HC HR1
    go_wp2_with fail
    have hf := Blk.set (Blk.set (Blk.set HR2.out 0 (.string code)) 1 (.slice At tx.length ct)) 2 (.int .i64 flag)
    have hbf := below_set (below_set (below_set HB2.out W.heap.size 0 (.string code) (by omega)) W.heap.size 1 (.slice At tx.length ct) (by omega)) W.heap.size 2 (.int .i64 flag) (by omega)
    have htf := TextAt.set (x := .int .i64 flag) (i := 2) (TextAt.set (x := .slice At tx.length ct) (i := 1) (TextAt.set (x := .string code) (i := 0) HTX.out HR2.out (by decide)) (Blk.set HR2.out 0 _) (by decide)) (Blk.set (Blk.set HR2.out 0 _) 1 _) (by decide)
    obtain ⟨Wf, hWf⟩ : ∃ Wf, (((w2.setCell ⟨W.heap.size, 0, none⟩ (.string code)).setCell ⟨W.heap.size, 1, none⟩ (.slice At tx.length ct)).setCell ⟨W.heap.size, 2, none⟩ (.int .i64 flag)) = Wf := ⟨_, rfl⟩
    rw [hWf] at hf hbf htf ⊢
    have e0 : Wf.cell? ⟨W.heap.size, 0, none⟩ = some (.string code) := by rw [hf.cell]; rfl
    have e1 : Wf.cell? ⟨W.heap.size, 1, none⟩ = some (.slice At tx.length ct) := by rw [hf.cell]; rfl
    have e2 : Wf.cell? ⟨W.heap.size, 2, none⟩ = some (.int .i64 flag) := by rw [hf.cell]; rfl
    have HBF := Lib.hid hbf
    clear hf hbf hWf r0 r1 r2 f0 f1 f2
    have HTF := Lib.hid htf
    clear htf
    refine bodyPost_ret (by simp [results, Tryz.results24, go_sem, e0, e1, e2]; try rfl) rfl ?_
    exact ⟨_, rfl, HTF.out, HBF.out⟩
end Go.Proofs.YtopaoejapnakiaaGreatDoor.Mf
