/- Words: a reader in memory; walks: (*spot).word, needs, gap. -/
import Derived.Test.YtopaoejapnakiaaGreatDoorR1
namespace Go.Proofs.YtopaoejapnakiaaGreatDoor.Mf
open Go.RowKit

abbrev ReaderT : TypeId := 79
def u8s (l : List UInt8) : List Value := l.map fun b => Value.int .u8 (b.toNat : Int)
theorem u8s_append (l m : List UInt8) : u8s (l ++ m) = u8s l ++ u8s m := by simp [u8s]
/-- A reader's block, and its own rows. -/
def RdAt (B : Nat) (w : World) (b : Nat) (x : RS) : Prop :=
  ∃ vc vt, Blk w b ReaderT #[.string ⟨x.s.toArray⟩, .bool x.ok, vc, vt, .int .i64 x.f] ∧ w.ownsRow B ByteT 1 vc x.c.length (u8s x.c) ∧ w.ownsRow B RuneT 1 vt x.t.length (i32s x.t) ∧ B ≤ b
section
variable {B b : Nat} {w w' : World} {x : RS}
theorem RdAt.lt (h : RdAt B w b x) : b < w.heap.size := by obtain ⟨vc, vt, hk, _⟩ := h; exact hk.lt
theorem RdAt.le (h : RdAt B w b x) : B ≤ b := by obtain ⟨vc, vt, _, _, _, h⟩ := h; exact h
theorem RdAt.c0 (h : RdAt B w b x) : w.cell? ⟨b, 0, none⟩ = some (.string ⟨x.s.toArray⟩) := by obtain ⟨vc, vt, hk, _⟩ := h; rw [hk.cell]; rfl
theorem RdAt.c1 (h : RdAt B w b x) : w.cell? ⟨b, 1, none⟩ = some (.bool x.ok) := by obtain ⟨vc, vt, hk, _⟩ := h; rw [hk.cell]; rfl
theorem RdAt.c4 (h : RdAt B w b x) : w.cell? ⟨b, 4, none⟩ = some (.int .i64 x.f) := by obtain ⟨vc, vt, hk, _⟩ := h; rw [hk.cell]; rfl
theorem RdAt.c2 (h : RdAt B w b x) : ∃ v, w.cell? ⟨b, 2, none⟩ = some v ∧ w.ownsRow B ByteT 1 v x.c.length (u8s x.c) := by obtain ⟨vc, vt, hk, h2, _⟩ := h; exact ⟨vc, by rw [hk.cell]; rfl, h2⟩
theorem RdAt.c3 (h : RdAt B w b x) : ∃ v, w.cell? ⟨b, 3, none⟩ = some v ∧ w.ownsRow B RuneT 1 v x.t.length (i32s x.t) := by obtain ⟨vc, vt, hk, _, h2, _⟩ := h; exact ⟨vt, by rw [hk.cell]; rfl, h2⟩
theorem RdAt.fz (h : RdAt B w b x) (i : Nat) : w.frozen? ⟨b, i, none⟩ = false := by obtain ⟨vc, vt, hk, _⟩ := h; exact Blk.frz hk i
theorem RdAt.keep (h : RdAt B w b x) (hb : Below w.heap.size w w') : RdAt B w' b x := by
  obtain ⟨vc, vt, hk, h1, h2, h3⟩ := h
  exact ⟨vc, vt, hk.below hb hk.lt, own_keep h1 hb, own_keep h2 hb, h3⟩
theorem RdAt.set0 (h : RdAt B w b x) (s : List UInt8) : RdAt B (w.setCell ⟨b, 0, none⟩ (.string ⟨s.toArray⟩)) b ⟨s, x.ok, x.c, x.t, x.f⟩ := by
  obtain ⟨vc, vt, hk, h1, h2, h3⟩ := h
  exact ⟨vc, vt, Blk.set hk 0 _, own_set h1 hk (by decide), own_set h2 hk (by decide), h3⟩
theorem RdAt.set1 (h : RdAt B w b x) (ok : Bool) : RdAt B (w.setCell ⟨b, 1, none⟩ (.bool ok)) b ⟨x.s, ok, x.c, x.t, x.f⟩ := by
  obtain ⟨vc, vt, hk, h1, h2, h3⟩ := h
  exact ⟨vc, vt, Blk.set hk 1 _, own_set h1 hk (by decide), own_set h2 hk (by decide), h3⟩
theorem RdAt.set4 (h : RdAt B w b x) (f : Int) : RdAt B (w.setCell ⟨b, 4, none⟩ (.int .i64 f)) b ⟨x.s, x.ok, x.c, x.t, f⟩ := by
  obtain ⟨vc, vt, hk, h1, h2, h3⟩ := h
  exact ⟨vc, vt, Blk.set hk 4 _, own_set h1 hk (by decide), own_set h2 hk (by decide), h3⟩
end
def cutP (p s : List UInt8) : List UInt8 := if p.isPrefixOf s = true then s.drop p.length else s
def preP (p s : List UInt8) : Bool := p.isPrefixOf s
theorem cutPrefix_any (s p : ByteArray) (w : World) : Calls Tryz.prog 70 #[.string s, .string p] w fun e w' =>
    e = .returned (.tuple #[.string ⟨(cutP p.data.toList s.data.toList).toArray⟩, .bool (preP p.data.toList s.data.toList)]) ∧ w = w' :=
  (Any.strings_CutPrefix lays103 s p w).mono fun _ _ hh => ⟨hh.1, hh.2.symm⟩
set_option maxRecDepth 100000 in
theorem word_any (B b : Nat) (x : RS) (p : ByteArray) (w : World) (h : RdAt B w b x) (_hB : B ≤ w.heap.size) :
    Calls Tryz.prog 51 #[.pointer (some ⟨b, 0, none⟩), .string p] w fun e w' => e = .returned (.bool (preP p.data.toList x.s)) ∧ RdAt B w' b (x.word p.data.toList) ∧ Below B w w' := by
  have c0 := h.c0
  have f0 := h.fz 0
  have H := Lib.hid h
  clear h
  go_enter Tryz.func51, Tryz.ntmps51
  go_wp2_with fail
  refine (cutPrefix_any _ p w).mono ?_
  rintro _ _ ⟨rfl, rfl⟩
  go_wp2_with fail
  go_returns
  exact ⟨rfl, H.out.set0 _, below_set (Below.refl _ _) b 0 _ H.out.le⟩
set_option maxRecDepth 100000 in
theorem needs_any (B b : Nat) (x : RS) (p : ByteArray) (w : World) (h : RdAt B w b x) (hB : B ≤ w.heap.size) :
    Calls Tryz.prog 46 #[.pointer (some ⟨b, 0, none⟩), .string p] w fun e w' => e = .returned (.tuple #[]) ∧ RdAt B w' b (x.needs p.data.toList) ∧ Below B w w' := by
  have hw := word_any B b x p w h hB
  have HQ : Hid (x.needs p.data.toList = ⟨(x.word p.data.toList).s, preP p.data.toList x.s && x.ok, x.c, x.t, x.f⟩) := Lib.hid rfl
  have HQ2 : Hid ((x.word p.data.toList).ok = x.ok) := Lib.hid rfl
  have HB := Lib.hid h.le
  generalize preP p.data.toList x.s = G at *
  generalize x.needs p.data.toList = Y at *
  have HW := Lib.hid hw
  clear hw h
  go_enter Tryz.func46, Tryz.ntmps46
  go_wp2_with fail
  refine HW.out.mono ?_
  rintro _ w1 ⟨rfl, h1, hb1⟩
  have c1 := h1.c1
  rw [HQ2.out] at c1
  have f1 := h1.fz 1
  have HE := Lib.hid (h1.set1 (G && x.ok))
  have HBB := Lib.hid (below_set hb1 b 1 (.bool (G && x.ok)) HB.out)
  clear h1 hb1
  cases G with
  | true =>
    go_wp2_with fail
    go_returns
    exact ⟨rfl, HQ.out ▸ HE.out, HBB.out⟩
  | false =>
    go_wp2_with fail
    go_returns
    exact ⟨rfl, HQ.out ▸ HE.out, HBB.out⟩
theorem drop_while (P : UInt8 → Bool) (s : List UInt8) : (s.dropWhile P).length ≤ s.length := by
  have h : s.takeWhile P ++ s.dropWhile P = s := List.takeWhile_append_dropWhile
  have := congrArg List.length h
  rw [List.length_append] at this
  omega
theorem sp_set : (fun c => ([32, 9] : List UInt8).contains c) = sp := by
  funext c
  unfold sp
  rw [Bool.eq_iff_iff]
  simp
theorem info256 : (Tryz.prog.info? (lays161_ren.t 116)).map (fun i => (i.zero, i.size)) = some (some (.agg (Array.replicate 256 (.bool false))), 256) := by kernel_rfl
theorem trimLeft_any (s : ByteArray) (w : World) : Calls Tryz.prog 69 #[.string s, .string ⟨#[32, 9]⟩] w fun e w' => e = .returned (.string ⟨(s.data.toList.dropWhile sp).toArray⟩) ∧ Below w.heap.size w w' := by
  have h := Any.strings_TrimLeft_laid lays161 info256 s ⟨#[32, 9]⟩ w (by decide) (ascii_of_all (by decide))
  have e : Lib.trimLeftS s.data.toList ((⟨#[32, 9]⟩ : ByteArray).data.toList) = s.data.toList.dropWhile sp := by
    rw [← sp_set]
    rfl
  rw [e] at h
  exact h
set_option maxRecDepth 100000 in
theorem gap_any (B b : Nat) (x : RS) (_hx : x.s.length ≤ 1048576) (w : World) (h : RdAt B w b x) (hB : B ≤ w.heap.size) :
    Calls Tryz.prog 49 #[.pointer (some ⟨b, 0, none⟩)] w fun e w' => e = .returned (.tuple #[]) ∧ RdAt B w' b x.gap ∧ Below B w w' := by
  have c0 := h.c0
  have H := Lib.hid h
  have HT := Lib.hid (trimLeft_any ⟨x.s.toArray⟩ w)
  have HQ : Hid (x.gap = ⟨x.s.dropWhile sp, x.ok && decide ((x.s.dropWhile sp).length < x.s.length), x.c, x.t, x.f⟩) := Lib.hid rfl
  have hl := drop_while sp x.s
  generalize x.gap = Y at *
  change Hid (Calls _ _ _ w fun e w' => e = .returned (.string ⟨(x.s.dropWhile sp).toArray⟩) ∧ Below w.heap.size w w') at HT
  generalize x.s.dropWhile sp = T at *
  clear h
  go_enter Tryz.func49, Tryz.ntmps49
  go_wp2_with fail
  refine HT.out.mono ?_
  rintro _ w1 ⟨rfl, hb1⟩
  have h1 := H.out.keep hb1
  have d0 := h1.c0
  have d1 := h1.c1
  have f0 := h1.fz 0
  have f1 := h1.fz 1
  have g0 : (w1.setCell ⟨b, 1, none⟩ (.bool (x.ok && decide (T.length < x.s.length)))).frozen? ⟨b, 0, none⟩ = false := (h1.set1 _).fz 0
  have HE := Lib.hid ((h1.set1 (x.ok && decide (T.length < x.s.length))).set0 T)
  have HBB := Lib.hid (below_set (below_set ((Below.refl B w).trans (hb1.mono hB)) b 1 (.bool (x.ok && decide (T.length < x.s.length))) H.out.le) b 0 (.string ⟨T.toArray⟩) H.out.le)
  clear h1 hb1 c0
  cases hok : x.ok with
  | true =>
    rw [hok, Bool.true_and] at HE HBB g0 HQ
    rw [hok] at d1
    go_wp2_with fail
    go_returns
    exact ⟨rfl, HQ.out ▸ HE.out, HBB.out⟩
  | false =>
    rw [hok, Bool.false_and] at HE HBB g0 HQ
    rw [hok] at d1
    go_wp2_with fail
    go_returns
    exact ⟨rfl, HQ.out ▸ HE.out, HBB.out⟩
end Go.Proofs.YtopaoejapnakiaaGreatDoor.Mf
