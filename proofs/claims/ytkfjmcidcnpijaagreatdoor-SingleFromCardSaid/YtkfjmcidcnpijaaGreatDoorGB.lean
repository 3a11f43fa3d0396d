/- Joined of: G10a, G10, G11, G11w, G12. -/
import Derived.Test.YtkfjmcidcnpijaaGreatDoorGA
import Derived.BigRegion
import Derived.Deep.RegionHeld3
import Derived.Laws.BytesArg
/- Words for memory: the reference's rows read; plain: which row may not be; walk: inkhornref17.Wrong. -/
namespace Go.Proofs.YtkfjmcidcnpijaaGreatDoor.Sg
open Go.RowKit Pl Go.Lib

/-- A slice of rows of the reference, to be read. -/
def RefsAt (w : World) (A : Option Addr) (l : List RRow) : Prop :=
  ∃ ps : List (Value × RRow), ps.map (·.2) = l ∧ (∀ p ∈ ps, TextAt w p.1 p.2.text) ∧ (l ≠ [] → ∃ b o, A = some ⟨b, o, none⟩ ∧ b < w.heap.size ∧ ∀ i u, (refcells ps)[i]? = some u → w.cell? ⟨b, o + i, none⟩ = some u)
theorem RefsAt.keep {w w' : World} {A : Option Addr} {l : List RRow} (h : RefsAt w A l) (hb : Below w.heap.size w w') : RefsAt w' A l := by
  obtain ⟨ps, h1, h2, h3⟩ := h
  refine ⟨ps, h1, fun p hp => (h2 p hp).keep hb, fun hn => ?_⟩
  obtain ⟨b, o, e, hlt, hc⟩ := h3 hn
  exact ⟨b, o, e, Nat.lt_of_lt_of_le hlt hb.size, fun i u hu => (hb.cell (p := ⟨b, o + i, none⟩) hlt).trans (hc i u hu)⟩
theorem Refs.read {B : Nat} {w : World} {v : Value} {l : List RRow} (h : Refs B w v l) : ∃ A c, v = .slice A l.length c ∧ RefsAt w A l := by
  obtain ⟨ps, h1, h2, h3⟩ := h
  rcases h3.2 with ⟨e, h0⟩ | ⟨g, cap, cur, e, hg, hh, _⟩
  · have hl : l = [] := List.eq_nil_of_length_eq_zero h0
    subst hl
    exact ⟨none, 0, e, ps, h1, h2, fun hn => absurd rfl hn⟩
  · refine ⟨_, _, e, ps, h1, h2, fun _ => ⟨g, 0, rfl, (Array.getElem?_eq_some_iff.1 hh).1, fun i u hu => ?_⟩⟩
    have h4 := h3.cells (g := g) (by rw [e]; rfl) i u hu
    rw [Addr.add_lit] at h4
    exact h4
theorem refcells_at : ∀ (ps : List (Value × RRow)) (k : Nat) (hk : k < ps.length), (refcells ps)[k * 3]? = some (.string ps[k].2.code) ∧ (refcells ps)[k * 3 + 1]? = some ps[k].1 ∧ (refcells ps)[k * 3 + 2]? = some (.int .i64 ps[k].2.flag) := by
  intro ps
  induction ps with
  | nil => intro k hk; simp at hk
  | cons a ps ih =>
    intro k hk
    cases k with
    | zero => exact ⟨rfl, rfl, rfl⟩
    | succ k =>
      have h := ih k (by simpa using hk)
      have e : refcells (a :: ps) = .string a.2.code :: a.1 :: .int .i64 a.2.flag :: refcells ps := rfl
      rw [e, show (k + 1) * 3 = k * 3 + 3 from by omega]
      simpa using h
theorem RefsAt.at_ {w : World} {A : Option Addr} {l : List RRow} (h : RefsAt w A l) {i : Nat} (hi : i < l.length) :
    ∃ b o v, A = some ⟨b, o, none⟩ ∧ b < w.heap.size ∧ w.cell? ⟨b, o + i * 3, none⟩ = some (.string l[i].code) ∧ w.cell? ⟨b, o + i * 3 + 1, none⟩ = some v ∧ w.cell? ⟨b, o + i * 3 + 2, none⟩ = some (.int .i64 l[i].flag) ∧ TextAt w v l[i].text := by
  obtain ⟨ps, rfl, h2, h3⟩ := h
  have hi' : i < ps.length := by simpa using hi
  obtain ⟨b, o, e, hlt, hc⟩ := h3 (by intro he; rw [he] at hi; simp at hi)
  obtain ⟨c0, c1, c2⟩ := refcells_at ps i hi'
  refine ⟨b, o, ps[i].1, e, hlt, ?_, ?_, ?_, ?_⟩
  · have := hc _ _ c0; simpa using this
  · have := hc _ _ c1; rw [← Nat.add_assoc] at this; exact this
  · have := hc _ _ c2; rw [← Nat.add_assoc] at this; simpa using this
  · have := h2 ps[i] (List.getElem_mem hi'); simpa using this
/-- Two rows for decoding of one code; of codes that begin with one another. -/
def sameC (r q : RRow) : Bool := (q.flag != 1) && (q.code.toList == r.code.toList)
def preC (r q : RRow) : Bool := (q.flag != 1) && (preB q.code r.code || preB r.code q.code)
def rowErr1 (r : RRow) : Int := if wrong13 r = 0 ∧ 18 < (nfd r.text).length then 11 else wrong13 r
def rowErr (pre : List RRow) (r : RRow) : Int :=
  if rowErr1 r ≠ 0 then rowErr1 r else if r.flag = 1 then 0 else if pre.any (sameC r) = true then 12 else if pre.any (preC r) = true then 10 else 0
def wrongGo : List RRow → List RRow → Int × Int
  | _, [] => (0, 0)
  | pre, r :: t => if rowErr pre r ≠ 0 then ((pre.length : Int) + 1, rowErr pre r) else wrongGo (pre ++ [r]) t
def wrong17 (l : List RRow) : Int × Int := if 4096 < l.length then (0, 14) else wrongGo [] l
/-- Rows that are read at all. -/
def fitR (l : List RRow) : Prop := ∀ r ∈ l, r.code.size ≤ 1048576 ∧ r.text.length ≤ 1048576 ∧ scalR r.text
theorem text_of_own {w : World} {B : Nat} {v : Value} {t : List Int} (h : w.ownsRow B RuneT 1 v t.length (i32s t)) : TextAt w v t := by
  rcases h.2 with ⟨e, h0⟩ | ⟨g, cap, cur, e, _, hh, _, _, _, ht⟩
  · exact .inl ⟨e, List.eq_nil_of_length_eq_zero h0⟩
  · exact .inr ⟨g, cap, cur, e, hh, by rw [← ht, Nat.mul_one]⟩
theorem List.mem_take_of_lt {α : Type} (l : List α) (k i : Nat) (hk : k < l.length) (hi : k < i) : l[k] ∈ l.take i := by
  rw [List.mem_take_iff_getElem]
  exact ⟨k, by omega, rfl⟩
theorem any_snoc {α : Type} (p : α → Bool) (l : List α) (k : Nat) (hk : k < l.length) : (l.take (k + 1)).any p = ((l.take k).any p || p l[k]) := by
  rw [List.take_succ_eq_append_getElem hk, List.any_append]; simp
theorem go_at (l : List RRow) (i : Nat) (hi : i < l.length) : wrongGo (l.take i) (l.drop i) = if rowErr (l.take i) l[i] ≠ 0 then ((i : Int) + 1, rowErr (l.take i) l[i]) else wrongGo (l.take (i + 1)) (l.drop (i + 1)) := by
  rw [List.drop_eq_getElem_cons hi]
  show (if rowErr (l.take i) l[i] ≠ 0 then (((l.take i).length : Int) + 1, rowErr (l.take i) l[i]) else wrongGo (l.take i ++ [l[i]]) (l.drop (i + 1))) = _
  rw [List.take_succ_eq_append_getElem hi, List.length_take, Nat.min_eq_left (Nat.le_of_lt hi)]
end Go.Proofs.YtkfjmcidcnpijaaGreatDoor.Sg
/- Walk: inkhornref17.Wrong. -/
namespace Go.Proofs.YtkfjmcidcnpijaaGreatDoor.Sg
open Go.RowKit Pl Go.Lib






























































































































































































































































































































end Go.Proofs.YtkfjmcidcnpijaaGreatDoor.Sg
/- Walk: inkhornref17's Text. -/
namespace Go.Proofs.YtkfjmcidcnpijaaGreatDoor.Sg
open Go.RowKit Pl Go.Lib

/-- The text of a code for decoding. -/
def textOf (code : ByteArray) : List RRow → Option (List Int)
  | [] => none
  | r :: t => if ((r.flag != 1) && (r.code.toList == code.toList)) = true then some r.text else textOf code t
theorem textOf_at (code : ByteArray) (l : List RRow) (i : Nat) (hi : i < l.length) : textOf code (l.drop i) = if ((l[i].flag != 1) && (l[i].code.toList == code.toList)) = true then some l[i].text else textOf code (l.drop (i + 1)) := by
  rw [List.drop_eq_getElem_cons hi]
  rfl
/-- What Text answers. -/
def TextPost (w : World) (x : Option (List Int)) (e : Ending) (w' : World) : Prop :=
  ∃ v, e = .returned (.tuple #[v, .bool x.isSome]) ∧ TextAt w' v (x.getD []) ∧ Below w.heap.size w w'
set_option maxRecDepth 100000 in
set_option maxHeartbeats 1600000 in
theorem text_any (A : Option Addr) (c : Nat) (l : List RRow) (code : ByteArray) (w : World) (hR : RefsAt w A l) (hn : l.length ≤ 1048576) :
    Calls Tryz.prog 49 #[.slice A l.length c, .string code] w (TextPost w (textOf code l)) := by
  obtain ⟨Z, hZ⟩ : ∃ Z, textOf code l = Z := ⟨_, rfl⟩
  rw [hZ]
  have HR := Lib.hid hR
  have HZ : Hid (textOf code (l.drop 0) = Z) := Lib.hid hZ
  clear hR hZ
  go_enter Tryz.func49, Tryz.ntmps49
  go_wp2
  go_loopw [6] (fun vi wr => ∃ i : Nat, i ≤ l.length ∧ vi = .int .i64 i ∧ textOf code (l.drop i) = Z ∧ Drew w wr) (fun vi _ => l.length - (intOf vi).toNat)
  case atStart => exact ⟨0, Nat.zero_le _, rfl, HZ.out, 0, rfl⟩
  case round =>
    obtain ⟨i, hi, rfl, hz, m, rfl⟩ := hrel
    by_cases hlt : i < l.length
    · rw [textOf_at code l i hlt] at hz
      obtain ⟨bk, o, v, rfl, hbk, c0, c1, c2, htx⟩ := HR.out.at_ hlt
      obtain ⟨r, hr⟩ : ∃ r, l[i] = r := ⟨_, rfl⟩
      rw [hr] at hz c0 c2 htx
      obtain ⟨rc, rt, rf⟩ := r
      have hz : (if ((rf != 1) && (rc.toList == code.toList)) = true then some rt else textOf code (l.drop (i + 1))) = Z := hz
      have HTX := Lib.hid htx
      obtain ⟨At, ct, rfl, _⟩ := htx.rd
      have j0 : (0 : Int) ≤ (i : Int) := by omega
      have j1 : (i : Int) < (l.length : Int) := by omega
      clear hr htx
      cases hf : (rf != 1)
      · rw [hf, Bool.false_and, if_neg (by decide)] at hz
        have HZI := Lib.hid hz
        clear hz
        go_wp2_with fail
        go_roundw
        case rel => exact ⟨i + 1, by omega, by go_num, HZI.out, _, by first | rfl | exact World.drewN_drewN _ _ _⟩
        case measure => simp [intOf]; omega
      · cases he : (rc.toList == code.toList)
        · rw [hf, he, Bool.true_and, if_neg (by decide)] at hz
          have HZI := Lib.hid hz
          clear hz
          go_wp2_with fail
          go_roundw
          case rel => exact ⟨i + 1, by omega, by go_num, HZI.out, _, by first | rfl | exact World.drewN_drewN _ _ _⟩
          case measure => simp [intOf]; omega
        · rw [hf, he, Bool.true_and, if_pos rfl] at hz
          subst hz
          go_wp2_with fail
          go_returns
          exact ⟨_, rfl, HTX.out.keep (bdN (Below.refl _ _) _), bdN (Below.refl _ _) _⟩
    · obtain rfl : i = l.length := by omega
      rw [List.drop_eq_nil_of_le (Nat.le_refl _)] at hz
      have hz : none = Z := hz
      subst hz
      go_wp2_with fail
      go_returns
      exact ⟨_, rfl, .inl ⟨rfl, rfl⟩, bdN (Below.refl _ _) _⟩
end Go.Proofs.YtkfjmcidcnpijaaGreatDoor.Sg
/- Walk: inkhornref18's Wrong. -/
namespace Go.Proofs.YtkfjmcidcnpijaaGreatDoor.Sg
open Go.RowKit Pl Go.Lib

/-- Which row may not be, for single bytes. -/
def oneGo : Nat → List RRow → Int × Int
  | _, [] => (0, 0)
  | i, r :: t => if r.code.size ≠ 1 then ((i : Int) + 1, 16) else oneGo (i + 1) t
def wrong18 (l : List RRow) : Int × Int := if (wrong17 l).2 ≠ 0 then wrong17 l else oneGo 0 l
theorem oneGo_at (l : List RRow) (i : Nat) (hi : i < l.length) : oneGo i (l.drop i) = if l[i].code.size ≠ 1 then ((i : Int) + 1, 16) else oneGo (i + 1) (l.drop (i + 1)) := by
  rw [List.drop_eq_getElem_cons hi]
  rfl







































































end Go.Proofs.YtkfjmcidcnpijaaGreatDoor.Sg
/- Walks: inkhornref18's Byte, Decode. -/
namespace Go.Proofs.YtkfjmcidcnpijaaGreatDoor.Sg
open Go.RowKit Pl Go.Lib

abbrev IntT : TypeId := 3
theorem infoInt : (Tryz.prog.info? IntT).map (fun i => (i.zero, i.size, i.bytes)) = some (some (.int .i64 0), 1, 8) := by kernel_rfl
/-- Numbers as cells. -/
def i64s (l : List Nat) : List Value := l.map fun (n : Nat) => Value.int .i64 (n : Int)
theorem i64s_append (a b : List Nat) : i64s (a ++ b) = i64s a ++ i64s b := by simp [i64s]
theorem ba_size (l : List UInt8) : (⟨l.toArray⟩ : ByteArray).size = l.length := by show l.toArray.size = _; simp
theorem byte_at (s : ByteArray) (i : Nat) (h : i < s.size) : s.data.toList[i]'(by simpa using h) = s[i] := by simp; rfl
theorem textback {w : World} {v : Value} {t : List Int} (h : TextAt w v t) : (convert 72 9 v).run Tryz.prog w = .ok (.string (runesBytes t)) w := by
  rcases h with ⟨rfl, rfl⟩ | ⟨g, c, cur, rfl, hg, ht⟩
  · exact run_convert_runes_nil w 72 9 21 0 0 Tryz.underlying72 Tryz.underlying21 Tryz.underlying9
  · have h := run_convert_runes (P := Tryz.prog) w 72 9 21 ⟨g, 0, none⟩ t.length c t (Nat.le_refl _) Tryz.underlying72 Tryz.underlying21 Tryz.underlying9 (by
      intro j hj
      rw [Addr.add_lit, Nat.zero_add, cell_of_row w g j cur RuneT (0, 0) hg]
      have h2 : (cur.toList.take t.length)[j]? = some (.int .i32 (t.getD j 0)) := by
        rw [ht]
        simp [i32s, List.getElem?_eq_getElem hj]
      rw [List.getElem?_take, if_pos hj] at h2
      simpa using h2)
    rw [List.take_length] at h
    exact h
/-- A byte's text. -/
def byteS (l : List RRow) (b : UInt8) : ByteArray := runesBytes ((textOf ⟨#[b]⟩ l).getD [])
theorem byte18_any (A : Option Addr) (c : Nat) (l : List RRow) (b : UInt8) (w : World) (hR : RefsAt w A l) (hn : l.length ≤ 1048576) :
    Calls Tryz.prog 35 #[.slice A l.length c, .int .u8 (b.toNat : Int)] w fun e w' => e = .returned (.string (byteS l b)) ∧ Below w.heap.size w w' := by
  obtain ⟨W, hW⟩ : ∃ W, w.alloc (.cells #[.int .u8 (b.toNat : Int)] 5) = W := ⟨_, rfl⟩
  have hb : Below w.heap.size w W := hW ▸ (Below.refl _ _).alloc (Nat.le_refl _) _
  have hk : Blk W w.heap.size 5 #[.int .u8 (b.toNat : Int)] := hW ▸ Blk.new _ _ _
  have hcv := run_convert_bytes_arg (P := Tryz.prog) W 35 5 Tryz.underlying35 Tryz.underlying5 w.heap.size 0 1 1 [(b.toNat : Int)] rfl (by
    intro i hi
    obtain rfl : i = 0 := by omega
    rw [hk.cell]; rfl) 9 Tryz.underlying9
  rw [show strOfNums [(b.toNat : Int)] = ⟨#[b]⟩ from by
    apply ByteArray.ext
    apply Array.toList_inj.1
    rw [strOfNums_data]
    simp] at hcv
  unfold byteS
  have HT := Lib.hid (text_any A c l ⟨#[b]⟩ W (hR.keep hb) hn)
  have HB := Lib.hid hb
  generalize textOf ⟨#[b]⟩ l = X at *
  clear hb hk hR
  go_enter Tryz.func35, Tryz.ntmps35
  go_wp2_with fail
  refine HT.out.mono ?_
  rintro _ w1 ⟨v, rfl, htx, hb1⟩
  have hcb := textback htx
  have HB1 := Lib.hid (HB.out.trans (hb1.mono HB.out.size))
  clear htx hb1 HT hcv
  go_wp2_with fail
  go_returns
  exact ⟨rfl, HB1.out⟩
/-- What bytes are, by each policy: the text's bytes, the places of faults, the error. -/
def decGo (B : UInt8 → List UInt8) (pol : Int) : Nat → List UInt8 → List UInt8 × List Nat × Int
  | _, [] => ([], [], 0)
  | i, b :: t => if B b ≠ [] then (B b ++ (decGo B pol (i + 1) t).1, (decGo B pol (i + 1) t).2.1, (decGo B pol (i + 1) t).2.2)
    else if pol = 1 then ([], [i], 17)
    else ((if pol = 2 then [239, 191, 189] else []) ++ (decGo B pol (i + 1) t).1, i :: (decGo B pol (i + 1) t).2.1, (decGo B pol (i + 1) t).2.2)
section
variable {ops : Array Oper} {rest : List Oper} {oo : Oper} {a : Act} {Q : Exit → Act → World → Prop}
/-- 'faults = append(faults, i)'. -/
theorem wpList_int (w : World) (hgd : oo.guard = none) (s x : Operand) (ho : oo.op = .call { callee := .builtin .append, args := #[s, x], argTypes := #[169, 169] })
    (B : Nat) (v : Value) (l : List Nat) (hs : a.eval s = v) (hst : w.ownsRow B IntT 1 v l.length (i64s l)) (hB : B ≤ w.heap.size) (n : Nat)
    (c : Nat) (hx : a.eval x = .slice (some ⟨w.heap.size, 0, none⟩) 1 c) (hsm : l.length ≤ 1048576)
    (h : ∀ v' w', w'.ownsRow B IntT 1 v' (l ++ [n]).length (i64s (l ++ [n])) → Below B w w' → wpList Tryz.prog ops Q rest (a.put oo.dst v') w') : wpList Tryz.prog ops Q (oo :: rest) a (w.alloc (.cells #[.int .i64 (n : Int)] IntT)) := by
  obtain ⟨i0, hi, hz0, hz1, hz2⟩ := info_parts infoInt
  have hown' := hst.alloc (.cells #[.int .i64 (n : Int)] IntT)
  refine wpList_append_own _ hgd s x 169 ho B IntT i0 (.int .i64 0) 1 8 Tryz.underlying169 hi hz0 hz1 hz2 rfl (by decide) v l.length (i64s l) hs hown' ⟨w.heap.size, 0, none⟩ 1 c [.int .i64 (n : Int)] hx rfl ?_ ?_ ?_ ?_ ?_ ?_
  · intro j u hj
    match j, hj with
    | 0, hj => simp at hj; subst hj; simp [Addr.add]
  · intro u hu; simp at hu; subst hu; rfl
  · unfold maxLen; omega
  · omega
  · simp; omega
  · intro v' w1 hown1 hgrow _
    refine h v' w1 (by rw [i64s_append, List.length_append]; exact hown1) ?_
    exact ((Below.refl B w).alloc hB _).grown hgrow (by simp; omega) (fun k hk => (hst.lt k hk).1)
end
/-- What Decode answers. -/
def DecPost18 (w : World) (x : List UInt8 × List Nat × Int) (e : Ending) (w' : World) : Prop :=
  ∃ v, e = .returned (.tuple #[.string ⟨x.1.toArray⟩, v, .int .i64 x.2.2]) ∧ w'.ownsRow w.heap.size IntT 1 v x.2.1.length (i64s x.2.1) ∧ Below w.heap.size w w'
theorem decGo_at (B : UInt8 → List UInt8) (pol : Int) (s : List UInt8) (i : Nat) (hi : i < s.length) : decGo B pol i (s.drop i) = if B s[i] ≠ [] then (B s[i] ++ (decGo B pol (i + 1) (s.drop (i + 1))).1, (decGo B pol (i + 1) (s.drop (i + 1))).2.1, (decGo B pol (i + 1) (s.drop (i + 1))).2.2)
    else if pol = 1 then ([], [i], 17)
    else ((if pol = 2 then [239, 191, 189] else []) ++ (decGo B pol (i + 1) (s.drop (i + 1))).1, i :: (decGo B pol (i + 1) (s.drop (i + 1))).2.1, (decGo B pol (i + 1) (s.drop (i + 1))).2.2) := by
  rw [List.drop_eq_getElem_cons hi]
  rfl
theorem ba_app (u : List UInt8) (t : ByteArray) : (⟨u.toArray⟩ : ByteArray) ++ t = ⟨(u ++ t.data.toList).toArray⟩ := by
  apply ByteArray.ext
  simp [ByteArray.data_append]
theorem bad_text : runesBytes [65533] = ⟨#[239, 191, 189]⟩ := by decide +kernel






































































































end Go.Proofs.YtkfjmcidcnpijaaGreatDoor.Sg
