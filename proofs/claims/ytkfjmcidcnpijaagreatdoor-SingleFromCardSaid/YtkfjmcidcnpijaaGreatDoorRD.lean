/- Joined of: R10, R11. -/
import Derived.Test.YtkfjmcidcnpijaaGreatDoorLA
import Derived.Test.YtkfjmcidcnpijaaGreatDoorPA
/- Walk: mapfile.read, by each way. -/
namespace Go.Proofs.YtkfjmcidcnpijaaGreatDoor.Mf
open Go.RowKit Pl

/-- Rows of the program, as cells. -/
def rowcells (l : List LRow) : List Value := l.flatMap fun x => [.string ⟨x.code.toArray⟩, .string ⟨(textB x.text).toArray⟩, .int .i64 x.flag]
theorem rowcells_length (l : List LRow) : (rowcells l).length = l.length * 3 := by
  unfold rowcells
  induction l with
  | nil => rfl
  | cons a l ih => simp [ih]; omega
theorem rowcells_append (a b : List LRow) : rowcells (a ++ b) = rowcells a ++ rowcells b := by simp [rowcells]
theorem infoRow : (Tryz.prog.info? RowT).map (fun i => (i.zero, i.size, i.bytes)) = some (some (.agg #[.string ⟨#[]⟩, .string ⟨#[]⟩, .int .i64 0]), 3, 40) := by kernel_rfl
/-- An own slice of rows. -/
def Rows (B : Nat) (w : World) (v : Value) (l : List LRow) : Prop := w.ownsRow B RowT 3 v l.length (rowcells l)
section
variable {ops : Array Oper} {rest : List Oper} {oo : Oper} {a : Act} {Q : Exit → Act → World → Prop}
/-- 'out = append(out, x)'. -/
theorem wpList_row (w : World) (hgd : oo.guard = none) (s x : Operand) (ho : oo.op = .call { callee := .builtin .append, args := #[s, x], argTypes := #[39, 39] })
    (B : Nat) (v : Value) (l : List LRow) (hs : a.eval s = v) (hst : Rows B w v l) (hB : B ≤ w.heap.size) (r : LRow)
    (N c : Nat) (hN : w.heap.size = N) (hx : a.eval x = .slice (some ⟨N, 0, none⟩) 1 c) (hsm : l.length ≤ 1048576)
    (h : ∀ v' w', Rows B w' v' (l ++ [r]) → Below B w w' → wpList Tryz.prog ops Q rest (a.put oo.dst v') w') : wpList Tryz.prog ops Q (oo :: rest) a (w.alloc (.cells #[.string ⟨r.code.toArray⟩, .string ⟨(textB r.text).toArray⟩, .int .i64 r.flag] RowT)) := by
  subst hN
  obtain ⟨i0, hi, hz0, hz1, hz2⟩ := info_parts infoRow
  have hown' := World.ownsRow.alloc (w := w) hst (.cells #[.string ⟨r.code.toArray⟩, .string ⟨(textB r.text).toArray⟩, .int .i64 r.flag] RowT)
  refine wpList_append_own _ hgd s x 39 ho B RowT i0 (.agg #[.string ⟨#[]⟩, .string ⟨#[]⟩, .int .i64 0]) 3 40 Tryz.underlying39 hi hz0 hz1 hz2 rfl (by decide) v l.length (rowcells l) hs hown' ⟨w.heap.size, 0, none⟩ 1 c [.string ⟨r.code.toArray⟩, .string ⟨(textB r.text).toArray⟩, .int .i64 r.flag] hx rfl ?_ ?_ ?_ ?_ ?_ ?_
  · intro j u hj
    match j, hj with
    | 0, hj => simp at hj; subst hj; simp [Addr.add]
    | 1, hj => simp at hj; subst hj; simp [Addr.add]
    | 2, hj => simp at hj; subst hj; simp [Addr.add]
  · intro u hu; simp at hu; rcases hu with rfl | rfl | rfl <;> rfl
  · unfold maxLen; omega
  · omega
  · simp; omega
  · intro v' w1 hown1 hgrow _
    refine h v' w1 ?_ (((Below.refl B w).alloc hB _).grown hgrow (by simp; omega) (fun k hk => (World.ownsRow.lt hst k hk).1))
    unfold Rows
    rw [rowcells_append, List.length_append]
    exact hown1
end
theorem bytesS_len : ∀ (n : Nat) (x : RS), (bytesS n x).c.length ≤ x.c.length + n ∧ (bytesS n x).t = x.t := by
  intro n
  induction n with
  | zero => intro x; exact ⟨Nat.le_refl _, rfl⟩
  | succ n ih =>
    intro x
    by_cases h : x.more = true
    · rw [bytesS_step n x h]
      obtain ⟨h1, h2⟩ := ih x.byte
      obtain ⟨_, b2, b3⟩ := byte_le x
      exact ⟨by omega, by rw [h2, b3]⟩
    · rw [bytesS_stop _ x (by simpa using h)]
      exact ⟨by omega, rfl⟩
theorem runesS_len : ∀ (n : Nat) (x : RS), (runesS n x).t.length ≤ x.t.length + n ∧ (runesS n x).c = x.c := by
  intro n
  induction n with
  | zero => intro x; exact ⟨Nat.le_refl _, rfl⟩
  | succ n ih =>
    intro x
    by_cases h : x.ok = true ∧ [43].isPrefixOf x.s = true
    · rw [runesS_step n x h]
      obtain ⟨h1, h2⟩ := ih (x.word [43]).rune
      obtain ⟨_, b2, b3⟩ := rune_less (x.word [43])
      obtain ⟨_, _, _, c4, c5⟩ := word_less x [43]
      exact ⟨by rw [b2, c5] at h1; omega, by rw [h2, b3, c4]⟩
    · rw [runesS_off2 _ x h]
      exact ⟨by omega, rfl⟩
theorem charsS_len : ∀ (n : Nat) (x : RS), (charsS n x).t.length ≤ x.t.length + n ∧ (charsS n x).c = x.c := by
  intro n
  induction n with
  | zero => intro x; exact ⟨Nat.le_refl _, rfl⟩
  | succ n ih =>
    intro x
    by_cases h : x.ok = true ∧ [60].isPrefixOf x.s = true
    · rw [charsS_step n x h]
      obtain ⟨h1, h2⟩ := ih (charS x)
      obtain ⟨_, b2, b3, _⟩ := char_less x
      exact ⟨by omega, by rw [h2, b3]⟩
    · rw [charsS_stop _ x h]
      exact ⟨by omega, rfl⟩
theorem codesS_len : ∀ (n : Nat) (x : RS), (codesS n x).c.length ≤ x.c.length + n ∧ (codesS n x).t = x.t := by
  intro n
  induction n with
  | zero => intro x; exact ⟨Nat.le_refl _, rfl⟩
  | succ n ih =>
    intro x
    by_cases h : x.ok = true ∧ [92].isPrefixOf x.s = true
    · rw [codesS_step n x h]
      obtain ⟨h1, h2⟩ := ih (codeS x)
      obtain ⟨_, b2, b3, _⟩ := code_less x
      exact ⟨by omega, by rw [h2, b3]⟩
    · rw [codesS_stop _ x h]
      exact ⟨by omega, rfl⟩
theorem ucmS_len (x : RS) (hc : x.c = []) (ht : x.t = []) : (ucmS x).c.length ≤ x.s.length + 2 ∧ (ucmS x).t.length ≤ x.s.length + 2 := by
  unfold ucmS
  generalize x.s.length = n
  obtain ⟨_, t1, c1, _⟩ := char_less x
  obtain ⟨t2, c2⟩ := charsS_len (n + 1) (charS x)
  generalize charsS (n + 1) (charS x) = A at *
  obtain ⟨_, g2, g3⟩ := gap_less A
  obtain ⟨_, c4, t4, _⟩ := code_less A.gap
  obtain ⟨c5, t5⟩ := codesS_len (n + 1) (codeS A.gap)
  generalize codesS (n + 1) (codeS A.gap) = D at *
  have e1 : ((D.gap.needs [124]).flag).c = D.c := rfl
  have e2 : ((D.gap.needs [124]).flag).t = D.t := rfl
  rw [e1, e2]
  rw [ht] at t1
  rw [c1, hc] at c2
  rw [g2, c2] at c4
  simp at t1 c4
  exact ⟨by omega, by rw [t5, t4, g3]; omega⟩
/-- A way to read a line. -/
def WayC (gf : Nat) (F : List UInt8 → One) : Prop := (∀ args w, (callFunc gf args).run Tryz.prog w = .ok (.enter gf args) w) ∧ F [] = .none ∧
  ∀ (B b : Nat) (s : List UInt8) (w : World), s ≠ [] → s.length ≤ 512 → RdAt B w b ⟨s, true, [], [], 0⟩ → B ≤ w.heap.size → ErrV w → ErrLt B →
    Calls Tryz.prog gf #[.pointer (some ⟨b, 0, none⟩)] w fun e w' => ∃ (y : RS) (sm : Bool), e = .returned (.bool sm) ∧ RdAt B w' b y ∧ Below B w w' ∧ y.c.length ≤ 200000 ∧ y.t.length ≤ 200000 ∧ oneOf y sm = F s
theorem way_unicode : WayC 39 oneU := by
  refine ⟨enters_of Tryz.func39 (by kernel_rfl) rfl, rfl, fun B b s w hs hl h hB hE hg => ?_⟩
  refine (unicode_any B b ⟨s, true, [], [], 0⟩ (by show s.length ≤ _; omega) rfl rfl w h hB).mono ?_
  rintro _ w' ⟨rfl, h1, hb1⟩
  refine ⟨_, _, rfl, h1, hb1, ?_, ?_, unicode_one s hs⟩
  · unfold unicodeS
    obtain ⟨a1, a2⟩ := bytesS_len ((⟨s, true, [], [], 0⟩ : RS).s.length + 1) (RS.needs ⟨s, true, [], [], 0⟩ [48, 120]).byte
    obtain ⟨_, c2, _⟩ := byte_le (RS.needs ⟨s, true, [], [], 0⟩ [48, 120])
    have c3 : (RS.needs ⟨s, true, [], [], 0⟩ [48, 120]).c.length = 0 := rfl
    have hl : (⟨s, true, [], [], 0⟩ : RS).s.length ≤ 512 := hl
    split
    · show (bytesS _ _).c.length ≤ _
      omega
    · show (runesS _ _).c.length ≤ _
      rw [(runesS_len _ _).2, (rune_less _).2.2, (needs_less _ _).2.1, (gap_less _).2.1]
      omega
  · unfold unicodeS
    obtain ⟨a1, a2⟩ := bytesS_len ((⟨s, true, [], [], 0⟩ : RS).s.length + 1) (RS.needs ⟨s, true, [], [], 0⟩ [48, 120]).byte
    obtain ⟨_, _, c3⟩ := byte_le (RS.needs ⟨s, true, [], [], 0⟩ [48, 120])
    have hl : (⟨s, true, [], [], 0⟩ : RS).s.length ≤ 512 := hl
    have ht : (bytesS ((⟨s, true, [], [], 0⟩ : RS).s.length + 1) (RS.needs ⟨s, true, [], [], 0⟩ [48, 120]).byte).t = [] := by rw [a2, c3]; rfl
    split
    · show (bytesS _ _).t.length ≤ _
      rw [ht]; simp
    · show (runesS _ _).t.length ≤ _
      refine Nat.le_trans (runesS_len _ _).1 ?_
      rw [(rune_less _).2.1, (needs_less _ _).2.2, (gap_less _).2.2, ht]
      simp; omega








theorem row_one {y : RS} {sm : Bool} {rc rt : ByteArray} {rf err : Int} (hn : ¬ (sm = false ∧ y.ok = true)) (h1 : y.ok = false ∨ y.s ≠ [] → err = 10)
    (h2 : y.ok = true → y.s = [] → err = wrongL ⟨y.c, y.t, y.f⟩ ∧ (err = 0 → rc = ⟨y.c.toArray⟩ ∧ rt = ⟨(textB y.t).toArray⟩ ∧ rf = y.f)) :
    (err ≠ 0 → oneOf y sm = .err err) ∧ (err = 0 → oneOf y sm = .row ⟨y.c, y.t, y.f⟩ ∧ rc = ⟨y.c.toArray⟩ ∧ rt = ⟨(textB y.t).toArray⟩ ∧ rf = y.f) := by
  unfold oneOf
  rw [if_neg hn]
  by_cases hb : y.ok = false ∨ y.s ≠ []
  · rw [if_pos hb, h1 hb]
    exact ⟨fun _ => rfl, fun h => by cases h⟩
  · have ho : y.ok = true := by cases h : y.ok with | true => rfl | false => exact absurd (.inl h) hb
    have hs : y.s = [] := Classical.byContradiction fun h => hb (.inr h)
    obtain ⟨e1, e2⟩ := h2 ho hs
    rw [if_neg hb, ← e1]
    refine ⟨fun h => by rw [if_neg h], fun h => ⟨by rw [if_pos h], e2 h⟩⟩
theorem readGo_at (F : List UInt8 → One) (k : Nat) (out : List LRow) (L : List (List UInt8)) (hk : k < L.length) : readGo F k out (L.drop k) = match F (clean L[k]) with
    | .none => readGo F (k + 1) out (L.drop (k + 1))
    | .err e => ([], (k : Int) + 1, e)
    | .row x => readGo F (k + 1) (out ++ [x]) (L.drop (k + 1)) := by
  rw [List.drop_eq_getElem_cons hk]
  rfl
/-- What read answers. -/
def ReadP (F : List UInt8 → One) (w : World) (s : List UInt8) (e : Ending) (w' : World) : Prop := ∃ v, e = .returned (.tuple #[v, .int .i64 (readL F s).2.1, .int .i64 (readL F s).2.2]) ∧ Rows w.heap.size w' v (readL F s).1 ∧ Below w.heap.size w w'
set_option maxRecDepth 100000 in
set_option maxHeartbeats 3200000 in
theorem read_any (gf : Nat) (F : List UInt8 → One) (hway : WayC gf F) (s : ByteArray) (hs : s.size ≤ 1000000) (w : World) (hE : ErrV w) (hT : TabsM w) :
    Calls Tryz.prog 38 #[.string s, .func (.func gf) #[] #[]] w (ReadP F w s.data.toList) := by
  obtain ⟨eg, hF0, hway⟩ := hway
  have HWAY := Lib.hid hway
  have HLN := Lib.hid (linesP_any s hs w)
  have HE := Lib.hid hE
  have HT := Lib.hid hT
  have hEg : ErrLt w.heap.size := hE.lt
  clear hway hE hT
  go_enter Tryz.func38, Tryz.ntmps38
  go_wp2_with fail
  refine HLN.out.mono ?_
  rintro e1 W1 ⟨hL1, hL2, hbW⟩
  have HBW := Lib.hid hbW
  cases hft : fits s.data.toList with
  | false =>
    have he := hL2 hft
    subst he
    have HR : Hid (readL F s.data.toList = ([], 0, 11)) := Lib.hid (by unfold readL; rw [hft]; rfl)
    clear hL1 hL2 hbW hft
    go_wp2_with fail
    go_returns
    unfold ReadP
    rw [HR.out]
    exact ⟨_, rfl, World.ownsRow_nil _ _ _ _, HBW.out⟩
  | true =>
    obtain ⟨v, rfl, ho⟩ := hL1 hft
    obtain ⟨A, c, rfl⟩ := own_shapeN ho
    obtain ⟨L, hL⟩ : ∃ L, linesOf s.data.toList = L := ⟨_, rfl⟩
    have HR : Hid (readGo F 0 [] L = readL F s.data.toList) := Lib.hid (by unfold readL; rw [hft, hL]; rfl)
    have h512 : ∀ l ∈ L, l.length ≤ 512 := fun l hl => by
      unfold fits at hft
      rw [hL, Bool.and_eq_true] at hft
      exact of_decide_eq_true (List.all_eq_true.1 hft.1 l hl)
    have hlen : L.length ≤ 4096 := by
      unfold fits at hft
      rw [hL, Bool.and_eq_true] at hft
      exact of_decide_eq_true hft.2
    rw [hL] at ho
    have hcell : ∀ k (hk : k < L.length), ∃ g, A = some ⟨g, 0, none⟩ ∧ g < W1.heap.size ∧ W1.cell? ⟨g, k, none⟩ = some (.string ⟨(clean L[k]).toArray⟩) := fun k hk => by
      rcases ho.2 with ⟨e, h0⟩ | ⟨g, cap, cur, e, _, hh, _, _, _, h4⟩
      · omega
      · injection e with e _ _
        refine ⟨g, e, (Array.getElem?_eq_some_iff.1 hh).1, ?_⟩
        rw [cell_of_row W1 g k cur StrT (0, 0) hh]
        rw [Nat.mul_one] at h4
        have h2 : (cur.toList.take L.length)[k]? = some (.string ⟨(clean L[k]).toArray⟩) := by
          rw [h4]
          simp [strsL, hk]
        rw [List.getElem?_take, if_pos hk] at h2
        simpa using h2
    have HC := Lib.hid hcell
    have H512 := Lib.hid h512
    have HE1 := Lib.hid (HE.out.keep hbW hEg)
    have HT1 := Lib.hid (HT.out.keep hbW)
    have hEg1 : ErrLt W1.heap.size := hEg.mono hbW.size
    obtain ⟨R, hRR⟩ : ∃ R, readL F s.data.toList = R := ⟨_, rfl⟩
    rw [hRR] at HR
    have HRR := Lib.hid hRR
    rw [hL]
    clear hL1 hL2 hbW hft ho hcell h512 hL hRR
    go_wp2_with fail
    go_loopw [9, 26] (fun vo vi wr => ∃ (k : Nat) (out : List LRow), k ≤ L.length ∧ vi = .int .i64 k ∧ out.length ≤ k ∧ Rows W1.heap.size wr vo out ∧ Below W1.heap.size W1 wr ∧ readGo F k out (L.drop k) = R) (fun _ vi _ => L.length - (RowKit.intOf vi).toNat)
    case atStart => exact ⟨0, [], Nat.zero_le _, rfl, Nat.le_refl _, World.ownsRow_nil _ _ _ _, Below.refl _ _, HR.out⟩
    case round =>
      obtain ⟨k, out, hk, rfl, hok, hrow, hbr, hgo⟩ := hrel
      have HROW := Lib.hid hrow
      have HBR := Lib.hid hbr
      have HGO := Lib.hid hgo
      have hsz : W1.heap.size ≤ wr.heap.size := hbr.size
      obtain ⟨Ao, co, rfl⟩ := own_shapeN hrow
      clear hrow hbr hgo
      have HPOST : Hid (∀ w', Below W1.heap.size W1 w' → Below w.heap.size w w') := Lib.hid fun w' h => HBW.out.trans (h.mono HBW.out.size)
      have HBWS : Hid (w.heap.size ≤ W1.heap.size) := Lib.hid HBW.out.size
      by_cases hlt : k < L.length
      · have a1 : decide ((k : Int) < (L.length : Int)) = true := decide_eq_true (by omega)
        have j0 : (0 : Int) ≤ (k : Int) := by omega
        have j1 : (k : Int) < (L.length : Int) := by omega
        have hkw : IntKind.i64.wrap ((k : Int) + 1) = (k : Int) + 1 := IntWalk.i64_in _ (by omega)
        obtain ⟨g, rfl, hg, hcl⟩ := HC.out k hlt
        have c0 : wr.cell? ⟨g, k, none⟩ = some (.string ⟨(clean L[k]).toArray⟩) := (HBR.out.cell (p := ⟨g, k, none⟩) hg).trans hcl
        have hgo := HGO.out
        rw [readGo_at F k out L hlt] at hgo
        have hcl5 : (clean L[k]).length ≤ 512 := by
          have h1 := H512.out _ (List.getElem_mem hlt)
          have h2 : (clean L[k]).length ≤ L[k].length := by
            unfold clean rtrim
            rw [List.length_reverse]
            refine Nat.le_trans (drop_while _ _) ?_
            rw [List.length_reverse]
            exact (List.takeWhile_prefix _).length_le
          omega
        clear hcl
        generalize clean L[k] = t at *
        obtain ⟨sb, hsb⟩ : ∃ sb : ByteArray, (⟨t.toArray⟩ : ByteArray) = sb := ⟨_, rfl⟩
        have hsl : sb.data.toList = t := by rw [← hsb]
        have HSB := Lib.hid hsb
        rw [hsb] at c0
        have HG2 := Lib.hid hgo
        clear hgo hsb
        by_cases ht : t = []
        · have hte : sb.toList.isEmpty = true := by rw [ByteArray.toList_eq, hsl, ht]; rfl
          have HG3 : Hid (readGo F (k + 1) out (L.drop (k + 1)) = R) := Lib.hid (by have := HG2.out; rw [ht, hF0] at this; exact this)
          clear ht hsl HG2
          go_wp2_with fail
          go_roundw
          case rel => exact ⟨k + 1, out, by omega, by go_num, by omega, HROW.out, HBR.out, HG3.out⟩
          case measure => simp [RowKit.intOf]; omega
        have hte : sb.toList.isEmpty = false := by rw [ByteArray.toList_eq, hsl]; exact List.isEmpty_eq_false_iff.2 ht
        obtain ⟨Wb, hWb⟩ : ∃ Wb, wr.alloc (.cells #[.string sb, .bool true, .slice none 0 0, .slice none 0 0, .int .i64 0] ReaderT) = Wb := ⟨_, rfl⟩
        have hrd : RdAt wr.heap.size Wb wr.heap.size ⟨t, true, [], [], 0⟩ := ⟨.slice none 0 0, .slice none 0 0, hWb ▸ (by rw [← HSB.out]; exact Blk.new wr ReaderT _), World.ownsRow_nil _ _ _ _, World.ownsRow_nil _ _ _ _, Nat.le_refl _⟩
        have hbb : Below W1.heap.size W1 Wb := hWb ▸ HBR.out.alloc HBR.out.size _
        have hbr2 : Below wr.heap.size wr Wb := hWb ▸ (Below.refl _ _).alloc (Nat.le_refl _) _
        have HW := Lib.hid (HWAY.out wr.heap.size wr.heap.size t Wb ht hcl5 hrd hbr2.size (HE1.out.keep hbb hEg1) (ErrLt.mono hEg1 hsz))
        have HBB := Lib.hid hbb
        have HBR2 := Lib.hid hbr2
        have HWB := Lib.hid hWb
        clear ht hsl hcl5 hWb hrd hbb hbr2
        go_wp2_with fail
        rw [HWB.out]
        refine HW.out.mono ?_
        rintro _ w2 ⟨y, sm, rfl, hy, hb2, hyc, hyt, hone⟩
        have hbw2 : Below wr.heap.size wr w2 := HBR2.out.trans hb2
        have hb12 : Below W1.heap.size W1 w2 := HBR.out.trans (hbw2.mono hsz)
        have HRO := Lib.hid (row_any check_any wr.heap.size wr.heap.size y hyc hyt w2 hy hbw2.size (HT1.out.keep hb12))
        have HY := Lib.hid hy
        have HB2 := Lib.hid hbw2
        have HB12 := Lib.hid hb12
        have HONE := Lib.hid hone
        clear hy hb2 hbw2 hb12 hone hyc hyt
        go_wp2_with fail
        refine HRO.out.mono ?_
        rintro _ w3 ⟨rc, rt, rf, err, rfl, hb3, hp1, hp2⟩
        have hy3 := HY.out.keep hb3
        obtain ⟨W4, hW4⟩ : ∃ W4, w3.alloc (.cells #[.string rc, .string rt, .int .i64 rf] RowT) = W4 := ⟨_, rfl⟩
        have hk4 : Blk W4 w3.heap.size RowT #[.string rc, .string rt, .int .i64 rf] := hW4 ▸ Blk.new _ _ _
        have hy4 : RdAt wr.heap.size W4 wr.heap.size y := hW4 ▸ hy3.keep ((Below.refl _ _).alloc (Nat.le_refl _) _)
        have d1 := hy4.c1
        obtain ⟨vc, d2, hvc⟩ := hy4.c2
        obtain ⟨Ac, cc, rfl⟩ := own_shapeN hvc
        have e0 : W4.cell? ⟨w3.heap.size, 0, none⟩ = some (.string rc) := by rw [hk4.cell]; rfl
        have e1 : W4.cell? ⟨w3.heap.size, 1, none⟩ = some (.string rt) := by rw [hk4.cell]; rfl
        have e2 : W4.cell? ⟨w3.heap.size, 2, none⟩ = some (.int .i64 rf) := by rw [hk4.cell]; rfl
        have hb4 : Below wr.heap.size wr W4 := hW4 ▸ (HB2.out.trans (hb3.mono HB2.out.size)).alloc (HB2.out.trans (hb3.mono HB2.out.size)).size _
        have HB4 := Lib.hid hb4
        have HB14 := Lib.hid (HBR.out.trans (hb4.mono hsz))
        have HROW4 := Lib.hid (own_keep HROW.out hb4)
        have HP1 := Lib.hid hp1
        have HP2 := Lib.hid hp2
        have HW4 := Lib.hid hW4
        have HVC := Lib.hid hvc
        clear hb3 hp1 hp2 hy3 hk4 hy4 hvc hb4 hW4
        go_upto_region 13 with fail
        rw [HW4.out]
        cases sm with
        | false =>
          cases hok2 : y.ok with
          | true =>
            rw [hok2] at d1
            by_cases h4 : y.c.length ≤ 4
            · have b4 : decide ((y.c.length : Int) ≤ 4) = true := decide_eq_true (by omega)
              have hgn : readGo F (k + 1) out (L.drop (k + 1)) = R := by
                have hg := HG2.out
                rw [← HONE.out] at hg
                unfold oneOf at hg
                rw [if_pos ⟨rfl, hok2⟩, if_pos h4] at hg
                exact hg
              have HGN := Lib.hid hgn
              clear h4 hgn hok2
              go_wp2_with fail
              go_roundw
              case rel => exact ⟨k + 1, out, by omega, by go_num, by omega, HROW4.out, HB14.out, HGN.out⟩
              case measure => simp [RowKit.intOf]; omega
            · have b4 : decide ((y.c.length : Int) ≤ 4) = false := decide_eq_false (by omega)
              have hg := HG2.out
              rw [← HONE.out] at hg
              unfold oneOf at hg
              rw [if_pos ⟨rfl, hok2⟩, if_neg h4] at hg
              have hg : (([] : List LRow), (k : Int) + 1, (11 : Int)) = R := hg
              subst hg
              clear h4 hok2
              go_wp2_with fail
              go_returns
              unfold ReadP
              rw [HRR.out]
              exact ⟨_, rfl, World.ownsRow_nil _ _ _ _, HPOST.out _ HB14.out⟩
          | false =>
            have he := HP1.out (.inl hok2)
            subst he
            have hg := HG2.out
            rw [← HONE.out, oneOf_bad _ hok2] at hg
            have hg : (([] : List LRow), (k : Int) + 1, (10 : Int)) = R := hg
            subst hg
            rw [hok2] at d1
            clear hok2
            go_wp2_with fail
            go_returns
            unfold ReadP
            rw [HRR.out]
            exact ⟨_, rfl, World.ownsRow_nil _ _ _ _, HPOST.out _ HB14.out⟩
        | true =>
          obtain ⟨r1, r2⟩ := row_one (sm := true) (by simp) HP1.out HP2.out
          by_cases he : err = 0
          · subst he
            obtain ⟨ho, rfl, rfl, rfl⟩ := r2 rfl
            have hgn : readGo F (k + 1) (out ++ [⟨y.c, y.t, y.f⟩]) (L.drop (k + 1)) = R := by
              have hg := HG2.out
              rw [← HONE.out, ho] at hg
              exact hg
            have HGN := Lib.hid hgn
            have HLN2 : Hid ((out ++ [(⟨y.c, y.t, y.f⟩ : LRow)]).length = out.length + 1) := Lib.hid (by simp)
            clear r1 r2 ho hgn
            go_wp2_with (at_builtin; refine wpList_row W4 rfl _ _ rfl W1.heap.size (.slice Ao out.length co) out rfl HROW4.out HB14.out.size ⟨y.c, y.t, y.f⟩ _ _ rfl rfl (by omega) ?_; intro v2 w5 hr5 hb5; obtain ⟨A5, c5, rfl⟩ := own_shapeN hr5; rw [HLN2.out] at hr5 ⊢; have HR5 := Lib.hid hr5; have HB5 := Lib.hid (HB14.out.trans hb5); clear hr5 hb5)
            go_roundw
            case rel => exact ⟨k + 1, out ++ [⟨y.c, y.t, y.f⟩], by omega, by go_num, by rw [HLN2.out]; omega, HR5.out, HB5.out, HGN.out⟩
            case measure => simp [RowKit.intOf]; omega
          · have hbn : (err != 0) = true := by rw [bne_iff_ne]; exact he
            have hg := HG2.out
            rw [← HONE.out, r1 he] at hg
            have hg : (([] : List LRow), (k : Int) + 1, err) = R := hg
            subst hg
            clear r1 r2 he
            go_wp2_with fail
            go_returns
            unfold ReadP
            rw [HRR.out]
            exact ⟨_, rfl, World.ownsRow_nil _ _ _ _, HPOST.out _ HB14.out⟩
      · obtain rfl : k = L.length := by omega
        have a1 : decide ((L.length : Int) < (L.length : Int)) = false := decide_eq_false (by omega)
        have hg := HGO.out
        rw [List.drop_eq_nil_of_le (Nat.le_refl _)] at hg
        have hg : (out, (0 : Int), (0 : Int)) = R := hg
        subst hg
        go_wp2_with fail
        go_returns
        unfold ReadP
        rw [HRR.out]
        exact ⟨_, rfl, own_base HROW.out HBWS.out, HPOST.out _ HBR.out⟩
end Go.Proofs.YtkfjmcidcnpijaaGreatDoor.Mf
/- Walks: mapfile.Unicode, Ucm; the law's examples. -/
namespace Go.Proofs.YtkfjmcidcnpijaaGreatDoor.Mf
open Go.RowKit Pl

/-- What the laws need of memory. -/
structure Okw (w : World) : Prop where
  err : ErrV w
  tabs : TabsM w
theorem Okw.keep {w w' : World} (h : Okw w) (hb : Below w.heap.size w w') : Okw w' := ⟨h.err.keep hb h.err.lt, h.tabs.keep hb⟩
theorem mapU_any (s : ByteArray) (hs : s.size ≤ 1000000) (w : World) (hO : Okw w) : Calls Tryz.prog 22 #[.string s] w (ReadP oneU w s.data.toList) := by
  have HR := Lib.hid (read_any 39 oneU way_unicode s hs w hO.err hO.tabs)
  clear hO
  go_enter Tryz.func22, Tryz.ntmps22
  go_wp2_with fail
  refine HR.out.mono ?_
  rintro _ w1 ⟨v, rfl, h1, hb⟩
  have H1 := Lib.hid h1
  have HB := Lib.hid hb
  clear h1 hb
  go_wp2_with fail
  go_returns
  exact ⟨v, rfl, H1.out, HB.out⟩













abbrev exU : ByteArray := ⟨#[48, 120, 52, 49, 9, 48, 120, 48, 48, 52, 49, 32, 35, 32, 65, 10, 48, 120, 50, 52, 55, 55, 32, 48, 120, 51, 48, 52, 66, 43, 51, 48, 57, 65, 10]⟩
abbrev exC : ByteArray := ⟨#[60, 85, 48, 48, 67, 52, 62, 32, 92, 120, 56, 69, 32, 124, 48, 10]⟩
set_option maxRecDepth 1000000 in
theorem exU_eq : readL oneU exU.data.toList = ([⟨[65], [65], 0⟩, ⟨[36, 119], [12363, 12442], 0⟩], 0, 0) := by rfl
set_option maxRecDepth 1000000 in
theorem exC_eq : readL oneC exC.data.toList = ([⟨[142], [196], 0⟩], 0, 0) := by rfl
theorem text_A : textB [65] = [65] := by decide
theorem text_K : textB [12363, 12442] = [227, 129, 139, 227, 130, 154] := by decide
theorem text_E : textB [196] = [195, 132] := by decide
theorem Rows.cells {B : Nat} {w : World} {v : Value} {l : List LRow} (h : Rows B w v l) (hl : 0 < l.length) : ∃ g c, v = .slice (some ⟨g, 0, none⟩) l.length c ∧ g < w.heap.size ∧ ∀ j x, (rowcells l)[j]? = some x → w.cell? ⟨g, j, none⟩ = some x := by
  rcases (show World.ownsRow w B RowT 3 v l.length (rowcells l) from h).2 with ⟨_, h0⟩ | ⟨g, cap, cur, e, _, hh, _, _, _, h4⟩
  · omega
  · refine ⟨g, cap, e, (Array.getElem?_eq_some_iff.1 hh).1, fun j x hx => ?_⟩
    rw [cell_of_row w g j cur RowT (0, 0) hh]
    rw [← h4, List.getElem?_take] at hx
    split at hx
    · simpa using hx
    · cases hx
































end Go.Proofs.YtkfjmcidcnpijaaGreatDoor.Mf
