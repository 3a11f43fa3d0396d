/- Walks: slices.Equal of characters, cover.plain, cover.wrong. -/
import Derived.Test.YtkphecmdilefgaaDoorG14
namespace Go.Proofs.YtkphecmdilefgaaDoor.Sg
open Go.RowKit Pl Go.Lib

set_option maxRecDepth 100000 in
set_option maxHeartbeats 800000 in
theorem equal_any (A1 : Option Addr) (n1 c1 : Nat) (l1 : List Int) (A2 : Option Addr) (n2 c2 : Nat) (l2 : List Int) (w : World) (h1 : Rd w A1 n1 (i32s l1)) (h2 : Rd w A2 n2 (i32s l2)) (hsm : n1 ≤ 1000000000) :
    Calls Tryd.prog 32 #[.slice A1 n1 c1, .slice A2 n2 c2] w fun e w' => e = .returned (.bool (decide (l1 = l2))) ∧ Drew w w' := by
  obtain rfl := h1.i32_len
  obtain rfl := h2.i32_len
  by_cases hl : l1.length = l2.length
  · have e1 : ((l1.length : Int) == (l2.length : Int)) = true := by simp [hl]
    have e2 : ((l1.length : Int) != (l2.length : Int)) = false := by simp [hl]
    have HL := Lib.hid hl
    have H1 := Lib.hid h1; have H2 := Lib.hid h2
    clear hl h1 h2
    go_enter Tryd.func32, Tryd.ntmps32
    go_wp2
    go_loopw [13] (fun i wr => ∃ k : Nat, k ≤ l1.length ∧ i = .int .i64 k ∧ l1.take k = l2.take k ∧ Drew w wr) (fun i _ => l1.length - (intOf i).toNat)
    case atStart => exact ⟨0, Nat.zero_le _, rfl, rfl, 0, rfl⟩
    case round =>
      obtain ⟨k, hk, rfl, htk, m, rfl⟩ := hrel
      have HT := Lib.hid htk
      clear htk
      by_cases hlt : k < l1.length
      · have hlt2 : k < l2.length := by have := HL.out; omega
        obtain ⟨b1, o1, rfl, hb1, hc1⟩ := H1.out.i32_at hlt
        obtain ⟨b2, o2, rfl, hb2, hc2⟩ := H2.out.i32_at hlt2
        have j0 : (0 : Int) ≤ (k : Int) := by omega
        have j1 : (k : Int) < (l1.length : Int) := by omega
        have j2 : (k : Int) < (l2.length : Int) := by omega
        have HQ : Hid (l1[k] = l2[k] → l1.take (k + 1) = l2.take (k + 1)) := fun he => take_eq_step l1 l2 k hlt hlt2 HT.out he
        have HQ2 : Hid (l1[k] ≠ l2[k] → decide (l1 = l2) = false) := fun he => decide_eq_false (fun h => he (by subst h; rfl))
        generalize l1[k] = x at *
        generalize l2[k] = y at *
        clear hb1 hb2
        by_cases hxy : x = y
        · have e3 : (x == y) = true := by simp [hxy]
          have e4 : (x != y) = false := by simp [hxy]
          have HXY := Lib.hid hxy
          clear hxy
          go_wp2
          go_quiet (fail)
          go_wp2
          go_roundw
          case rel => exact ⟨k + 1, by omega, by go_num, HQ.out HXY.out, _, by first | rfl | exact World.drewN_drewN _ _ _⟩
          case measure => simp [intOf]; omega
        · have e3 : (x == y) = false := by simp [hxy]
          have e4 : (x != y) = true := by simp [hxy]
          have HF := Lib.hid (HQ2.out hxy)
          clear hxy
          go_wp2
          go_quiet (fail)
          go_wp2
          go_returns
          exact ⟨by rw [HF.out]; rfl, _, by first | exact World.drewN_drewN _ _ _ | rfl⟩
      · have hall : l1 = l2 := by
          have h := HT.out
          have hL := HL.out
          rw [List.take_of_length_le (by omega), List.take_of_length_le (by omega)] at h
          exact h
        have HF : Hid (decide (l1 = l2) = true) := decide_eq_true hall
        clear hall
        go_wp2
        go_returns
        exact ⟨by rw [HF.out]; rfl, _, rfl⟩
  · have e1 : ((l1.length : Int) == (l2.length : Int)) = false := by simp; omega
    have e2 : ((l1.length : Int) != (l2.length : Int)) = true := by simp; omega
    have HF : Hid (decide (l1 = l2) = false) := decide_eq_false (fun h => hl (by rw [h]))
    clear hl h1 h2
    go_enter Tryd.func32, Tryd.ntmps32
    go_wp2
    go_returns
    exact ⟨by rw [HF.out]; rfl, 0, rfl⟩



abbrev ByteT : TypeId := 5
theorem infoByte : (Tryd.prog.info? ByteT).map (fun i => (i.zero, i.size, i.bytes)) = some (some (.int .u8 0), 1, 1) := by kernel_rfl
/-- Bytes as cells. -/
def u8s (l : List Nat) : List Value := l.map fun n : Nat => Value.int .u8 (n : Int)
theorem u8s_length (l : List Nat) : (u8s l).length = l.length := by simp [u8s]
theorem u8s_append (a b : List Nat) : u8s (a ++ b) = u8s a ++ u8s b := by simp [u8s]
/-- The four bytes of a character. -/
def four (r : Int) : List Nat := [0, r.toNat / 65536, r.toNat / 256 % 256, r.toNat % 256]
def fourL (l : List Int) : List Nat := l.flatMap four
theorem fourL_len (l : List Int) : (fourL l).length = 4 * l.length := by
  unfold fourL
  induction l with
  | nil => rfl
  | cons a l ih => simp only [List.flatMap_cons, List.length_append, ih, List.length_cons, four, List.length_nil]; omega
def scal (l : List Int) : Prop := ∀ r ∈ l, 0 ≤ r ∧ r ≤ 1114111
theorem four_inj (a b : Int) (ha : 0 ≤ a) (hb : 0 ≤ b) (h : four a = four b) : a = b := by
  unfold four at h
  injection h with _ h
  injection h with h1 h
  injection h with h2 h
  injection h with h3 _
  omega
theorem fourL_inj : ∀ (l m : List Int), scal l → scal m → fourL l = fourL m → l = m := by
  intro l
  induction l with
  | nil =>
    intro m _ _ h
    have := congrArg List.length h
    rw [fourL_len, fourL_len] at this
    exact (List.eq_nil_of_length_eq_zero (by simp at this; omega)).symm
  | cons a l ih =>
    intro m hl hm h
    cases m with
    | nil =>
      have := congrArg List.length h
      rw [fourL_len, fourL_len] at this
      simp at this
    | cons b m =>
      have h' : four a ++ fourL l = four b ++ fourL m := h
      obtain ⟨h1, h2⟩ := List.append_inj h' rfl
      rw [four_inj a b (hl a (by simp)).1 (hm b (by simp)).1 h1, ih m (fun r hr => hl r (by simp [hr])) (fun r hr => hm r (by simp [hr])) h2]
def plain4 (l : List Int) : ByteArray := ⟨((fourL l).map UInt8.ofNat).toArray⟩
theorem fourL_lt (l : List Int) (h : scal l) : ∀ n ∈ fourL l, n < 256 := by
  intro n hn
  unfold fourL at hn
  rw [List.mem_flatMap] at hn
  obtain ⟨r, hr, hn⟩ := hn
  have := h r hr
  simp [four] at hn
  omega
theorem map_u8_inj : ∀ (a b : List Nat), (∀ n ∈ a, n < 256) → (∀ n ∈ b, n < 256) → a.map UInt8.ofNat = b.map UInt8.ofNat → a = b := by
  intro a
  induction a with
  | nil => intro b _ _ h; cases b <;> simp at h ⊢
  | cons x a ih =>
    intro b ha hb h
    cases b with
    | nil => simp at h
    | cons y b =>
      simp only [List.map_cons, List.cons.injEq] at h
      have h1 := congrArg UInt8.toNat h.1
      have hx := ha x (by simp)
      have hy := hb y (by simp)
      simp only [UInt8.toNat_ofNat'] at h1
      rw [Nat.mod_eq_of_lt (by omega), Nat.mod_eq_of_lt (by omega)] at h1
      rw [h1, ih b (fun n hn => ha n (by simp [hn])) (fun n hn => hb n (by simp [hn])) h.2]
theorem plain4_inj (l m : List Int) (hl : scal l) (hm : scal m) (h : plain4 l = plain4 m) : l = m := by
  unfold plain4 at h
  injection h with h
  have h := congrArg Array.toList h
  simp only at h
  exact fourL_inj l m hl hm (map_u8_inj _ _ (fourL_lt l hl) (fourL_lt m hm) h)
theorem plain4_size (l : List Int) : (plain4 l).size = 4 * l.length := by
  show (((fourL l).map UInt8.ofNat).toArray).size = _
  simp [fourL_len]
theorem fourC (r : Int) (h : 0 ≤ r ∧ r ≤ 1114111) : #[Value.int .u8 (r / 16777216), .int .u8 (r / 65536), .int .u8 (r / 256 % 256), .int .u8 (r % 256)] = (u8s (four r)).toArray := by
  obtain ⟨n, rfl⟩ : ∃ n : Nat, r = n := ⟨r.toNat, by omega⟩
  have h0 : (n : Int) / 16777216 = 0 := by omega
  have h1 : four (n : Int) = [0, n / 65536, n / 256 % 256, n % 256] := rfl
  rw [h1, h0]
  rfl
theorem bytes_conv {w : World} {B : Nat} {v : Value} {l : List Nat} (h : w.ownsRow B ByteT 1 v l.length (u8s l)) (hl : ∀ n ∈ l, n < 256) :
    (convert 48 9 v).run Tryd.prog w = .ok (.string ⟨(l.map UInt8.ofNat).toArray⟩) w := by
  rcases own_shape h with ⟨rfl, h0⟩ | ⟨g, c, rfl⟩
  · rw [List.eq_nil_of_length_eq_zero h0]
    exact run_convert_bytes_nil _ _ _ Tryd.underlying48 Tryd.underlying5 0 0 _ Tryd.underlying9
  · have h := run_convert_bytes_back (P := Tryd.prog) w 48 9 ByteT ⟨g, 0, none⟩ c (l.map UInt8.ofNat) Tryd.underlying48 Tryd.underlying5 Tryd.underlying9 (by
      intro i hi
      rw [List.length_map] at hi
      rw [Addr.add_lit, Nat.zero_add]
      have := hl l[i] (List.getElem_mem hi)
      refine own_cell h _ ?_
      simp [u8s, hi]
      omega)
    rw [List.length_map] at h
    exact h
theorem own_rd {w : World} {B g c : Nat} {l : List Int} (h : w.ownsRow B RuneT 1 (.slice (some ⟨g, 0, none⟩) l.length c) l.length (i32s l)) : Rd w (some ⟨g, 0, none⟩) l.length (i32s l) :=
  ⟨i32s_length _, fun _ => ⟨g, 0, rfl, (h.lt g rfl).2, fun j x hx => by rw [Nat.zero_add]; exact own_cell h x hx⟩⟩
section
variable {ops : Array Oper} {rest : List Oper} {oo : Oper} {a : Act} {Q : Exit → Act → World → Prop}
/-- 'b = append(b, x, y, ..)' of bytes. -/
theorem wpList_u8 (w : World) (hgd : oo.guard = none) (s x : Operand) (ho : oo.op = .call { callee := .builtin .append, args := #[s, x], argTypes := #[48, 48] })
    (B : Nat) (v : Value) (l : List Nat) (hs : a.eval s = v) (hst : w.ownsRow B ByteT 1 v l.length (u8s l)) (hB : B ≤ w.heap.size) (m : List Nat) (cs : Array Value) (hcs : cs = (u8s m).toArray) (n : Nat) (hn : n = m.length)
    (c : Nat) (hx : a.eval x = .slice (some ⟨w.heap.size, 0, none⟩) n c) (hsm : l.length + m.length ≤ 1048576)
    (h : ∀ v' w', w'.ownsRow B ByteT 1 v' (l ++ m).length (u8s (l ++ m)) → Below B w w' → wpList Tryd.prog ops Q rest (a.put oo.dst v') w') : wpList Tryd.prog ops Q (oo :: rest) a (w.alloc (.cells cs ByteT)) := by
  obtain ⟨i0, hi, hz0, hz1, hz2⟩ := info_parts infoByte
  subst hcs hn
  have hown' := hst.alloc (.cells (u8s m).toArray ByteT)
  refine wpList_append_own _ hgd s x 48 ho B ByteT i0 (.int .u8 0) 1 1 Tryd.underlying48 hi hz0 hz1 hz2 rfl (by decide) v l.length (u8s l) hs hown' ⟨w.heap.size, 0, none⟩ m.length c (u8s m) hx (by rw [u8s_length, Nat.mul_one]) ?_ ?_ ?_ ?_ ?_ ?_
  · intro j u hj
    rw [Addr.add_lit, Nat.zero_add, (Blk.new w ByteT (u8s m).toArray).cell]
    simpa using hj
  · intro u hu
    obtain ⟨r, _, rfl⟩ := List.mem_map.1 hu
    rfl
  · unfold maxLen; omega
  · omega
  · simp; omega
  · intro v' w1 hown1 hgrow _
    refine h v' w1 (by rw [u8s_append, List.length_append]; exact hown1) (((Below.refl B w).alloc hB _).grown hgrow (by simp; omega) (fun k hk => (hst.lt k hk).1))
end
set_option maxRecDepth 100000 in
set_option maxHeartbeats 800000 in
theorem plainC_any (A : Option Addr) (c : Nat) (l : List Int) (w : World) (hR : Rd w A l.length (i32s l)) (hl : l.length ≤ 1000) (hs : scal l) :
    Calls Tryd.prog 63 #[.slice A l.length c] w fun e w' => e = .returned (.string (plain4 l)) ∧ Below w.heap.size w w' := by
  have HR := Lib.hid hR
  have HS := Lib.hid hs
  clear hR hs
  go_enter Tryd.func63, Tryd.ntmps63
  go_wp2
  go_loopw [3, 8] (fun v i wr => ∃ k : Nat, k ≤ l.length ∧ i = .int .i64 k ∧ wr.ownsRow w.heap.size ByteT 1 v (fourL (l.take k)).length (u8s (fourL (l.take k))) ∧ Below w.heap.size w wr) (fun _ i _ => l.length - (intOf i).toNat)
  case atStart => exact ⟨0, Nat.zero_le _, rfl, World.ownsRow_nil _ _ _ _, Below.refl _ _⟩
  case round =>
    obtain ⟨k, hk, rfl, ho, hb⟩ := hrel
    have HO := Lib.hid ho
    have HB := Lib.hid hb
    have hL := fourL_len (l.take k)
    rw [List.length_take] at hL
    by_cases hlt : k < l.length
    · obtain ⟨b1, o1, rfl, hb1, c1⟩ := (HR.out.keep hb).i32_at hlt
      have hr := HS.out l[k] (List.getElem_mem hlt)
      have htk : fourL (l.take (k + 1)) = fourL (l.take k) ++ four l[k] := by unfold fourL; rw [List.take_succ_eq_append_getElem hlt, List.flatMap_append]; simp
      generalize l[k] = r at *
      generalize fourL (l.take k) = F at *
      have HTK := Lib.hid htk
      have j0 : (0 : Int) ≤ (k : Int) := by omega
      have j1 : (k : Int) < (l.length : Int) := by omega
      clear htk hb ho hb1
      go_wp2_with (at_builtin; go_loud (refine wpList_u8 wr rfl _ _ rfl w.heap.size u3 F rfl HO.out HB.out.size (four r) _ (fourC r hr) 4 rfl 4 rfl (by rw [show (four r).length = 4 from rfl]; omega) ?_); intro v1 w1 ho1 hb1)
      go_roundw
      case rel => exact ⟨k + 1, by omega, by go_num, by rw [HTK.out]; exact ho1, HB.out.trans hb1⟩
      case measure => simp [intOf]; omega
    · obtain rfl : k = l.length := by omega
      rw [List.take_of_length_le (Nat.le_refl _)] at HO
      have hcv := bytes_conv HO.out (fourL_lt l HS.out)
      clear hb ho
      go_wp2_with fail
      go_returns
      exact ⟨rfl, HB.out⟩
theorem wrongC_any (B2 : Nat) (vc : Value) (l : List Int) (w : World) (hc : w.ownsRow B2 RuneT 1 vc l.length (i32s l)) (h0 : l ≠ []) (hl : l.length ≤ 18) (hs : Rising l) :
    Calls Tryd.prog 62 #[smallI, vc] w fun e w' => e = .returned (.int .i64 0) ∧ Below w.heap.size w w' := by
  have HS := Lib.hid (msort_any B2 vc l w hc h0 (by omega) hs)
  rcases own_shape hc with ⟨_, h1⟩ | ⟨g, c, rfl⟩
  · exact absurd (List.eq_nil_of_length_eq_zero h1) h0
  have hn : 0 < l.length := List.length_pos_iff.2 h0
  have HE := Lib.hid (fun (W : World) (hb : Below w.heap.size w W) (g1 c1 : Nat) (h : W.ownsRow w.heap.size RuneT 1 (.slice (some ⟨g1, 0, none⟩) l.length c1) l.length (i32s l)) => equal_any (some ⟨g1, 0, none⟩) l.length c1 l (some ⟨g, 0, none⟩) l.length c l W (own_rd h) (own_rd (own_below hc hb)) (by omega))
  have e1 : decide ((l.length : Int) < 1) = false := decide_eq_false (by omega)
  have e2 : decide ((18 : Int) < (l.length : Int)) = false := decide_eq_false (by omega)
  clear hc
  go_enter Tryd.func62, Tryd.ntmps62
  go_wp2_with fail
  refine HS.out.mono ?_
  rintro _ w1 ⟨v1, rfl, ho1, hb1⟩
  rcases own_shape ho1 with ⟨_, h1⟩ | ⟨g1, c1, rfl⟩
  · omega
  have HE1 := Lib.hid (HE.out w1 hb1 g1 c1 ho1)
  clear ho1
  go_wp2_with fail
  refine HE1.out.mono ?_
  rintro _ w2 ⟨rfl, m, rfl⟩
  have e3 : decide (l = l) = true := by simp
  go_wp2_with fail
  go_returns
  exact ⟨rfl, bdN hb1 _⟩
end Go.Proofs.YtkphecmdilefgaaDoor.Sg
