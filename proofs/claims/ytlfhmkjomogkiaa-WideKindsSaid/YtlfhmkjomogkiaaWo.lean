/- Walks: inkhornlaw02.turn. -/
import Derived.Test.YtlfhmkjomogkiaaWg
import Derived.Test.YtlfhmkjomogkiaaPlain7
import Derived.Laws.BytesArg
namespace Go.Proofs.Ytlfhmkjomogkiaa
open Go.RowKit Pl

/-- A unit turned about, byte by byte. -/
theorem turn_step (s : ByteArray) (p size m : Nat) (hm : m < size) (hp : p + size ≤ s.size) :
    (((s.data.toList.drop p).take size).reverse).take (m + 1) = (((s.data.toList.drop p).take size).reverse).take m ++ [s[p + (size - 1 - m)]'(by omega)] := by
  have hl : ((s.data.toList.drop p).take size).length = size := by simp; omega
  rw [List.take_succ_eq_append_getElem (by rw [List.length_reverse, hl]; exact hm)]
  congr 2
  rw [List.getElem_reverse, List.getElem_take, List.getElem_drop]
  simp only [hl]
  rw [byte_at]
theorem turnJ_length (size : Nat) (l : List UInt8) (j : Nat) (h : j * size ≤ l.length) : (turnJ size l j).length = j * size := by
  induction j with
  | zero => simp [turnJ]
  | succ j ih =>
    rw [Nat.succ_mul] at h ⊢
    rw [turnJ_succ, List.length_append, ih (by omega)]
    simp; omega

set_option maxHeartbeats 3200000 in
theorem turn_any (s : ByteArray) (size : Nat) (h1 : 1 ≤ size) (h4 : size ≤ 4) (hm : s.size ≤ 1000000) (w : World) :
    Calls Try.prog 25 #[.string s, .int .i64 size] w fun e w' => e = .returned (.string ⟨(turnJ size s.data.toList (s.size / size)).toArray⟩) ∧ Below w.heap.size w w' := by
  obtain ⟨i0, hi, hz0, hz1, hz3⟩ := info_parts infoByte
  have HI := Lib.hid hi; have HZ0 := Lib.hid hz0; have HZ1 := Lib.hid hz1; have HZ3 := Lib.hid hz3
  clear hi hz0 hz1 hz3
  obtain ⟨R, hRR⟩ : ∃ R, turnJ size s.data.toList (s.size / size) = R := ⟨_, rfl⟩
  rw [hRR]
  have HRR := Lib.hid hRR
  clear hRR
  go_enter Try.func25, Try.ntmps25
  go_wp2
  go_loopw [5, 6] (fun v i wr => ∃ J : Nat, J * size ≤ s.size ∧ i = .int .i64 ((J * size : Nat) : Int) ∧ wr.ownsRow w.heap.size ByteT 1 v (J * size) (Lib.byteCells (turnJ size s.data.toList J)) ∧ Below w.heap.size w wr) (fun _ i _ => s.size - (intOf i).toNat)
  case atStart => exact ⟨0, by simp, by simp, by simpa [turnJ, Lib.byteCells] using World.ownsRow_nil _ _ _ _, Below.refl _ _⟩
  case round =>
    obtain ⟨J, hJ, rfl, hown, hb⟩ := hrel
    by_cases hlt : J * size + size ≤ s.size
    · have hsucc := turnJ_succ size s.data.toList J
      obtain ⟨p, hp⟩ : ∃ p, J * size = p := ⟨_, rfl⟩
      obtain ⟨T, hT⟩ : ∃ T, turnJ size s.data.toList J = T := ⟨_, rfl⟩
      obtain ⟨C, hC⟩ : ∃ C, ((s.data.toList.drop p).take size).reverse = C := ⟨_, rfl⟩
      rw [hp] at hlt hown hJ
      have hst := fun m (hm : m < size) => turn_step s p size m hm hlt
      rw [hp, hT, hC] at hsucc
      simp only [hC] at hst
      rw [hT] at hown
      rw [hp]
      have hcl : C.length = size := by rw [← hC]; simp; omega
      have HP := Lib.hid hp
      have HS := Lib.hid hsucc; have HST := Lib.hid hst; have HOW := Lib.hid hown; have HB := Lib.hid hb
      clear hp hT hC hsucc hst hown hb
      have hle : (p : Int) + (size : Int) ≤ (s.size : Int) := by omega
      go_wp2
      go_loopw [5, 7] (fun v j wr => ∃ m : Nat, m ≤ size ∧ j = .int .i64 ((size : Int) - 1 - m) ∧ wr.ownsRow w.heap.size ByteT 1 v (p + m) (Lib.byteCells (T ++ C.take m)) ∧ Below w.heap.size w wr) (fun _ j _ => (intOf j + 1).toNat)
      case atStart => exact ⟨0, Nat.zero_le _, by go_num, by simpa using HOW.out, HB.out⟩
      case round =>
        obtain ⟨m, hmm, rfl, hown, hb⟩ := hrel
        by_cases hl : m < size
        · obtain ⟨d, hd⟩ : ∃ d : Nat, size - 1 - m = d := ⟨_, rfl⟩
          have hdi : (size : Int) - 1 - (m : Int) = (d : Int) := by omega
          have hdn : (size : Int) - 1 - ((m + 1 : Nat) : Int) = (d : Int) - 1 := by omega
          have hds : d < size := by omega
          have hpd : p + d < s.size := by omega
          have hst : C.take (m + 1) = C.take m ++ [s[p + d]'hpd] := by
            have h := HST.out m hl
            subst hd
            exact h
          rw [hdi]
          have HSS := Lib.hid hst; have HO := Lib.hid hown; have HB2 := Lib.hid hb; have HN := Lib.hid hdn; have HL := Lib.hid hl
          have hsz := hb.size
          clear hst hown hb hdi hdn hd hl
          have q0 : (0 : Int) ≤ (p : Int) + (d : Int) := by omega
          have q1 : (p : Int) + (d : Int) < (s.size : Int) := by omega
          have q2 : (0 : Int) ≤ (d : Int) := by omega
          have hm4 : p + m ≤ 2000000 := by omega
          go_wp2_with (at_builtin; refine wpList_append_own _ rfl _ _ 65 rfl w.heap.size ByteT i0 (.int .u8 0) 1 1 Try.underlying65 HI.out HZ0.out HZ1.out HZ3.out rfl (by decide) _ _ _ rfl (HO.out.alloc _) ⟨wr.heap.size, 0, none⟩ 1 1 [.int .u8 s[p + d].toNat] rfl rfl ?c1 ?c2 ?c3 ?c4 ?c5 ?_)
          case c1 =>
            intro i u hu
            match i, hu with
            | 0, hu => simp at hu; subst hu; simp [Addr.add]
          case c2 => intro u hu; simp at hu; subst hu; rfl
          case c3 => unfold maxLen; omega
          case c4 => omega
          case c5 => simp; omega
          intro v' w1 hown' hgrow _
          have hb1 := (HB2.out.alloc hsz (.cells #[.int .u8 s[p + d].toNat] ByteT)).grown hgrow (by simp; omega) (fun g hg => (HO.out.lt g hg).1)
          have H1 := Lib.hid hown'; have H2 := Lib.hid hb1
          clear hown' hgrow hb1
          go_wp2
          go_roundw
          case rel => exact ⟨m + 1, HL.out, by rw [HN.out], by rw [HSS.out, ← List.append_assoc, byteCells_append]; exact H1.out, H2.out⟩
          case measure => simp [intOf]
        · obtain rfl : m = size := by omega
          have hdi : (m : Int) - 1 - (m : Int) = -1 := by omega
          rw [hdi]
          rw [List.take_of_length_le (by omega), ← HS.out] at hown
          have HO := Lib.hid hown; have HB2 := Lib.hid hb
          have HP2 : Hid ((J + 1) * m = p + m) := by have := HP.out; show (J + 1) * m = p + m; rw [Nat.succ_mul]; omega
          clear hown hb hdi hl
          go_wp2
          go_roundw
          case rel => exact ⟨J + 1, by rw [HP2.out]; exact hlt, by rw [HP2.out]; go_num, by rw [HP2.out]; exact HO.out, HB2.out⟩
          case measure => simp [intOf]; omega
    · have hJe : s.size / size = J := by
        rw [Nat.div_eq_iff (by omega)]
        have : J * size + size = (J + 1) * size := by rw [Nat.succ_mul]
        omega
      have hRT := HRR.out
      rw [hJe] at hRT
      have hTl := turnJ_length size s.data.toList J (by simpa using hJ)
      obtain ⟨p, hp⟩ : ∃ p, J * size = p := ⟨_, rfl⟩
      rw [hp] at hlt hown hJ hTl
      rw [hp]
      obtain ⟨T, hT⟩ : ∃ T, turnJ size s.data.toList J = T := ⟨_, rfl⟩
      rw [hT] at hown hTl hRT
      subst hRT
      have HB := Lib.hid hb
      clear hT hp hJe hb
      have hle : ¬ (p : Int) + (size : Int) ≤ (s.size : Int) := by omega
      rcases own_form hown with ⟨rfl, h0, _⟩ | ⟨g, cap, rfl, hg, hgl, hown2⟩
      · obtain rfl : T = [] := List.eq_nil_of_length_eq_zero (by omega)
        have hconv : (convert 65 9 (.slice none 0 0)).run Try.prog wr = .ok (.string ⟨#[]⟩) wr := run_convert_bytes_nil _ _ _ Try.underlying65 Try.underlying5 0 0 _ Try.underlying9
        clear hown hTl
        go_wp2
        go_returns
        exact ⟨rfl, HB.out⟩
      · have hconv : (convert 65 9 (.slice (some ⟨g, 0, none⟩) p cap)).run Try.prog wr = .ok (.string ⟨T.toArray⟩) wr := by
          have h := run_convert_bytes_back (P := Try.prog) wr 65 9 ByteT ⟨g, 0, none⟩ cap T Try.underlying65 Try.underlying5 Try.underlying9 (by
            intro i hi
            rw [show ((⟨g, 0, none⟩ : Addr).add i) = ⟨g, i, none⟩ from by unfold Addr.add; split <;> simp_all]
            rw [hown2.cellAt i (by omega)]
            simp [Lib.byteCells, hi])
          rw [hTl] at h
          exact h
        clear hown hown2
        go_wp2
        go_returns
        exact ⟨rfl, HB.out⟩
end Go.Proofs.Ytlfhmkjomogkiaa
