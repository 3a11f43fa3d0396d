/- The statement WideDecodes: its walk. -/
import Derived.Test.YtlfhmkjomogkiaaWl
import Derived.Test.YtlfhmkjomogkiaaLa
import Derived.Test.YtlfhmkjomogkiaaLb
namespace Go.Proofs.Ytlfhmkjomogkiaa
open Go.RowKit Pl

theorem Rd.str_at {w : World} {A : Option Addr} {n : Nat} {l : List ByteArray} (h : Rd w A n (strv l)) {k : Nat} (hk : k < l.length) :
    ∃ b o, A = some ⟨b, o, none⟩ ∧ b < w.heap.size ∧ w.cell? ⟨b, o + k, none⟩ = some (.string l[k]) := by
  obtain ⟨b, o, e, hlt, hc⟩ := h.2 (by rw [← h.1, strv_length]; omega)
  exact ⟨b, o, e, hlt, hc k _ (by simp [strv, hk])⟩
theorem Rd.str_len {w : World} {A : Option Addr} {n : Nat} {l : List ByteArray} (h : Rd w A n (strv l)) : l.length = n := by rw [← h.1, strv_length]
theorem allB_snoc (l : List ByteArray) (k : Nat) (h : k < l.length) : allB (l.take (k + 1)) = allB (l.take k) ++ l[k].data.toList := flatMap_snoc _ l k h
theorem allB_le (l : List ByteArray) (N : Nat) (h : ∀ s ∈ l, s.size ≤ N) : (allB l).length ≤ N * l.length := by
  induction l with
  | nil => simp [allB]
  | cons a l ih =>
    have h1 := ih (fun s hs => h s (List.mem_cons_of_mem _ hs))
    have h2 := h a (List.mem_cons_self ..)
    unfold allB at *
    simp only [List.flatMap_cons, List.length_append, List.length_cons]
    have : a.data.toList.length = a.size := by simp
    rw [this, Nat.mul_succ]; omega
theorem ba_append_s (a : List UInt8) (s : ByteArray) : (⟨a.toArray⟩ : ByteArray) ++ s = ⟨(a ++ s.data.toList).toArray⟩ := by
  apply ByteArray.ext
  simp [ByteArray.data_append]

set_option maxHeartbeats 3200000 in
theorem wideDecodes_law (k pol : Int) (A : Option Addr) (len cap : Nat) (l : List ByteArray) (w : World) (hR : Rd w A len (strv l)) (hS : ∀ r ∈ l, r.size ≤ maxLen) (hcap : len ≤ cap) (hrch : len * 16 ≤ 140737488351232) :
    Calls Try.prog 6 #[.int .i64 k, .int .i64 pol, .slice A len cap] w fun e w' => e = .returned (.bool true) ∧ Below w.heap.size w w' := by
  have HA := Lib.hid awake_any
  obtain rfl := hR.str_len
  have HR := Lib.hid hR; have HS := Lib.hid hS
  clear hR hS
  go_enter Try.func6, Try.ntmps6
  go_wp2
  go_loop [7, 8] (fun va i => ∃ j : Nat, j ≤ l.length ∧ i = .int .i64 j ∧ va = .string ⟨(allB (l.take j)).toArray⟩ ∧ ∀ s ∈ l.take j, s.size ≤ 100) (fun _ i => l.length - (intOf i).toNat)
  case atStart => exact ⟨0, Nat.zero_le _, rfl, rfl, by simp⟩
  case round =>
    obtain ⟨j, hj, rfl, rfl, h100⟩ := hrel
    have hal := allB_le (l.take j) 100 h100
    rw [List.length_take] at hal
    by_cases hlt : j < l.length
    · obtain ⟨b, o, rfl, hb, hc⟩ := HR.out.str_at hlt
      have hsn := allB_snoc l j hlt
      have htk := take_snoc_l l j hlt
      have hsz := HS.out l[j] (List.getElem_mem hlt)
      have hal2 : (allB (l.take j)).length ≤ 1000000000000000 := by omega
      generalize l[j] = s at *
      have HSN := Lib.hid hsn; have HTK := Lib.hid htk; have H100 := Lib.hid h100
      clear hsn htk h100 hal hb
      unfold maxLen at hsz
      obtain ⟨v, hv⟩ : ∃ v, allB (l.take j) = v := ⟨_, rfl⟩
      rw [hv] at hal2 HSN ⊢
      clear hv
      by_cases h1 : 100 < s.size
      · have i1 : (100 : Int) < s.size := by omega
        clear h1
        go_wp2_with (go_at_call 11; refine (HA.out _).mono ?_; rintro e w9 ⟨rfl, hb9⟩)
        go_returns
        exact ⟨rfl, hb9⟩
      · have i1 : decide ((100 : Int) < s.size) = false := by simp; omega
        have i2 : s.size ≤ 100 := by omega
        clear h1 hsz
        go_wp2_with (go_at_call 11; refine (HA.out _).mono ?_; rintro e w9 ⟨rfl, hb9⟩)
        go_round
        case rel =>
          refine ⟨j + 1, by omega, by go_num, by rw [HSN.out, ← ba_append_s], ?_⟩
          intro s' hs'
          rw [HTK.out] at hs'
          rcases List.mem_append.1 hs' with h | h
          · exact H100.out s' h
          · simp at h; subst h; exact i2
        case measure => simp [intOf]; omega
    · obtain rfl : j = l.length := by omega
      rw [List.take_of_length_le (Nat.le_refl _)] at hal ⊢
      rw [Nat.min_self] at hal
      clear h100
      by_cases h20 : 20 < l.length
      · have i1 : (20 : Int) < l.length := by omega
        clear h20
        go_wp2_with (go_at_call 11; refine (HA.out _).mono ?_; rintro e w9 ⟨rfl, hb9⟩)
        go_returns
        exact ⟨rfl, hb9⟩
      · have i1 : decide ((20 : Int) < l.length) = false := by simp; omega
        have HD := Lib.hid (wideDecode_any k pol A l.length cap l w HR.out hcap (by omega) (by omega))
        have HD2 := Lib.hid (refDecode_any k pol ⟨(allB l).toArray⟩ (by rw [ba_size]; omega))
        have hx1 := kdec_len k pol (allB l)
        rw [show (⟨(allB l).toArray⟩ : ByteArray).data.toList = allB l from by simp] at HD2
        generalize kdec k pol (allB l) = x at *
        have hx2 : x.1.length ≤ 100000 ∧ x.2.1.length ≤ 100000 := by omega
        have HX := Lib.hid hx2
        clear hx1 hx2 h20 hal
        go_wp2_with fail
        refine HD.out.mono ?_
        rintro e w1 ⟨vo1, vb1, rfl, hst1⟩
        obtain ⟨A1, c1, rfl, hr1⟩ := rd_of_own hst1.1
        obtain ⟨A2, c2, rfl, hr2⟩ := rd2_of_own hst1.2.1
        go_wp2_with fail
        refine (HD2.out _).mono ?_
        rintro e w2 ⟨vo2, vb2, rfl, hst2⟩
        obtain ⟨A3, c3, rfl, hr3⟩ := rd_of_own hst2.1
        obtain ⟨A4, c4, rfl, hr4⟩ := rd2_of_own hst2.2.1
        have hbA := hst1.2.2.1
        have hbB := hst2.2.2.1
        have hr1' := hr1.keep hbB
        have hr2' := hr2.keep hbB
        have HQ1 := Lib.hid (runes_any A1 _ c1 x.1 A3 _ c3 x.1 w2 hr1' hr3 (by have := HX.out; omega))
        rw [decide_eq_true rfl] at HQ1
        go_wp2_with fail
        refine HQ1.out.mono ?_
        rintro e w3 ⟨rfl, hd3⟩
        have hb3 := hd3.below w2.heap.size
        have HQ2 := Lib.hid (faults_any A2 _ c2 x.2.1 A4 _ c4 x.2.1 w3 (hr2'.keep hb3) (hr4.keep hb3) (by have := HX.out; omega))
        rw [decide_eq_true rfl] at HQ2
        go_wp2_with fail
        refine HQ2.out.mono ?_
        rintro e w4 ⟨rfl, hd4⟩
        have hb4 := hd4.below w3.heap.size
        have hbC : Below w.heap.size w w4 := by
          have a1 := hbA.trans (hbB.mono hbA.size)
          have a2 := a1.trans (hb3.mono a1.size)
          exact a2.trans (hb4.mono a2.size)
        clear hst1 hst2 hr1 hr2 hr3 hr4 hr1' hr2' hbA hbB hb3 hb4 hd3 hd4
        go_wp2_with (go_at_call 11; refine (HA.out _).mono ?_; rintro e w9 ⟨rfl, hb9⟩)
        go_returns
        exact ⟨rfl, hbC.trans (hb9.mono hbC.size)⟩
end Go.Proofs.Ytlfhmkjomogkiaa
