/- Plain: UTF-8: the reference's first character is the program's; where bytes may be cut. -/
import Derived.Test.YtlfhmkjomogkiaaDoorU2
namespace Go.Proofs.YtlfhmkjomogkiaaDoor
namespace Pl

theorem preGo_succ (l : List UInt8) (f k n : Nat) : preGo l (f + 1) k n = if k ≤ l.length ∧ k ≤ 4 ∧ 0 < starts (nats (l.take k)) then preGo l f (k + 1) k else n := rfl
theorem refOf_more {l : List UInt8} {n : Nat} (h0 : n ≠ 0) (h : n < starts (nats (l.take n))) (hl : n = l.length) : refOf l n = (0, n, 18) := by
  unfold refOf; rw [if_neg h0, if_pos h, if_pos hl]
theorem refOf_bad {l : List UInt8} {n : Nat} (h0 : n ≠ 0) (h : n < starts (nats (l.take n))) (hl : n ≠ l.length) : refOf l n = (0, n, 17) := by
  unfold refOf; rw [if_neg h0, if_pos h, if_neg hl]
theorem refOf_one {l : List UInt8} (h : starts (nats (l.take 1)) = 1) : refOf l 1 = (((l.headD 0).toNat : Int), 1, 0) := by
  unfold refOf; rw [if_neg (by omega), if_neg (by omega), if_pos h]
theorem refOf_many {l : List UInt8} {n : Nat} (h0 : n ≠ 0) (h1 : n ≠ 1) (h : starts (nats (l.take n)) = n) : refOf l n = (leastV (l.headD 0).toNat (nats ((l.take n).drop 1)) n, n, 0) := by
  unfold refOf; rw [if_neg h0, if_neg (by omega), if_neg (by omega), h]
theorem leastV_2 {b c : Nat} (h1 : 194 ≤ b) (h2 : b < 224) (c1 : 128 ≤ c) (c2 : c ≤ 191) : leastV b [c] 2 = (((b - 192) * 64 + c % 64 : Nat) : Int) := by
  have hlf : leastFirst b 2 = (b : Int) - 192 := rfl
  rw [leastV_some (by rw [hlf]; exact leastGo_ok (by omega) (by omega))]
  rw [show leastLo 2 = 128 from rfl, show leastHi 2 = 2047 from rfl, show (max (((b : Int) - 192) * 64 + ((c : Int) - 128)) 128) = (((b - 192) * 64 + c % 64 : Nat) : Int) from by omega,
    show (min (((b : Int) - 192) * 64 + ((c : Int) - 128)) 2047) = (((b - 192) * 64 + c % 64 : Nat) : Int) from by omega]
  exact leastOf_is (by omega) (by omega)
theorem leastV_3 {b c d : Nat} (h1 : 224 ≤ b) (h2 : b < 240) (c1 : uFrom b ≤ c) (c2 : c ≤ uTo b) (d1 : 128 ≤ d) (d2 : d ≤ 191) : leastV b [c, d] 3 = ((((b - 224) * 64 + c % 64) * 64 + d % 64 : Nat) : Int) := by
  have hf := uFrom_val b
  have ht := uTo_val b
  have g1 := uFrom_le b
  have g2 := uTo_le b
  have hlf : leastFirst b 3 = (b : Int) - 224 := rfl
  rw [leastV_some (by rw [hlf]; show leastGo [c, d] 2 _ _ = _; rw [leastGo_ok (by omega) (by omega)]; exact leastGo_ok (by omega) (by omega))]
  have e : (((b : Int) - 224) * 64 + ((c : Int) - 128)) * 64 + ((d : Int) - 128) = ((((b - 224) * 64 + c % 64) * 64 + d % 64 : Nat) : Int) := by omega
  rw [e]
  obtain ⟨x, hx⟩ : ∃ x : Nat, ((b - 224) * 64 + c % 64) * 64 + d % 64 = x := ⟨_, rfl⟩
  have hx1 : 2048 ≤ x ∧ x ≤ 65535 ∧ (x < 55296 ∨ 57343 < x) := by omega
  rw [hx]
  rw [show leastLo 3 = 2048 from rfl, show leastHi 3 = 65535 from rfl, show (max (x : Int) 2048) = x from by omega, show (min (x : Int) 65535) = x from by omega]
  exact leastOf_is (by omega) (by omega)
theorem leastV_4 {b c d g : Nat} (h1 : 240 ≤ b) (h2 : b ≤ 244) (c1 : uFrom b ≤ c) (c2 : c ≤ uTo b) (d1 : 128 ≤ d) (d2 : d ≤ 191) (e1 : 128 ≤ g) (e2 : g ≤ 191) : leastV b [c, d, g] 4 = (((((b - 240) * 64 + c % 64) * 64 + d % 64) * 64 + g % 64 : Nat) : Int) := by
  have hf := uFrom_val b
  have ht := uTo_val b
  have g1 := uFrom_le b
  have g2 := uTo_le b
  have hlf : leastFirst b 4 = (b : Int) - 240 := rfl
  rw [leastV_some (by rw [hlf]; show leastGo [c, d, g] 3 _ _ = _; rw [leastGo_ok (by omega) (by omega), leastGo_ok (by omega) (by omega)]; exact leastGo_ok (by omega) (by omega))]
  have e : ((((b : Int) - 240) * 64 + ((c : Int) - 128)) * 64 + ((d : Int) - 128)) * 64 + ((g : Int) - 128) = (((((b - 240) * 64 + c % 64) * 64 + d % 64) * 64 + g % 64 : Nat) : Int) := by omega
  rw [e]
  obtain ⟨x, hx⟩ : ∃ x : Nat, (((b - 240) * 64 + c % 64) * 64 + d % 64) * 64 + g % 64 = x := ⟨_, rfl⟩
  have hx1 : 65536 ≤ x ∧ x ≤ 1114111 := by omega
  rw [hx]
  rw [show leastLo 4 = 65536 from rfl, show leastHi 4 = 1114111 from rfl, show (max (x : Int) 65536) = x from by omega, show (min (x : Int) 1114111) = x from by omega]
  exact leastOf_is (by omega) (by omega)
/-- The reference's answer is the program's. -/
theorem refNext_eq (l : List UInt8) : refNext l = unext l := by
  cases l with
  | nil => rfl
  | cons b t =>
    unfold refNext
    rw [if_neg (by simp), preGo_succ]
    have hs1 := starts_1 b.toNat
    have n1 : nats ((b :: t).take 1) = [b.toNat] := rfl
    cases hbad : uBadB b.toNat
    · rw [unext_cons rfl hbad]
      rw [hbad, if_neg (by decide)] at hs1
      have hm := uBad_many (b := b.toNat) (by rw [hbad]; decide)
      have hc := uMany_cases b.toNat
      rw [if_pos ⟨by simp, by omega, by rw [n1, hs1]; omega⟩, preGo_succ]
      cases t with
      | nil =>
        rw [if_neg (by simp), ugo_nil]
        by_cases h1 : uMany b.toNat = 1
        · rw [refOf_one (by rw [n1, hs1, h1]), if_pos (by omega), h1, show uLow b.toNat = b.toNat from by omega]
          rfl
        · rw [refOf_more (l := [b]) (n := 1) (by omega) (by rw [n1, hs1]; omega) rfl, if_neg (by omega)]
      | cons c t =>
        have hs2 := starts_2 b.toNat c.toNat hbad
        have n2 : nats ((b :: c :: t).take 2) = [b.toNat, c.toNat] := rfl
        by_cases hc2 : 2 ≤ uMany b.toNat ∧ uFrom b.toNat ≤ c.toNat ∧ c.toNat ≤ uTo b.toNat
        · obtain ⟨m2, c1, c2⟩ := hc2
          have g1 := uFrom_le b.toNat
          have g2 := uTo_le b.toNat
          rw [if_pos ⟨m2, c1, c2⟩] at hs2
          rw [if_pos ⟨by simp, by omega, by rw [n2, hs2]; omega⟩, preGo_succ, ugo_step t (by omega) rfl c1 c2]
          cases t with
          | nil =>
            rw [if_neg (by simp), ugo_nil]
            by_cases h1 : uMany b.toNat = 2
            · have hv := leastV_2 (b := b.toNat) (c := c.toNat) (by omega) (by omega) (by omega) (by omega)
              rw [refOf_many (by omega) (by omega) (by rw [n2, hs2, h1]), if_pos (by omega), h1, show uLow b.toNat = b.toNat - 192 from by omega]
              show (leastV b.toNat [c.toNat] 2, 2, 0) = _
              rw [hv]
            · rw [refOf_more (l := [b, c]) (n := 1 + 1) (by omega) (by rw [n2, hs2]; omega) rfl, if_neg (by omega)]
          | cons d t =>
            have hs3 := starts_3 b.toNat c.toNat d.toNat hbad c1 c2
            have n3 : nats ((b :: c :: d :: t).take 3) = [b.toNat, c.toNat, d.toNat] := rfl
            by_cases hc3 : 3 ≤ uMany b.toNat ∧ 128 ≤ d.toNat ∧ d.toNat ≤ 191
            · obtain ⟨m3, d1, d2⟩ := hc3
              rw [if_pos ⟨m3, d1, d2⟩] at hs3
              rw [if_pos ⟨by simp, by omega, by rw [n3, hs3]; omega⟩, preGo_succ, ugo_step t (by omega) rfl d1 d2]
              cases t with
              | nil =>
                rw [if_neg (by simp), ugo_nil]
                by_cases h1 : uMany b.toNat = 3
                · have hv := leastV_3 (b := b.toNat) (by omega) (by omega) c1 c2 d1 d2
                  rw [refOf_many (by omega) (by omega) (by rw [n3, hs3, h1]), if_pos (by omega), h1, show uLow b.toNat = b.toNat - 224 from by omega]
                  show (leastV b.toNat [c.toNat, d.toNat] 3, 3, 0) = _
                  rw [hv]
                · rw [refOf_more (l := [b, c, d]) (n := 1 + 1 + 1) (by omega) (by rw [n3, hs3]; omega) rfl, if_neg (by omega)]
              | cons g t =>
                have hs4 := starts_4 b.toNat c.toNat d.toNat g.toNat hbad c1 c2 d1 d2
                have n4 : nats ((b :: c :: d :: g :: t).take 4) = [b.toNat, c.toNat, d.toNat, g.toNat] := rfl
                by_cases hc4 : 4 ≤ uMany b.toNat ∧ 128 ≤ g.toNat ∧ g.toNat ≤ 191
                · obtain ⟨m4, e1, e2⟩ := hc4
                  rw [if_pos ⟨m4, e1, e2⟩] at hs4
                  have hv := leastV_4 (b := b.toNat) (by omega) (by omega) c1 c2 d1 d2 e1 e2
                  have h4 : uMany b.toNat = 4 := by omega
                  rw [if_pos ⟨by simp, by omega, by rw [n4, hs4]; omega⟩, ugo_step t (by omega) rfl e1 e2]
                  show refOf _ 4 = _
                  rw [refOf_many (by omega) (by omega) (by rw [n4, hs4, h4]), h4, ugo_end, show uLow b.toNat = b.toNat - 240 from by omega]
                  show (leastV b.toNat [c.toNat, d.toNat, g.toNat] 4, 4, 0) = _
                  rw [hv]
                · rw [if_neg hc4] at hs4
                  rw [if_neg (by rw [n4, hs4]; omega)]
                  by_cases h1 : uMany b.toNat = 3
                  · have hv := leastV_3 (b := b.toNat) (by omega) (by omega) c1 c2 d1 d2
                    rw [refOf_many (by omega) (by omega) (by rw [n3, hs3, h1]), h1, ugo_end, show uLow b.toNat = b.toNat - 224 from by omega]
                    show (leastV b.toNat [c.toNat, d.toNat] 3, 3, 0) = _
                    rw [hv]
                  · rw [refOf_bad (by omega) (by rw [n3, hs3]; omega) (by simp), ugo_cons, if_neg (by omega), if_pos (by omega)]
            · rw [if_neg hc3] at hs3
              rw [if_neg (by rw [n3, hs3]; omega)]
              by_cases h1 : uMany b.toNat = 2
              · have hv := leastV_2 (b := b.toNat) (c := c.toNat) (by omega) (by omega) (by omega) (by omega)
                rw [refOf_many (by omega) (by omega) (by rw [n2, hs2, h1]), h1, ugo_end, show uLow b.toNat = b.toNat - 192 from by omega]
                show (leastV b.toNat [c.toNat] 2, 2, 0) = _
                rw [hv]
              · rw [refOf_bad (by omega) (by rw [n2, hs2]; omega) (by simp), ugo_cons, if_neg (by omega), if_pos (by omega)]
        · rw [if_neg hc2] at hs2
          rw [if_neg (by rw [n2, hs2]; omega)]
          by_cases h1 : uMany b.toNat = 1
          · rw [refOf_one (by rw [n1, hs1, h1]), h1, ugo_end, show uLow b.toNat = b.toNat from by omega]
            rfl
          · rw [refOf_bad (by omega) (by rw [n1, hs1]; omega) (by simp), ugo_cons, if_neg (by omega), if_pos (by omega)]
    · rw [hbad, if_pos rfl] at hs1
      rw [if_neg (by rw [n1, hs1]; omega)]
      rw [unext, if_pos hbad]
      rfl

/-- The program's way to where bytes may be cut: back over the last bytes, at most three. -/
def ucutGo (l : List UInt8) : Nat → Nat → Nat
  | 0, _ => l.length
  | f + 1, k => if k ≤ l.length then
      (if 0 < uMany ((l.drop (l.length - k)).headD 0).toNat then (if (unext (l.drop (l.length - k))).2.2 = 18 then l.length - k else l.length) else ucutGo l f (k + 1))
    else l.length
/-- How many bytes are ahead of a beginning at the end that is not whole. -/
def ucut (l : List UInt8) : Nat := ucutGo l 3 1
theorem ucutGo_succ (l : List UInt8) (f k : Nat) : ucutGo l (f + 1) k = if k ≤ l.length then
      (if 0 < uMany ((l.drop (l.length - k)).headD 0).toNat then (if (unext (l.drop (l.length - k))).2.2 = 18 then l.length - k else l.length) else ucutGo l f (k + 1))
    else l.length := rfl
/-- The bytes of a unit behind its first one begin no character. -/
theorem ugo_tail (m : Nat) : ∀ (t : List UInt8) (x lo hi n : Nat), 128 ≤ lo → hi ≤ 191 → n ≤ m → ∀ i, i < (ugo m t x lo hi n).2.1 - n → uMany (t.getD i 0).toNat = 0 := by
  intro t
  induction t with
  | nil =>
    intro x lo hi n _ _ hn i hi'
    exfalso
    rw [ugo_nil] at hi'
    split at hi'
    · simp at hi'; omega
    · simp at hi'
  | cons c t ih =>
    intro x lo hi n h1 h2 hn i hi'
    rw [ugo_cons] at hi'
    split at hi'
    · simp at hi'; omega
    · split at hi'
      · simp at hi'
      · cases i with
        | zero => simp; exact uMany_0 (by omega) (by omega)
        | succ i =>
          rw [List.getD_cons_succ]
          exact ih (x * 64 + c.toNat % 64) 128 191 (n + 1) (by omega) (by omega) (by omega) i (by omega)
theorem unext_tail (l : List UInt8) (i : Nat) (h0 : 0 < i) (h : i < (unext l).2.1) : uMany (l.getD i 0).toNat = 0 := by
  cases l with
  | nil => simp [unext] at h
  | cons b t =>
    rw [unext] at h
    split at h
    · simp at h; omega
    · rename_i hb
      have hm := uBad_many hb
      cases i with
      | zero => omega
      | succ i =>
        rw [List.getD_cons_succ]
        exact ugo_tail (uMany b.toNat) t (uLow b.toNat) (uFrom b.toNat) (uTo b.toNat) 1 (uFrom_le _) (uTo_le _) (by omega) i (by omega)
theorem headD_drop (l : List UInt8) (i : Nat) : (l.drop i).headD 0 = l.getD i 0 := by
  rw [List.headD_eq_head?_getD, List.head?_drop, List.getD_eq_getElem?_getD]
theorem unext_le4 (l : List UInt8) : (unext l).2.1 ≤ 4 := by
  cases l with
  | nil => simp [unext]
  | cons b t =>
    rw [unext]
    split
    · simp
    · rename_i hb
      have hm := uBad_many hb
      have := ugo_pos (uMany b.toNat) t (uLow b.toNat) (uFrom b.toNat) (uTo b.toNat) 1 (by omega)
      omega
theorem ugo_more_lt (m : Nat) : ∀ (t : List UInt8) (x lo hi n : Nat), (ugo m t x lo hi n).2.2 = 18 → (ugo m t x lo hi n).2.1 < m := by
  intro t
  induction t with
  | nil =>
    intro x lo hi n h
    rw [ugo_nil] at h ⊢
    split at h
    · simp at h
    · rename_i hm; rw [if_neg hm]; simp; omega
  | cons c t ih =>
    intro x lo hi n h
    rw [ugo_cons] at h ⊢
    split at h
    · simp at h
    · rename_i hm
      rw [if_neg hm]
      split at h
      · simp at h
      · rename_i hc
        rw [if_neg hc]
        exact ih _ _ _ _ h
theorem unext_more_lt (l : List UInt8) (h0 : 0 < l.length) (h : (unext l).2.2 = 18) : l.length ≤ 3 ∧ 0 < uMany (l.headD 0).toNat := by
  have hl := unext_more l h
  cases l with
  | nil => simp at h0
  | cons b t =>
    rw [unext] at h hl
    split at h
    · simp at h
    · rename_i hb
      rw [if_neg hb] at hl
      have hm := uBad_many hb
      have := ugo_more_lt _ _ _ _ _ _ h
      exact ⟨by omega, by simp; omega⟩
theorem ucut_nil : ucut [] = 0 := rfl
/-- A unit that is not whole: nothing is ahead of it. -/
theorem ucut_more (l : List UInt8) (h0 : 0 < l.length) (h : (unext l).2.2 = 18) : ucut l = 0 := by
  obtain ⟨h3, hm⟩ := unext_more_lt l h0 h
  have hn := unext_more l h
  suffices hs : ∀ f k, 1 ≤ k → k ≤ l.length → l.length ≤ k + f → ucutGo l (f + 1) k = 0 from hs 2 1 (by omega) (by omega) (by omega)
  intro f
  induction f with
  | zero =>
    intro k h1 h2 h4
    have : k = l.length := by omega
    subst this
    rw [ucutGo_succ, if_pos (Nat.le_refl _), Nat.sub_self, List.drop_zero, if_pos hm, if_pos h]
  | succ f ih =>
    intro k h1 h2 h4
    rw [ucutGo_succ, if_pos h2]
    by_cases hk : k = l.length
    · subst hk
      rw [Nat.sub_self, List.drop_zero, if_pos hm, if_pos h]
    · rw [headD_drop, unext_tail l (l.length - k) (by omega) (by omega), if_neg (by omega)]
      exact ih (k + 1) (by omega) (by omega) (by omega)
/-- A whole unit, or a malformed one: what is ahead of the beginning at the end is it, and what is behind it. -/
theorem ucut_step (l : List UInt8) (h0 : 0 < l.length) (h : (unext l).2.2 ≠ 18) : ucut l = (unext l).2.1 + ucut (l.drop (unext l).2.1) := by
  have hp := unext_pos l h0
  obtain ⟨n, hn⟩ : ∃ n, (unext l).2.1 = n := ⟨_, rfl⟩
  have ht := fun i h1 h2 => unext_tail l i h1 h2
  rw [hn] at hp ht ⊢
  -- behind the unit's end nothing is found any more
  have hend : ∀ f k, l.length - n < k → ucutGo l f k = l.length := by
    intro f
    induction f with
    | zero => intro k _; rfl
    | succ f ih =>
      intro k hk
      rw [ucutGo_succ]
      by_cases h2 : k ≤ l.length
      · rw [if_pos h2]
        by_cases hz : k = l.length
        · subst hz
          rw [Nat.sub_self, List.drop_zero, if_neg h]
          split
          · rfl
          · exact ih _ (by omega)
        · rw [headD_drop, ht (l.length - k) (by omega) (by omega), if_neg (by omega)]
          exact ih _ (by omega)
      · rw [if_neg h2]
  have hgo : ∀ f k, 1 ≤ k → ucutGo l f k = n + ucutGo (l.drop n) f k := by
    intro f
    induction f with
    | zero => intro k _; simp only [ucutGo, List.length_drop]; omega
    | succ f ih =>
      intro k h1
      by_cases hk : k ≤ l.length - n
      · have hd : (l.drop n).length = l.length - n := List.length_drop
        rw [ucutGo_succ, ucutGo_succ, hd, if_pos (show k ≤ l.length by omega), if_pos hk, List.drop_drop, show n + (l.length - n - k) = l.length - k from by omega]
        by_cases hq : 0 < uMany ((l.drop (l.length - k)).headD 0).toNat
        · rw [if_pos hq, if_pos hq]
          split <;> omega
        · rw [if_neg hq, if_neg hq]
          exact ih _ (by omega)
      · rw [hend _ _ (by omega), ucutGo_succ, if_neg (by rw [List.length_drop]; omega), List.length_drop]
        omega
  exact hgo 3 1 (by omega)
theorem ucut_le (l : List UInt8) : ucut l ≤ l.length := by
  suffices hs : ∀ f k, ucutGo l f k ≤ l.length from hs 3 1
  intro f
  induction f with
  | zero => intro k; exact Nat.le_refl _
  | succ f ih =>
    intro k
    rw [ucutGo_succ]
    split
    · split
      · split <;> omega
      · exact ih _
    · omega
theorem ucut_ge (l : List UInt8) : l.length ≤ ucut l + 3 := by
  suffices hs : ∀ f k, k + f ≤ 4 → l.length ≤ ucutGo l f k + 3 from hs 3 1 (by omega)
  intro f
  induction f with
  | zero => intro k _; show l.length ≤ l.length + 3; omega
  | succ f ih =>
    intro k hk
    rw [ucutGo_succ]
    split
    · split
      · split <;> omega
      · exact ih _ (by omega)
    · omega
/-- The reference's loop over all units keeps the place of the last one that is not whole: that is where bytes may be cut. -/
theorem lastMore_ucut : ∀ (f : Nat) (t : List UInt8) (at' cut : Nat), t.length ≤ f → lastMore unext f t at' cut = if ucut t < t.length then at' + ucut t else cut := by
  intro f
  induction f with
  | zero =>
    intro t a c h
    have : t = [] := List.eq_nil_of_length_eq_zero (by omega)
    subst this
    simp [lastMore]
  | succ f ih =>
    intro t a c h
    by_cases h0 : t.length = 0
    · have : t = [] := List.eq_nil_of_length_eq_zero h0
      subst this
      simp [lastMore]
    · have hp := unext_pos t (by omega)
      rw [lastMore, if_neg h0, ih _ _ _ (by rw [List.length_drop]; omega)]
      by_cases hm : (unext t).2.2 = 18
      · have hc := ucut_more t (by omega) hm
        have hn := unext_more t hm
        rw [if_pos hm, hn, List.drop_length, ucut_nil, hc, if_neg (by simp), if_pos (by omega)]
        rfl
      · have hs := ucut_step t (by omega) hm
        rw [if_neg hm, hs, List.length_drop]
        by_cases hx : ucut (t.drop (unext t).2.1) < t.length - (unext t).2.1
        · rw [if_pos hx, if_pos (by omega)]; omega
        · rw [if_neg hx, if_neg (by omega)]
theorem lastMore_utf (l : List UInt8) : lastMore unext l.length l 0 l.length = ucut l := by
  rw [lastMore_ucut _ _ _ _ (Nat.le_refl _)]
  have := ucut_le l
  split <;> omega

end Pl
end Go.Proofs.YtlfhmkjomogkiaaDoor
