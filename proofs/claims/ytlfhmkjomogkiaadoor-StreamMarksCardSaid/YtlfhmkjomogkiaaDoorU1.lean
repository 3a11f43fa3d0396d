/- Plain: UTF-8: the character with which bytes begin, a character's bytes; that it is such a coding. -/
import Derived.Test.YtlfhmkjomogkiaaDoorPlain4
namespace Go.Proofs.YtlfhmkjomogkiaaDoor
namespace Pl

/-- How many bytes a character has that begins with a byte; 0: none does. -/
def uMany (b : Nat) : Nat := if b < 128 then 1 else if b < 192 then 0 else if b < 224 then 2 else if b < 240 then 3 else if b < 248 then 4 else 0
/-- A first byte's bits of the character. -/
def uLow (b : Nat) : Nat := if b < 128 then b else if b < 192 then 0 else if b < 224 then b - 192 else if b < 240 then b - 224 else if b < 248 then b - 240 else 0
def uFrom (b : Nat) : Nat := if b = 224 then 160 else if b = 240 then 144 else 128
def uTo (b : Nat) : Nat := if b = 237 then 159 else if b = 244 then 143 else 191
/-- The bytes behind the first one. -/
def ugo (m : Nat) : List UInt8 → Nat → Nat → Nat → Nat → Int × Nat × Int
  | [], x, _, _, n => if m ≤ n then ((x : Int), m, 0) else (0, n, 18)
  | c :: t, x, lo, hi, n => if m ≤ n then ((x : Int), m, 0) else if c.toNat < lo ∨ hi < c.toNat then (0, n, 17) else ugo m t (x * 64 + c.toNat % 64) 128 191 (n + 1)
theorem ugo_nil (m x lo hi n : Nat) : ugo m [] x lo hi n = if m ≤ n then ((x : Int), m, 0) else (0, n, 18) := rfl
theorem ugo_cons (m x lo hi n : Nat) (c : UInt8) (t : List UInt8) : ugo m (c :: t) x lo hi n = if m ≤ n then ((x : Int), m, 0) else if c.toNat < lo ∨ hi < c.toNat then (0, n, 17) else ugo m t (x * 64 + c.toNat % 64) 128 191 (n + 1) := rfl
/-- Does no character begin with a byte? -/
def uBadB (b : Nat) : Bool := uMany b == 0 || (uMany b == 2 && decide (b < 194)) || decide (244 < b)
/-- The character with which bytes begin, how many bytes it has, and the error. -/
def unext : List UInt8 → Int × Nat × Int
  | [] => (0, 0, 18)
  | b :: t => if uBadB b.toNat = true then (0, 1, 17) else ugo (uMany b.toNat) t (uLow b.toNat) (uFrom b.toNat) (uTo b.toNat) 1
/-- A character's bytes. -/
def uchN (n : Nat) : List Nat :=
  if n < 128 then [n] else if n < 2048 then [192 + n / 64, 128 + n % 64] else if n < 65536 then [224 + n / 4096, 128 + n / 64 % 64, 128 + n % 64]
  else [240 + n / 262144, 128 + n / 4096 % 64, 128 + n / 64 % 64, 128 + n % 64]
def uch (r : Int) : List UInt8 := (uchN r.toNat).map UInt8.ofNat
/-- How many bytes a character has. -/
def ulen (r : Int) : Nat := if scal r then (uch r).length else 0

theorem uMany_cases (b : Nat) : (uMany b = 0 ∧ ((128 ≤ b ∧ b < 192) ∨ 248 ≤ b)) ∨ (uMany b = 1 ∧ b < 128 ∧ uLow b = b) ∨ (uMany b = 2 ∧ 192 ≤ b ∧ b < 224 ∧ uLow b = b - 192) ∨ (uMany b = 3 ∧ 224 ≤ b ∧ b < 240 ∧ uLow b = b - 224) ∨ (uMany b = 4 ∧ 240 ≤ b ∧ b < 248 ∧ uLow b = b - 240) := by
  unfold uMany uLow
  by_cases h1 : b < 128
  · simp [h1]
  · by_cases h2 : b < 192
    · simp [h1, h2]; omega
    · by_cases h3 : b < 224
      · simp [h1, h2, h3]; omega
      · by_cases h4 : b < 240
        · simp [h1, h2, h3, h4]; omega
        · by_cases h5 : b < 248
          · simp [h1, h2, h3, h4, h5]; omega
          · simp [h1, h2, h3, h4, h5]; omega
theorem ugo_pos (m : Nat) : ∀ (t : List UInt8) (x lo hi n : Nat), n ≤ m → n ≤ (ugo m t x lo hi n).2.1 ∧ (ugo m t x lo hi n).2.1 ≤ n + t.length ∧ (ugo m t x lo hi n).2.1 ≤ m := by
  intro t
  induction t with
  | nil => intro x lo hi n h; rw [ugo_nil]; split <;> simp <;> omega
  | cons c t ih =>
    intro x lo hi n h
    rw [ugo_cons]
    split
    · simp; omega
    · split
      · simp; omega
      · have := ih (x * 64 + c.toNat % 64) 128 191 (n + 1) (by omega)
        simp only [List.length_cons]; omega
theorem uBad_many {b : Nat} (h : ¬ uBadB b = true) : 1 ≤ uMany b ∧ uMany b ≤ 4 ∧ b ≤ 244 ∧ (uMany b = 2 → 194 ≤ b) := by
  have hc := uMany_cases b
  simp [uBadB] at h
  omega
theorem unext_pos (t : List UInt8) (h : 0 < t.length) : 1 ≤ (unext t).2.1 ∧ (unext t).2.1 ≤ t.length := by
  cases t with
  | nil => simp at h
  | cons b t =>
    rw [unext]
    split
    · simp
    · rename_i hb
      have h1 := uBad_many hb
      have := ugo_pos (uMany b.toNat) t (uLow b.toNat) (uFrom b.toNat) (uTo b.toNat) 1 (by omega)
      simp only [List.length_cons]; omega
theorem ugo_app (m : Nat) (u : List UInt8) : ∀ (t : List UInt8) (x lo hi n : Nat), (ugo m t x lo hi n).2.2 ≠ 18 → ugo m (t ++ u) x lo hi n = ugo m t x lo hi n := by
  intro t
  induction t with
  | nil =>
    intro x lo hi n h
    rw [ugo_nil] at h
    split at h
    · rename_i hm
      rw [ugo_nil, if_pos hm]
      cases u with
      | nil => rw [List.append_nil, ugo_nil, if_pos hm]
      | cons c u => rw [List.nil_append, ugo_cons, if_pos hm]
    · exact absurd rfl h
  | cons c t ih =>
    intro x lo hi n h
    rw [List.cons_append, ugo_cons, ugo_cons]
    rw [ugo_cons] at h
    split
    · rfl
    · rename_i hm
      rw [if_neg hm] at h
      split
      · rfl
      · rename_i hc
        rw [if_neg hc] at h
        exact ih _ _ _ _ h
theorem unext_app (u t : List UInt8) (hm : (unext u).2.2 ≠ 18) : unext (u ++ t) = unext u := by
  cases u with
  | nil => exact absurd rfl hm
  | cons b u =>
    rw [List.cons_append, unext, unext]
    rw [unext] at hm
    split
    · rfl
    · rename_i hb
      rw [if_neg hb] at hm
      exact ugo_app _ _ _ _ _ _ _ hm
theorem ugo_more (m : Nat) : ∀ (t : List UInt8) (x lo hi n : Nat), (ugo m t x lo hi n).2.2 = 18 → (ugo m t x lo hi n).2.1 = n + t.length := by
  intro t
  induction t with
  | nil =>
    intro x lo hi n h
    rw [ugo_nil] at h ⊢
    split at h
    · simp at h
    · rename_i hm; rw [if_neg hm]; rfl
  | cons c t ih =>
    intro x lo hi n h
    rw [ugo_cons] at h ⊢
    split at h
    · simp at h
    · rename_i hm
      rw [if_neg hm]
      split at h
      · simp at h
      · rename_i hc
        rw [if_neg hc, ih _ _ _ _ h]
        simp only [List.length_cons]; omega
theorem unext_more (t : List UInt8) (h : (unext t).2.2 = 18) : (unext t).2.1 = t.length := by
  cases t with
  | nil => rfl
  | cons b t =>
    rw [unext] at h ⊢
    split at h
    · simp at h
    · rename_i hb
      rw [if_neg hb, ugo_more _ _ _ _ _ _ h]
      simp only [List.length_cons]; omega
theorem of_u8 (n : Nat) (h : n < 256) : (UInt8.ofNat n).toNat = n := by rw [UInt8.toNat_ofNat']; exact Nat.mod_eq_of_lt h
theorem u8_of (b : UInt8) (n : Nat) (h : n = b.toNat) : UInt8.ofNat n = b := by subst h; simp
theorem uchN_1 {n : Nat} (h : n < 128) : uchN n = [n] := by simp [uchN, h]
theorem uchN_2 {n : Nat} (h0 : ¬ n < 128) (h : n < 2048) : uchN n = [192 + n / 64, 128 + n % 64] := by simp [uchN, h0, h]
theorem uchN_3 {n : Nat} (h0 : ¬ n < 2048) (h : n < 65536) : uchN n = [224 + n / 4096, 128 + n / 64 % 64, 128 + n % 64] := by
  have : ¬ n < 128 := by omega
  simp [uchN, this, h0, h]
theorem uchN_4 {n : Nat} (h : ¬ n < 65536) : uchN n = [240 + n / 262144, 128 + n / 4096 % 64, 128 + n / 64 % 64, 128 + n % 64] := by
  have h1 : ¬ n < 128 := by omega
  have h2 : ¬ n < 2048 := by omega
  simp [uchN, h1, h2, h]
theorem unext_cons {b : UInt8} {t : List UInt8} {B : Nat} (hB : b.toNat = B) (hbad : uBadB B = false) : unext (b :: t) = ugo (uMany B) t (uLow B) (uFrom B) (uTo B) 1 := by
  subst hB; rw [unext, if_neg (by rw [hbad]; decide)]
theorem ugo_end (m : Nat) (t : List UInt8) (x lo hi : Nat) : ugo m t x lo hi m = ((x : Int), m, 0) := by
  cases t with
  | nil => rw [ugo_nil, if_pos (Nat.le_refl _)]
  | cons c t => rw [ugo_cons, if_pos (Nat.le_refl _)]
theorem ugo_step {m x lo hi n c' : Nat} {c : UInt8} (t : List UInt8) (h : n < m) (hc : c.toNat = c') (h1 : lo ≤ c') (h2 : c' ≤ hi) : ugo m (c :: t) x lo hi n = ugo m t (x * 64 + c' % 64) 128 191 (n + 1) := by
  subst hc; rw [ugo_cons, if_neg (by omega), if_neg (by omega)]
theorem uMany_2 {b : Nat} (h1 : 192 ≤ b) (h2 : b < 224) : uMany b = 2 := by have := uMany_cases b; omega
theorem uMany_3 {b : Nat} (h1 : 224 ≤ b) (h2 : b < 240) : uMany b = 3 := by have := uMany_cases b; omega
theorem uMany_4 {b : Nat} (h1 : 240 ≤ b) (h2 : b < 248) : uMany b = 4 := by have := uMany_cases b; omega
theorem uMany_1 {b : Nat} (h2 : b < 128) : uMany b = 1 := by have := uMany_cases b; omega
theorem uMany_0 {b : Nat} (h1 : 128 ≤ b) (h2 : b < 192) : uMany b = 0 := by have := uMany_cases b; omega
theorem uLow_2 {b : Nat} (h1 : 192 ≤ b) (h2 : b < 224) : uLow b = b - 192 := by have := uMany_cases b; omega
theorem uLow_3 {b : Nat} (h1 : 224 ≤ b) (h2 : b < 240) : uLow b = b - 224 := by have := uMany_cases b; omega
theorem uLow_4 {b : Nat} (h1 : 240 ≤ b) (h2 : b < 248) : uLow b = b - 240 := by have := uMany_cases b; omega
theorem uLow_1 {b : Nat} (h2 : b < 128) : uLow b = b := by have := uMany_cases b; omega
theorem uBad_2 {b : Nat} (h1 : 194 ≤ b) (h2 : b < 224) : uBadB b = false := by simp [uBadB, uMany_2 (by omega) h2]; omega
theorem uBad_3 {b : Nat} (h1 : 224 ≤ b) (h2 : b < 240) : uBadB b = false := by simp [uBadB, uMany_3 h1 h2]; omega
theorem uBad_4 {b : Nat} (h1 : 240 ≤ b) (h2 : b ≤ 244) : uBadB b = false := by simp [uBadB, uMany_4 h1 (by omega)]; omega
theorem uBad_1 {b : Nat} (h2 : b < 128) : uBadB b = false := by simp [uBadB, uMany_1 h2]; omega
theorem uFrom_le (b : Nat) : 128 ≤ uFrom b := by unfold uFrom; split <;> (try split) <;> omega
theorem uTo_le (b : Nat) : uTo b ≤ 191 := by unfold uTo; split <;> (try split) <;> omega
theorem uFrom_val (b : Nat) : (b = 224 → uFrom b = 160) ∧ (b = 240 → uFrom b = 144) ∧ (b ≠ 224 → b ≠ 240 → uFrom b = 128) := by
  unfold uFrom
  refine ⟨fun h => by simp [h], fun h => by simp [h], fun h1 h2 => by simp [h1, h2]⟩
theorem uTo_val (b : Nat) : (b = 237 → uTo b = 159) ∧ (b = 244 → uTo b = 143) ∧ (b ≠ 237 → b ≠ 244 → uTo b = 191) := by
  unfold uTo
  refine ⟨fun h => by simp [h], fun h => by simp [h], fun h1 h2 => by simp [h1, h2]⟩
theorem scalN (n : Nat) : scal n = true ↔ n < 55296 ∨ (57343 < n ∧ n ≤ 1114111) := by simp [scal]; omega
theorem uch_find (r : Int) (rest : List UInt8) (hs : scal r = true) : unext (uch r ++ rest) = (r, (uch r).length, 0) := by
  have hr : 0 ≤ r := by simp [scal] at hs; omega
  obtain ⟨n, rfl⟩ := Int.eq_ofNat_of_zero_le hr
  have hn := (scalN n).1 hs
  have hN : ((n : Int)).toNat = n := rfl
  unfold uch
  rw [hN]
  by_cases h1 : n < 128
  · rw [uchN_1 h1]
    simp only [List.map_cons, List.map_nil, List.cons_append, List.nil_append, List.length_cons, List.length_nil]
    rw [unext_cons (of_u8 n (by omega)) (uBad_1 h1), uMany_1 h1, uLow_1 h1, ugo_end]
  by_cases h2 : n < 2048
  · rw [uchN_2 h1 h2]
    simp only [List.map_cons, List.map_nil, List.cons_append, List.nil_append, List.length_cons, List.length_nil]
    have hf := uFrom_val (192 + n / 64)
    have ht := uTo_val (192 + n / 64)
    rw [unext_cons (of_u8 (192 + n / 64) (by omega)) (uBad_2 (by omega) (by omega)), uMany_2 (by omega) (by omega), uLow_2 (by omega) (by omega),
      ugo_step _ (by omega) (of_u8 (128 + n % 64) (by omega)) (by omega) (by omega), ugo_end]
    simp only [Prod.mk.injEq, and_true]; omega
  by_cases h3 : n < 65536
  · rw [uchN_3 h2 h3]
    simp only [List.map_cons, List.map_nil, List.cons_append, List.nil_append, List.length_cons, List.length_nil]
    have hf := uFrom_val (224 + n / 4096)
    have ht := uTo_val (224 + n / 4096)
    rw [unext_cons (of_u8 (224 + n / 4096) (by omega)) (uBad_3 (by omega) (by omega)), uMany_3 (by omega) (by omega), uLow_3 (by omega) (by omega),
      ugo_step _ (by omega) (of_u8 (128 + n / 64 % 64) (by omega)) (by omega) (by omega), ugo_step _ (by omega) (of_u8 (128 + n % 64) (by omega)) (by omega) (by omega), ugo_end]
    simp only [Prod.mk.injEq, and_true]; omega
  · rw [uchN_4 h3]
    simp only [List.map_cons, List.map_nil, List.cons_append, List.nil_append, List.length_cons, List.length_nil]
    have hf := uFrom_val (240 + n / 262144)
    have ht := uTo_val (240 + n / 262144)
    rw [unext_cons (of_u8 (240 + n / 262144) (by omega)) (uBad_4 (by omega) (by omega)), uMany_4 (by omega) (by omega), uLow_4 (by omega) (by omega),
      ugo_step _ (by omega) (of_u8 (128 + n / 4096 % 64) (by omega)) (by omega) (by omega), ugo_step _ (by omega) (of_u8 (128 + n / 64 % 64) (by omega)) (by omega) (by omega),
      ugo_step _ (by omega) (of_u8 (128 + n % 64) (by omega)) (by omega) (by omega), ugo_end]
    simp only [Prod.mk.injEq, and_true]; omega
/-- A byte more was read. -/
theorem ugo_ok_step {m x lo hi n : Nat} {t : List UInt8} (h : n < m) (he : (ugo m t x lo hi n).2.2 = 0) :
    ∃ c u, t = c :: u ∧ lo ≤ c.toNat ∧ c.toNat ≤ hi ∧ ugo m t x lo hi n = ugo m u (x * 64 + c.toNat % 64) 128 191 (n + 1) := by
  cases t with
  | nil => rw [ugo_nil, if_neg (by omega)] at he; simp at he
  | cons c u =>
    by_cases hc : c.toNat < lo ∨ hi < c.toNat
    · rw [ugo_cons, if_neg (by omega), if_pos hc] at he; simp at he
    · exact ⟨c, u, rfl, by omega, by omega, by rw [ugo_cons, if_neg (by omega), if_neg hc]⟩
theorem unext_ok (t : List UInt8) (he : (unext t).2.2 = 0) : scal (unext t).1 = true ∧ t.take (unext t).2.1 = uch (unext t).1 := by
  cases t with
  | nil => simp [unext] at he
  | cons b t =>
    rw [unext] at he ⊢
    split at he
    · simp at he
    · rename_i hb
      rw [if_neg hb]
      have h1 := uBad_many hb
      have hc := uMany_cases b.toNat
      have hf := uFrom_val b.toNat
      have ht := uTo_val b.toNat
      have hbo : UInt8.ofNat b.toNat = b := u8_of b _ rfl
      generalize b.toNat = B at *
      rcases hc with ⟨h0, _⟩ | ⟨h0, hl, hw⟩ | ⟨h0, hl, hl2, hw⟩ | ⟨h0, hl, hl2, hw⟩ | ⟨h0, hl, hl2, hw⟩
      · omega
      · rw [h0, ugo_end, hw]
        refine ⟨(scalN B).2 (by omega), ?_⟩
        show [b] = uch (B : Int)
        unfold uch
        rw [show ((B : Int)).toNat = B from rfl, uchN_1 hl]
        simp [hbo]
      · rw [h0, hw] at he ⊢
        obtain ⟨c, u, rfl, c1, c2, e1⟩ := ugo_ok_step (by omega) he
        rw [e1, ugo_end]
        have hco : UInt8.ofNat c.toNat = c := u8_of c _ rfl
        generalize c.toNat = C at *
        have g0 : 128 ≤ C := by omega
        have g1 : C ≤ 191 := by omega
        refine ⟨(scalN _).2 (by omega), ?_⟩
        show [b, c] = uch (((B - 192) * 64 + C % 64 : Nat) : Int)
        unfold uch
        rw [show ((((B - 192) * 64 + C % 64 : Nat)) : Int).toNat = (B - 192) * 64 + C % 64 from rfl, uchN_2 (by omega) (by omega)]
        rw [show 192 + ((B - 192) * 64 + C % 64) / 64 = B from by omega, show 128 + ((B - 192) * 64 + C % 64) % 64 = C from by omega]
        simp [hbo, hco]
      · rw [h0, hw] at he ⊢
        obtain ⟨c, u, rfl, c1, c2, e1⟩ := ugo_ok_step (by omega) he
        rw [e1] at he ⊢
        obtain ⟨d, u, rfl, d1, d2, e2⟩ := ugo_ok_step (by omega) he
        rw [e2, ugo_end]
        have hco : UInt8.ofNat c.toNat = c := u8_of c _ rfl
        have hdo : UInt8.ofNat d.toNat = d := u8_of d _ rfl
        generalize c.toNat = C at *
        generalize d.toNat = D at *
        have g0 : 128 ≤ C := by omega
        have g1 : C ≤ 191 := by omega
        have hx : ((B - 224) * 64 + C % 64) * 64 + D % 64 = (B - 224) * 4096 + (C - 128) * 64 + (D - 128) := by omega
        rw [hx]
        refine ⟨(scalN _).2 (by omega), ?_⟩
        show [b, c, d] = uch (((B - 224) * 4096 + (C - 128) * 64 + (D - 128) : Nat) : Int)
        unfold uch
        rw [show ((((B - 224) * 4096 + (C - 128) * 64 + (D - 128) : Nat)) : Int).toNat = (B - 224) * 4096 + (C - 128) * 64 + (D - 128) from rfl, uchN_3 (by omega) (by omega)]
        rw [show 224 + ((B - 224) * 4096 + (C - 128) * 64 + (D - 128)) / 4096 = B from by omega, show 128 + ((B - 224) * 4096 + (C - 128) * 64 + (D - 128)) / 64 % 64 = C from by omega, show 128 + ((B - 224) * 4096 + (C - 128) * 64 + (D - 128)) % 64 = D from by omega]
        simp [hbo, hco, hdo]
      · rw [h0, hw] at he ⊢
        obtain ⟨c, u, rfl, c1, c2, e1⟩ := ugo_ok_step (by omega) he
        rw [e1] at he ⊢
        obtain ⟨d, u, rfl, d1, d2, e2⟩ := ugo_ok_step (by omega) he
        rw [e2] at he ⊢
        obtain ⟨g, u, rfl, d3, d4, e3⟩ := ugo_ok_step (by omega) he
        rw [e3, ugo_end]
        have hco : UInt8.ofNat c.toNat = c := u8_of c _ rfl
        have hdo : UInt8.ofNat d.toNat = d := u8_of d _ rfl
        have hgo : UInt8.ofNat g.toNat = g := u8_of g _ rfl
        generalize c.toNat = C at *
        generalize d.toNat = D at *
        generalize g.toNat = G at *
        have g0 : 128 ≤ C := by omega
        have g1 : C ≤ 191 := by omega
        have hx : (((B - 240) * 64 + C % 64) * 64 + D % 64) * 64 + G % 64 = (B - 240) * 262144 + (C - 128) * 4096 + (D - 128) * 64 + (G - 128) := by omega
        rw [hx]
        refine ⟨(scalN _).2 (by omega), ?_⟩
        show [b, c, d, g] = uch (((B - 240) * 262144 + (C - 128) * 4096 + (D - 128) * 64 + (G - 128) : Nat) : Int)
        unfold uch
        rw [show ((((B - 240) * 262144 + (C - 128) * 4096 + (D - 128) * 64 + (G - 128) : Nat)) : Int).toNat = (B - 240) * 262144 + (C - 128) * 4096 + (D - 128) * 64 + (G - 128) from rfl, uchN_4 (by omega)]
        rw [show 240 + ((B - 240) * 262144 + (C - 128) * 4096 + (D - 128) * 64 + (G - 128)) / 262144 = B from by omega, show 128 + ((B - 240) * 262144 + (C - 128) * 4096 + (D - 128) * 64 + (G - 128)) / 4096 % 64 = C from by omega,
          show 128 + ((B - 240) * 262144 + (C - 128) * 4096 + (D - 128) * 64 + (G - 128)) / 64 % 64 = D from by omega, show 128 + ((B - 240) * 262144 + (C - 128) * 4096 + (D - 128) * 64 + (G - 128)) % 64 = G from by omega]
        simp [hbo, hco, hdo, hgo]
/-- UTF-8 is such a coding. -/
theorem utf_codec : Codec unext uch where
  pos := unext_pos
  ok := unext_ok
  find r rest h := uch_find r rest h
  app := unext_app
  more := unext_more

end Pl
end Go.Proofs.YtlfhmkjomogkiaaDoor
