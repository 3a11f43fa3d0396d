/- Plain: the characters of a text, by the model's own decoder; which texts are whole. -/
import Derived.Lib.MapLaws
import Derived.Lib.ValidU
import Derived.Laws.IdiomStrings
import Derived.Laws.Cover4
import Derived.Lib.RuneCount
namespace Go.Proofs.YtkfjmcidcnpijaaGreatDoor
namespace Pl
open Go.Lib

/-- A text's characters. -/
def runesN : Nat → List UInt8 → List Int
  | 0, _ => []
  | n + 1, l => if l = [] then [] else ((decodeL l).1 : Int) :: runesN n (l.drop (decodeL l).2)
theorem runesN_succ (n : Nat) (l : List UInt8) : runesN (n + 1) l = if l = [] then [] else ((decodeL l).1 : Int) :: runesN n (l.drop (decodeL l).2) := rfl
def runesL (l : List UInt8) : List Int := runesN l.length l
theorem runesN_nil (n : Nat) : runesN n [] = [] := by cases n <;> simp [runesN]
theorem decodeL_pos (l : List UInt8) : 1 ≤ (decodeL l).2 := decodeL_width l
theorem runesN_fuel : ∀ (n m : Nat) (l : List UInt8), l.length ≤ n → l.length ≤ m → runesN n l = runesN m l := by
  intro n
  induction n with
  | zero =>
    intro m l h _
    have : l = [] := List.eq_nil_of_length_eq_zero (by omega)
    subst this
    rw [runesN_nil, runesN_nil]
  | succ n ih =>
    intro m l h h2
    cases m with
    | zero =>
      have : l = [] := List.eq_nil_of_length_eq_zero (by omega)
      subst this
      rw [runesN_nil, runesN_nil]
    | succ m =>
      show (if l = [] then [] else _) = (if l = [] then [] else _)
      by_cases hl : l = []
      · rw [if_pos hl, if_pos hl]
      · rw [if_neg hl, if_neg hl]
        have hp := decodeL_pos l
        rw [ih m (l.drop (decodeL l).2) (by rw [List.length_drop]; omega) (by rw [List.length_drop]; omega)]
theorem runesL_cons (l : List UInt8) (h : l ≠ []) : runesL l = ((decodeL l).1 : Int) :: runesL (l.drop (decodeL l).2) := by
  unfold runesL
  cases hn : l.length with
  | zero => exact absurd (List.eq_nil_of_length_eq_zero hn) h
  | succ n =>
    show (if l = [] then [] else _) = _
    rw [if_neg h]
    have hp := decodeL_pos l
    rw [runesN_fuel n (l.drop (decodeL l).2).length _ (by rw [List.length_drop]; omega) (Nat.le_refl _)]
theorem runesL_nil : runesL [] = [] := rfl
theorem runesL_le (l : List UInt8) : (runesL l).length ≤ l.length := by
  have h : ∀ (n : Nat) (l : List UInt8), (runesN n l).length ≤ n := by
    intro n
    induction n with
    | zero => intro l; simp [runesN]
    | succ n ih =>
      intro l
      show (if l = [] then [] else _).length ≤ _
      split
      · simp
      · simp only [List.length_cons]; have := ih (l.drop (decodeL l).2); omega
  exact h _ l
theorem decode_scal (l : List UInt8) : ((decodeL l).1 < 55296 ∨ 57343 < (decodeL l).1) ∧ (decodeL l).1 ≤ 1114111 := by
  refine ⟨?_, decodeL_rune l⟩
  rw [decodeL_N]
  have k0 := (l.getD 0 0).toNat_lt
  have k1 := (l.getD 1 0).toNat_lt
  have k2 := (l.getD 2 0).toNat_lt
  have k3 := (l.getD 3 0).toNat_lt
  rcases decodeN_shape l.length (l.getD 0 0).toNat (l.getD 1 0).toNat (l.getD 2 0).toNat (l.getD 3 0).toNat with ⟨c, e⟩ | ⟨c1, c2, c3, cv, e⟩ | ⟨c1, c2, c3, c4, cv, cs, e⟩ | ⟨c1, c2, c3, c4, c5, cv, cw, e⟩ | e
  all_goals
    rw [e]
    dsimp only
    omega
theorem runesL_scal (l : List UInt8) : ∀ r ∈ runesL l, 0 ≤ r ∧ (r < 55296 ∨ 57343 < r) ∧ r ≤ 1114111 := by
  have h : ∀ (n : Nat) (l : List UInt8), ∀ r ∈ runesN n l, 0 ≤ r ∧ (r < 55296 ∨ 57343 < r) ∧ r ≤ 1114111 := by
    intro n
    induction n with
    | zero => intro l r hr; simp [runesN] at hr
    | succ n ih =>
      intro l r hr
      have hr : r ∈ (if l = [] then [] else _) := hr
      split at hr
      · simp at hr
      · rcases List.mem_cons.1 hr with rfl | hr
        · have := decode_scal l; omega
        · exact ih _ r hr
  exact h _ l
/-- Is what bytes begin with no character? -/
def badU (l : List UInt8) : Prop := (decodeL l).1 = 65533 ∧ (decodeL l).2 = 1
instance (l : List UInt8) : Decidable (badU l) := inferInstanceAs (Decidable (_ ∧ _))
theorem validN_fuel : ∀ (n m : Nat) (l : List UInt8), l.length ≤ n → l.length ≤ m → validGoD n l = validGoD m l := by
  intro n
  induction n with
  | zero =>
    intro m l h _
    have : l = [] := List.eq_nil_of_length_eq_zero (by omega)
    subst this
    cases m <;> simp [validGoD]
  | succ n ih =>
    intro m l h h2
    cases m with
    | zero =>
      have : l = [] := List.eq_nil_of_length_eq_zero (by omega)
      subst this
      simp [validGoD]
    | succ m =>
      show (if l = [] then true else _) = (if l = [] then true else _)
      by_cases hl : l = []
      · rw [if_pos hl, if_pos hl]
      · rw [if_neg hl, if_neg hl]
        have hp := decodeL_pos l
        rw [ih m (l.drop (decodeL l).2) (by rw [List.length_drop]; omega) (by rw [List.length_drop]; omega)]
theorem valid_nil : validD [] = true := rfl
theorem valid_cons (l : List UInt8) (h : l ≠ []) : validD l = if badU l then false else validD (l.drop (decodeL l).2) := by
  unfold validD
  cases hn : l.length with
  | zero => exact absurd (List.eq_nil_of_length_eq_zero hn) h
  | succ n =>
    show (if l = [] then true else _) = _
    rw [if_neg h]
    have hp := decodeL_pos l
    rw [validN_fuel n (l.drop (decodeL l).2).length _ (by rw [List.length_drop]; omega) (Nat.le_refl _)]
    rfl
/-- How many bytes a number wants. -/
def wlen (r : Nat) : Nat := if r < 128 then 1 else if r < 2048 then 2 else if r < 65536 then 3 else 4
theorem encZ_len (r : Nat) (h : r ≤ 1114111) : (encodeRune (r : Int)).length = wlen r := by
  unfold encodeRune encodeRuneZ wlen
  rw [List.length_map]
  by_cases h1 : r < 128
  · rw [if_pos (by omega), if_pos h1]; rfl
  · rw [if_neg (by omega), if_neg h1]
    by_cases h2 : r < 2048
    · rw [if_pos (by omega), if_pos h2]; rfl
    · rw [if_neg (by omega), if_neg h2]
      by_cases h3 : r < 65536
      · rw [if_pos h3]
        by_cases h4 : (2048 ≤ (r : Int) ∧ (r : Int) < 55296) ∨ (57343 < (r : Int) ∧ (r : Int) ≤ 65535)
        · rw [if_pos h4]; rfl
        · rw [if_neg h4, if_neg (by omega)]; rfl
      · rw [if_neg (by omega), if_pos (by omega), if_neg h3]; rfl
theorem enc_eq (r : Nat) (h : r ≤ 1114111) : (Utf8.encode (r : Int)).data.toList = encodeRune (r : Int) := by
  by_cases hv : r < 55296 ∨ 57343 < r
  · have v : Utf8.valid (r : Int) = true := by simp [Utf8.valid]; omega
    by_cases h1 : r < 128
    · have e : (Utf8.encode (r : Int)).data.toList = [UInt8.ofNat r] := by simp [Utf8.encode, v, h1]
      rw [e]
      unfold encodeRune
      rw [encodeRuneZ_one (by omega) (by omega)]
      simp only [List.map_cons, List.map_nil, Int.toNat_natCast]
    · by_cases h2 : r < 2048
      · have e : (Utf8.encode (r : Int)).data.toList = [UInt8.ofNat (192 + r / 64), UInt8.ofNat (128 + r % 64)] := by simp [Utf8.encode, v, h1, h2]
        rw [e]
        unfold encodeRune
        rw [encodeRuneZ_two (by omega) (by omega)]
        simp only [List.map_cons, List.map_nil]
        rw [show (192 + (r : Int) / 64).toNat = 192 + r / 64 from by omega, show (128 + (r : Int) % 64).toNat = 128 + r % 64 from by omega]
      · by_cases h3 : r < 65536
        · have e : (Utf8.encode (r : Int)).data.toList = [UInt8.ofNat (224 + r / 4096), UInt8.ofNat (128 + r / 64 % 64), UInt8.ofNat (128 + r % 64)] := by simp [Utf8.encode, v, h1, h2, h3]
          rw [e]
          unfold encodeRune
          rw [encodeRuneZ_three (by omega)]
          simp only [List.map_cons, List.map_nil]
          rw [show (224 + (r : Int) / 4096).toNat = 224 + r / 4096 from by omega, show (128 + (r : Int) / 64 % 64).toNat = 128 + r / 64 % 64 from by omega, show (128 + (r : Int) % 64).toNat = 128 + r % 64 from by omega]
        · have e : (Utf8.encode (r : Int)).data.toList = [UInt8.ofNat (240 + r / 262144), UInt8.ofNat (128 + r / 4096 % 64), UInt8.ofNat (128 + r / 64 % 64), UInt8.ofNat (128 + r % 64)] := by simp [Utf8.encode, v, h1, h2, h3]
          rw [e]
          unfold encodeRune
          rw [encodeRuneZ_four (by omega) (by omega)]
          simp only [List.map_cons, List.map_nil]
          rw [show (240 + (r : Int) / 262144).toNat = 240 + r / 262144 from by omega, show (128 + (r : Int) / 4096 % 64).toNat = 128 + r / 4096 % 64 from by omega, show (128 + (r : Int) / 64 % 64).toNat = 128 + r / 64 % 64 from by omega, show (128 + (r : Int) % 64).toNat = 128 + r % 64 from by omega]
  · have v : Utf8.valid (r : Int) = false := by simp [Utf8.valid]; omega
    have e : (Utf8.encode (r : Int)).data.toList = [239, 191, 189] := by simp [Utf8.encode, v, Utf8.runeError]
    rw [e]
    unfold encodeRune
    rw [encodeRuneZ_bad (by omega)]
    rfl
/-- The test of one character in the law's text: the bytes that it wants are there, and are its own. -/
def okAt (l : List UInt8) : Bool := decide (wlen (decodeL l).1 ≤ l.length) && (encodeRune ((decodeL l).1 : Int) == l.take (wlen (decodeL l).1))
theorem okAt_eq (l : List UInt8) (h : l ≠ []) : okAt l = !decide (badU l) := by
  by_cases hb : badU l
  · rw [decide_eq_true hb]
    unfold okAt
    obtain ⟨h1, h2⟩ := hb
    rw [h1, show wlen 65533 = 3 from rfl, show encodeRune ((65533 : Nat) : Int) = [239, 191, 189] from rfl]
    by_cases hl : 3 ≤ l.length
    · rw [Bool.not_true, Bool.and_eq_false_iff]
      right
      rw [beq_eq_false_iff_ne]
      intro he
      match l, hl with
      | a :: b :: c :: t, _ =>
        simp at he
        obtain ⟨rfl, rfl, rfl⟩ := he
        rw [decodeL_N] at h2
        simp [decodeN] at h2
    · rw [decide_eq_false hl]; rfl
  · rw [decide_eq_false hb]
    have he := encode_decode l h hb
    have hle := decodeL_le l h
    have hw := encZ_len (decodeL l).1 (decodeL_rune l)
    rw [he, List.length_take] at hw
    have hw2 : wlen (decodeL l).1 = (decodeL l).2 := by omega
    unfold okAt
    rw [hw2, he, decide_eq_true hle]
    simp
theorem okAt_len (l : List UInt8) (h : l ≠ []) (ho : okAt l = true) : wlen (decodeL l).1 = (decodeL l).2 ∧ (decodeL l).2 ≤ l.length := by
  rw [okAt_eq l h] at ho
  have hb : ¬ badU l := by simpa using ho
  have he := encode_decode l h hb
  have hle := decodeL_le l h
  have hw := encZ_len (decodeL l).1 (decodeL_rune l)
  rw [he, List.length_take] at hw
  omega
/-- The bytes of characters. -/
def textB (l : List Int) : List UInt8 := l.flatMap encodeRune
theorem textB_runes : ∀ (n : Nat) (l : List UInt8), l.length ≤ n → validD l = true → textB (runesL l) = l := by
  intro n
  induction n with
  | zero =>
    intro l h _
    have : l = [] := List.eq_nil_of_length_eq_zero (by omega)
    subst this
    rfl
  | succ n ih =>
    intro l h hv
    by_cases hl : l = []
    · subst hl; rfl
    · rw [valid_cons l hl] at hv
      split at hv
      · cases hv
      · rename_i hb
        have hp := decodeL_pos l
        rw [runesL_cons l hl]
        show encodeRune _ ++ textB (runesL (l.drop (decodeL l).2)) = l
        rw [ih _ (by rw [List.length_drop]; omega) hv, encode_decode l hl hb, List.take_append_drop]
theorem runesBytes_eq (l : List Int) (h : ∀ r ∈ l, 0 ≤ r ∧ r ≤ 1114111) : (runesBytes l).data.toList = textB l := by
  have hg : ∀ (l : List Int) (b : ByteArray), (∀ r ∈ l, 0 ≤ r ∧ r ≤ 1114111) → (l.foldl (fun r n => r ++ Utf8.encode n) b).data.toList = b.data.toList ++ textB l := by
    intro l
    induction l with
    | nil => intro b _; simp [textB]
    | cons a l ih =>
      intro b hl
      have ha := hl a (by simp)
      obtain ⟨r, rfl⟩ : ∃ r : Nat, a = r := ⟨a.toNat, by omega⟩
      rw [List.foldl_cons, ih _ (fun r hr => hl r (List.mem_cons_of_mem _ hr))]
      show (b ++ Utf8.encode (r : Int)).data.toList ++ _ = _ ++ (encodeRune (r : Int) ++ textB l)
      rw [← enc_eq r (by omega)]
      simp [ByteArray.data_append]
  unfold runesBytes
  rw [hg l _ h]
  rfl
/-- '[]rune(s)' is those characters. -/
theorem runes_conv (s : ByteArray) : Conv.runesFrom s s.size 0 #[] = ((runesL s.data.toList).map (Value.int .i32)).toArray := by
  have hg : ∀ (n i : Nat) (acc : Array Value), Conv.runesFrom s n i acc = acc ++ ((runesN n (s.data.toList.drop i)).map (Value.int .i32)).toArray := by
    intro n
    induction n with
    | zero => intro i acc; simp [Conv.runesFrom, runesN]
    | succ n ih =>
      intro i acc
      unfold Conv.runesFrom
      by_cases hi : i < s.size
      · rw [if_pos hi]
        have hne : s.data.toList.drop i ≠ [] := by
          intro h
          have := congrArg List.length h
          simp at this
          omega
        rw [runesN_succ, if_neg hne, decodeL_drop]
        generalize Utf8.decode s i = d
        obtain ⟨r, wd⟩ := d
        show Conv.runesFrom s n (i + wd) (acc.push _) = _
        rw [ih, List.drop_drop]
        simp
      · rw [if_neg hi]
        have hne : s.data.toList.drop i = [] := List.drop_eq_nil_of_le (by simp; omega)
        rw [hne, runesN_nil]
        simp
  rw [hg]
  unfold runesL
  simp
theorem runeCount_eq (s : ByteArray) : runeCount s = (runesL s.data.toList).length := by
  have hg : ∀ (n i : Nat), runeCountFrom s n i = (runesN n (s.data.toList.drop i)).length := by
    intro n
    induction n with
    | zero => intro i; simp [runeCountFrom, runesN]
    | succ n ih =>
      intro i
      unfold runeCountFrom
      by_cases hi : i < s.size
      · rw [if_pos hi]
        have hne : s.data.toList.drop i ≠ [] := by
          intro h
          have := congrArg List.length h
          simp at this
          omega
        rw [runesN_succ, if_neg hne, ih, decodeL_drop, List.drop_drop, List.length_cons]
        omega
      · rw [if_neg hi]
        have hne : s.data.toList.drop i = [] := List.drop_eq_nil_of_le (by simp; omega)
        rw [hne, runesN_nil]
        rfl
  unfold runeCount
  rw [hg]
  unfold runesL
  simp
end Pl
end Go.Proofs.YtkfjmcidcnpijaaGreatDoor
