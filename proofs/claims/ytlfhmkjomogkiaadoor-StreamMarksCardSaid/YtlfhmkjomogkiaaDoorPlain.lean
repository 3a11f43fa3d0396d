/- Plain arithmetic on bytes and units, without any program: the words that the walks and the laws of this seat share. -/
namespace Go.Proofs.YtlfhmkjomogkiaaDoor
namespace Pl

/-- A number of bytes, the highest first. -/
def num (l : List UInt8) : Nat := l.foldl (fun n b => n * 256 + b.toNat) 0
theorem num_nil : num [] = 0 := rfl
theorem num_snoc (l : List UInt8) (b : UInt8) : num (l ++ [b]) = num l * 256 + b.toNat := by simp [num, List.foldl_append]
theorem num_lt (l : List UInt8) : num l < 256 ^ l.length := by
  suffices h : ∀ k, ∀ l : List UInt8, l.length = k → num l < 256 ^ k from h _ l rfl
  intro k
  induction k with
  | zero => intro l h; simp [List.eq_nil_of_length_eq_zero h, num]
  | succ k ih =>
    intro l h
    have hne : l ≠ [] := by intro e; simp [e] at h
    rw [← List.dropLast_concat_getLast hne, num_snoc]
    have := ih l.dropLast (by simp [h])
    have hb := (l.getLast hne).toNat_lt
    rw [Nat.pow_succ]; omega

/-- Is a number a character? -/
def scal (r : Int) : Bool := (decide (0 ≤ r) && decide (r < 55296)) || (decide (57343 < r) && decide (r ≤ 1114111))

/-- How many bytes a unit of a kind has. -/
def wsize (k : Int) : Nat := if k ≤ 2 then 2 else 4
/-- The bytes of a unit, the highest first. -/
def ordB (big : Bool) (l : List UInt8) : List UInt8 := if big then l else l.reverse

/-- The number of the unit with which bytes begin. -/
def unitN (size : Nat) (big : Bool) (l : List UInt8) : Nat := num (ordB big (l.take size))

theorem unitN_lt (size : Nat) (big : Bool) (l : List UInt8) : unitN size big l < 256 ^ size := by
  unfold unitN
  refine Nat.lt_of_lt_of_le (num_lt _) ?_
  have : (ordB big (l.take size)).length ≤ size := by unfold ordB; split <;> simp <;> omega
  exact Nat.pow_le_pow_right (by omega) this

theorem take_snoc_l {α : Type} (l : List α) (k : Nat) (h : k < l.length) : l.take (k + 1) = l.take k ++ [l[k]] := List.take_succ_eq_append_getElem h
theorem byte_at (s : ByteArray) (k : Nat) (h : k < s.size) : s.data.toList[k]'(by simpa using h) = s[k] := by simp [ByteArray.getElem_eq_getElem_data]
/-- One byte more of a unit. -/
theorem unit_step_big (s : ByteArray) (size k : Nat) (hk : k < size) (hs : size ≤ s.size) (hks : k < s.size) :
    num ((ordB true (s.data.toList.take size)).take (k + 1)) = num ((ordB true (s.data.toList.take size)).take k) * 256 + s[k].toNat := by
  unfold ordB
  have hl : k < (s.data.toList.take size).length := by
    have : s.data.toList.length = s.size := by simp
    rw [List.length_take]; omega
  rw [if_pos rfl, take_snoc_l _ k hl, num_snoc]
  rw [List.getElem_take, byte_at s k hks]
theorem unit_step_little (s : ByteArray) (size k : Nat) (hk : k < size) (hs : size ≤ s.size) (hks : size - 1 - k < s.size) :
    num ((ordB false (s.data.toList.take size)).take (k + 1)) = num ((ordB false (s.data.toList.take size)).take k) * 256 + s[size - 1 - k].toNat := by
  unfold ordB
  have hd : s.data.toList.length = s.size := by simp
  have hl : k < (s.data.toList.take size).reverse.length := by
    rw [List.length_reverse, List.length_take]; omega
  rw [if_neg (by decide), take_snoc_l _ k hl, num_snoc]
  rw [List.getElem_reverse, List.getElem_take]
  have he : (s.data.toList.take size).length - 1 - k = size - 1 - k := by rw [List.length_take]; omega
  rw [← byte_at s _ hks]
  congr 2
  simp only [he]
theorem unit_part_lt (s : ByteArray) (big : Bool) (size k : Nat) : num ((ordB big (s.data.toList.take size)).take k) < 256 ^ k := by
  refine Nat.lt_of_lt_of_le (num_lt _) (Nat.pow_le_pow_right (by omega) ?_)
  exact List.length_take_le _ _
theorem unit_part_le (s : ByteArray) (big : Bool) (size k : Nat) (hk : k < 4) : num ((ordB big (s.data.toList.take size)).take k) ≤ 16777215 := by
  have h := unit_part_lt s big size k
  have : (256 : Nat) ^ k ≤ 256 ^ 3 := Nat.pow_le_pow_right (by omega) (by omega)
  omega
theorem unit_whole (s : ByteArray) (big : Bool) (size : Nat) : num ((ordB big (s.data.toList.take size)).take size) = unitN size big s.data.toList := by
  unfold unitN
  rw [List.take_of_length_le]
  unfold ordB; split <;> simp <;> omega

/-- The character with which wide bytes begin, how many bytes it has, and the error: by their number, the first unit's and the second one's. -/
def wnextN (size len n m : Nat) : Int × Nat × Int :=
  if len < size then (0, len, 18)
  else if size = 2 ∧ 55296 ≤ n ∧ n < 56320 then
    if len < 4 then (0, len, 18)
    else if 56320 ≤ m ∧ m < 57344 then (((65536 + (n - 55296) * 1024 + (m - 56320) : Nat) : Int), 4, 0)
    else (0, 2, 17)
  else if scal n then ((n : Int), size, 0) else (0, size, 17)
def wnext (size : Nat) (big : Bool) (l : List UInt8) : Int × Nat × Int := wnextN size l.length (unitN size big l) (unitN 2 big (l.drop 2))
theorem wn_short {size len n m : Nat} (h : len < size) : wnextN size len n m = (0, len, 18) := by simp [wnextN, h]
theorem wn_high_short {len n m : Nat} (h : ¬ len < 2) (h1 : 55296 ≤ n) (h2 : n < 56320) (h4 : len < 4) : wnextN 2 len n m = (0, len, 18) := by simp [wnextN, h, h1, h2, h4]
theorem wn_pair {len n m : Nat} (h1 : 55296 ≤ n) (h2 : n < 56320) (h4 : ¬ len < 4) (h5 : 56320 ≤ m) (h6 : m < 57344) :
    wnextN 2 len n m = (((65536 + (n - 55296) * 1024 + (m - 56320) : Nat) : Int), 4, 0) := by
  have h : ¬ len < 2 := by omega
  simp [wnextN, h, h1, h2, h4, h5, h6]
theorem wn_high_bad {len n m : Nat} (h1 : 55296 ≤ n) (h2 : n < 56320) (h4 : ¬ len < 4) (h5 : m < 56320 ∨ 57344 ≤ m) : wnextN 2 len n m = (0, 2, 17) := by
  have h : ¬ len < 2 := by omega
  have h' : ¬ (56320 ≤ m ∧ m < 57344) := by omega
  simp [wnextN, h, h1, h2, h4, h']
theorem wn_bad {size len n m : Nat} (h : ¬ len < size) (h1 : size = 2 → n < 55296 ∨ 56320 ≤ n) (h2 : scal n = false) : wnextN size len n m = (0, size, 17) := by
  have h' : ¬ (size = 2 ∧ 55296 ≤ n ∧ n < 56320) := by omega
  simp [wnextN, h, h', h2]
theorem wn_ok {size len n m : Nat} (h : ¬ len < size) (h1 : size = 2 → n < 55296 ∨ 56320 ≤ n) (h2 : scal n = true) : wnextN size len n m = ((n : Int), size, 0) := by
  have h' : ¬ (size = 2 ∧ 55296 ≤ n ∧ n < 56320) := by omega
  simp [wnextN, h, h', h2]

/-- The bytes of a number, the lowest first. -/
def leB : Nat → Nat → List UInt8 | 0, _ => [] | k + 1, n => UInt8.ofNat n :: leB k (n / 256)
/-- The bytes of a unit. -/
def unitB (size : Nat) (big : Bool) (n : Nat) : List UInt8 := if big then (leB size n).reverse else leB size n
theorem leB_length (k n : Nat) : (leB k n).length = k := by
  induction k generalizing n with
  | zero => rfl
  | succ k ih => simp [leB, ih]
theorem unitB_length (size : Nat) (big : Bool) (n : Nat) : (unitB size big n).length = size := by
  unfold unitB; split <;> simp [leB_length]
theorem leB_get (k n j : Nat) (h : j < k) : (leB k n)[j]'(by rw [leB_length]; exact h) = UInt8.ofNat (n / 256 ^ j) := by
  induction k generalizing n j with
  | zero => omega
  | succ k ih =>
    cases j with
    | zero => simp [leB]
    | succ j =>
      simp only [leB, List.getElem_cons_succ]
      rw [ih (n / 256) j (by omega), Nat.div_div_eq_div_mul, Nat.pow_succ, Nat.mul_comm]
/-- The j-th byte of a unit. -/
theorem unitB_get_little (size n j : Nat) (h : j < size) : (unitB size false n)[j]'(by rw [unitB_length]; exact h) = UInt8.ofNat (n / 256 ^ j) := by
  simp only [unitB]; exact leB_get size n j h
theorem unitB_get_big (size n j : Nat) (h : j < size) : (unitB size true n)[j]'(by rw [unitB_length]; exact h) = UInt8.ofNat (n / 256 ^ (size - 1 - j)) := by
  simp only [unitB, if_true]
  rw [List.getElem_reverse]
  simp only [leB_length]
  exact leB_get size n (size - 1 - j) (by omega)
theorem flatMap_snoc {α β : Type} (f : α → List β) (l : List α) (k : Nat) (h : k < l.length) : (l.take (k + 1)).flatMap f = (l.take k).flatMap f ++ f l[k] := by
  rw [take_snoc_l l k h, List.flatMap_append]; simp

/-- A character's units. -/
def wunits (size : Nat) (n : Nat) : List Nat := if size = 2 ∧ 65536 ≤ n then [55296 + (n - 65536) / 1024, 56320 + (n - 65536) % 1024] else [n]
/-- A character's wide bytes. -/
def wchar (size : Nat) (big : Bool) (r : Int) : List UInt8 := (wunits size r.toNat).flatMap (unitB size big)
theorem wunits_le (size n : Nat) (h : n ≤ 1114111) : ∀ m ∈ wunits size n, m ≤ 4294967295 := by
  intro m hm; unfold wunits at hm; split at hm <;> simp at hm <;> omega
theorem wunits_len (size n : Nat) : (wunits size n).length ≤ 2 := by unfold wunits; split <;> simp
theorem flat_unit_length (size : Nat) (big : Bool) (l : List Nat) : (l.flatMap (unitB size big)).length = l.length * size := by
  induction l with
  | nil => simp
  | cons a l ih => simp [ih, unitB_length, Nat.succ_mul]; omega
theorem wchar_length_le (size : Nat) (big : Bool) (r : Int) (h : size ≤ 4) : (wchar size big r).length ≤ 8 := by
  unfold wchar
  rw [flat_unit_length]
  have h1 := wunits_len size r.toNat
  have := Nat.mul_le_mul h1 h
  omega
theorem flat_wchar_length_le (size : Nat) (big : Bool) (l : List Int) (h : size ≤ 4) : (l.flatMap (wchar size big)).length ≤ 8 * l.length := by
  induction l with
  | nil => simp
  | cons a l ih =>
    have := wchar_length_le size big a h
    simp [List.flatMap_cons] at *; omega
/-- Characters as wide bytes: the bytes, and the error. -/
def wenc (size : Nat) (big : Bool) (l : List Int) : List UInt8 × Int := if l.all scal then (l.flatMap (wchar size big), 0) else ([], 11)
theorem wchar_one (size : Nat) (big : Bool) (n : Nat) (h : size ≠ 2 ∨ n < 65536) : wchar size big n = unitB size big n := by
  have h' : ¬ (size = 2 ∧ 65536 ≤ n) := by omega
  simp [wchar, wunits, h']
theorem wchar_two (big : Bool) (m : Nat) : wchar 2 big (65536 + m) = unitB 2 big (55296 + m / 1024) ++ unitB 2 big (56320 + m % 1024) := by
  have h : ((65536 : Int) + m).toNat = 65536 + m := by omega
  simp [wchar, wunits, h]
theorem all_scal_snoc (l : List Int) (k : Nat) (h : k < l.length) (h1 : (l.take k).all scal = true) (h2 : scal l[k] = true) : (l.take (k + 1)).all scal = true := by
  rw [take_snoc_l l k h, List.all_append, h1]; simp [h2]
theorem wenc_bad (size : Nat) (big : Bool) (l : List Int) (k : Nat) (h : k < l.length) (h2 : scal l[k] = false) : wenc size big l = ([], 11) := by
  unfold wenc
  rw [if_neg]
  intro hall
  have := List.all_eq_true.1 hall l[k] (List.getElem_mem h)
  rw [h2] at this; cases this
theorem wenc_ok (size : Nat) (big : Bool) (l : List Int) (k : Nat) (hk : ¬ k < l.length) (h1 : (l.take k).all scal = true) : wenc size big l = ((l.take k).flatMap (wchar size big), 0) := by
  rw [List.take_of_length_le (by omega)] at *
  unfold wenc; rw [if_pos h1]

/-- Whether a kind's bytes are told the highest first. -/
def bigOf (k : Int) : Bool := k % 2 == 0
/-- What Next of a kind answers. -/
def knext (k : Int) (l : List UInt8) : Int × Nat × Int := if 1 ≤ k ∧ k ≤ 4 then wnext (wsize k) (bigOf k) l else (0, 0, 16)
/-- What Encode of a kind answers. -/
def kenc (k : Int) (l : List Int) : List UInt8 × Int := if 1 ≤ k ∧ k ≤ 4 then wenc (wsize k) (bigOf k) l else ([], 16)
/-- A kind's mark. -/
def wmark (k : Int) : List UInt8 := (kenc k [65279]).1
/-- The kind that bytes tell, and how many bytes tell it. -/
def wguess (l : List UInt8) : Int × Int :=
  if (wmark 3).isPrefixOf l then (3, 4) else if (wmark 4).isPrefixOf l then (4, 4) else if (wmark 1).isPrefixOf l then (1, 2) else if (wmark 2).isPrefixOf l then (2, 2) else (0, 0)
theorem wsize_le (k : Int) : wsize k ≤ 4 := by unfold wsize; split <;> omega
theorem wsize_ge (k : Int) : 2 ≤ wsize k := by unfold wsize; split <;> omega

end Pl
end Go.Proofs.YtlfhmkjomogkiaaDoor
