/- Words for the law MapfilePicks: a loop that counts, marks at a return, how many rows are picked. -/
import Derived.Test.YtopaoejapnakiaaGreatDoorQ5
import Derived.Test.YtopaoejapnakiaaGreatDoorB1
namespace Go.Proofs.YtopaoejapnakiaaGreatDoor.Mf
open Go.RowKit Go.Shelf
/-- A loop that counts up to N; its act may gather marks. -/
theorem loop_count {F : Fence} {n : Nat} {P : Program} {Q : Exit → Act → World → Prop} {c : Code} (St : Nat → Act → World → Prop) (N : Nat)
    (hstep : ∀ k a w (K : Act → World → Prop), k < N → St k a w → (∀ a' w', St (k + 1) a' w' → K a' w') → c.wpIn F n P (Exit.then K Q) a w)
    (hexit : ∀ a w (K : Act → World → Prop), St N a w → c.wpIn F n P (Exit.then K Q) a w) {a : Act} {w : World} (h : St 0 a w) : (Code.loop c).wpIn F n P Q a w := by
  have key : ∀ m k a w, k + m = N → St k a w → Code.roundsIn F n P c Q (m + 1) a w := by
    intro m
    induction m with
    | zero =>
      intro k a w hk hs
      obtain rfl : k = N := by omega
      rw [roundsIn_succ]
      exact hexit a w _ hs
    | succ m ih =>
      intro k a w hk hs
      rw [roundsIn_succ]
      exact hstep k a w _ (by omega) hs (fun a' w' h' => ih (k + 1) a' w' (by omega) h')
  exact wpIn_loop_rounds (N + 1) (key N 0 a w (by omega) h)
/-- A mark of a range over a function. -/
def mark (D : Nat) : Deferred := { target := .collected D, args := #[] }
/-- The marks are taken up, one by one. -/
theorem leaves_marks {F : Fence} {n : Nat} {P : Program} {fn : Func} {tmps : Array Value} {R : Ending → World → Prop} (B : Nat) (S : World → Prop) (hS : ∀ w D, S w → B ≤ D → w.heap[D]? = some (.deferred (some [])) → S (w.putObj D (.deferred none)))
    (hend : ∀ w, S w → LeavesIn F n P fn tmps R [] .returning w) : ∀ (Ds : List Nat) (w : World), Ds.Nodup → (∀ D ∈ Ds, B ≤ D ∧ w.heap[D]? = some (.deferred (some []))) → S w → LeavesInM F n P fn tmps R (Ds.map mark) .returning w
  | [], w, _, _, hs => hend w hs
  | D :: Ds, w, hn, hd, hs => by
    rw [List.nodup_cons] at hn
    obtain ⟨hB, h0⟩ := hd D List.mem_cons_self
    refine ⟨by simp, .inl ⟨D, _, rfl, run_takeDeferred h0, ?_⟩⟩
    refine leaves_marks B S hS hend Ds _ hn.2 (fun E hE => ⟨(hd E (List.mem_cons_of_mem _ hE)).1, ?_⟩) (hS w D hs hB h0)
    rw [World.putObj_heap_other (by intro e; subst e; exact hn.1 hE)]
    exact (hd E (List.mem_cons_of_mem _ hE)).2
def mayB (r : RowV) : Bool := decide (r.flag = 0 ∨ r.flag = 1 ∨ r.flag = 3)
def mayN (l : List RowV) : Nat := (l.filter mayB).length
theorem mayN_snoc (a : List RowV) (r : RowV) : mayN (a ++ [r]) = mayN a + if mayB r = true then 1 else 0 := by
  unfold mayN
  rw [List.filter_append, List.length_append, List.filter_cons]
  split <;> simp
theorem mayN_le (l : List RowV) : mayN l ≤ l.length := List.length_filter_le _ _
theorem pk_count : ∀ (l : List RowV) (s : Nat), (pk 1 s l).length + (pk 3 s l).length = mayN l + (pk 0 s l).length
  | [], _ => rfl
  | r :: t, s => by
    have ih := pk_count t (s + 1)
    have hm : mayN (r :: t) = (if mayB r = true then 1 else 0) + mayN t := by
      unfold mayN
      rw [List.filter_cons]
      split <;> simp <;> omega
    rw [hm]
    by_cases h0 : r.flag = 0
    · simp [pk, mayB, h0]
      omega
    · by_cases h1 : r.flag = 1
      · simp [pk, mayB, h1]
        omega
      · by_cases h3 : r.flag = 3
        · simp [pk, mayB, h3]
          omega
        · simp [pk, mayB, h0, h1, h3]
          omega
theorem pk_len (flag : Int) : ∀ (l : List RowV) (s : Nat), (pk flag s l).length ≤ l.length
  | [], _ => Nat.le_refl _
  | r :: t, s => by
    have := pk_len flag t (s + 1)
    unfold pk
    split <;> simp only [List.length_cons] <;> omega
theorem pk_mem (flag : Int) : ∀ (l : List RowV) (s : Nat) (x : Nat × RowV), x ∈ pk flag s l → ∃ h : x.1 - s < l.length, s ≤ x.1 ∧ l[x.1 - s] = x.2 ∧ (x.2.flag = 0 ∨ x.2.flag = flag)
  | [], _, _, h => by cases h
  | r :: t, s, x, h => by
    unfold pk at h
    have rest : x ∈ pk flag (s + 1) t → ∃ h : x.1 - s < (r :: t).length, s ≤ x.1 ∧ (r :: t)[x.1 - s] = x.2 ∧ (x.2.flag = 0 ∨ x.2.flag = flag) := fun h => by
      obtain ⟨h1, h2, h3, h4⟩ := pk_mem flag t (s + 1) x h
      have e : x.1 - s = x.1 - (s + 1) + 1 := by omega
      refine ⟨by rw [List.length_cons]; omega, by omega, ?_, h4⟩
      simp only [e, List.getElem_cons_succ]
      exact h3
    split at h
    · rename_i he
      rcases List.mem_cons.1 h with rfl | h
      · refine ⟨by rw [List.length_cons, Nat.sub_self]; omega, Nat.le_refl _, ?_, he⟩
        simp
      · exact rest h
    · exact rest h
theorem pickL_mem {flag : Int} {l : List RowV} {x : Nat × RowV} (h : x ∈ pickL flag l) : ∃ h : x.1 < l.length, l[x.1] = x.2 ∧ (x.2.flag = 0 ∨ x.2.flag = flag) := by
  unfold pickL at h
  split at h
  · obtain ⟨h1, _, h3, h4⟩ := pk_mem flag l 0 x h
    exact ⟨h1, h3, h4⟩
  · cases h
/-- How many rows each number picks. -/
def pn (l : List RowV) (j : Nat) : Nat := (pickL (j : Int) l).length
theorem pn_le (l : List RowV) (j : Nat) : pn l j ≤ l.length := by
  unfold pn pickL
  split
  · exact pk_len _ l 0
  · exact Nat.zero_le _
theorem pn_two (l : List RowV) : pn l 2 = 0 := by
  unfold pn pickL
  rw [if_neg (by decide)]
  rfl
theorem pn_sum (l : List RowV) : pn l 1 + pn l 3 = mayN l + pn l 0 := by
  unfold pn pickL
  rw [if_pos (by decide), if_pos (by decide), if_pos (by decide)]
  exact pk_count l 0
/-- The counts, as they lie. -/
def cnts (f : Nat → Nat) : Array Value := #[.int .i64 (f 0), .int .i64 (f 1), .int .i64 (f 2), .int .i64 (f 3)]
theorem cnts_at (f : Nat → Nat) (k : Nat) (h : k < 4) : (cnts f)[k]? = some (.int .i64 (f k)) := by
  match k, h with
  | 0, _ | 1, _ | 2, _ | 3, _ => rfl
def upd (f : Nat → Nat) (k m : Nat) (j : Nat) : Nat := if j = k then m else f j
theorem cnts_set (f : Nat → Nat) (k m : Nat) (h : k < 4) : (cnts f).setIfInBounds k (.int .i64 m) = cnts (upd f k m) := by
  match k, h with
  | 0, _ | 1, _ | 2, _ | 3, _ => rfl
end Go.Proofs.YtopaoejapnakiaaGreatDoor.Mf
