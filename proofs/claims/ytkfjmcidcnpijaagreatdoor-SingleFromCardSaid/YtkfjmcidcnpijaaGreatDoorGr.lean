/- A region that draws its order, where loads may be taken first although cells that they read are stored into at the region's end: a condition that must hold for good, and one that must hold till one of the late stores has come up. -/
import Derived.OrdersHeld
import Derived.RegionTactic
import Derived.Deep.RegionHeld3
namespace Go.Proofs.YtkfjmcidcnpijaaGreatDoor.Sg

section
variable {P : Program} {ops : Array Oper} {Q : Exit → Act → World → Prop} {md : Region.Mode} {S0 S1 : World → Prop} {late : List Nat}

/-- No late store has come up. -/
def Early (late : List Nat) (L : Array Bool) : Prop := ∀ m ∈ late, L.getD m false = false
def Inv (S0 S1 : World → Prop) (late : List Nat) (L : Array Bool) (w : World) : Prop := S0 w ∧ (Early late L → S1 w)
theorem getD_far {L : Array Bool} {i m : Nat} (d : Bool) (h : i ≠ m) : (L.setIfInBounds i true).getD m d = L.getD m d := Go.getD_set_ne d h
theorem Early.of_set {L : Array Bool} {i : Nat} (hi : i ∉ late) (h : Early late L) : Early late (L.setIfInBounds i true) := fun m hm => by
  have hne : i ≠ m := fun e => hi (by rw [e]; exact hm)
  rw [getD_far false hne]; exact h m hm
theorem Inv.unset {L : Array Bool} {i : Nat} {w : World} (hi : i ∉ late) (h : Inv S0 S1 late (L.setIfInBounds i true) w) : Inv S0 S1 late L w := ⟨h.1, fun he => h.2 (he.of_set hi)⟩
theorem Inv.set {L : Array Bool} {i : Nat} {w : World} (hi : i ∉ late) (h : Inv S0 S1 late L w) : Inv S0 S1 late (L.setIfInBounds i true) w :=
  ⟨h.1, fun he => h.2 (fun m hm => by have hne : i ≠ m := (fun e => hi (by rw [e]; exact hm)); have h2 := he m hm; rw [getD_far false hne] at h2; exact h2)⟩
theorem early_off {L : Array Bool} {i : Nat} {T : Prop} (hi : late.contains i = true) (hs : (L.setIfInBounds i true).getD i false = true) : Early late (L.setIfInBounds i true) → T := fun h => by
  have h1 := h i (by simpa using hi)
  rw [hs] at h1
  cases h1
/-- Whatever order is picked from here on, and the conditions hold behind each operation. -/
def wpLate (P : Program) (md : Region.Mode) (ops : Array Oper) (Q : Exit → Act → World → Prop) (S0 S1 : World → Prop) (late : List Nat) : Nat → Array Bool → Act → World → Prop
  | 0, L, a, w => Region.ready md ops L = [] ∧ Q .normal a w
  | n + 1, L, a, w => (Region.ready md ops L = [] → Q .normal a w) ∧
    ∀ i ∈ Region.ready md ops L, wpOp P ops Q i (fun a' w' => Inv S0 S1 late (L.setIfInBounds i true) w' ∧ wpLate P md ops Q S0 S1 late n (L.setIfInBounds i true) a' w') a w
theorem late_any : ∀ (n : Nat) (L : Array Bool) (a : Act) (w : World), wpLate P md ops Q S0 S1 late n L a w → wpAny P md ops Q n L a w
  | 0, _, _, _, h => h
  | n + 1, _, _, _, h => ⟨h.1, fun i hi => wpOp_mono (fun a' w' h' => late_any n _ a' w' h'.2) (h.2 i hi)⟩
/-- An operation goes first that yields in every world that meets the conditions as long as it has not come up: those for good, and, if all late stores wait for it, the others. -/
theorem late_first {i : Nat} {oi : Oper} {v : Value} {T : World → Prop} (hi : ops[i]? = some oi) (hsel : ∀ (j : Nat) (o : Oper) cs b, ops[j]? = some o → o.op ≠ .select cs b)
    (hQ : ∀ c a w, Q (.panic c) (a.put oi.dst v) w → Q (.panic c) a w) (hil : i ∉ late)
    (hT : (∀ w, S0 w → T w) ∨ ((∀ w, S0 w → S1 w → T w) ∧ ∀ j oj, j ∈ late → ops[j]? = some oj → ∃ e ∈ oj.after, Region.binds md e = true ∧ e.on = i)) :
    ∀ (n : Nat) (L : Array Bool) (a : Act) (w : World),
      (∀ j oj, ops[j]? = some oj → j ≠ i → L.getD j true = false → (∀ e ∈ oj.after, Region.binds md e = true → e.on ≠ i) → oi.apart ops oj = true) →
      i ∈ Region.ready md ops L → YieldsIf P ops T oi v a → Inv S0 S1 late L w → ((∀ w, S0 w → T w) ∨ Early late L) →
      wpLate P md ops Q S0 S1 late n (L.setIfInBounds i true) (a.put oi.dst v) w → wpLate P md ops Q S0 S1 late (n + 1) L a w := by
  intro n
  have hTw : ∀ L w, Inv S0 S1 late L w → ((∀ w, S0 w → T w) ∨ Early late L) → T w := by
    intro L w hI he
    rcases hT with h | ⟨h, _⟩
    · exact h w hI.1
    · rcases he with h2 | h2
      · exact h2 w hI.1
      · exact h w hI.1 (hI.2 h2)
  induction n with
  | zero =>
    intro L a w _ hr hy hI he H
    refine ⟨fun h => (by rw [h] at hr; cases hr), fun j hj => ?_⟩
    by_cases hji : j = i
    · subst hji
      exact hy.wpOp hi (hTw L w hI he) ⟨hI.set hil, H⟩
    · have h1 := ready_mono hj hji
      rw [H.1] at h1
      cases h1
  | succ n ih =>
    intro L a w hfree hr hy hI he H
    refine ⟨fun h => (by rw [h] at hr; cases hr), fun j hj => ?_⟩
    by_cases hji : j = i
    · subst hji
      exact hy.wpOp hi (hTw L w hI he) ⟨hI.set hil, H⟩
    · have h1 := H.2 j (ready_mono hj hji)
      obtain ⟨hjun, oj, hoj, hall⟩ := mem_ready.1 hj
      have h0 := (mem_ready.1 hr).1
      have hnot : ∀ e ∈ oj.after, Region.binds md e = true → e.on ≠ i := fun e he hb heq => by
        have h2 := hall e he hb
        rw [heq] at h2
        rcases Nat.lt_or_ge i L.size with h' | h'
        · simp [h'] at h0 h2
          rw [h0] at h2
          cases h2
        · simp [Array.getElem?_eq_none h'] at h2
      have h2 := wpOp_putIf hoj (hfree j oj hoj hji hjun hnot) (fun cs b => hsel i oi cs b hi) (fun cs b => hsel j oj cs b hoj) hQ hy h1
      have hfree' : ∀ k ok, ops[k]? = some ok → k ≠ i → (L.setIfInBounds j true).getD k true = false → (∀ e ∈ ok.after, Region.binds md e = true → e.on ≠ i) → oi.apart ops ok = true := fun k ok hk hki hun hno => by
        refine hfree k ok hk hki ?_ hno
        by_cases hjk : j = k
        · subst hjk; exact hjun
        · rw [getD_far true hjk] at hun; exact hun
      have he' : (∀ w, S0 w → T w) ∨ Early late (L.setIfInBounds j true) := by
        rcases he with h | h
        · exact .inl h
        · rcases hT with h3 | ⟨_, h3⟩
          · exact .inl h3
          · right
            refine h.of_set (fun hjl => ?_)
            obtain ⟨e, h4, h5, h6⟩ := h3 j oj hjl hoj
            exact hnot e h4 h5 h6
      refine wpOp_mono (fun a' w' h3 => ?_) h2
      have hI' : Inv S0 S1 late (L.setIfInBounds j true) w' := by
        have h4 := h3.2.1
        rw [Array.setIfInBounds_comm _ _ (Ne.symm hji)] at h4
        exact h4.unset hil
      refine ⟨hI', ih (L.setIfInBounds j true) a' w' hfree' (ready_mono hr (Ne.symm hji)) h3.1 hI' he' ?_⟩
      rw [Array.setIfInBounds_comm _ _ hji]
      exact h3.2.2
/-- Number i goes first: a copy, an address, a load of a cell that nobody writes. -/
theorem late_take {i : Nat} {oi : Oper} {v : Value} {n : Nat} {L : Array Bool} {a : Act} {w : World} (hi : ops[i]? = some oi) (hs : Region.noSelect ops = true) (hf : Region.free md ops L i = true) (hr : (Region.ready md ops L).contains i = true)
    (hQ : ∀ c a w, Q (.panic c) (a.put oi.dst v) w → Q (.panic c) a w) (hil : late.contains i = false) (hw : Region.wanted oi (yielded ops a.tmps) = true) (hI : Inv S0 S1 late L w) (hy : ∀ w, S0 w → (execOp a.eval oi).run P w = .ok (.value v) w)
    (h : Inv S0 S1 late (L.setIfInBounds i true) w → wpLate P md ops Q S0 S1 late n (L.setIfInBounds i true) (a.put oi.dst v) w) : wpLate P md ops Q S0 S1 late (n + 1) L a w :=
  have hil : i ∉ late := by simpa using hil
  late_first hi (Region.noSelect_spec hs) hQ hil (T := S0) (.inl fun _ h => h) n L a w (Region.free_spec hi hf) (by simpa using hr) (.inl ⟨hw, hy⟩) hI (.inl fun _ h => h) (h (hI.set hil))
/-- Do all late stores wait for number i? -/
def lateWait (md : Region.Mode) (ops : Array Oper) (late : List Nat) (i : Nat) : Bool := late.all fun j => match ops[j]? with | some o => o.after.any fun e => Region.binds md e && decide (e.on = i) | none => true
/-- Number i goes first: a load of a cell that the late stores write. -/
theorem late_load {i : Nat} {oi : Oper} {v : Value} {n : Nat} {L : Array Bool} {a : Act} {w : World} (hi : ops[i]? = some oi) (hs : Region.noSelect ops = true) (hf : Region.free md ops L i = true) (hr : (Region.ready md ops L).contains i = true)
    (hQ : ∀ c a w, Q (.panic c) (a.put oi.dst v) w → Q (.panic c) a w) (hil : late.contains i = false) (hwt : lateWait md ops late i = true) (hE : late.all (fun m => !L.getD m false) = true) (hw : Region.wanted oi (yielded ops a.tmps) = true) (hI : Inv S0 S1 late L w) (hy : ∀ w, S0 w → S1 w → (execOp a.eval oi).run P w = .ok (.value v) w)
    (h : Inv S0 S1 late (L.setIfInBounds i true) w → wpLate P md ops Q S0 S1 late n (L.setIfInBounds i true) (a.put oi.dst v) w) : wpLate P md ops Q S0 S1 late (n + 1) L a w :=
  have hil : i ∉ late := by simpa using hil
  have hwt : ∀ j oj, j ∈ late → ops[j]? = some oj → ∃ e ∈ oj.after, Region.binds md e = true ∧ e.on = i := by
    intro j oj hj hoj
    have h1 := List.all_eq_true.1 hwt j hj
    simp only [hoj] at h1
    rw [Array.any_eq_true'] at h1
    obtain ⟨e, he, h2⟩ := h1
    rw [Bool.and_eq_true, decide_eq_true_eq] at h2
    exact ⟨e, he, h2.1, h2.2⟩
  have hE : Early late L := fun m hm => by have := List.all_eq_true.1 hE m hm; simpa using this
  late_first hi (Region.noSelect_spec hs) hQ hil (T := fun w => S0 w ∧ S1 w) (.inr ⟨fun _ h0 h1 => ⟨h0, h1⟩, hwt⟩) n L a w (Region.free_spec hi hf) (by simpa using hr) (.inl ⟨hw, fun w h => hy w h.1 h.2⟩) hI (.inr hE) (h (hI.set hil))
/-- Each of these comes up next. -/
def AllLate (P : Program) (md : Region.Mode) (ops : Array Oper) (Q : Exit → Act → World → Prop) (S0 S1 : World → Prop) (late : List Nat) (n : Nat) (L : Array Bool) (a : Act) (w : World) (rs : List Nat) : Prop :=
  ∀ i ∈ rs, wpOp P ops Q i (fun a' w' => Inv S0 S1 late (L.setIfInBounds i true) w' ∧ wpLate P md ops Q S0 S1 late n (L.setIfInBounds i true) a' w') a w
theorem AllLate.nil {n : Nat} {L : Array Bool} {a : Act} {w : World} : AllLate P md ops Q S0 S1 late n L a w [] := fun _ h => by cases h
theorem AllLate.cons {n : Nat} {L : Array Bool} {a : Act} {w : World} {i : Nat} {o : Oper} {rs : List Nat} (ho : ops[i]? = some o)
    (h : ∀ K' : Act → World → Prop, Shut (∀ a w, Inv S0 S1 late (L.setIfInBounds i true) w → (Inv S0 S1 late (L.setIfInBounds i true) w → wpLate P md ops Q S0 S1 late n (L.setIfInBounds i true) a w) → K' a w) → if Region.wanted o (yielded ops a.tmps) = true then Oper.wp P o a w K' Q else K' (a.put o.dst undef) w)
    (hs : AllLate P md ops Q S0 S1 late n L a w rs) : AllLate P md ops Q S0 S1 late n L a w (i :: rs) := fun j hj => by
  rcases List.mem_cons.1 hj with rfl | hj
  · exact wpOp_step ho (fun K' hK => h K' (fun a w hS hW => hK a w ⟨hS, hW hS⟩))
  · exact hs j hj
theorem late_ready {rs : List Nat} {n : Nat} {L : Array Bool} {a : Act} {w : World} (hr : Region.ready md ops L = rs) (hne : rs ≠ []) (h : AllLate P md ops Q S0 S1 late n L a w rs) : wpLate P md ops Q S0 S1 late (n + 1) L a w :=
  ⟨fun h0 => absurd (hr ▸ h0) hne, hr ▸ h⟩
theorem late_done {L : Array Bool} {a : Act} {w : World} (hr : Region.ready md ops L = []) (h : Q .normal a w) : ∀ n, wpLate P md ops Q S0 S1 late n L a w
  | 0 => ⟨hr, h⟩
  | _ + 1 => ⟨fun _ => h, by rw [hr]; simp⟩
theorem wp_region_late {id : Nat} {a : Act} {w : World} (S0 S1 : World → Prop) (late : List Nat) (hm : P.follows .mixedOrders = true) (h0 : S0 w.drew) (h1 : S1 w.drew)
    (h : Inv S0 S1 late (Array.replicate ops.size false) w.drew → wpLate P .any ops Q S0 S1 late ops.size (Array.replicate ops.size false) a w.drew) : (Code.region id ops true).wp P Q a w :=
  wp_region_any hm (late_any _ _ _ _ (h ⟨h0, fun _ => h1⟩))
end
end Go.Proofs.YtkfjmcidcnpijaaGreatDoor.Sg
