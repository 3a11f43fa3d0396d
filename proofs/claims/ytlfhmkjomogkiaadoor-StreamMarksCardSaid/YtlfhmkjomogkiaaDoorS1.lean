/- Plain: the decoder of parts: what is done with what has come. -/
import Derived.Test.YtlfhmkjomogkiaaDoorU3
import Derived.Test.YtlfhmkjomogkiaaDoorPlain2
namespace Go.Proofs.YtlfhmkjomogkiaaDoor
namespace Pl

def utfMark : List UInt8 := [239, 187, 191]
/-- The kind whose mark bytes begin with, and how many bytes that has. -/
def smarked (l : List UInt8) : Int × Int := if utfMark.isPrefixOf l then (5, 3) else wguess l
/-- May bytes become a mark? -/
def sopen (l : List UInt8) : Bool :=
  if 4 ≤ l.length ∨ l = utfMark then false else l.isPrefixOf utfMark || (l.isPrefixOf (wmark 1) || (l.isPrefixOf (wmark 2) || (l.isPrefixOf (wmark 3) || l.isPrefixOf (wmark 4))))
/-- The first character of bytes of a kind. -/
def snx (k : Int) : List UInt8 → Int × Nat × Int := if k = 5 then unext else wnext (wsize k) (bigOf k)
/-- How many bytes of a kind are whole. -/
def scut (k : Int) (l : List UInt8) : Nat := if k = 5 then ucut l else wcut (wsize k) (bigOf k) l
/-- A decoder. -/
structure SSt where
  rest : List UInt8
  all : Nat
  kind : Int
  pol : Int
  guess : Bool
  over : Bool
  bad : List (Nat × Nat)
def sadd (t : List UInt8) (s : SSt) : SSt := { s with rest := s.rest ++ t, all := s.all + t.length }
def sguess (s : SSt) : SSt :=
  if 0 < (smarked s.rest).1 then { s with guess := false, kind := (smarked s.rest).1, rest := s.rest.drop (smarked s.rest).2.toNat } else { s with guess := false }
def slen (e : Bool) (s : SSt) : Nat := if e then s.rest.length else scut s.kind s.rest
def sdec (e : Bool) (s : SSt) : List Int × List (Nat × Nat) × Int := dec (snx s.kind) s.pol (s.rest.take (slen e s))
def sread (e : Bool) (s : SSt) : SSt :=
  if (sdec e s).2.2 = 0 then { s with rest := s.rest.drop (slen e s), bad := s.bad ++ shiftF (s.all - s.rest.length) (sdec e s).2.1 }
  else { s with rest := [], over := true, bad := s.bad ++ shiftF (s.all - s.rest.length) (sdec e s).2.1 }
def swait (e : Bool) (s : SSt) : Bool := s.guess && !e && sopen s.rest
/-- What take leaves of a decoder, and what it answers. -/
def stake (e : Bool) (s : SSt) : SSt × List Int × Int :=
  if swait e s then (s, [], 0) else (sread e (if s.guess then sguess s else s), (sdec e (if s.guess then sguess s else s)).1, (sdec e (if s.guess then sguess s else s)).2.2)
def snew (k p : Int) (g : Bool) : SSt := ⟨[], 0, k, p, g, false, []⟩
/-- Is a decoder one that may be? -/
def sfit (s : SSt) : Prop := 1 ≤ s.kind ∧ s.kind ≤ 5 ∧ 1 ≤ s.pol ∧ s.pol ≤ 3 ∧ s.rest.length ≤ s.all
theorem smarked_fit (l : List UInt8) (_h : 0 < (smarked l).1) : (smarked l).1 ≤ 5 ∧ 0 ≤ (smarked l).2 ∧ (smarked l).2 ≤ l.length := by
  unfold smarked at *
  have hp : ∀ m : List UInt8, m.isPrefixOf l = true → m.length ≤ l.length := fun m hm => (List.isPrefixOf_iff_prefix.1 hm).length_le
  split
  · rename_i h1
    have := hp _ h1
    simp [utfMark] at this
    refine ⟨by decide, by decide, ?_⟩
    show (3 : Int) ≤ l.length
    omega
  · unfold wguess
    have m3 : (wmark 3).length = 4 := by decide
    have m4 : (wmark 4).length = 4 := by decide
    have m1 : (wmark 1).length = 2 := by decide
    have m2 : (wmark 2).length = 2 := by decide
    split
    · rename_i h1; have := hp _ h1; exact ⟨by decide, by decide, by show (4 : Int) ≤ _; omega⟩
    · split
      · rename_i h1; have := hp _ h1; exact ⟨by decide, by decide, by show (4 : Int) ≤ _; omega⟩
      · split
        · rename_i h1; have := hp _ h1; exact ⟨by decide, by decide, by show (2 : Int) ≤ _; omega⟩
        · split
          · rename_i h1; have := hp _ h1; exact ⟨by decide, by decide, by show (2 : Int) ≤ _; omega⟩
          · exact ⟨by decide, by decide, by show (0 : Int) ≤ _; omega⟩
theorem sguess_fit (s : SSt) (h : sfit s) : sfit (sguess s) ∧ (sguess s).rest.length ≤ s.rest.length ∧ (sguess s).bad = s.bad ∧ (sguess s).all = s.all := by
  obtain ⟨h1, h2, h3, h4, h5⟩ := h
  unfold sguess
  split
  · rename_i hk
    have hm := smarked_fit s.rest hk
    refine ⟨⟨by show 1 ≤ (smarked s.rest).1; omega, hm.1, h3, h4, ?_⟩, ?_, rfl, rfl⟩
    · show (s.rest.drop _).length ≤ s.all; rw [List.length_drop]; omega
    · show (s.rest.drop _).length ≤ _; rw [List.length_drop]; omega
  · exact ⟨⟨h1, h2, h3, h4, h5⟩, Nat.le_refl _, rfl, rfl⟩
theorem slen_le (e : Bool) (s : SSt) : slen e s ≤ s.rest.length := by
  unfold slen scut
  split
  · exact Nat.le_refl _
  · split
    · exact ucut_le _
    · exact wcut_le _ _ _
theorem snx_pos (k : Int) (t : List UInt8) (h : 0 < t.length) : 1 ≤ (snx k t).2.1 ∧ (snx k t).2.1 ≤ t.length := by
  unfold snx
  split
  · exact unext_pos t h
  · exact wnext_pos _ _ t h (wsize_cases k)
theorem sdec_len (e : Bool) (s : SSt) : (sdec e s).1.length ≤ s.rest.length ∧ (sdec e s).2.1.length ≤ s.rest.length := by
  unfold sdec
  have h := dec_len (snx s.kind) s.pol (fun t h => (snx_pos s.kind t h).1) (s.rest.take (slen e s))
  rw [List.length_take] at h
  omega

end Pl
end Go.Proofs.YtlfhmkjomogkiaaDoor
