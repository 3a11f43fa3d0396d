/- The memory of charset.New while it runs: the struct and its maps; walk: (*charset.Charset).decodes. -/
import Derived.Test.YtkfjmcidcnpijaaGreatDoorG24
import Derived.Test.YtkfjmcidcnpijaaGreatDoorG22
import Derived.Test.YtkfjmcidcnpijaaGreatDoorG23
namespace Go.Proofs.YtkfjmcidcnpijaaGreatDoor.Sg
open Go.RowKit Pl Go.Lib Go.Maps Go.WideMaps

abbrev ChT : TypeId := 102
/-- Rows of cells are left as they are (maps may turn). -/
def CK (w w' : World) : Prop := ∀ (g : Nat) (cs : Array Value) (t : TypeId) (fz : Nat × Nat), w.heap[g]? = some (Obj.cells cs t fz) → w'.heap[g]? = some (Obj.cells cs t fz)
theorem CK.refl (w : World) : CK w w := fun _ _ _ _ h => h
theorem CK.trans {a b c : World} (h1 : CK a b) (h2 : CK b c) : CK a c := fun g cs t fz h => h2 g cs t fz (h1 g cs t fz h)
theorem CK.of_below {w w' : World} (h : Below w.heap.size w w') : CK w w' := fun g _ _ _ hg => (h.block g (Array.getElem?_eq_some_iff.1 hg).1).trans hg
theorem CK.of_map {w w' : World} {r : Nat} {es clock} (hm : w.heap[r]? = some (.map es clock)) (hg : w.grownBy w' (some r)) : CK w w' := fun g cs t fz h =>
  (hg.block g (Array.getElem?_eq_some_iff.1 h).1 (fun e => by injection e with e; subst e; rw [hm] at h; cases h)).trans h
theorem Blk.ck {w w' : World} {g : Nat} {t : TypeId} {cs : Array Value} (h : Blk w g t cs) (hk : CK w w') : Blk w' g t cs := hk g cs t (0, 0) h
theorem own_ck {w w' : World} {B e sz n : Nat} {v : Value} {xs : List Value} (h : w.ownsRow B e sz v n xs) (hk : CK w w') : w'.ownsRow B e sz v n xs := by
  refine ⟨h.1, ?_⟩
  rcases h.2 with h1 | ⟨g, cap, cur, e1, hg, hh, h4⟩
  · exact .inl h1
  · exact .inr ⟨g, cap, cur, e1, hg, hk _ _ _ _ hh, h4⟩
def chC (H : Nat) (p : Option Addr) (vr vk vc : Value) : Array Value := #[.pointer p, smallI, vr, .map (some H), .map (some (H + 1)), vk, vc]
structure HS (H : Nat) (w0 w : World) (n : Nat) (cs : Array Value) (f : List UInt8 → Option ByteArray) (g : List UInt8 → Option Bool) (h : List UInt8 → Option Int) : Prop where
  blk : Blk w (H + 2) ChT cs
  texts : SMap elS w H n f
  heads : SMap elB w (H + 1) n g
  at_ : SMap elI w (H + 3) n h
  below : Below H w0 w
  size : H + 4 ≤ w.heap.size
section
variable {H : Nat} {w0 w w' : World} {n : Nat} {cs : Array Value} {f : List UInt8 → Option ByteArray} {g : List UInt8 → Option Bool} {h : List UInt8 → Option Int}
theorem HS.keep (s : HS H w0 w n cs f g h) (hb : Below w.heap.size w w') : HS H w0 w' n cs f g h :=
  ⟨Blk.ck s.blk (.of_below hb), s.texts.below hb, s.heads.below hb, s.at_.below hb, s.below.trans (hb.mono (Nat.le_trans (by omega) s.size)), Nat.le_trans s.size hb.size⟩
theorem HS.mono {m : Nat} (s : HS H w0 w n cs f g h) (hm : n ≤ m) : HS H w0 w m cs f g h := ⟨s.blk, s.texts.mono hm, s.heads.mono hm, s.at_.mono hm, s.below, s.size⟩
/-- 'texts[code] = text'. -/
theorem HS.putText (s : HS H w0 w n cs f g h) (hn : n < maxLen) (k : ByteArray) (hk : k.size ≤ maxLen) (x : ByteArray) (hx : x.size ≤ maxLen) :
    ∃ w', (Instr.mapUpdate 97 (.map (some H)) (.string k) (.string x)).run Tryz.prog w = .ok () w' ∧ HS H w0 w' (n + 1) cs (fun t => if t = k.data.toList then some x else f t) g h ∧ CK w w' := by
  obtain ⟨w', hrun, hm, hg⟩ := s.texts.store 97 Tryz.underlying97 k hk x hx hn
  obtain ⟨es, clock, hh⟩ := s.texts.isMap
  exact ⟨w', hrun, ⟨Blk.ck s.blk (.of_map hh hg), hm, (s.heads.turn hg (fun r e => by injection e with e; omega)).mono (Nat.le_succ _), (s.at_.turn hg (fun r e => by injection e with e; omega)).mono (Nat.le_succ _),
    below_grown s.below hg (Nat.le_trans (by omega) s.size) (fun k e => by injection e with e; omega), Nat.le_trans s.size hg.size⟩, .of_map hh hg⟩
/-- 'heads[code] = true'. -/
theorem HS.putHead (s : HS H w0 w n cs f g h) (hn : n < maxLen) (k : ByteArray) (hk : k.size ≤ maxLen) :
    ∃ w', (Instr.mapUpdate 98 (.map (some (H + 1))) (.string k) (.bool true)).run Tryz.prog w = .ok () w' ∧ HS H w0 w' (n + 1) cs f (fun t => if t = k.data.toList then some true else g t) h ∧ CK w w' := by
  obtain ⟨w', hrun, hm, hg⟩ := s.heads.store 98 Tryz.underlying98 k hk true trivial hn
  obtain ⟨es, clock, hh⟩ := s.heads.isMap
  exact ⟨w', hrun, ⟨Blk.ck s.blk (.of_map hh hg), (s.texts.turn hg (fun r e => by injection e with e; omega)).mono (Nat.le_succ _), hm, (s.at_.turn hg (fun r e => by injection e with e; omega)).mono (Nat.le_succ _),
    below_grown s.below hg (Nat.le_trans (by omega) s.size) (fun k e => by injection e with e; omega), Nat.le_trans s.size hg.size⟩, .of_map hh hg⟩
/-- 'at[key] = i'. -/
theorem HS.putAt (s : HS H w0 w n cs f g h) (hn : n < maxLen) (k : ByteArray) (hk : k.size ≤ maxLen) (x : Int) (hx : 0 ≤ x ∧ x ≤ 1000000000) :
    ∃ w', (Instr.mapUpdate 103 (.map (some (H + 3))) (.string k) (.int .i64 x)).run Tryz.prog w = .ok () w' ∧ HS H w0 w' (n + 1) cs f g (fun t => if t = k.data.toList then some x else h t) ∧ CK w w' := by
  obtain ⟨w', hrun, hm, hg⟩ := s.at_.store 103 Tryz.underlying103 k hk x hx hn
  obtain ⟨es, clock, hh⟩ := s.at_.isMap
  exact ⟨w', hrun, ⟨Blk.ck s.blk (.of_map hh hg), (s.texts.turn hg (fun r e => by injection e with e; omega)).mono (Nat.le_succ _), (s.heads.turn hg (fun r e => by injection e with e; omega)).mono (Nat.le_succ _), hm,
    below_grown s.below hg (Nat.le_trans (by omega) s.size) (fun k e => by injection e with e; omega), Nat.le_trans s.size hg.size⟩, .of_map hh hg⟩
/-- A text looked up, with ok. -/
theorem HS.lookText (s : HS H w0 w n cs f g h) (k : ByteArray) (hk : k.size ≤ maxLen) : (Instr.lookup 97 (.map (some H)) (.string k) true).run Tryz.prog w = .ok (.tuple #[.string ((f k.data.toList).getD ⟨#[]⟩), .bool (f k.data.toList).isSome]) w :=
  s.texts.lookOk 97 Tryz.underlying97 k hk
theorem HS.lookHead (s : HS H w0 w n cs f g h) (k : ByteArray) (hk : k.size ≤ maxLen) : (Instr.lookup 98 (.map (some (H + 1))) (.string k) false).run Tryz.prog w = .ok (.bool ((g k.data.toList).getD false)) w :=
  s.heads.look 98 Tryz.underlying98 k hk
theorem HS.lookAt (s : HS H w0 w n cs f g h) (k : ByteArray) (hk : k.size ≤ maxLen) : (Instr.lookup 103 (.map (some (H + 3))) (.string k) true).run Tryz.prog w = .ok (.tuple #[.int .i64 ((h k.data.toList).getD 0), .bool (h k.data.toList).isSome]) w :=
  s.at_.lookOk 103 Tryz.underlying103 k hk
end
/-- Heads are true or not there. -/
def TrueOnly (g : List UInt8 → Option Bool) : Prop := ∀ t, g t = none ∨ g t = some true
theorem take_data (code : ByteArray) (i : Nat) : (code.extract 0 i).data.toList = code.data.toList.take i := by
  simp [ByteArray.data_extract]
def DecP (H : Nat) (w0 w : World) (n : Nat) (cs : Array Value) (f : List UInt8 → Option ByteArray) (g : List UInt8 → Option Bool) (h : List UInt8 → Option Int) (r : RowV) (e : Ending) (w' : World) : Prop :=
  e = .returned (.int .i64 (errD f g r.code.data.toList)) ∧ CK w w' ∧ ∃ f' g', HS H w0 w' (n + 5) cs f' g' h ∧ (errD f g r.code.data.toList = 0 → f' = (fun t => if t = r.code.data.toList then some r.text else f t) ∧ g' = headsK r.code.data.toList r.code.data.toList.length g)
theorem code_len (code : ByteArray) : code.data.toList.length = code.size := Array.length_toList
set_option maxRecDepth 100000 in
set_option maxHeartbeats 3200000 in
theorem decodes_any (H : Nat) (w0 w : World) (n : Nat) (p : Option Addr) (vr vk vc : Value) (f : List UInt8 → Option ByteArray) (g : List UInt8 → Option Bool) (h : List UInt8 → Option Int) (r : RowV)
    (hs : HS H w0 w n (chC H p vr vk vc) f g h) (hg : TrueOnly g) (hc : r.code.size ≤ 4) (ht : r.text.size ≤ 1048576) (hn : n ≤ 1000000) :
    Calls Tryz.prog 64 #[.pointer (some ⟨H + 2, 0, none⟩), rowV r] w (DecP H w0 w n (chC H p vr vk vc) f g h r) := by
  obtain ⟨code, text, flag⟩ := r
  have hc : code.size ≤ 4 := hc
  have ht : text.size ≤ 1048576 := ht
  have hcm : code.size ≤ maxLen := by unfold maxLen; omega
  obtain ⟨W, hW⟩ : ∃ W, w.alloc (.cells #[.string code, .string text, .int .i64 flag] 50) = W := ⟨_, rfl⟩
  have hb : Below w.heap.size w W := hW ▸ (Below.refl _ _).alloc (Nat.le_refl _) _
  have hk : Blk W w.heap.size 50 #[.string code, .string text, .int .i64 flag] := hW ▸ Blk.new _ _ _
  have HK := Lib.hid hk
  have HCK := Lib.hid (CK.of_below hb)
  have hs := hs.keep hb
  have HSW := Lib.hid hs
  have HSD := Lib.hid (hs.keep (Below.refl _ _).drew)
  have k0 : W.drew.cell? ⟨w.heap.size, 0, none⟩ = some (.string code) := by rw [hk.drew.cell]; rfl
  have t3 : W.drew.cell? ⟨H + 2, 3, none⟩ = some (.map (some H)) := by rw [hs.blk.drew.cell]; rfl
  have hl1 := HSD.out.lookText code hcm
  unfold DecP
  show Calls _ _ _ _ fun e w' => e = .returned (.int .i64 (errD f g code.data.toList)) ∧ CK w w' ∧ ∃ f' g', HS H w0 w' (n + 5) (chC H p vr vk vc) f' g' h ∧ (errD f g code.data.toList = 0 → f' = (fun t => if t = code.data.toList then some text else f t) ∧ g' = headsK code.data.toList code.data.toList.length g)
  obtain ⟨Z, hZ⟩ : ∃ Z, errD f g code.data.toList = Z := ⟨_, rfl⟩
  rw [hZ]
  have HZ := Lib.hid hZ
  have HT := Lib.hid (hg code.data.toList)
  clear hZ hb hk hs hg
  go_enter Tryz.func64, Tryz.ntmps64
  go_wp2_with fail
  cases hf : (f code.data.toList).isSome
  rotate_left
  · rw [hf] at hl1
    have hz : Z = 12 := by rw [← HZ.out]; unfold errD; rw [if_pos hf]
    subst hz
    go_region_held3 (fun w' => w'.cell? ⟨w.heap.size, 0, none⟩ = some (.string code) ∧ w'.cell? ⟨H + 2, 3, none⟩ = some (.map (some H))) (exact ⟨k0, t3⟩) (fail)
    go_wp2_with fail
    go_returns
    exact ⟨rfl, HCK.out.trans (.of_below (Below.refl _ _).drew), _, _, (HSD.out.mono (by omega)), fun h => by cases h⟩
  rw [hf] at hl1
  have HF := Lib.hid hf
  clear hf
  go_region_held3 (fun w' => w'.cell? ⟨w.heap.size, 0, none⟩ = some (.string code) ∧ w'.cell? ⟨H + 2, 3, none⟩ = some (.map (some H))) (exact ⟨k0, t3⟩) (fail)
  have HSD2 := Lib.hid (HSD.out.keep (Below.refl _ _).drew)
  have HCK2 : Hid (CK W W.drew.drew) := Lib.hid (CK.of_below (Below.refl _ _).drew.drew)
  have k0 : W.drew.drew.cell? ⟨w.heap.size, 0, none⟩ = some (.string code) := k0
  have t4 : W.drew.drew.cell? ⟨H + 2, 4, none⟩ = some (.map (some (H + 1))) := by rw [HSD2.out.blk.cell]; rfl
  have hl2 := HSD2.out.lookHead code hcm
  clear hl1 t3
  rcases HT.out with hg1 | hg1
  rotate_left
  · rw [hg1] at hl2
    have hl2 : (Instr.lookup 98 (.map (some (H + 1))) (.string code) false).run Tryz.prog W.drew.drew = .ok (.bool true) W.drew.drew := hl2
    have hz : Z = 10 := by rw [← HZ.out]; unfold errD; rw [if_neg (by rw [HF.out]; decide), if_pos (by rw [hg1]; rfl)]
    subst hz
    go_wp2_with fail
    go_region_held3 (fun w' => w'.cell? ⟨w.heap.size, 0, none⟩ = some (.string code) ∧ w'.cell? ⟨H + 2, 4, none⟩ = some (.map (some (H + 1)))) (exact ⟨k0, t4⟩) (fail)
    go_wp2_with fail
    go_returns
    exact ⟨rfl, HCK.out.trans HCK2.out, _, _, (HSD2.out.mono (by omega)), fun h => by cases h⟩
  rw [hg1] at hl2
  have hl2 : (Instr.lookup 98 (.map (some (H + 1))) (.string code) false).run Tryz.prog W.drew.drew = .ok (.bool false) W.drew.drew := hl2
  have hz : Z = if (List.range code.data.toList.length).any (fun i => (f (code.data.toList.take i)).isSome) = true then 10 else 0 := by
    rw [← HZ.out]; unfold errD; rw [if_neg (by rw [HF.out]; decide), if_neg (by rw [hg1]; decide)]
  rw [code_len] at hz
  have HZ2 := Lib.hid hz
  clear hg1 hz
  go_wp2_with fail
  go_region_held3 (fun w' => w'.cell? ⟨w.heap.size, 0, none⟩ = some (.string code) ∧ w'.cell? ⟨H + 2, 4, none⟩ = some (.map (some (H + 1)))) (exact ⟨k0, t4⟩) (fail)
  clear hl2 t4
  have HK0 := Lib.hid k0
  go_wp2_with fail
  clear k0
  go_loopw [32] (fun vi wr => ∃ i : Nat, i ≤ code.size ∧ vi = .int .i64 i ∧ Drew W wr ∧ ∀ j, j < i → (f (code.data.toList.take j)).isSome = false) (fun vi _ => code.size - (RowKit.intOf vi).toNat)
  case atStart => exact ⟨0, Nat.zero_le _, rfl, ⟨2, rfl⟩, fun j hj => by omega⟩
  case round =>
    obtain ⟨i, hi, rfl, hdr, hno⟩ := hrel
    have HNO := Lib.hid hno
    have HDR := Lib.hid hdr
    have hbw : Below W.heap.size W wr.drew := (hdr.below _).drew
    have hs := HSW.out.keep hbw
    have HSR := Lib.hid hs
    have hk0 : wr.drew.cell? ⟨w.heap.size, 0, none⟩ = some (.string code) := by rw [(Blk.ck HK.out (.of_below hbw)).cell]; rfl
    have HCR := Lib.hid (HCK.out.trans (.of_below hbw))
    clear hno hdr hbw
    by_cases hlt : i < code.size
    · have t3 : wr.drew.cell? ⟨H + 2, 3, none⟩ = some (.map (some H)) := by rw [hs.blk.cell]; rfl
      have hl := hs.lookText (code.extract 0 i) (by rw [ByteArray.size_extract]; omega)
      rw [take_data] at hl
      have j1 : (i : Int) < (code.size : Int) := by omega
      have j2 : (0 : Int) ≤ (i : Int) := by omega
      have j3 : (i : Int) ≤ (code.size : Int) := by omega
      clear hs
      cases hfi : (f (code.data.toList.take i)).isSome
      · rw [hfi] at hl
        have HFI := Lib.hid hfi
        clear hfi
        go_wp2_with fail
        go_region_held3 (fun w' => w'.cell? ⟨w.heap.size, 0, none⟩ = some (.string code) ∧ w'.cell? ⟨H + 2, 3, none⟩ = some (.map (some H))) (exact ⟨hk0, t3⟩) (fail)
        go_wp2_with fail
        go_roundw
        case rel => exact ⟨i + 1, by omega, by go_num, (by obtain ⟨m, rfl⟩ := HDR.out; exact ⟨m + 1, rfl⟩), fun j hj => by { by_cases hji : j = i; exact hji ▸ HFI.out; exact HNO.out j (by omega) }⟩
        case measure => simp [RowKit.intOf]; omega
      · rw [hfi] at hl
        have hz : Z = 10 := by rw [HZ2.out, if_pos (by rw [List.any_eq_true]; exact ⟨i, List.mem_range.2 hlt, hfi⟩)]
        subst hz
        clear hfi
        go_wp2_with fail
        go_region_held3 (fun w' => w'.cell? ⟨w.heap.size, 0, none⟩ = some (.string code) ∧ w'.cell? ⟨H + 2, 3, none⟩ = some (.map (some H))) (exact ⟨hk0, t3⟩) (fail)
        go_wp2_with fail
        go_returns
        exact ⟨rfl, HCR.out, _, _, (HSR.out.mono (by omega)), fun h => by cases h⟩
    · obtain rfl : i = code.size := by omega
      have hz : Z = 0 := by
        rw [HZ2.out, if_neg]
        rw [List.any_eq_true]
        rintro ⟨j, hj, h⟩
        rw [HNO.out j (List.mem_range.1 hj)] at h
        cases h
      subst hz
      have hk1 : wr.drew.cell? ⟨w.heap.size, 1, none⟩ = some (.string text) := by rw [(Blk.ck HK.out (.of_below ((HDR.out.below _).drew))).cell]; rfl
      have t3 : wr.drew.cell? ⟨H + 2, 3, none⟩ = some (.map (some H)) := by rw [hs.blk.cell]; rfl
      obtain ⟨w1, hup, hs1, hck1⟩ := hs.putText (by unfold maxLen; omega) code hcm text (by unfold maxLen; omega)
      have HS1 := Lib.hid hs1
      have HC1 := Lib.hid (HCR.out.trans hck1)
      have m0 : w1.cell? ⟨w.heap.size, 0, none⟩ = some (.string code) := by rw [(Blk.ck (Blk.ck HK.out (.of_below ((HDR.out.below _).drew))) hck1).cell]; rfl
      have m1 : w1.cell? ⟨w.heap.size, 1, none⟩ = some (.string text) := by rw [(Blk.ck (Blk.ck HK.out (.of_below ((HDR.out.below _).drew))) hck1).cell]; rfl
      have m3 : w1.cell? ⟨H + 2, 3, none⟩ = some (.map (some H)) := by rw [hs1.blk.cell]; rfl
      have HK1 := Lib.hid (Blk.ck (Blk.ck HK.out (.of_below ((HDR.out.below _).drew))) hck1)
      clear hs hs1 hck1
      have jj : decide ((code.size : Int) < (code.size : Int)) = false := decide_eq_false (by omega)
      go_wp2_with fail
      go_region_held3 (fun w' => w'.cell? ⟨w.heap.size, 0, none⟩ = some (.string code) ∧ w'.cell? ⟨w.heap.size, 1, none⟩ = some (.string text) ∧ w'.cell? ⟨H + 2, 3, none⟩ = some (.map (some H))) (first | exact ⟨hk0, hk1, t3⟩ | exact ⟨m0, m1, m3⟩) (fail)
      clear hup hk0 hk1 t3
      go_wp2_with fail
      clear m0 m1 m3
      go_loopw [60] (fun vi wr => ∃ i : Nat, i ≤ code.size ∧ vi = .int .i64 i ∧ CK w1 wr ∧ HS H w0 wr (n + 1 + i) (chC H p vr vk vc) (fun t => if t = code.data.toList then some text else f t) (headsK code.data.toList i g) h) (fun vi _ => code.size - (RowKit.intOf vi).toNat)
      case atStart => exact ⟨0, Nat.zero_le _, rfl, .refl _, by rw [headsK_zero]; exact HS1.out⟩
      case round =>
        obtain ⟨i, hi, rfl, hck, hs⟩ := hrel
        have HSQ := Lib.hid hs
        have HCQ := Lib.hid (hck.trans (.of_below (Below.refl _ _).drew))
        have HCE := Lib.hid hck
        have hsd := hs.keep (Below.refl _ _).drew
        clear hs hck
        by_cases hlt : i < code.size
        · have k0 : wr.drew.cell? ⟨w.heap.size, 0, none⟩ = some (.string code) := by rw [(Blk.ck HK1.out HCQ.out).cell]; rfl
          have t4 : wr.drew.cell? ⟨H + 2, 4, none⟩ = some (.map (some (H + 1))) := by rw [hsd.blk.cell]; rfl
          obtain ⟨w2, hup, hs2, hck2⟩ := hsd.putHead (by unfold maxLen; omega) (code.extract 0 i) (by rw [ByteArray.size_extract]; omega)
          rw [take_data, headsK_succ _ _ (by rw [code_len]; exact hlt)] at hs2
          have n0 : w2.cell? ⟨w.heap.size, 0, none⟩ = some (.string code) := by rw [(Blk.ck (Blk.ck HK1.out HCQ.out) hck2).cell]; rfl
          have n4 : w2.cell? ⟨H + 2, 4, none⟩ = some (.map (some (H + 1))) := by rw [hs2.blk.cell]; rfl
          have HS2 := Lib.hid hs2
          have HC2 := Lib.hid (HCQ.out.trans hck2)
          have j1 : (i : Int) < (code.size : Int) := by omega
          have j2 : (0 : Int) ≤ (i : Int) := by omega
          have j3 : (i : Int) ≤ (code.size : Int) := by omega
          clear hsd hs2 hck2
          go_wp2_with fail
          go_region_held3 (fun w' => w'.cell? ⟨w.heap.size, 0, none⟩ = some (.string code) ∧ w'.cell? ⟨H + 2, 4, none⟩ = some (.map (some (H + 1)))) (first | exact ⟨k0, t4⟩ | exact ⟨n0, n4⟩) (fail)
          go_wp2_with fail
          go_roundw
          case rel => exact ⟨i + 1, by omega, by go_num, HC2.out, HS2.out⟩
          case measure => simp [RowKit.intOf]; omega
        · obtain rfl : i = code.size := by omega
          clear hsd
          have jj : decide ((code.size : Int) < (code.size : Int)) = false := decide_eq_false (by omega)
          go_wp2_with fail
          go_returns
          first | exact ⟨rfl, HC1.out.trans HCE.out, HSQ.out.mono (by omega)⟩ | exact ⟨rfl, HC1.out.trans HCE.out, by rw [code_len]; exact HSQ.out.mono (by omega)⟩ | exact ⟨HC1.out.trans HCE.out, HSQ.out.mono (by omega)⟩
end Go.Proofs.YtkfjmcidcnpijaaGreatDoor.Sg
