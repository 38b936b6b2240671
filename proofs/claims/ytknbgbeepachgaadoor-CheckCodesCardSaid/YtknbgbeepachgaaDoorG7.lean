/-
  Texts of this claim, merged: GexA, GexB, GexC. Lemmas and contracts; no conditions of our own.
-/
import Derived.Test.YtknbgbeepachgaaDoorG6
import Derived.Laws.Closers25b

/-
  datum.blank, whole.Good, exactly.
-/
namespace Go.Proofs.YtknbgbeepachgaaDoor
open Go.RowKit

/-- Nothing but what its kind names. -/
def PlainD (d : Dat) : Prop :=
  (d.kind ≠ 1 → d.neg = false ∧ d.limbs = []) ∧ (d.kind ≠ 2 → d.b = false) ∧ (d.kind ≠ 3 → d.kind ≠ 4 → d.s = ByteArray.empty) ∧ (d.kind ≠ 5 → d.items = [] ∧ d.tail = [])
instance (d : Dat) : Decidable (PlainD d) := by unfold PlainD; infer_instance
theorem plain_iff (d : Dat) : ((if d.kind = 1 then false else d.neg) = false ∧ (if d.kind = 1 then 0 else d.limbs.length) = 0 ∧ (if d.kind = 2 then false else d.b) = false ∧ (if d.kind = 3 ∨ d.kind = 4 then (⟨#[]⟩ : ByteArray) else d.s) = ⟨#[]⟩ ∧ (if d.kind = 5 then 0 else d.items.length + d.tail.length) = 0) ↔ PlainD d := by
  unfold PlainD
  constructor
  · rintro ⟨e1, e2, e3, e4, e5⟩
    refine ⟨fun h => ?_, fun h => ?_, fun h1 h2 => ?_, fun h => ?_⟩
    · rw [if_neg h] at e1 e2
      exact ⟨e1, List.eq_nil_of_length_eq_zero e2⟩
    · rw [if_neg h] at e3
      exact e3
    · rw [if_neg (by omega)] at e4
      exact e4
    · rw [if_neg h] at e5
      exact ⟨List.eq_nil_of_length_eq_zero (by omega), List.eq_nil_of_length_eq_zero (by omega)⟩
  · rintro ⟨p1, p2, p3, p4⟩
    refine ⟨?_, ?_, ?_, ?_, ?_⟩
    · split
      · rfl
      · exact (p1 ‹_›).1
    · split
      · rfl
      · rw [(p1 ‹_›).2]; rfl
    · split
      · rfl
      · exact p2 ‹_›
    · split
      · rfl
      · exact p3 (by omega) (by omega)
    · split
      · rfl
      · rw [(p4 ‹_›).1, (p4 ‹_›).2]; rfl
/-- What blank answers. -/
def BlankPost (w : World) (d : Dat) (e : Ending) (w' : World) : Prop :=
  (∃ ng aL nL cL bb ss aI nI cI aT nT cT, e = .returned (.agg (datCells d.kind ng aL nL cL bb ss aI nI cI aT nT cT).toArray) ∧ nI ≤ 35184372088832 ∧ nT ≤ 35184372088832 ∧ ((ng = false ∧ nL = 0 ∧ bb = false ∧ ss = ⟨#[]⟩ ∧ nI + nT = 0) ↔ PlainD d)) ∧ Upd [] w w'
theorem blank_fin {w : World} {kd : Int} {d : Dat} (hk : d.kind = kd) {ng : Bool} {aL : Option Addr} {nL cL : Nat} {bb : Bool} {ss : ByteArray} {aI : Option Addr} {nI cI : Nat} {aT : Option Addr} {nT cT : Nat} (h1 : nI ≤ 35184372088832) (h2 : nT ≤ 35184372088832)
    (h : (ng = false ∧ nL = 0 ∧ bb = false ∧ ss = ⟨#[]⟩ ∧ nI + nT = 0) ↔ PlainD d) {W : World} (hu : Upd [] w W) :
    BlankPost w d (.returned (.agg #[.int .i64 kd, .bool ng, .slice aL nL cL, .bool bb, .string ss, .slice aI nI cI, .slice aT nT cT])) W :=
  ⟨⟨ng, aL, nL, cL, bb, ss, aI, nI, cI, aT, nT, cT, by rw [hk]; rfl, h1, h2, h⟩, hu⟩
set_option maxRecDepth 100000 in
set_option maxHeartbeats 3000000 in
theorem blank_calls {P : Nat → Prop} {n : Nat} {d : Dat} {cs : List Value} {w : World} (h : IsD w P (n + 1) cs d) :
    Calls Tryd.prog 64 #[.agg cs.toArray] w (BlankPost w d) := by
  obtain ⟨aL, cL, aI, cI, aT, cT, rfl, l1, r1, r2, hcap, hbd⟩ := h
  have hB1 := hbd.2.2.2.2.1
  have hB2 := hbd.2.2.2.2.2
  obtain ⟨kd, hkd⟩ : ∃ k, k = d.kind := ⟨_, rfl⟩
  have HKD := Lib.hid hkd
  have hL : d.limbs.length = 0 → d.limbs = [] := List.eq_nil_of_length_eq_zero
  have hI : d.items.length + d.tail.length = 0 → d.items = [] ∧ d.tail = [] := fun h => ⟨List.eq_nil_of_length_eq_zero (by omega), List.eq_nil_of_length_eq_zero (by omega)⟩
  unfold datCells
  rw [← hkd]
  clear l1 r1 r2 hcap hbd hkd
  have HF := Lib.hid (And.intro hL hI)
  have HP := Lib.hid (And.intro hB1 hB2)
  clear hL hI hB1 hB2
  by_cases h1 : kd = 1
  · subst h1
    have hfin := fun (W : World) (hu : Upd [] w W) => blank_fin (w := w) (d := d) HKD.out.symm (ng := false) (aL := none) (nL := 0) (cL := 0) (bb := d.b) (ss := d.s) (aI := aI) (nI := d.items.length) (cI := cI) (aT := aT) (nT := d.tail.length) (cT := cT) HP.out.1 HP.out.2 (by have h9 := plain_iff d; rw [← HKD.out] at h9; simpa using h9) hu
    have HFIN := Lib.hid hfin
    clear hfin HF HP
    generalize d.neg = ng at *
    generalize d.limbs.length = nl at *
    generalize d.b = bb at *
    generalize d.s = ss at *
    generalize d.items.length = ni at *
    generalize d.tail.length = nt at *
    go_enter Tryd.func64, Tryd.ntmps64
    go_wp2
    have hB : Blk ((w.alloc (.cells #[.int .i64 1, .bool false, .slice none 0 0, .bool bb, .string ss, .slice aI ni cI, .slice aT nt cT] 56)).alloc (.cells #[.int .i64 1, .bool false, .slice none 0 0, .bool bb, .string ss, .slice aI ni cI, .slice aT nt cT] 56)) (w.heap.size + 1) [.int .i64 1, .bool false, .slice none 0 0, .bool bb, .string ss, .slice aI ni cI, .slice aT nt cT] 56 := Blk.newAt (by simp)
    obtain ⟨k0, k1, k2, k3, k4, k5, k6⟩ := Blk.seven hB
    refine bodyPost_ret (v := .agg #[.int .i64 1, .bool false, .slice none 0 0, .bool bb, .string ss, .slice aI ni cI, .slice aT nt cT]) ?_ rfl (HFIN.out _ (((Upd.refl [] w).alloc _).alloc _))
    simp [results, Tryd.results64, go_sem, k0, k1, k2, k3, k4, k5, k6]
  · by_cases h2 : kd = 2
    · subst h2
      have hfin := fun (W : World) (hu : Upd [] w W) => blank_fin (w := w) (d := d) HKD.out.symm (ng := d.neg) (aL := aL) (nL := d.limbs.length) (cL := cL) (bb := false) (ss := d.s) (aI := aI) (nI := d.items.length) (cI := cI) (aT := aT) (nT := d.tail.length) (cT := cT) HP.out.1 HP.out.2 (by have h9 := plain_iff d; rw [← HKD.out] at h9; simpa using h9) hu
      have HFIN := Lib.hid hfin
      clear hfin HF HP
      generalize d.neg = ng at *
      generalize d.limbs.length = nl at *
      generalize d.b = bb at *
      generalize d.s = ss at *
      generalize d.items.length = ni at *
      generalize d.tail.length = nt at *
      go_enter Tryd.func64, Tryd.ntmps64
      go_wp2
      have hB : Blk ((w.alloc (.cells #[.int .i64 2, .bool ng, .slice aL nl cL, .bool false, .string ss, .slice aI ni cI, .slice aT nt cT] 56)).alloc (.cells #[.int .i64 2, .bool ng, .slice aL nl cL, .bool false, .string ss, .slice aI ni cI, .slice aT nt cT] 56)) (w.heap.size + 1) [.int .i64 2, .bool ng, .slice aL nl cL, .bool false, .string ss, .slice aI ni cI, .slice aT nt cT] 56 := Blk.newAt (by simp)
      obtain ⟨k0, k1, k2, k3, k4, k5, k6⟩ := Blk.seven hB
      refine bodyPost_ret (v := .agg #[.int .i64 2, .bool ng, .slice aL nl cL, .bool false, .string ss, .slice aI ni cI, .slice aT nt cT]) ?_ rfl (HFIN.out _ (((Upd.refl [] w).alloc _).alloc _))
      simp [results, Tryd.results64, go_sem, k0, k1, k2, k3, k4, k5, k6]
    · by_cases h3 : kd = 3
      · subst h3
        have hfin := fun (W : World) (hu : Upd [] w W) => blank_fin (w := w) (d := d) HKD.out.symm (ng := d.neg) (aL := aL) (nL := d.limbs.length) (cL := cL) (bb := d.b) (ss := ⟨#[]⟩) (aI := aI) (nI := d.items.length) (cI := cI) (aT := aT) (nT := d.tail.length) (cT := cT) HP.out.1 HP.out.2 (by have h9 := plain_iff d; rw [← HKD.out] at h9; simpa using h9) hu
        have HFIN := Lib.hid hfin
        clear hfin HF HP
        generalize d.neg = ng at *
        generalize d.limbs.length = nl at *
        generalize d.b = bb at *
        generalize d.s = ss at *
        generalize d.items.length = ni at *
        generalize d.tail.length = nt at *
        go_enter Tryd.func64, Tryd.ntmps64
        go_wp2
        have hB : Blk ((w.alloc (.cells #[.int .i64 3, .bool ng, .slice aL nl cL, .bool bb, .string ⟨#[]⟩, .slice aI ni cI, .slice aT nt cT] 56)).alloc (.cells #[.int .i64 3, .bool ng, .slice aL nl cL, .bool bb, .string ⟨#[]⟩, .slice aI ni cI, .slice aT nt cT] 56)) (w.heap.size + 1) [.int .i64 3, .bool ng, .slice aL nl cL, .bool bb, .string ⟨#[]⟩, .slice aI ni cI, .slice aT nt cT] 56 := Blk.newAt (by simp)
        obtain ⟨k0, k1, k2, k3, k4, k5, k6⟩ := Blk.seven hB
        refine bodyPost_ret (v := .agg #[.int .i64 3, .bool ng, .slice aL nl cL, .bool bb, .string ⟨#[]⟩, .slice aI ni cI, .slice aT nt cT]) ?_ rfl (HFIN.out _ (((Upd.refl [] w).alloc _).alloc _))
        simp [results, Tryd.results64, go_sem, k0, k1, k2, k3, k4, k5, k6]
      · by_cases h4 : kd = 4
        · subst h4
          have hfin := fun (W : World) (hu : Upd [] w W) => blank_fin (w := w) (d := d) HKD.out.symm (ng := d.neg) (aL := aL) (nL := d.limbs.length) (cL := cL) (bb := d.b) (ss := ⟨#[]⟩) (aI := aI) (nI := d.items.length) (cI := cI) (aT := aT) (nT := d.tail.length) (cT := cT) HP.out.1 HP.out.2 (by have h9 := plain_iff d; rw [← HKD.out] at h9; simpa using h9) hu
          have HFIN := Lib.hid hfin
          clear hfin HF HP
          generalize d.neg = ng at *
          generalize d.limbs.length = nl at *
          generalize d.b = bb at *
          generalize d.s = ss at *
          generalize d.items.length = ni at *
          generalize d.tail.length = nt at *
          go_enter Tryd.func64, Tryd.ntmps64
          go_wp2
          have hB : Blk ((w.alloc (.cells #[.int .i64 4, .bool ng, .slice aL nl cL, .bool bb, .string ⟨#[]⟩, .slice aI ni cI, .slice aT nt cT] 56)).alloc (.cells #[.int .i64 4, .bool ng, .slice aL nl cL, .bool bb, .string ⟨#[]⟩, .slice aI ni cI, .slice aT nt cT] 56)) (w.heap.size + 1) [.int .i64 4, .bool ng, .slice aL nl cL, .bool bb, .string ⟨#[]⟩, .slice aI ni cI, .slice aT nt cT] 56 := Blk.newAt (by simp)
          obtain ⟨k0, k1, k2, k3, k4, k5, k6⟩ := Blk.seven hB
          refine bodyPost_ret (v := .agg #[.int .i64 4, .bool ng, .slice aL nl cL, .bool bb, .string ⟨#[]⟩, .slice aI ni cI, .slice aT nt cT]) ?_ rfl (HFIN.out _ (((Upd.refl [] w).alloc _).alloc _))
          simp [results, Tryd.results64, go_sem, k0, k1, k2, k3, k4, k5, k6]
        · by_cases h5 : kd = 5
          · subst h5
            have hfin := fun (W : World) (hu : Upd [] w W) => blank_fin (w := w) (d := d) HKD.out.symm (ng := d.neg) (aL := aL) (nL := d.limbs.length) (cL := cL) (bb := d.b) (ss := d.s) (aI := none) (nI := 0) (cI := 0) (aT := none) (nT := 0) (cT := 0) (Nat.zero_le _) (Nat.zero_le _) (by have h9 := plain_iff d; rw [← HKD.out] at h9; simpa using h9) hu
            have HFIN := Lib.hid hfin
            clear hfin HF HP
            generalize d.neg = ng at *
            generalize d.limbs.length = nl at *
            generalize d.b = bb at *
            generalize d.s = ss at *
            generalize d.items.length = ni at *
            generalize d.tail.length = nt at *
            go_enter Tryd.func64, Tryd.ntmps64
            go_wp2
            have hB : Blk ((w.alloc (.cells #[.int .i64 5, .bool ng, .slice aL nl cL, .bool bb, .string ss, .slice none 0 0, .slice none 0 0] 56)).alloc (.cells #[.int .i64 5, .bool ng, .slice aL nl cL, .bool bb, .string ss, .slice none 0 0, .slice none 0 0] 56)) (w.heap.size + 1) [.int .i64 5, .bool ng, .slice aL nl cL, .bool bb, .string ss, .slice none 0 0, .slice none 0 0] 56 := Blk.newAt (by simp)
            obtain ⟨k0, k1, k2, k3, k4, k5, k6⟩ := Blk.seven hB
            refine bodyPost_ret (v := .agg #[.int .i64 5, .bool ng, .slice aL nl cL, .bool bb, .string ss, .slice none 0 0, .slice none 0 0]) ?_ rfl (HFIN.out _ (((Upd.refl [] w).alloc _).alloc _))
            simp [results, Tryd.results64, go_sem, k0, k1, k2, k3, k4, k5, k6]
          · have hne : d.kind ≠ 1 ∧ d.kind ≠ 2 := by rw [← HKD.out]; exact ⟨h1, h2⟩
            have hfin := fun (W : World) (hu : Upd [] w W) => blank_fin (w := w) (d := d) HKD.out.symm (ng := d.neg) (aL := aL) (nL := d.limbs.length) (cL := cL) (bb := d.b) (ss := d.s) (aI := aI) (nI := d.items.length) (cI := cI) (aT := aT) (nT := d.tail.length) (cT := cT) HP.out.1 HP.out.2 (by have h9 := plain_iff d; rw [← HKD.out] at h9; rw [if_neg h1, if_neg h1, if_neg h2, if_neg (by omega), if_neg h5] at h9; exact h9) hu
            have HFIN := Lib.hid hfin
            clear hfin HF HP
            generalize d.neg = ng at *
            generalize d.limbs.length = nl at *
            generalize d.b = bb at *
            generalize d.s = ss at *
            generalize d.items.length = ni at *
            generalize d.tail.length = nt at *
            go_enter Tryd.func64, Tryd.ntmps64
            go_wp2
            have hB : Blk ((w.alloc (.cells #[.int .i64 kd, .bool ng, .slice aL nl cL, .bool bb, .string ss, .slice aI ni cI, .slice aT nt cT] 56)).alloc (.cells #[.int .i64 kd, .bool ng, .slice aL nl cL, .bool bb, .string ss, .slice aI ni cI, .slice aT nt cT] 56)) (w.heap.size + 1) [.int .i64 kd, .bool ng, .slice aL nl cL, .bool bb, .string ss, .slice aI ni cI, .slice aT nt cT] 56 := Blk.newAt (by simp)
            obtain ⟨k0, k1, k2, k3, k4, k5, k6⟩ := Blk.seven hB
            refine bodyPost_ret (v := .agg #[.int .i64 kd, .bool ng, .slice aL nl cL, .bool bb, .string ss, .slice aI ni cI, .slice aT nt cT]) ?_ rfl (HFIN.out _ (((Upd.refl [] w).alloc _).alloc _))
            simp [results, Tryd.results64, go_sem, k0, k1, k2, k3, k4, k5, k6]
theorem trimL_last {xs : List Int} {k : Nat} (hk : xs.length = k + 1) (h : xs.getD k 0 ≠ 0) : trimL xs = xs := by
  have h1 := take_last (xs := xs) (k := k) (by omega)
  rw [show xs.take (k + 1) = xs from List.take_of_length_le (by omega)] at h1
  rw [h1]
  exact trimL_other _ h
def wgB (ng : Bool) (ls : List Int) : Bool := if ls.length = 0 then !ng else decide (ls.getD (ls.length - 1) 0 ≠ 0)
set_option maxRecDepth 100000 in
set_option maxHeartbeats 1500000 in
theorem wholeGood_calls {P : Nat → Prop} {w : World} {a : Option Addr} {xs : List Int} (ng : Bool) (m c : Nat) (hm : xs.length = m) (h : LimbsOf w P a xs) (hb : m ≤ 35184372088832) (hx : ∀ x ∈ xs, 0 ≤ x ∧ x < 4294967296) :
    Calls Tryd.prog 65 #[.agg #[.bool ng, .slice a m c]] w fun e w' => e = .returned (.bool (wgB ng xs)) ∧ Upd [] w w' := by
  have hU : Upd [] w (w.alloc (.cells #[.bool ng, .slice a m c] 54)) := (Upd.refl [] w).alloc _
  cases m with
  | zero =>
    have hxs : xs = [] := List.eq_nil_of_length_eq_zero hm
    subst hxs
    have HU := Lib.hid hU
    clear h hx hm hU
    show Calls _ _ _ w fun e w' => e = .returned (.bool (!ng)) ∧ Upd [] w w'
    go_enter Tryd.func65, Tryd.ntmps65
    go_wp2
    go_ret
    exact ⟨rfl, HU.out⟩
  | succ k =>
    obtain ⟨b, o, rfl, _, hc⟩ := h k (by omega)
    have c1 := hU.cell hc (by simp)
    have hxk := hx (xs.getD k 0) (by simp [List.getD_eq_getElem?_getD, hm])
    obtain ⟨x, hx'⟩ : ∃ x, x = xs.getD k 0 := ⟨_, rfl⟩
    have e : wgB ng xs = (x != 0) := by
      unfold wgB
      rw [if_neg (by omega), hm, Nat.add_sub_cancel, ← hx']
      by_cases h : x = 0 <;> simp [h]
    rw [e]
    rw [← hx'] at c1 hxk
    have HU := Lib.hid hU
    have hw1 : IntKind.i64.wrap (((k + 1 : Nat) : Int) - 1) = (k : Int) := by
      rw [show ((k + 1 : Nat) : Int) - 1 = (k : Int) by omega]
      exact IntWalk.i64_in _ (by omega)
    clear h hc hx hm hU hx' e
    go_enter Tryd.func65, Tryd.ntmps65
    go_wp2
    go_ret
    exact ⟨rfl, HU.out⟩
end Go.Proofs.YtknbgbeepachgaaDoor

/-
  datum.good, exactly.
-/
namespace Go.Proofs.YtknbgbeepachgaaDoor
open Go.RowKit

def tailOk (d : Dat) : Prop := d.tail.length = 0 ∨ (d.tail.length = 1 ∧ 0 < d.items.length ∧ (d.tail.getD 0 default).kind ≠ 5)
instance (d : Dat) : Decidable (tailOk d) := by unfold tailOk; infer_instance
/-- May a datum be, but for how many there are? -/
def goodN : Nat → Dat → Bool
  | 0, _ => false
  | n + 1, d => decide (PlainD d) && (if d.kind = 0 ∨ d.kind = 2 then true else if d.kind = 1 then wgB d.neg d.limbs && decide ((d.limbs.length : Int) ≤ 64)
      else if d.kind = 3 then decide (d.s.toList ≠ [] ∧ (d.s.size : Int) ≤ 64) else if d.kind = 4 then decide ((d.s.size : Int) ≤ 1024) else if d.kind = 5 then decide (tailOk d) && (d.items ++ d.tail).all (goodN n) else false)
def GoodSaid (n : Nat) : Prop := ∀ (d : Dat) (cs : List Value) (w : World), IsD w (fun _ => True) n cs d → szN n d ≤ 100000 →
    Calls Tryd.prog 58 #[.agg cs.toArray] w fun e w' => e = .returned (.bool (goodN n d)) ∧ Upd [] w w'
set_option maxRecDepth 100000 in
set_option maxHeartbeats 1500000 in
theorem good1_calls {n : Nat} (ih : GoodSaid n) {d : Dat} {cs : List Value} {w : World} (h : IsD w (fun _ => True) n cs d) (hs : szN n d ≤ 100000) :
    Calls Tryd.prog 67 #[.agg cs.toArray] w fun e w' => e = .returned (.bool (!goodN n d)) ∧ Upd [] w w' := by
  obtain ⟨k1, n1, a1, l1, p1, b1, s1, i1, m1, d1, t1, o1, q1, rfl⟩ := h.shaped
  have hu : Upd [] w (w.alloc (.cells #[.int .i64 k1, .bool n1, .slice a1 l1 p1, .bool b1, .string s1, .slice i1 m1 d1, .slice t1 o1 q1] 56)) := (Upd.refl [] w).alloc _
  have hC := Lib.hid (ih d _ _ (h.upd hu) hs)
  have HU := Lib.hid hu
  unfold datCells at *
  clear h hs hu ih
  generalize goodN n d = r at *
  go_enter Tryd.func67, Tryd.ntmps67
  go_wp2_with fail
  refine hC.out.mono ?_
  rintro e w2 ⟨rfl, hu2⟩
  have HU2 := Lib.hid (HU.out.then hu2)
  clear hC hu2
  go_wp2
  go_ret
  exact ⟨rfl, HU2.out⟩
theorem all_at {f : Dat → Bool} {ds : List Dat} (h : ∀ i, i < ds.length → f (ds.getD i default) = true) : ds.all f = true := by
  rw [List.all_eq_true]
  intro x hx
  obtain ⟨i, hi, rfl⟩ := List.getElem_of_mem hx
  have := h i hi
  rwa [List.getD_eq_getElem?_getD, List.getElem?_eq_getElem hi] at this
theorem all_not {f : Dat → Bool} {ds : List Dat} {i : Nat} (hi : i < ds.length) (h : f (ds.getD i default) = false) : ds.all f = false := by
  rw [List.all_eq_false]
  rw [List.getD_eq_getElem?_getD, List.getElem?_eq_getElem hi] at h
  exact ⟨_, List.getElem_mem hi, by simpa using h⟩
set_option maxRecDepth 100000 in
set_option maxHeartbeats 1500000 in
theorem indexFunc_calls {n : Nat} (ih : GoodSaid n) {w : World} {a : Option Addr} {ds : List Dat} (m c : Nat) (hm : ds.length = m) (h : RowOf w (fun _ => True) (IsD w (fun _ => True) n) a ds) (hs : szL (szN n) ds ≤ 100000) (hb : m ≤ 100000) :
    Calls Tryd.prog 51 #[.slice a m c, .func (.func 67) #[] #[]] w fun e w' => (∃ k : Int, e = .returned (.int .i64 k) ∧ (decide (0 ≤ k) = !ds.all (goodN n))) ∧ Upd [] w w' := by
  have IH := Lib.hid ih
  have HR := Lib.hid h
  have HM := Lib.hid hm
  have HS := Lib.hid hs
  clear ih h hm hs
  go_enter Tryd.func51, Tryd.ntmps51
  go_wp2_with fail
  go_loopw [8] (fun i wr => ∃ j : Nat, j ≤ m ∧ i = .int .i64 j ∧ Hid (∀ i, i < j → goodN n (ds.getD i default) = true) ∧ Hid (Upd [] w wr)) (fun i _ => m - (intOf i).toNat)
  case atStart => exact ⟨0, by omega, rfl, Lib.hid (fun i hi => by omega), Lib.hid (Upd.refl _ _)⟩
  case round =>
    obtain ⟨j, hj, rfl, hG, hU⟩ := hrel
    by_cases hlt : j < m
    · have hjd : j < ds.length := by rw [HM.out]; exact hlt
      obtain ⟨b, o, cs, rfl, _, hat, hd0⟩ := HR.out j hjd
      have hsz := szL_get (szN n) hjd
      have HG2 : Hid (goodN n (ds.getD j default) = false → ds.all (goodN n) = false) := Lib.hid (fun h => all_not hjd h)
      have HG1 : Hid (goodN n (ds.getD j default) = true → ∀ i, i < j + 1 → goodN n (ds.getD i default) = true) := Lib.hid (fun h i hi => by
        by_cases hij : i < j
        · exact hG.out i hij
        · rw [show i = j by omega]
          exact h)
      obtain ⟨x, hx⟩ : ∃ x, x = ds.getD j default := ⟨_, rfl⟩
      rw [← hx] at hd0 hsz HG1 HG2
      clear hx
      obtain ⟨k1, n1, a1, l1, p1, b1, s1, i1, m1, d1, t1, o1, q1, rfl⟩ := hd0.shaped
      obtain ⟨x0, x1, x2, x3, x4, x5, x6⟩ := (hat.upd hU.out (by simp)).cells
      have HC := Lib.hid (good1_calls IH.out (hd0.upd hU.out) (Nat.le_trans hsz HS.out))
      unfold datCells at HC
      clear hat hd0 hsz
      go_wp2_with fail
      refine HC.out.mono ?_
      rintro e w5 ⟨rfl, hu5⟩
      have HU5 := Lib.hid (hU.out.then hu5)
      clear HC hu5 x0 x1 x2 x3 x4 x5 x6
      cases hr : goodN n x with
      | false =>
        have HX := Lib.hid (HG2.out hr)
        clear hr HG1 HG2
        go_wp2
        go_ret
        exact ⟨⟨_, rfl, by rw [HX.out]; simp⟩, HU5.out⟩
      | true =>
        have HX := Lib.hid (HG1.out hr)
        clear hr HG1 HG2
        go_wp2
        go_roundw
        case rel => exact ⟨j + 1, by omega, by go_num, HX, HU5⟩
        case measure => simp [intOf]; omega
    · have hjm : j = m := by omega
      subst hjm
      go_wp2
      go_ret
      exact ⟨⟨_, rfl, by rw [all_at (fun i hi => hG.out i (by rw [← HM.out]; exact hi))]; rfl⟩, hU.out⟩
set_option maxRecDepth 100000 in
set_option maxHeartbeats 1500000 in
theorem containsFunc_calls {n : Nat} (ih : GoodSaid n) {w : World} {a : Option Addr} {ds : List Dat} (m c : Nat) (hm : ds.length = m) (h : RowOf w (fun _ => True) (IsD w (fun _ => True) n) a ds) (hs : szL (szN n) ds ≤ 100000) (hb : m ≤ 100000) :
    Calls Tryd.prog 40 #[.slice a m c, .func (.func 67) #[] #[]] w fun e w' => e = .returned (.bool (!ds.all (goodN n))) ∧ Upd [] w w' := by
  have hC := Lib.hid (indexFunc_calls ih m c hm h hs hb)
  clear ih h hm hs
  go_enter Tryd.func40, Tryd.ntmps40
  go_wp2_with fail
  refine hC.out.mono ?_
  rintro e w2 ⟨⟨k, rfl, hk⟩, hu2⟩
  have HK := Lib.hid hk
  have HU2 := Lib.hid hu2
  clear hC hk hu2
  go_wp2
  go_ret
  exact ⟨by rw [← HK.out]; rfl, HU2.out⟩
end Go.Proofs.YtknbgbeepachgaaDoor

/-
  datum.good, exactly: the walk.
-/
namespace Go.Proofs.YtknbgbeepachgaaDoor
open Go.RowKit

theorem goodN_not {n : Nat} {d : Dat} (h : ¬ PlainD d) : goodN (n + 1) d = false := by
  unfold goodN
  rw [decide_eq_false h, Bool.false_and]
set_option maxRecDepth 100000 in
set_option maxHeartbeats 4000000 in
theorem good_step (n : Nat) (ih : GoodSaid n) : GoodSaid (n + 1) := by
  intro d cs w h hs
  have h0 := h
  obtain ⟨aL, cL, aI, cI, aT, cT, rfl, l1, r1, r2, hcap, hbd⟩ := h
  have hu1 : Upd [] w (w.alloc (.cells #[.int .i64 d.kind, .bool d.neg, .slice aL d.limbs.length cL, .bool d.b, .string d.s, .slice aI d.items.length cI, .slice aT d.tail.length cT] 56)) := (Upd.refl [] w).alloc _
  have hsz : 1 + szL (szN n) d.items + szL (szN n) d.tail ≤ 100000 := by rw [szN] at hs; exact hs
  have hlen : (d.items ++ d.tail).length ≤ 100000 := by
    have h1 := len_le_szL (szN_pos n) d.items
    have h2 := len_le_szL (szN_pos n) d.tail
    rw [List.length_append]
    omega
  have hBk := Lib.hid (blank_calls (h0.upd hu1))
  have hPt := Lib.hid (fun (W : World) (hu : Upd [] w W) => parts_calls (h0.upd hu) (by rw [List.length_append] at hlen; exact hlen))
  have hWG := Lib.hid (fun (W : World) (hu : Upd [] w W) => wholeGood_calls d.neg d.limbs.length cL rfl (l1.upd0 hu) hbd.2.2.1 hbd.2.1)
  have hCF := Lib.hid (fun (W : World) (a : Option Addr) (c : Nat) (hr : RowOf W (fun _ => True) (IsD W (fun _ => True) n) a (d.items ++ d.tail)) => containsFunc_calls ih (d.items ++ d.tail).length c rfl hr (by rw [szL_append]; omega) hlen)
  have hT0 := Lib.hid (show ∀ (W : World), Upd [] w W → 0 < d.tail.length → ∃ b o, aT = some ⟨b, o, none⟩ ∧ W.cell? ⟨b, o, none⟩ = some (.int .i64 (d.tail.getD 0 default).kind) from fun W hu h1 => by
    obtain ⟨b, o, cs, e, _, hat, hd⟩ := r2 0 h1
    rw [Nat.zero_mul, Nat.add_zero] at hat
    obtain ⟨a1, c1, a2, c2, a3, c3, rfl⟩ := cells_agg hd
    have := (hat.upd hu (by simp)).cells.1
    exact ⟨b, o, e, this⟩)
  have hGN := Lib.hid (fun h => goodN_not (n := n) (d := d) h)
  have hGU : goodN (n + 1) d = (decide (PlainD d) && (if d.kind = 0 ∨ d.kind = 2 then true else if d.kind = 1 then wgB d.neg d.limbs && decide ((d.limbs.length : Int) ≤ 64)
      else if d.kind = 3 then decide (d.s.toList ≠ [] ∧ (d.s.size : Int) ≤ 64) else if d.kind = 4 then decide ((d.s.size : Int) ≤ 1024) else if d.kind = 5 then decide (tailOk d) && (d.items ++ d.tail).all (goodN n) else false)) := rfl
  have HGU := Lib.hid hGU
  clear hGU
  obtain ⟨GG, hGG⟩ : ∃ GG, GG = goodN (n + 1) d := ⟨_, rfl⟩
  rw [← hGG] at HGU hGN ⊢
  clear hGG
  obtain ⟨q, hq⟩ : ∃ q, q = (d.items ++ d.tail).length := ⟨_, rfl⟩
  rw [← hq] at hPt hCF
  clear hq
  have HU1 := Lib.hid hu1
  have hBX := Lib.hid (Blk.new w [.int .i64 d.kind, .bool d.neg, .slice aL d.limbs.length cL, .bool d.b, .string d.s, .slice aI d.items.length cI, .slice aT d.tail.length cT] 56)
  obtain ⟨kd, hkd⟩ : ∃ k, k = d.kind := ⟨_, rfl⟩
  have HKD := Lib.hid hkd
  have hlI : d.items.length ≤ 100000 := by rw [List.length_append] at hlen; omega
  have hlT : d.tail.length ≤ 100000 := by rw [List.length_append] at hlen; omega
  clear h0 hs l1 r1 r2 hcap hbd hu1 hsz hlen ih
  unfold datCells BlankPost at *
  rw [← hkd] at hBk hPt hBX HU1 HGU ⊢
  clear hkd
  go_enter Tryd.func58, Tryd.ntmps58
  go_wp2_with fail
  refine hBk.out.mono ?_
  rintro e w2 ⟨⟨ng, aL', nL, cL', bb, ss, aI', nI, cI', aT', nT, cT', rfl, hb1, hb2, hPl⟩, hu2⟩
  have hx2 := hu2.blk hBX.out (by simp)
  obtain ⟨x0, x1, x2, x3, x4, x5, x6⟩ := Blk.seven hx2
  have hlt := hx2.lt
  have HX2 := Lib.hid hx2
  have HU2 := Lib.hid (HU1.out.then hu2)
  have HPL := Lib.hid hPl
  unfold datCells
  clear hBk hx2 hu2 hPl HU1 hBX
  have hw : IntKind.i64.wrap ((nI : Int) + (nT : Int)) = (nI : Int) + (nT : Int) := IntWalk.i64_in _ (by omega)
  have hu3 : ∀ o, Upd [] w (w2.alloc o) := fun o => HU2.out.alloc o
  have HU3 := Lib.hid hu3
  clear hu3
  by_cases g1 : ng = true
  · subst g1
    have E9 := Lib.hid (hGN.out (fun h => by simpa using HPL.out.2 h))
    go_wp2
    go_ret
    exact ⟨by rw [E9.out]; rfl, HU3.out _⟩
  have g1 : ng = false := by simpa using g1
  subst g1
  by_cases g2 : 0 < nL
  · have g2' : (0 : Int) < (nL : Int) := by omega
    have E9 := Lib.hid (hGN.out (fun h => by have := (HPL.out.2 h).2.1; omega))
    go_wp2
    go_ret
    exact ⟨by rw [E9.out]; rfl, HU3.out _⟩
  have g2 : nL = 0 := by omega
  subst g2
  by_cases g3 : bb = true
  · subst g3
    have E9 := Lib.hid (hGN.out (fun h => by simpa using (HPL.out.2 h).2.2.1))
    go_wp2
    go_ret
    exact ⟨by rw [E9.out]; rfl, HU3.out _⟩
  have g3 : bb = false := by simpa using g3
  subst g3
  by_cases g4 : ¬ ss.toList = []
  · have E9 := Lib.hid (hGN.out (fun h => g4 ((toList_nil_iff_emptyBytes ss).2 (HPL.out.2 h).2.2.2.1)))
    go_wp2
    go_ret
    exact ⟨by rw [E9.out]; rfl, HU3.out _⟩
  have g4 : ss = ⟨#[]⟩ := (toList_nil_iff_emptyBytes ss).1 (Classical.not_not.1 g4)
  subst g4
  by_cases g5 : 0 < nI + nT
  · have g5' : (0 : Int) < (nI : Int) + (nT : Int) := by omega
    have E9 := Lib.hid (hGN.out (fun h => by have := (HPL.out.2 h).2.2.2.2; omega))
    go_wp2
    go_ret
    exact ⟨by rw [E9.out]; rfl, HU3.out _⟩
  have g5' : ¬ (0 : Int) < (nI : Int) + (nT : Int) := by omega
  have hPD : PlainD d := HPL.out.1 ⟨rfl, rfl, rfl, rfl, by omega⟩
  have hgu := HGU.out
  rw [decide_eq_true hPD, Bool.true_and] at hgu
  have HG := Lib.hid hgu
  clear HPL hPD hGN HGU hgu
  by_cases h1 : kd = 1
  · subst h1
    have hg : GG = (wgB d.neg d.limbs && decide ((d.limbs.length : Int) ≤ 64)) := HG.out
    have HG1 := Lib.hid hg
    clear hg HG hPt hCF hT0
    obtain ⟨r, hr⟩ : ∃ r, r = wgB d.neg d.limbs := ⟨_, rfl⟩
    rw [← hr] at HG1 hWG
    clear hr
    go_wp2_with fail
    refine (hWG.out _ (HU3.out _)).mono ?_
    rintro e w4 ⟨rfl, hu4⟩
    have hx4 := hu4.blk (HX2.out.alloc _) (by simp)
    obtain ⟨x0, x1, x2, x3, x4, x5, x6⟩ := Blk.seven hx4
    have HU4 := Lib.hid ((HU3.out _).then hu4)
    clear hu4 hx4 hWG
    cases r with
    | false =>
      go_wp2
      go_ret
      exact ⟨by rw [HG1.out]; rfl, HU4.out⟩
    | true =>
      generalize d.limbs.length = nl at *
      go_wp2
      go_ret
      exact ⟨by rw [HG1.out]; rfl, HU4.out⟩
  by_cases h5 : kd = 5
  · subst h5
    have hg : GG = (decide (tailOk d) && (d.items ++ d.tail).all (goodN n)) := HG.out
    have HG5 := Lib.hid hg
    clear hg HG hWG
    by_cases t2 : 1 < d.tail.length
    · have t2' : (1 : Int) < ((d.tail.length : Nat) : Int) := by omega
      have E9 : Hid (GG = false) := Lib.hid (by rw [HG5.out, decide_eq_false (fun h => by unfold tailOk at h; omega), Bool.false_and])
      clear HG5
      generalize d.tail.length = nt at *
      generalize d.items.length = ni at *
      go_wp2
      go_ret
      exact ⟨by rw [E9.out]; rfl, HU3.out _⟩
    have t2' : ¬ (1 : Int) < ((d.tail.length : Nat) : Int) := by omega
    by_cases t1 : d.tail.length = 1
    · by_cases i0 : d.items.length = 0
      · have E9 : Hid (GG = false) := Lib.hid (by rw [HG5.out, decide_eq_false (fun h => by unfold tailOk at h; omega), Bool.false_and])
        clear HG5 hPt hCF hT0
        generalize d.tail.length = nt at *
        generalize d.items.length = ni at *
        subst t1
        subst i0
        go_wp2
        go_ret
        exact ⟨by rw [E9.out]; rfl, HU3.out _⟩
      · obtain ⟨b, o, rfl, hc⟩ := hT0.out _ (HU3.out (.cells #[.int .i64 5, .bool false, .slice aL' 0 cL', .bool false, .string ⟨#[]⟩, .slice aI' nI cI', .slice aT' nT cT'] 56)) (by omega)
        have i0' : ¬ ((d.items.length : Nat) : Int) = 0 := by omega
        have b0 : (((d.items.length : Nat) : Int) == 0) = false := by simpa using i0'
        have htk : tailOk d ↔ (d.tail.getD 0 default).kind ≠ 5 := by unfold tailOk; omega
        obtain ⟨kt, hkt⟩ : ∃ kt, kt = (d.tail.getD 0 default).kind := ⟨_, rfl⟩
        rw [← hkt] at hc htk
        have HTK := Lib.hid htk
        clear hkt htk
        by_cases hk5 : kt = 5
        · subst hk5
          have E9 : Hid (GG = false) := Lib.hid (by rw [HG5.out, decide_eq_false (fun h => HTK.out.1 h rfl), Bool.false_and])
          clear HG5 hPt hCF hT0 HTK
          generalize d.tail.length = nt at *
          generalize d.items.length = ni at *
          subst t1
          go_wp2
          go_ret
          exact ⟨by rw [E9.out]; rfl, HU3.out _⟩
        · have E9 : Hid (GG = (d.items ++ d.tail).all (goodN n)) := Lib.hid (by rw [HG5.out, decide_eq_true (HTK.out.2 hk5), Bool.true_and])
          have b5 : (kt == 5) = false := by simpa using hk5
          clear HG5 hT0 HTK
          generalize (d.items ++ d.tail).all (goodN n) = al at *
          generalize d.tail.length = nt at *
          generalize d.items.length = ni at *
          subst t1
          go_wp2_with fail
          refine (hPt.out _ (HU3.out _)).mono ?_
          rintro e w4 ⟨⟨ap, cp, rfl, hrow⟩, hu4⟩
          have HU4 := Lib.hid ((HU3.out _).then hu4)
          have HC4 := Lib.hid (hCF.out w4 ap cp hrow)
          clear hu4 hrow hPt hCF
          go_wp2_with fail
          refine HC4.out.mono ?_
          rintro e w5 ⟨rfl, hu5⟩
          have HU5 := Lib.hid (HU4.out.then hu5)
          clear hu5 HC4
          go_wp2
          go_ret
          exact ⟨by rw [E9.out]; simp, HU5.out⟩
    · have t0 : d.tail.length = 0 := by omega
      have E9 : Hid (GG = (d.items ++ d.tail).all (goodN n)) := Lib.hid (by rw [HG5.out, decide_eq_true (show tailOk d from .inl t0), Bool.true_and])
      clear HG5 hT0
      generalize (d.items ++ d.tail).all (goodN n) = al at *
      generalize d.tail.length = nt at *
      generalize d.items.length = ni at *
      subst t0
      go_wp2_with fail
      refine (hPt.out _ (HU3.out _)).mono ?_
      rintro e w4 ⟨⟨ap, cp, rfl, hrow⟩, hu4⟩
      have HU4 := Lib.hid ((HU3.out _).then hu4)
      have HC4 := Lib.hid (hCF.out w4 ap cp hrow)
      clear hu4 hrow hPt hCF
      go_wp2_with fail
      refine HC4.out.mono ?_
      rintro e w5 ⟨rfl, hu5⟩
      have HU5 := Lib.hid (HU4.out.then hu5)
      clear hu5 HC4
      go_wp2
      go_ret
      exact ⟨by rw [E9.out]; simp, HU5.out⟩
  clear hWG hPt hCF hT0
  by_cases h0 : kd = 0
  · subst h0
    have E9 : Hid (GG = true) := HG
    clear HG
    go_wp2
    go_ret
    exact ⟨by rw [E9.out]; rfl, HU3.out _⟩
  by_cases h2 : kd = 2
  · subst h2
    have E9 : Hid (GG = true) := HG
    clear HG
    go_wp2
    go_ret
    exact ⟨by rw [E9.out]; rfl, HU3.out _⟩
  by_cases h3 : kd = 3
  · subst h3
    have hg : GG = decide (d.s.toList ≠ [] ∧ (d.s.size : Int) ≤ 64) := HG.out
    have HG3 := Lib.hid hg
    clear hg HG
    obtain ⟨z, hz⟩ : ∃ z, z = d.s := ⟨_, rfl⟩
    rw [← hz] at HG3 HX2 x4 ⊢
    clear hz
    by_cases hz0 : z.toList = []
    · have E9 : Hid (GG = false) := Lib.hid (by rw [HG3.out, decide_eq_false (fun h => h.1 hz0)])
      clear HG3
      go_wp2
      go_ret
      exact ⟨by rw [E9.out]; rfl, HU3.out _⟩
    · have E9 : Hid (GG = decide ((z.size : Int) ≤ 64)) := Lib.hid (by rw [HG3.out]; simp [hz0])
      have hz1 : (!z.toList.isEmpty) = true := by simpa using hz0
      clear HG3
      go_wp2
      go_ret
      exact ⟨by rw [E9.out]; rfl, HU3.out _⟩
  by_cases h4 : kd = 4
  · subst h4
    have E9 : Hid (GG = decide ((d.s.size : Int) ≤ 1024)) := HG
    clear HG
    generalize d.s = z at *
    go_wp2
    go_ret
    exact ⟨by rw [E9.out]; rfl, HU3.out _⟩
  have E9 : Hid (GG = false) := Lib.hid (by rw [HG.out, if_neg (by omega), if_neg h1, if_neg h3, if_neg h4, if_neg h5])
  clear HG
  have b1 : (kd == 1) = false := by simpa using h1
  have b0 : (kd == 0) = false := by simpa using h0
  have b2 : (kd == 2) = false := by simpa using h2
  have b3 : (kd == 3) = false := by simpa using h3
  have b4 : (kd == 4) = false := by simpa using h4
  have b5 : (kd == 5) = false := by simpa using h5
  go_wp2
  go_ret
  exact ⟨by rw [E9.out]; rfl, HU3.out _⟩
theorem good_calls : ∀ n, GoodSaid n
  | 0 => fun _ _ _ h => h.elim
  | n + 1 => good_step n (good_calls n)
set_option maxRecDepth 100000 in
set_option maxHeartbeats 1500000 in
theorem Good_calls {P : Nat → Prop} {n : Nat} {d : Dat} {cs : List Value} {w : World} (h : IsD w P n cs d) (hs : szN n d ≤ 100000) :
    Calls Tryd.prog 52 #[.agg cs.toArray] w fun e w' => e = .returned (.bool (decide (0 ≤ budN n d 5000 200) && goodN n d)) ∧ Upd [] w w' := by
  obtain ⟨k1, n1, a1, l1, p1, b1, s1, i1, m1, d1, t1, o1, q1, rfl⟩ := h.shaped
  have hC := Lib.hid (fun (W : World) (hu : Upd [] w W) => within_calls P n d _ W 5000 200 (h.upd hu) (by omega) (by omega) (by omega) (by omega))
  have hG := Lib.hid (fun (W : World) (hu : Upd [] w W) => good_calls n d _ W ((h.upd hu).mono fun _ _ _ => trivial) hs)
  have hB := Lib.hid (Blk.new w [.int .i64 k1, .bool n1, .slice a1 l1 p1, .bool b1, .string s1, .slice i1 m1 d1, .slice t1 o1 q1] 56)
  have hU := Lib.hid ((Upd.refl [] w).alloc (.cells #[.int .i64 k1, .bool n1, .slice a1 l1 p1, .bool b1, .string s1, .slice i1 m1 d1, .slice t1 o1 q1] 56))
  clear h hs
  unfold datCells at *
  obtain ⟨r, hr⟩ : ∃ r, r = budN n d 5000 200 := ⟨_, rfl⟩
  rw [← hr] at hC ⊢
  clear hr
  generalize goodN n d = g at *
  go_enter Tryd.func52, Tryd.ntmps52
  go_wp2_with fail
  refine (hC.out _ hU.out).mono ?_
  rintro e w2 ⟨rfl, hu2⟩
  have hx2 := hu2.blk hB.out (by simp)
  obtain ⟨x0, x1, x2, x3, x4, x5, x6⟩ := Blk.seven hx2
  have HU2 := Lib.hid (hU.out.then hu2)
  clear hu2 hx2 hB hU hC
  by_cases h0 : (0 : Int) ≤ r
  · have E9 := Lib.hid (decide_eq_true h0)
    go_wp2_with fail
    refine (hG.out _ HU2.out).mono ?_
    rintro e w3 ⟨rfl, hu3⟩
    have HU3 := Lib.hid (HU2.out.then hu3)
    clear hu3 hG
    go_wp2
    go_ret
    exact ⟨by rw [E9.out, Bool.true_and]; rfl, HU3.out⟩
  · have E9 := Lib.hid (decide_eq_false h0)
    go_wp2
    go_ret
    exact ⟨by rw [E9.out]; rfl, HU2.out⟩
end Go.Proofs.YtknbgbeepachgaaDoor
