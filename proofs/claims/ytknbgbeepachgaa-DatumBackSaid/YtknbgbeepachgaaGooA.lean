/-
  datum.blank, whole.Good.
-/
import Derived.Test.YtknbgbeepachgaaDat1
namespace Go.Proofs.Ytknbgbeepachgaa
open Go.RowKit

/-- Nothing but what its kind names. -/
def PlainD (d : Dat) : Prop :=
  (d.kind ≠ 1 → d.neg = false ∧ d.limbs = []) ∧ (d.kind ≠ 2 → d.b = false) ∧ (d.kind ≠ 3 → d.kind ≠ 4 → d.s = ByteArray.empty) ∧ (d.kind ≠ 5 → d.items = [] ∧ d.tail = [])
/-- What blank answers. -/
def BlankPost (w : World) (d : Dat) (e : Ending) (w' : World) : Prop :=
  (∃ ng aL nL cL bb ss aI nI cI aT nT cT, e = .returned (.agg (datCells d.kind ng aL nL cL bb ss aI nI cI aT nT cT).toArray) ∧ nI ≤ 35184372088832 ∧ nT ≤ 35184372088832 ∧ (ng = false → nL = 0 → bb = false → ss = ⟨#[]⟩ → nI + nT = 0 → PlainD d)) ∧ Upd [] w w'
theorem blank_fin {w : World} {kd : Int} {d : Dat} (hk : d.kind = kd) {ng : Bool} {aL : Option Addr} {nL cL : Nat} {bb : Bool} {ss : ByteArray} {aI : Option Addr} {nI cI : Nat} {aT : Option Addr} {nT cT : Nat} (h1 : nI ≤ 35184372088832) (h2 : nT ≤ 35184372088832)
    (h : ng = false → nL = 0 → bb = false → ss = ⟨#[]⟩ → nI + nT = 0 → PlainD d) {W : World} (hu : Upd [] w W) :
    BlankPost w d (.returned (.agg #[.int .i64 kd, .bool ng, .slice aL nL cL, .bool bb, .string ss, .slice aI nI cI, .slice aT nT cT])) W :=
  ⟨⟨ng, aL, nL, cL, bb, ss, aI, nI, cI, aT, nT, cT, by rw [hk]; rfl, h1, h2, h⟩, hu⟩
set_option maxRecDepth 100000 in
set_option maxHeartbeats 3000000 in
theorem blank_calls {P : Nat → Prop} {n : Nat} {d : Dat} {cs : List Value} {w : World} (h : IsD w P (n + 1) cs d) :
    Calls Try.prog 36 #[.agg cs.toArray] w (BlankPost w d) := by
  obtain ⟨aL, cL, aI, cI, aT, cT, rfl, l1, r1, r2, hcap, hbd⟩ := h
  have hB1 := hbd.2.2.2.2.1
  have hB2 := hbd.2.2.2.2.2
  obtain ⟨kd, hkd⟩ : ∃ k, k = d.kind := ⟨_, rfl⟩
  have HKD := Lib.hid hkd
  have hL : d.limbs.length = 0 → d.limbs = [] := List.eq_nil_of_length_eq_zero
  have hI : d.items.length + d.tail.length = 0 → d.items = [] ∧ d.tail = [] := fun h => ⟨List.eq_nil_of_length_eq_zero (by omega), List.eq_nil_of_length_eq_zero (by omega)⟩
  unfold datCells
  rw [← hkd]
  clear l1 r1 r2 hcap hbd hkd
  have HF := Lib.hid (And.intro hL hI)
  have HP := Lib.hid (And.intro hB1 hB2)
  clear hL hI hB1 hB2
  by_cases h1 : kd = 1
  · subst h1
    have hfin := fun (W : World) (hu : Upd [] w W) => blank_fin (w := w) (d := d) HKD.out.symm (ng := false) (aL := none) (nL := 0) (cL := 0) (bb := d.b) (ss := d.s) (aI := aI) (nI := d.items.length) (cI := cI) (aT := aT) (nT := d.tail.length) (cT := cT) HP.out.1 HP.out.2 (fun e1 e2 e3 e4 e5 => ⟨fun h => (h HKD.out.symm).elim, fun _ => e3, fun _ _ => e4, fun _ => HF.out.2 e5⟩) hu
    have HFIN := Lib.hid hfin
    clear hfin HF HP
    generalize d.neg = ng at *
    generalize d.limbs.length = nl at *
    generalize d.b = bb at *
    generalize d.s = ss at *
    generalize d.items.length = ni at *
    generalize d.tail.length = nt at *
    go_enter Try.func36, Try.ntmps36
    go_wp2
    have hB : Blk ((w.alloc (.cells #[.int .i64 1, .bool false, .slice none 0 0, .bool bb, .string ss, .slice aI ni cI, .slice aT nt cT] 27)).alloc (.cells #[.int .i64 1, .bool false, .slice none 0 0, .bool bb, .string ss, .slice aI ni cI, .slice aT nt cT] 27)) (w.heap.size + 1) [.int .i64 1, .bool false, .slice none 0 0, .bool bb, .string ss, .slice aI ni cI, .slice aT nt cT] 27 := Blk.newAt (by simp)
    obtain ⟨k0, k1, k2, k3, k4, k5, k6⟩ := Blk.seven hB
    refine bodyPost_ret (v := .agg #[.int .i64 1, .bool false, .slice none 0 0, .bool bb, .string ss, .slice aI ni cI, .slice aT nt cT]) ?_ rfl (HFIN.out _ (((Upd.refl [] w).alloc _).alloc _))
    simp [results, Try.results36, go_sem, k0, k1, k2, k3, k4, k5, k6]
  · by_cases h2 : kd = 2
    · subst h2
      have hfin := fun (W : World) (hu : Upd [] w W) => blank_fin (w := w) (d := d) HKD.out.symm (ng := d.neg) (aL := aL) (nL := d.limbs.length) (cL := cL) (bb := false) (ss := d.s) (aI := aI) (nI := d.items.length) (cI := cI) (aT := aT) (nT := d.tail.length) (cT := cT) HP.out.1 HP.out.2 (fun e1 e2 e3 e4 e5 => ⟨fun _ => ⟨e1, HF.out.1 e2⟩, fun h => (h HKD.out.symm).elim, fun _ _ => e4, fun _ => HF.out.2 e5⟩) hu
      have HFIN := Lib.hid hfin
      clear hfin HF HP
      generalize d.neg = ng at *
      generalize d.limbs.length = nl at *
      generalize d.b = bb at *
      generalize d.s = ss at *
      generalize d.items.length = ni at *
      generalize d.tail.length = nt at *
      go_enter Try.func36, Try.ntmps36
      go_wp2
      have hB : Blk ((w.alloc (.cells #[.int .i64 2, .bool ng, .slice aL nl cL, .bool false, .string ss, .slice aI ni cI, .slice aT nt cT] 27)).alloc (.cells #[.int .i64 2, .bool ng, .slice aL nl cL, .bool false, .string ss, .slice aI ni cI, .slice aT nt cT] 27)) (w.heap.size + 1) [.int .i64 2, .bool ng, .slice aL nl cL, .bool false, .string ss, .slice aI ni cI, .slice aT nt cT] 27 := Blk.newAt (by simp)
      obtain ⟨k0, k1, k2, k3, k4, k5, k6⟩ := Blk.seven hB
      refine bodyPost_ret (v := .agg #[.int .i64 2, .bool ng, .slice aL nl cL, .bool false, .string ss, .slice aI ni cI, .slice aT nt cT]) ?_ rfl (HFIN.out _ (((Upd.refl [] w).alloc _).alloc _))
      simp [results, Try.results36, go_sem, k0, k1, k2, k3, k4, k5, k6]
    · by_cases h3 : kd = 3
      · subst h3
        have hfin := fun (W : World) (hu : Upd [] w W) => blank_fin (w := w) (d := d) HKD.out.symm (ng := d.neg) (aL := aL) (nL := d.limbs.length) (cL := cL) (bb := d.b) (ss := ⟨#[]⟩) (aI := aI) (nI := d.items.length) (cI := cI) (aT := aT) (nT := d.tail.length) (cT := cT) HP.out.1 HP.out.2 (fun e1 e2 e3 e4 e5 => ⟨fun _ => ⟨e1, HF.out.1 e2⟩, fun _ => e3, fun h _ => (h HKD.out.symm).elim, fun _ => HF.out.2 e5⟩) hu
        have HFIN := Lib.hid hfin
        clear hfin HF HP
        generalize d.neg = ng at *
        generalize d.limbs.length = nl at *
        generalize d.b = bb at *
        generalize d.s = ss at *
        generalize d.items.length = ni at *
        generalize d.tail.length = nt at *
        go_enter Try.func36, Try.ntmps36
        go_wp2
        have hB : Blk ((w.alloc (.cells #[.int .i64 3, .bool ng, .slice aL nl cL, .bool bb, .string ⟨#[]⟩, .slice aI ni cI, .slice aT nt cT] 27)).alloc (.cells #[.int .i64 3, .bool ng, .slice aL nl cL, .bool bb, .string ⟨#[]⟩, .slice aI ni cI, .slice aT nt cT] 27)) (w.heap.size + 1) [.int .i64 3, .bool ng, .slice aL nl cL, .bool bb, .string ⟨#[]⟩, .slice aI ni cI, .slice aT nt cT] 27 := Blk.newAt (by simp)
        obtain ⟨k0, k1, k2, k3, k4, k5, k6⟩ := Blk.seven hB
        refine bodyPost_ret (v := .agg #[.int .i64 3, .bool ng, .slice aL nl cL, .bool bb, .string ⟨#[]⟩, .slice aI ni cI, .slice aT nt cT]) ?_ rfl (HFIN.out _ (((Upd.refl [] w).alloc _).alloc _))
        simp [results, Try.results36, go_sem, k0, k1, k2, k3, k4, k5, k6]
      · by_cases h4 : kd = 4
        · subst h4
          have hfin := fun (W : World) (hu : Upd [] w W) => blank_fin (w := w) (d := d) HKD.out.symm (ng := d.neg) (aL := aL) (nL := d.limbs.length) (cL := cL) (bb := d.b) (ss := ⟨#[]⟩) (aI := aI) (nI := d.items.length) (cI := cI) (aT := aT) (nT := d.tail.length) (cT := cT) HP.out.1 HP.out.2 (fun e1 e2 e3 e4 e5 => ⟨fun _ => ⟨e1, HF.out.1 e2⟩, fun _ => e3, fun _ h => (h HKD.out.symm).elim, fun _ => HF.out.2 e5⟩) hu
          have HFIN := Lib.hid hfin
          clear hfin HF HP
          generalize d.neg = ng at *
          generalize d.limbs.length = nl at *
          generalize d.b = bb at *
          generalize d.s = ss at *
          generalize d.items.length = ni at *
          generalize d.tail.length = nt at *
          go_enter Try.func36, Try.ntmps36
          go_wp2
          have hB : Blk ((w.alloc (.cells #[.int .i64 4, .bool ng, .slice aL nl cL, .bool bb, .string ⟨#[]⟩, .slice aI ni cI, .slice aT nt cT] 27)).alloc (.cells #[.int .i64 4, .bool ng, .slice aL nl cL, .bool bb, .string ⟨#[]⟩, .slice aI ni cI, .slice aT nt cT] 27)) (w.heap.size + 1) [.int .i64 4, .bool ng, .slice aL nl cL, .bool bb, .string ⟨#[]⟩, .slice aI ni cI, .slice aT nt cT] 27 := Blk.newAt (by simp)
          obtain ⟨k0, k1, k2, k3, k4, k5, k6⟩ := Blk.seven hB
          refine bodyPost_ret (v := .agg #[.int .i64 4, .bool ng, .slice aL nl cL, .bool bb, .string ⟨#[]⟩, .slice aI ni cI, .slice aT nt cT]) ?_ rfl (HFIN.out _ (((Upd.refl [] w).alloc _).alloc _))
          simp [results, Try.results36, go_sem, k0, k1, k2, k3, k4, k5, k6]
        · by_cases h5 : kd = 5
          · subst h5
            have hfin := fun (W : World) (hu : Upd [] w W) => blank_fin (w := w) (d := d) HKD.out.symm (ng := d.neg) (aL := aL) (nL := d.limbs.length) (cL := cL) (bb := d.b) (ss := d.s) (aI := none) (nI := 0) (cI := 0) (aT := none) (nT := 0) (cT := 0) (Nat.zero_le _) (Nat.zero_le _) (fun e1 e2 e3 e4 e5 => ⟨fun _ => ⟨e1, HF.out.1 e2⟩, fun _ => e3, fun _ _ => e4, fun h => (h HKD.out.symm).elim⟩) hu
            have HFIN := Lib.hid hfin
            clear hfin HF HP
            generalize d.neg = ng at *
            generalize d.limbs.length = nl at *
            generalize d.b = bb at *
            generalize d.s = ss at *
            generalize d.items.length = ni at *
            generalize d.tail.length = nt at *
            go_enter Try.func36, Try.ntmps36
            go_wp2
            have hB : Blk ((w.alloc (.cells #[.int .i64 5, .bool ng, .slice aL nl cL, .bool bb, .string ss, .slice none 0 0, .slice none 0 0] 27)).alloc (.cells #[.int .i64 5, .bool ng, .slice aL nl cL, .bool bb, .string ss, .slice none 0 0, .slice none 0 0] 27)) (w.heap.size + 1) [.int .i64 5, .bool ng, .slice aL nl cL, .bool bb, .string ss, .slice none 0 0, .slice none 0 0] 27 := Blk.newAt (by simp)
            obtain ⟨k0, k1, k2, k3, k4, k5, k6⟩ := Blk.seven hB
            refine bodyPost_ret (v := .agg #[.int .i64 5, .bool ng, .slice aL nl cL, .bool bb, .string ss, .slice none 0 0, .slice none 0 0]) ?_ rfl (HFIN.out _ (((Upd.refl [] w).alloc _).alloc _))
            simp [results, Try.results36, go_sem, k0, k1, k2, k3, k4, k5, k6]
          · have hne : d.kind ≠ 1 ∧ d.kind ≠ 2 := by rw [← HKD.out]; exact ⟨h1, h2⟩
            have hfin := fun (W : World) (hu : Upd [] w W) => blank_fin (w := w) (d := d) HKD.out.symm (ng := d.neg) (aL := aL) (nL := d.limbs.length) (cL := cL) (bb := d.b) (ss := d.s) (aI := aI) (nI := d.items.length) (cI := cI) (aT := aT) (nT := d.tail.length) (cT := cT) HP.out.1 HP.out.2 (fun e1 e2 e3 e4 e5 => ⟨fun _ => ⟨e1, HF.out.1 e2⟩, fun _ => e3, fun _ _ => e4, fun _ => HF.out.2 e5⟩) hu
            have HFIN := Lib.hid hfin
            clear hfin HF HP
            generalize d.neg = ng at *
            generalize d.limbs.length = nl at *
            generalize d.b = bb at *
            generalize d.s = ss at *
            generalize d.items.length = ni at *
            generalize d.tail.length = nt at *
            go_enter Try.func36, Try.ntmps36
            go_wp2
            have hB : Blk ((w.alloc (.cells #[.int .i64 kd, .bool ng, .slice aL nl cL, .bool bb, .string ss, .slice aI ni cI, .slice aT nt cT] 27)).alloc (.cells #[.int .i64 kd, .bool ng, .slice aL nl cL, .bool bb, .string ss, .slice aI ni cI, .slice aT nt cT] 27)) (w.heap.size + 1) [.int .i64 kd, .bool ng, .slice aL nl cL, .bool bb, .string ss, .slice aI ni cI, .slice aT nt cT] 27 := Blk.newAt (by simp)
            obtain ⟨k0, k1, k2, k3, k4, k5, k6⟩ := Blk.seven hB
            refine bodyPost_ret (v := .agg #[.int .i64 kd, .bool ng, .slice aL nl cL, .bool bb, .string ss, .slice aI ni cI, .slice aT nt cT]) ?_ rfl (HFIN.out _ (((Upd.refl [] w).alloc _).alloc _))
            simp [results, Try.results36, go_sem, k0, k1, k2, k3, k4, k5, k6]
theorem trimL_last {xs : List Int} {k : Nat} (hk : xs.length = k + 1) (h : xs.getD k 0 ≠ 0) : trimL xs = xs := by
  have h1 := take_last (xs := xs) (k := k) (by omega)
  rw [show xs.take (k + 1) = xs from List.take_of_length_le (by omega)] at h1
  rw [h1]
  exact trimL_other _ h
set_option maxRecDepth 100000 in
set_option maxHeartbeats 1500000 in
theorem wholeGood_calls {P : Nat → Prop} {w : World} {a : Option Addr} {xs : List Int} (ng : Bool) (m c : Nat) (hm : xs.length = m) (h : LimbsOf w P a xs) (hb : m ≤ 35184372088832) (hx : ∀ x ∈ xs, 0 ≤ x ∧ x < 4294967296) :
    Calls Try.prog 37 #[.agg #[.bool ng, .slice a m c]] w fun e w' => (∃ r : Bool, e = .returned (.bool r) ∧ (r = true → trimL xs = xs ∧ (ng && decide (0 < xs.length)) = ng)) ∧ Upd [] w w' := by
  have hU : Upd [] w (w.alloc (.cells #[.bool ng, .slice a m c] 24)) := (Upd.refl [] w).alloc _
  cases m with
  | zero =>
    have hxs : xs = [] := List.eq_nil_of_length_eq_zero hm
    subst hxs
    have HU := Lib.hid hU
    clear h hx hm hU
    go_enter Try.func37, Try.ntmps37
    go_wp2
    go_ret
    exact ⟨⟨_, rfl, fun h => ⟨rfl, by simpa using h⟩⟩, HU.out⟩
  | succ k =>
    obtain ⟨b, o, rfl, _, hc⟩ := h k (by omega)
    have c1 := hU.cell hc (by simp)
    have hl := trimL_last hm
    have hxk := hx (xs.getD k 0) (by simp [List.getD_eq_getElem?_getD, hm])
    obtain ⟨x, hx'⟩ : ∃ x, x = xs.getD k 0 := ⟨_, rfl⟩
    rw [← hx'] at c1 hl hxk
    have HL := Lib.hid hl
    have HU := Lib.hid hU
    have HM := Lib.hid hm
    have hw1 : IntKind.i64.wrap (((k + 1 : Nat) : Int) - 1) = (k : Int) := by
      rw [show ((k + 1 : Nat) : Int) - 1 = (k : Int) by omega]
      exact IntWalk.i64_in _ (by omega)
    clear h hc hx hm hl hU hx'
    go_enter Try.func37, Try.ntmps37
    go_wp2
    go_ret
    refine ⟨⟨_, rfl, fun h => ⟨HL.out (by simpa using h), by rw [HM.out]; simp⟩⟩, HU.out⟩
end Go.Proofs.Ytknbgbeepachgaa
