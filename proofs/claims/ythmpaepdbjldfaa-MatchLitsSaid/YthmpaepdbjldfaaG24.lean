/-
  Texts of this claim, merged: DatQ, DatU, Dat1, GexA, GexB, MaA, MaB, SamB. Lemmas and contracts; no conditions of our own.
-/
import Derived.Test.YthmpaepdbjldfaaG2
import Derived.Test.YthmpaepdbjldfaaG18
import Derived.Test.YthmpaepdbjldfaaG23

/-
  datum.norm, datum.Norm.
-/
namespace Go.Proofs.Ythmpaepdbjldfaa
set_option linter.unusedVariables false
set_option linter.unusedSimpArgs false
open Go.RowKit

theorem norm_calls : ∀ n, NormSaid n
  | 0 => fun _ _ _ _ h => h.elim
  | n + 1 => fun P d cs w h hs => by
    by_cases hk : d.kind = 5
    · exact norm_list n (norm_calls n) P d cs w h hs hk
    · exact norm_flats n P d cs w h hk
set_option maxRecDepth 100000 in
set_option maxHeartbeats 1500000 in
theorem Norm_calls {P : Nat → Prop} {n : Nat} {d : Dat} {cs : List Value} {w : World} (h : IsD w P n cs d) (hs : szN n d ≤ 100000) (hd : dpN n d ≤ 10000) :
    Calls Try.prog 14 #[.agg cs.toArray] w (NormPost w n (normD n d)) := by
  obtain ⟨D, hD⟩ : ∃ D, D = normD n d := ⟨_, rfl⟩
  rw [← hD]
  obtain ⟨k, ng, aL, nL, cL, bb, ss, aI, nI, cI, aT, nT, cT, rfl⟩ := h.shaped
  have hu1 := ((Upd.refl [] w).alloc (.cells #[.int .i64 k, .bool ng, .slice aL nL cL, .bool bb, .string ss, .slice aI nI cI, .slice aT nT cT] 27)).alloc (.cells #[.int .i64 0, .bool false, .slice none 0 0, .bool false, .string ⟨#[]⟩, .slice none 0 0, .slice none 0 0] 27)
  have hF := Lib.hid (few_calls (h.upd hu1) hs hd)
  have hC := Lib.hid (fun (W : World) (hu : Upd [] w W) => norm_calls n P d _ W (h.upd hu) hs)
  rw [← hD] at hC
  have hB := Lib.hid ((Blk.new w [.int .i64 k, .bool ng, .slice aL nL cL, .bool bb, .string ss, .slice aI nI cI, .slice aT nT cT] 27).alloc (.cells #[.int .i64 0, .bool false, .slice none 0 0, .bool false, .string ⟨#[]⟩, .slice none 0 0, .slice none 0 0] 27))
  have hR : Hid (Blk ((w.alloc (.cells #[.int .i64 k, .bool ng, .slice aL nL cL, .bool bb, .string ss, .slice aI nI cI, .slice aT nT cT] 27)).alloc (.cells #[.int .i64 0, .bool false, .slice none 0 0, .bool false, .string ⟨#[]⟩, .slice none 0 0, .slice none 0 0] 27)) (w.heap.size + 1) [.int .i64 0, .bool false, .slice none 0 0, .bool false, .string ⟨#[]⟩, .slice none 0 0, .slice none 0 0] 27) := Lib.hid (Blk.newAt (by simp))
  have hU := Lib.hid hu1
  clear h hs hd hu1 hD
  unfold datCells at *
  go_enter Try.func14, Try.ntmps14
  go_wp2_with fail
  refine hF.out.mono ?_
  rintro e w2 ⟨rfl, hu2⟩
  have hU2 := hU.out.then hu2
  obtain ⟨q0, q1, q2, q3, q4, q5, q6⟩ := Blk.seven (hu2.blk hB.out (by simp))
  have hr2 := hu2.blk hR.out (by simp)
  have hlt := hr2.lt
  have HR2 := Lib.hid hr2
  have HU2 := Lib.hid hU2
  clear hF hB hR hU hu2 hr2 hU2
  go_wp2_with fail
  refine (hC.out _ HU2.out).mono ?_
  rintro e w3 ⟨⟨cs3, rfl, hD3⟩, hu3⟩
  obtain ⟨k3, n3, a3, l3, c3, b3, s3, i3, m3, d3, t3, x3, y3, rfl⟩ := hD3.shaped
  unfold datCells at *
  have hr3 := hu3.blk HR2.out (by simp)
  obtain ⟨p0, p1, p2, p3, p4, p5, p6⟩ := Blk.seven hr3
  obtain ⟨f0, f1, f2, f3, f4, f5, f6⟩ := Blk.frees hr3
  have HR3 := Lib.hid hr3
  have HU3 := Lib.hid (HU2.out.then hu3)
  have HD3 : Hid (IsD w3 (fun b => w.heap.size + 2 ≤ b) n _ _) := Lib.hid (hD3.mono fun b _ hb => by omega)
  clear hr3 hu3 hD3 q0 q1 q2 q3 q4 q5 q6 hC
  go_wp2
  have hb := HR3.out.put7 (.int .i64 k3) (.bool n3) (.slice a3 l3 c3) (.bool b3) (.string s3) (.slice i3 m3 d3) (.slice t3 x3 y3)
  obtain ⟨k0, k1, k2, k3', k4, k5, k6⟩ := Blk.seven hb
  refine bodyPost_ret (v := .agg #[.int .i64 k3, .bool n3, .slice a3 l3 c3, .bool b3, .string s3, .slice i3 m3 d3, .slice t3 x3 y3]) ?_ rfl ⟨⟨[.int .i64 k3, .bool n3, .slice a3 l3 c3, .bool b3, .string s3, .slice i3 m3 d3, .slice t3 x3 y3], rfl, (HD3.out.put7 (w.heap.size + 1) (fun k hk => by omega) _ _ _ _ _ _ _).mono fun b _ hb => by omega⟩, HU3.out.put7 (.inr (Nat.le_succ _)) _ _ _ _ _ _ _⟩
  simp [results, Try.results14, go_sem, k0, k1, k2, k3', k4, k5, k6]
end Go.Proofs.Ythmpaepdbjldfaa

/-
  datum.Number, datum.Pair.
-/
namespace Go.Proofs.Ythmpaepdbjldfaa
set_option linter.unusedVariables false
set_option linter.unusedSimpArgs false
open Go.RowKit

set_option maxRecDepth 100000 in
set_option maxHeartbeats 1500000 in
theorem of_calls (w : World) (k : Int) (hk : k = 1 ∨ k = 2 ∨ k = 3) : Calls Try.prog 59 #[.int .i64 k] w (NumPost w false [k]) := by
  have hB : Blk ((w.alloc (.cells #[.bool false, .slice none 0 0] 24)).alloc (.cells #[.int .u32 k, .int .u32 0] 60)) (w.heap.size + 1) [.int .u32 k, .int .u32 0] 60 := Blk.newAt (by simp)
  have hR : Blk ((w.alloc (.cells #[.bool false, .slice none 0 0] 24)).alloc (.cells #[.int .u32 k, .int .u32 0] 60)) w.heap.size [.bool false, .slice none 0 0] 24 := (Blk.new w [.bool false, .slice none 0 0] _).alloc _
  have hU : Upd [] w ((w.alloc (.cells #[.bool false, .slice none 0 0] 24)).alloc (.cells #[.int .u32 k, .int .u32 0] 60)) := ((Upd.refl [] w).alloc _).alloc _
  have hL : LimbsOf ((w.alloc (.cells #[.bool false, .slice none 0 0] 24)).alloc (.cells #[.int .u32 k, .int .u32 0] 60)) (fun _ => True) (some ⟨w.heap.size + 1, 0, none⟩) [k, 0] := by
    intro i hi
    refine ⟨w.heap.size + 1, 0, rfl, trivial, ?_⟩
    have hi' : i = 0 ∨ i = 1 := by simp at hi; omega
    rw [hB.cell]
    rcases hi' with rfl | rfl <;> rfl
  have hC := Lib.hid (wholeOf_calls false 2 2 rfl hL (Nat.le_refl _) (by omega) (by intro x hx; simp at hx; omega))
  have ht : trimL [k, 0] = [k] := by
    rcases hk with rfl | rfl | rfl <;> rfl
  rw [ht] at hC
  have HR := Lib.hid hR
  have HU := Lib.hid hU
  have hsz : ((w.alloc (.cells #[.bool false, .slice none 0 0] 24)).alloc (.cells #[.int .u32 k, .int .u32 0] 60)).heap.size = w.heap.size + 2 := by simp
  clear hB hR hU hL ht
  have hfin : ∀ w2, NumPost ((w.alloc (.cells #[.bool false, .slice none 0 0] 24)).alloc (.cells #[.int .u32 k, .int .u32 0] 60)) false [k] (.returned default) w2 → True := fun _ _ => trivial
  clear hfin
  rcases hk with rfl | rfl | rfl
  all_goals
    go_enter Try.func59, Try.ntmps59
    go_wp2_with fail
    refine hC.out.mono ?_
    rintro e w2 ⟨⟨a2, c2, rfl, hL2, hc2⟩, hu2⟩
    rw [hsz] at hL2
    have hr2 := hu2.blk HR.out (by simp)
    have c0 := hr2.cell_some (i := 0) rfl
    have c1 := hr2.cell_some (i := 1) rfl
    have f0 := hr2.free 0
    have f1 := hr2.free 1
    have HR2 := Lib.hid hr2
    have HU2 := Lib.hid (HU.out.then hu2)
    have HL2 := Lib.hid hL2
    have HC2 := Lib.hid hc2
    clear hC HR HU hsz hu2 hr2 hL2 hc2
    simp only [Bool.false_and, List.length_cons, List.length_nil, Nat.zero_add] at *
    go_wp2
    have hb := (HR2.out.set 0 (.bool false)).set 1 (.slice a2 1 c2)
    have k0 := hb.cell_some (i := 0) rfl
    have k1 := hb.cell_some (i := 1) rfl
    refine bodyPost_ret (v := .agg #[.bool false, .slice a2 1 c2]) ?_ rfl ⟨⟨a2, c2, rfl, ?_, HC2.out⟩, (HU2.out.setCell _ (.inr (Nat.le_refl _))).setCell _ (.inr (Nat.le_refl _))⟩
    · simp [results, Try.results59, go_sem, k0, k1]
    · exact LimbsOf.mono (P := fun b => w.heap.size + 2 ≤ b) ((HL2.out.set_other _ _ (fun b hb => by simp; omega)).set_other _ _ (fun b hb => by simp; omega)) (fun b hb => by omega)
end Go.Proofs.Ythmpaepdbjldfaa

/-
  pavanelaw03.lives.
-/
namespace Go.Proofs.Ythmpaepdbjldfaa
set_option linter.unusedVariables false
set_option linter.unusedSimpArgs false
open Go.RowKit

theorem IsD.any {w : World} {P : Nat → Prop} {n : Nat} {cs : List Value} {d : Dat} (h : IsD w P n cs d) : IsD w (fun _ => True) n cs d := h.mono fun _ _ _ => trivial
theorem IsD.form {w : World} {P : Nat → Prop} {n p q : Nat} {cs : List Value} {d : Dat} (h : IsD w P n cs d) (hp : d.items.length = p) (hq : d.tail.length = q) :
    ∃ k ng aL nL cL bb ss aI cI aT cT, cs = datCells k ng aL nL cL bb ss aI p cI aT q cT := by
  obtain ⟨aL, cL, aI, cI, aT, cT, rfl⟩ := cells_agg h
  exact ⟨_, _, _, _, _, _, _, aI, cI, aT, cT, by rw [hp, hq]⟩
end Go.Proofs.Ythmpaepdbjldfaa

/-
  datum.blank, whole.Good, exactly.
-/
namespace Go.Proofs.Ythmpaepdbjldfaa
set_option linter.unusedVariables false
set_option linter.unusedSimpArgs false
open Go.RowKit

/-- Nothing but what its kind names. -/
def PlainD (d : Dat) : Prop :=
  (d.kind ≠ 1 → d.neg = false ∧ d.limbs = []) ∧ (d.kind ≠ 2 → d.b = false) ∧ (d.kind ≠ 3 → d.kind ≠ 4 → d.s = ByteArray.empty) ∧ (d.kind ≠ 5 → d.items = [] ∧ d.tail = [])
instance (d : Dat) : Decidable (PlainD d) := by unfold PlainD; infer_instance
theorem plain_iff (d : Dat) : ((if d.kind = 1 then false else d.neg) = false ∧ (if d.kind = 1 then 0 else d.limbs.length) = 0 ∧ (if d.kind = 2 then false else d.b) = false ∧ (if d.kind = 3 ∨ d.kind = 4 then (⟨#[]⟩ : ByteArray) else d.s) = ⟨#[]⟩ ∧ (if d.kind = 5 then 0 else d.items.length + d.tail.length) = 0) ↔ PlainD d := by
  unfold PlainD
  constructor
  · rintro ⟨e1, e2, e3, e4, e5⟩
    refine ⟨fun h => ?_, fun h => ?_, fun h1 h2 => ?_, fun h => ?_⟩
    · rw [if_neg h] at e1 e2
      exact ⟨e1, List.eq_nil_of_length_eq_zero e2⟩
    · rw [if_neg h] at e3
      exact e3
    · rw [if_neg (by omega)] at e4
      exact e4
    · rw [if_neg h] at e5
      exact ⟨List.eq_nil_of_length_eq_zero (by omega), List.eq_nil_of_length_eq_zero (by omega)⟩
  · rintro ⟨p1, p2, p3, p4⟩
    refine ⟨?_, ?_, ?_, ?_, ?_⟩
    · split
      · rfl
      · exact (p1 ‹_›).1
    · split
      · rfl
      · rw [(p1 ‹_›).2]; rfl
    · split
      · rfl
      · exact p2 ‹_›
    · split
      · rfl
      · exact p3 (by omega) (by omega)
    · split
      · rfl
      · rw [(p4 ‹_›).1, (p4 ‹_›).2]; rfl
/-- What blank answers. -/
def BlankPost (w : World) (d : Dat) (e : Ending) (w' : World) : Prop :=
  (∃ ng aL nL cL bb ss aI nI cI aT nT cT, e = .returned (.agg (datCells d.kind ng aL nL cL bb ss aI nI cI aT nT cT).toArray) ∧ nI ≤ 35184372088832 ∧ nT ≤ 35184372088832 ∧ ((ng = false ∧ nL = 0 ∧ bb = false ∧ ss = ⟨#[]⟩ ∧ nI + nT = 0) ↔ PlainD d)) ∧ Upd [] w w'
theorem blank_fin {w : World} {kd : Int} {d : Dat} (hk : d.kind = kd) {ng : Bool} {aL : Option Addr} {nL cL : Nat} {bb : Bool} {ss : ByteArray} {aI : Option Addr} {nI cI : Nat} {aT : Option Addr} {nT cT : Nat} (h1 : nI ≤ 35184372088832) (h2 : nT ≤ 35184372088832)
    (h : (ng = false ∧ nL = 0 ∧ bb = false ∧ ss = ⟨#[]⟩ ∧ nI + nT = 0) ↔ PlainD d) {W : World} (hu : Upd [] w W) :
    BlankPost w d (.returned (.agg #[.int .i64 kd, .bool ng, .slice aL nL cL, .bool bb, .string ss, .slice aI nI cI, .slice aT nT cT])) W :=
  ⟨⟨ng, aL, nL, cL, bb, ss, aI, nI, cI, aT, nT, cT, by rw [hk]; rfl, h1, h2, h⟩, hu⟩
set_option maxRecDepth 100000 in
set_option maxHeartbeats 3000000 in
theorem blank_calls {P : Nat → Prop} {n : Nat} {d : Dat} {cs : List Value} {w : World} (h : IsD w P (n + 1) cs d) :
    Calls Try.prog 92 #[.agg cs.toArray] w (BlankPost w d) := by
  obtain ⟨aL, cL, aI, cI, aT, cT, rfl, l1, r1, r2, hcap, hbd⟩ := h
  have hB1 := hbd.2.2.2.2.1
  have hB2 := hbd.2.2.2.2.2
  obtain ⟨kd, hkd⟩ : ∃ k, k = d.kind := ⟨_, rfl⟩
  have HKD := Lib.hid hkd
  have hL : d.limbs.length = 0 → d.limbs = [] := List.eq_nil_of_length_eq_zero
  have hI : d.items.length + d.tail.length = 0 → d.items = [] ∧ d.tail = [] := fun h => ⟨List.eq_nil_of_length_eq_zero (by omega), List.eq_nil_of_length_eq_zero (by omega)⟩
  unfold datCells
  rw [← hkd]
  clear l1 r1 r2 hcap hbd hkd
  have HF := Lib.hid (And.intro hL hI)
  have HP := Lib.hid (And.intro hB1 hB2)
  clear hL hI hB1 hB2
  by_cases h1 : kd = 1
  · subst h1
    have hfin := fun (W : World) (hu : Upd [] w W) => blank_fin (w := w) (d := d) HKD.out.symm (ng := false) (aL := none) (nL := 0) (cL := 0) (bb := d.b) (ss := d.s) (aI := aI) (nI := d.items.length) (cI := cI) (aT := aT) (nT := d.tail.length) (cT := cT) HP.out.1 HP.out.2 (by have h9 := plain_iff d; rw [← HKD.out] at h9; simpa using h9) hu
    have HFIN := Lib.hid hfin
    clear hfin HF HP
    generalize d.neg = ng at *
    generalize d.limbs.length = nl at *
    generalize d.b = bb at *
    generalize d.s = ss at *
    generalize d.items.length = ni at *
    generalize d.tail.length = nt at *
    go_enter Try.func92, Try.ntmps92
    go_wp2
    have hB : Blk ((w.alloc (.cells #[.int .i64 1, .bool false, .slice none 0 0, .bool bb, .string ss, .slice aI ni cI, .slice aT nt cT] 27)).alloc (.cells #[.int .i64 1, .bool false, .slice none 0 0, .bool bb, .string ss, .slice aI ni cI, .slice aT nt cT] 27)) (w.heap.size + 1) [.int .i64 1, .bool false, .slice none 0 0, .bool bb, .string ss, .slice aI ni cI, .slice aT nt cT] 27 := Blk.newAt (by simp)
    obtain ⟨k0, k1, k2, k3, k4, k5, k6⟩ := Blk.seven hB
    refine bodyPost_ret (v := .agg #[.int .i64 1, .bool false, .slice none 0 0, .bool bb, .string ss, .slice aI ni cI, .slice aT nt cT]) ?_ rfl (HFIN.out _ (((Upd.refl [] w).alloc _).alloc _))
    simp [results, Try.results92, go_sem, k0, k1, k2, k3, k4, k5, k6]
  · by_cases h2 : kd = 2
    · subst h2
      have hfin := fun (W : World) (hu : Upd [] w W) => blank_fin (w := w) (d := d) HKD.out.symm (ng := d.neg) (aL := aL) (nL := d.limbs.length) (cL := cL) (bb := false) (ss := d.s) (aI := aI) (nI := d.items.length) (cI := cI) (aT := aT) (nT := d.tail.length) (cT := cT) HP.out.1 HP.out.2 (by have h9 := plain_iff d; rw [← HKD.out] at h9; simpa using h9) hu
      have HFIN := Lib.hid hfin
      clear hfin HF HP
      generalize d.neg = ng at *
      generalize d.limbs.length = nl at *
      generalize d.b = bb at *
      generalize d.s = ss at *
      generalize d.items.length = ni at *
      generalize d.tail.length = nt at *
      go_enter Try.func92, Try.ntmps92
      go_wp2
      have hB : Blk ((w.alloc (.cells #[.int .i64 2, .bool ng, .slice aL nl cL, .bool false, .string ss, .slice aI ni cI, .slice aT nt cT] 27)).alloc (.cells #[.int .i64 2, .bool ng, .slice aL nl cL, .bool false, .string ss, .slice aI ni cI, .slice aT nt cT] 27)) (w.heap.size + 1) [.int .i64 2, .bool ng, .slice aL nl cL, .bool false, .string ss, .slice aI ni cI, .slice aT nt cT] 27 := Blk.newAt (by simp)
      obtain ⟨k0, k1, k2, k3, k4, k5, k6⟩ := Blk.seven hB
      refine bodyPost_ret (v := .agg #[.int .i64 2, .bool ng, .slice aL nl cL, .bool false, .string ss, .slice aI ni cI, .slice aT nt cT]) ?_ rfl (HFIN.out _ (((Upd.refl [] w).alloc _).alloc _))
      simp [results, Try.results92, go_sem, k0, k1, k2, k3, k4, k5, k6]
    · by_cases h3 : kd = 3
      · subst h3
        have hfin := fun (W : World) (hu : Upd [] w W) => blank_fin (w := w) (d := d) HKD.out.symm (ng := d.neg) (aL := aL) (nL := d.limbs.length) (cL := cL) (bb := d.b) (ss := ⟨#[]⟩) (aI := aI) (nI := d.items.length) (cI := cI) (aT := aT) (nT := d.tail.length) (cT := cT) HP.out.1 HP.out.2 (by have h9 := plain_iff d; rw [← HKD.out] at h9; simpa using h9) hu
        have HFIN := Lib.hid hfin
        clear hfin HF HP
        generalize d.neg = ng at *
        generalize d.limbs.length = nl at *
        generalize d.b = bb at *
        generalize d.s = ss at *
        generalize d.items.length = ni at *
        generalize d.tail.length = nt at *
        go_enter Try.func92, Try.ntmps92
        go_wp2
        have hB : Blk ((w.alloc (.cells #[.int .i64 3, .bool ng, .slice aL nl cL, .bool bb, .string ⟨#[]⟩, .slice aI ni cI, .slice aT nt cT] 27)).alloc (.cells #[.int .i64 3, .bool ng, .slice aL nl cL, .bool bb, .string ⟨#[]⟩, .slice aI ni cI, .slice aT nt cT] 27)) (w.heap.size + 1) [.int .i64 3, .bool ng, .slice aL nl cL, .bool bb, .string ⟨#[]⟩, .slice aI ni cI, .slice aT nt cT] 27 := Blk.newAt (by simp)
        obtain ⟨k0, k1, k2, k3, k4, k5, k6⟩ := Blk.seven hB
        refine bodyPost_ret (v := .agg #[.int .i64 3, .bool ng, .slice aL nl cL, .bool bb, .string ⟨#[]⟩, .slice aI ni cI, .slice aT nt cT]) ?_ rfl (HFIN.out _ (((Upd.refl [] w).alloc _).alloc _))
        simp [results, Try.results92, go_sem, k0, k1, k2, k3, k4, k5, k6]
      · by_cases h4 : kd = 4
        · subst h4
          have hfin := fun (W : World) (hu : Upd [] w W) => blank_fin (w := w) (d := d) HKD.out.symm (ng := d.neg) (aL := aL) (nL := d.limbs.length) (cL := cL) (bb := d.b) (ss := ⟨#[]⟩) (aI := aI) (nI := d.items.length) (cI := cI) (aT := aT) (nT := d.tail.length) (cT := cT) HP.out.1 HP.out.2 (by have h9 := plain_iff d; rw [← HKD.out] at h9; simpa using h9) hu
          have HFIN := Lib.hid hfin
          clear hfin HF HP
          generalize d.neg = ng at *
          generalize d.limbs.length = nl at *
          generalize d.b = bb at *
          generalize d.s = ss at *
          generalize d.items.length = ni at *
          generalize d.tail.length = nt at *
          go_enter Try.func92, Try.ntmps92
          go_wp2
          have hB : Blk ((w.alloc (.cells #[.int .i64 4, .bool ng, .slice aL nl cL, .bool bb, .string ⟨#[]⟩, .slice aI ni cI, .slice aT nt cT] 27)).alloc (.cells #[.int .i64 4, .bool ng, .slice aL nl cL, .bool bb, .string ⟨#[]⟩, .slice aI ni cI, .slice aT nt cT] 27)) (w.heap.size + 1) [.int .i64 4, .bool ng, .slice aL nl cL, .bool bb, .string ⟨#[]⟩, .slice aI ni cI, .slice aT nt cT] 27 := Blk.newAt (by simp)
          obtain ⟨k0, k1, k2, k3, k4, k5, k6⟩ := Blk.seven hB
          refine bodyPost_ret (v := .agg #[.int .i64 4, .bool ng, .slice aL nl cL, .bool bb, .string ⟨#[]⟩, .slice aI ni cI, .slice aT nt cT]) ?_ rfl (HFIN.out _ (((Upd.refl [] w).alloc _).alloc _))
          simp [results, Try.results92, go_sem, k0, k1, k2, k3, k4, k5, k6]
        · by_cases h5 : kd = 5
          · subst h5
            have hfin := fun (W : World) (hu : Upd [] w W) => blank_fin (w := w) (d := d) HKD.out.symm (ng := d.neg) (aL := aL) (nL := d.limbs.length) (cL := cL) (bb := d.b) (ss := d.s) (aI := none) (nI := 0) (cI := 0) (aT := none) (nT := 0) (cT := 0) (Nat.zero_le _) (Nat.zero_le _) (by have h9 := plain_iff d; rw [← HKD.out] at h9; simpa using h9) hu
            have HFIN := Lib.hid hfin
            clear hfin HF HP
            generalize d.neg = ng at *
            generalize d.limbs.length = nl at *
            generalize d.b = bb at *
            generalize d.s = ss at *
            generalize d.items.length = ni at *
            generalize d.tail.length = nt at *
            go_enter Try.func92, Try.ntmps92
            go_wp2
            have hB : Blk ((w.alloc (.cells #[.int .i64 5, .bool ng, .slice aL nl cL, .bool bb, .string ss, .slice none 0 0, .slice none 0 0] 27)).alloc (.cells #[.int .i64 5, .bool ng, .slice aL nl cL, .bool bb, .string ss, .slice none 0 0, .slice none 0 0] 27)) (w.heap.size + 1) [.int .i64 5, .bool ng, .slice aL nl cL, .bool bb, .string ss, .slice none 0 0, .slice none 0 0] 27 := Blk.newAt (by simp)
            obtain ⟨k0, k1, k2, k3, k4, k5, k6⟩ := Blk.seven hB
            refine bodyPost_ret (v := .agg #[.int .i64 5, .bool ng, .slice aL nl cL, .bool bb, .string ss, .slice none 0 0, .slice none 0 0]) ?_ rfl (HFIN.out _ (((Upd.refl [] w).alloc _).alloc _))
            simp [results, Try.results92, go_sem, k0, k1, k2, k3, k4, k5, k6]
          · have hne : d.kind ≠ 1 ∧ d.kind ≠ 2 := by rw [← HKD.out]; exact ⟨h1, h2⟩
            have hfin := fun (W : World) (hu : Upd [] w W) => blank_fin (w := w) (d := d) HKD.out.symm (ng := d.neg) (aL := aL) (nL := d.limbs.length) (cL := cL) (bb := d.b) (ss := d.s) (aI := aI) (nI := d.items.length) (cI := cI) (aT := aT) (nT := d.tail.length) (cT := cT) HP.out.1 HP.out.2 (by have h9 := plain_iff d; rw [← HKD.out] at h9; rw [if_neg h1, if_neg h1, if_neg h2, if_neg (by omega), if_neg h5] at h9; exact h9) hu
            have HFIN := Lib.hid hfin
            clear hfin HF HP
            generalize d.neg = ng at *
            generalize d.limbs.length = nl at *
            generalize d.b = bb at *
            generalize d.s = ss at *
            generalize d.items.length = ni at *
            generalize d.tail.length = nt at *
            go_enter Try.func92, Try.ntmps92
            go_wp2
            have hB : Blk ((w.alloc (.cells #[.int .i64 kd, .bool ng, .slice aL nl cL, .bool bb, .string ss, .slice aI ni cI, .slice aT nt cT] 27)).alloc (.cells #[.int .i64 kd, .bool ng, .slice aL nl cL, .bool bb, .string ss, .slice aI ni cI, .slice aT nt cT] 27)) (w.heap.size + 1) [.int .i64 kd, .bool ng, .slice aL nl cL, .bool bb, .string ss, .slice aI ni cI, .slice aT nt cT] 27 := Blk.newAt (by simp)
            obtain ⟨k0, k1, k2, k3, k4, k5, k6⟩ := Blk.seven hB
            refine bodyPost_ret (v := .agg #[.int .i64 kd, .bool ng, .slice aL nl cL, .bool bb, .string ss, .slice aI ni cI, .slice aT nt cT]) ?_ rfl (HFIN.out _ (((Upd.refl [] w).alloc _).alloc _))
            simp [results, Try.results92, go_sem, k0, k1, k2, k3, k4, k5, k6]
def wgB (ng : Bool) (ls : List Int) : Bool := if ls.length = 0 then !ng else decide (ls.getD (ls.length - 1) 0 ≠ 0)
set_option maxRecDepth 100000 in
set_option maxHeartbeats 1500000 in
theorem wholeGood_calls {P : Nat → Prop} {w : World} {a : Option Addr} {xs : List Int} (ng : Bool) (m c : Nat) (hm : xs.length = m) (h : LimbsOf w P a xs) (hb : m ≤ 35184372088832) (hx : ∀ x ∈ xs, 0 ≤ x ∧ x < 4294967296) :
    Calls Try.prog 93 #[.agg #[.bool ng, .slice a m c]] w fun e w' => e = .returned (.bool (wgB ng xs)) ∧ Upd [] w w' := by
  have hU : Upd [] w (w.alloc (.cells #[.bool ng, .slice a m c] 24)) := (Upd.refl [] w).alloc _
  cases m with
  | zero =>
    have hxs : xs = [] := List.eq_nil_of_length_eq_zero hm
    subst hxs
    have HU := Lib.hid hU
    clear h hx hm hU
    show Calls _ _ _ w fun e w' => e = .returned (.bool (!ng)) ∧ Upd [] w w'
    go_enter Try.func93, Try.ntmps93
    go_wp2
    go_ret
    exact ⟨rfl, HU.out⟩
  | succ k =>
    obtain ⟨b, o, rfl, _, hc⟩ := h k (by omega)
    have c1 := hU.cell hc (by simp)
    have hxk := hx (xs.getD k 0) (by simp [List.getD_eq_getElem?_getD, hm])
    obtain ⟨x, hx'⟩ : ∃ x, x = xs.getD k 0 := ⟨_, rfl⟩
    have e : wgB ng xs = (x != 0) := by
      unfold wgB
      rw [if_neg (by omega), hm, Nat.add_sub_cancel, ← hx']
      by_cases h : x = 0 <;> simp [h]
    rw [e]
    rw [← hx'] at c1 hxk
    have HU := Lib.hid hU
    have hw1 : IntKind.i64.wrap (((k + 1 : Nat) : Int) - 1) = (k : Int) := by
      rw [show ((k + 1 : Nat) : Int) - 1 = (k : Int) by omega]
      exact IntWalk.i64_in _ (by omega)
    clear h hc hx hm hU hx' e
    go_enter Try.func93, Try.ntmps93
    go_wp2
    go_ret
    exact ⟨rfl, HU.out⟩
end Go.Proofs.Ythmpaepdbjldfaa

/-
  datum.good, exactly.
-/
namespace Go.Proofs.Ythmpaepdbjldfaa
set_option linter.unusedVariables false
set_option linter.unusedSimpArgs false
open Go.RowKit

def tailOk (d : Dat) : Prop := d.tail.length = 0 ∨ (d.tail.length = 1 ∧ 0 < d.items.length ∧ (d.tail.getD 0 default).kind ≠ 5)
instance (d : Dat) : Decidable (tailOk d) := by unfold tailOk; infer_instance
/-- May a datum be, but for how many there are? -/
def goodN : Nat → Dat → Bool
  | 0, _ => false
  | n + 1, d => decide (PlainD d) && (if d.kind = 0 ∨ d.kind = 2 then true else if d.kind = 1 then wgB d.neg d.limbs && decide ((d.limbs.length : Int) ≤ 64)
      else if d.kind = 3 then decide (d.s.toList ≠ [] ∧ (d.s.size : Int) ≤ 64) else if d.kind = 4 then decide ((d.s.size : Int) ≤ 1024) else if d.kind = 5 then decide (tailOk d) && (d.items ++ d.tail).all (goodN n) else false)
def GoodSaid (n : Nat) : Prop := ∀ (d : Dat) (cs : List Value) (w : World), IsD w (fun _ => True) n cs d → szN n d ≤ 100000 →
    Calls Try.prog 67 #[.agg cs.toArray] w fun e w' => e = .returned (.bool (goodN n d)) ∧ Upd [] w w'
set_option maxRecDepth 100000 in
set_option maxHeartbeats 1500000 in
theorem good1_calls {n : Nat} (ih : GoodSaid n) {d : Dat} {cs : List Value} {w : World} (h : IsD w (fun _ => True) n cs d) (hs : szN n d ≤ 100000) :
    Calls Try.prog 94 #[.agg cs.toArray] w fun e w' => e = .returned (.bool (!goodN n d)) ∧ Upd [] w w' := by
  obtain ⟨k1, n1, a1, l1, p1, b1, s1, i1, m1, d1, t1, o1, q1, rfl⟩ := h.shaped
  have hu : Upd [] w (w.alloc (.cells #[.int .i64 k1, .bool n1, .slice a1 l1 p1, .bool b1, .string s1, .slice i1 m1 d1, .slice t1 o1 q1] 27)) := (Upd.refl [] w).alloc _
  have hC := Lib.hid (ih d _ _ (h.upd hu) hs)
  have HU := Lib.hid hu
  unfold datCells at *
  clear h hs hu ih
  generalize goodN n d = r at *
  go_enter Try.func94, Try.ntmps94
  go_wp2_with fail
  refine hC.out.mono ?_
  rintro e w2 ⟨rfl, hu2⟩
  have HU2 := Lib.hid (HU.out.then hu2)
  clear hC hu2
  go_wp2
  go_ret
  exact ⟨rfl, HU2.out⟩
theorem all_at {f : Dat → Bool} {ds : List Dat} (h : ∀ i, i < ds.length → f (ds.getD i default) = true) : ds.all f = true := by
  rw [List.all_eq_true]
  intro x hx
  obtain ⟨i, hi, rfl⟩ := List.getElem_of_mem hx
  have := h i hi
  rwa [List.getD_eq_getElem?_getD, List.getElem?_eq_getElem hi] at this
theorem all_not {f : Dat → Bool} {ds : List Dat} {i : Nat} (hi : i < ds.length) (h : f (ds.getD i default) = false) : ds.all f = false := by
  rw [List.all_eq_false]
  rw [List.getD_eq_getElem?_getD, List.getElem?_eq_getElem hi] at h
  exact ⟨_, List.getElem_mem hi, by simpa using h⟩
set_option maxRecDepth 100000 in
set_option maxHeartbeats 1500000 in
theorem indexFunc_calls {n : Nat} (ih : GoodSaid n) {w : World} {a : Option Addr} {ds : List Dat} (m c : Nat) (hm : ds.length = m) (h : RowOf w (fun _ => True) (IsD w (fun _ => True) n) a ds) (hs : szL (szN n) ds ≤ 100000) (hb : m ≤ 100000) :
    Calls Try.prog 97 #[.slice a m c, .func (.func 94) #[] #[]] w fun e w' => (∃ k : Int, e = .returned (.int .i64 k) ∧ (decide (0 ≤ k) = !ds.all (goodN n))) ∧ Upd [] w w' := by
  have IH := Lib.hid ih
  have HR := Lib.hid h
  have HM := Lib.hid hm
  have HS := Lib.hid hs
  clear ih h hm hs
  go_enter Try.func97, Try.ntmps97
  go_wp2_with fail
  go_loopw [8] (fun i wr => ∃ j : Nat, j ≤ m ∧ i = .int .i64 j ∧ Hid (∀ i, i < j → goodN n (ds.getD i default) = true) ∧ Hid (Upd [] w wr)) (fun i _ => m - (intOf i).toNat)
  case atStart => exact ⟨0, by omega, rfl, Lib.hid (fun i hi => by omega), Lib.hid (Upd.refl _ _)⟩
  case round =>
    obtain ⟨j, hj, rfl, hG, hU⟩ := hrel
    by_cases hlt : j < m
    · have hjd : j < ds.length := by rw [HM.out]; exact hlt
      obtain ⟨b, o, cs, rfl, _, hat, hd0⟩ := HR.out j hjd
      have hsz := szL_get (szN n) hjd
      have HG2 : Hid (goodN n (ds.getD j default) = false → ds.all (goodN n) = false) := Lib.hid (fun h => all_not hjd h)
      have HG1 : Hid (goodN n (ds.getD j default) = true → ∀ i, i < j + 1 → goodN n (ds.getD i default) = true) := Lib.hid (fun h i hi => by
        by_cases hij : i < j
        · exact hG.out i hij
        · rw [show i = j by omega]
          exact h)
      obtain ⟨x, hx⟩ : ∃ x, x = ds.getD j default := ⟨_, rfl⟩
      rw [← hx] at hd0 hsz HG1 HG2
      clear hx
      obtain ⟨k1, n1, a1, l1, p1, b1, s1, i1, m1, d1, t1, o1, q1, rfl⟩ := hd0.shaped
      obtain ⟨x0, x1, x2, x3, x4, x5, x6⟩ := (hat.upd hU.out (by simp)).cells
      have HC := Lib.hid (good1_calls IH.out (hd0.upd hU.out) (Nat.le_trans hsz HS.out))
      unfold datCells at HC
      clear hat hd0 hsz
      go_wp2_with fail
      refine HC.out.mono ?_
      rintro e w5 ⟨rfl, hu5⟩
      have HU5 := Lib.hid (hU.out.then hu5)
      clear HC hu5 x0 x1 x2 x3 x4 x5 x6
      cases hr : goodN n x with
      | false =>
        have HX := Lib.hid (HG2.out hr)
        clear hr HG1 HG2
        go_wp2
        go_ret
        exact ⟨⟨_, rfl, by rw [HX.out]; simp⟩, HU5.out⟩
      | true =>
        have HX := Lib.hid (HG1.out hr)
        clear hr HG1 HG2
        go_wp2
        go_roundw
        case rel => exact ⟨j + 1, by omega, by go_num, HX, HU5⟩
        case measure => simp [intOf]; omega
    · have hjm : j = m := by omega
      subst hjm
      go_wp2
      go_ret
      exact ⟨⟨_, rfl, by rw [all_at (fun i hi => hG.out i (by rw [← HM.out]; exact hi))]; rfl⟩, hU.out⟩
set_option maxRecDepth 100000 in
set_option maxHeartbeats 1500000 in
theorem containsFunc_calls {n : Nat} (ih : GoodSaid n) {w : World} {a : Option Addr} {ds : List Dat} (m c : Nat) (hm : ds.length = m) (h : RowOf w (fun _ => True) (IsD w (fun _ => True) n) a ds) (hs : szL (szN n) ds ≤ 100000) (hb : m ≤ 100000) :
    Calls Try.prog 88 #[.slice a m c, .func (.func 94) #[] #[]] w fun e w' => e = .returned (.bool (!ds.all (goodN n))) ∧ Upd [] w w' := by
  have hC := Lib.hid (indexFunc_calls ih m c hm h hs hb)
  clear ih h hm hs
  go_enter Try.func88, Try.ntmps88
  go_wp2_with fail
  refine hC.out.mono ?_
  rintro e w2 ⟨⟨k, rfl, hk⟩, hu2⟩
  have HK := Lib.hid hk
  have HU2 := Lib.hid hu2
  clear hC hk hu2
  go_wp2
  go_ret
  exact ⟨by rw [← HK.out]; rfl, HU2.out⟩
end Go.Proofs.Ythmpaepdbjldfaa

/-
  Patterns and templates: the plain forms.
-/
namespace Go.Proofs.Ythmpaepdbjldfaa
set_option linter.unusedVariables false
set_option linter.unusedSimpArgs false
open Go.RowKit Go.Shelf

/-- A literal, and the symbols that are like it. -/
structure Lk where
  name : ByteArray
  all : List ByteArray
instance : Inhabited Lk := ⟨⟨ByteArray.empty, []⟩⟩
/-- What a variable matched. -/
inductive Tr where
  | mk (d : Dat) (many : Bool) (kids : List Tr)
instance : Inhabited Tr := ⟨.mk default false []⟩
def Tr.d : Tr → Dat | .mk d _ _ => d
def Tr.many : Tr → Bool | .mk _ m _ => m
def Tr.kids : Tr → List Tr | .mk _ _ k => k
/-- A variable, and what it matched. -/
structure Bd where
  name : ByteArray
  t : Tr
instance : Inhabited Bd := ⟨⟨ByteArray.empty, default⟩⟩
def dotsB : ByteArray := ⟨#[46, 46, 46]⟩
def anyB : ByteArray := ⟨#[95]⟩
def isF (d : Dat) (s : ByteArray) : Bool := decide (d.kind = 3 ∧ d.s = s)
def findF (ls : List Lk) (s : ByteArray) : Int := match ls.findIdx? (fun l => decide (l.name = s)) with | some i => (i : Int) | none => -1
def againF (ls : List Lk) (d : Dat) : Bool := isF d dotsB && decide (findF ls dotsB < 0)
def varF (ls : List Lk) (d : Dat) : Bool := decide (d.kind = 3) && decide (d.s ≠ dotsB) && decide (d.s ≠ anyB) && decide (findF ls d.s < 0)
/-- How deep the i-th item stands. -/
def deepAt (ls : List Lk) (items : List Dat) (deep : Int) (i : Nat) : Int := if i + 1 < items.length ∧ againF ls (items.getD (i + 1) default) = true then deep + 1 else deep
/-- A pattern's variables, as they stand. -/
def placesN (ls : List Lk) : Nat → Dat → Int → List (ByteArray × Int)
  | 0, _, _ => []
  | n + 1, p, deep => if varF ls p then [(p.s, deep)] else (List.range p.items.length).flatMap (fun i => placesN ls n (p.items.getD i default) (deepAt ls p.items deep i)) ++ p.tail.flatMap (fun x => placesN ls n x deep)
/-- Does a ... stand where it may not, among items, the first of which is the i-th? -/
def wrongL (ls : List Lk) (f : Dat → Bool) : List Dat → Bool → Bool → Bool
  | [], _, _ => false
  | x :: xs, first, seen => if againF ls x then (if seen || first then true else wrongL ls f xs false true) else if f x then true else wrongL ls f xs false seen
def wrongN (ls : List Lk) : Nat → Dat → Bool
  | 0, _ => false
  | n + 1, p => againF ls p || wrongL ls (wrongN ls n) p.items true false || p.tail.any (wrongN ls n)
def goodM (n : Nat) (d : Dat) : Bool := decide (0 ≤ budN n d 5000 200) && goodN n d
def checkM (ls : List Lk) (n : Nat) (p : Dat) : Int := if goodM n p = false then 12 else if ¬ ((placesN ls n p 0).map Prod.fst).Nodup then 5 else if wrongN ls n p then 5 else 0
/-- One by one. -/
def allM (f : Dat → Dat → Option (List Bd)) : List Dat → List Dat → Option (List Bd)
  | [], _ => some []
  | _ :: _, [] => none
  | p :: ps, d :: ds => (f p d).bind fun a => (allM f ps ds).bind fun b => some (a ++ b)
/-- What each of some data matched, in rows. -/
def rowsM (f : Dat → Option (List Bd)) : List Dat → Option (List (List Bd))
  | [] => some []
  | d :: ds => (f d).bind fun a => (rowsM f ds).bind fun b => some (a :: b)
def restM (d : Dat) (n : Nat) : Dat := if n = d.items.length ∧ 0 < d.tail.length then d.tail.getD 0 default else .mk 5 false [] false ByteArray.empty (d.items.drop n) d.tail
/-- The trees of the k-th variable. -/
def treeAt (rows : List (List Bd)) (k : Nat) : Tr := .mk default true (rows.map fun r => (r.getD k default).t)
def listM (ls : List Lk) (f : Dat → Dat → Option (List Bd)) (pl : Dat → List (ByteArray × Int)) (p d : Dat) : Option (List Bd) :=
  match p.items.findIdx? (againF ls) with
  | some (i + 1) =>
    let ahead := p.items.take i; let one := p.items.getD i default; let behind := p.items.drop (i + 2)
    if d.items.length < ahead.length + behind.length ∨ (p.tail = [] ∧ 0 < d.tail.length) then none
    else (allM f ahead d.items).bind fun a => (rowsM (f one) ((d.items.drop i).take (d.items.length - behind.length - i))).bind fun rows =>
      (allM f behind (d.items.drop (d.items.length - behind.length))).bind fun b =>
        let mid := (List.range (pl one).length).map fun k => (⟨((pl one).getD k default).1, treeAt rows k⟩ : Bd)
        if p.tail = [] then some (a ++ mid ++ b)
        else (f (p.tail.getD 0 default) (if 0 < d.tail.length then d.tail.getD 0 default else .mk 5 false [] false ByteArray.empty [] [])).bind fun c => some (a ++ mid ++ b ++ c)
  | _ =>
    if p.tail = [] then (if d.items.length = p.items.length ∧ d.tail = [] then allM f p.items d.items else none)
    else if d.items.length < p.items.length then none
    else (allM f p.items d.items).bind fun a => (f (p.tail.getD 0 default) (restM d p.items.length)).bind fun b => some (a ++ b)
def sameM (sm : Dat → Dat → Bool) (p d : Dat) : Option (List Bd) := if sm p d then some [] else none
def matchN (ls : List Lk) (sm : Dat → Dat → Bool) : Nat → Dat → Dat → Option (List Bd)
  | 0, _, _ => none
  | n + 1, p, d =>
    if p.kind = 3 then
      (if 0 ≤ findF ls p.s then (if d.kind = 3 ∧ (ls.getD (findF ls p.s).toNat default).all.any (fun s => decide (s = d.s)) = true then some [] else none)
      else if p.s = anyB then some [] else some [⟨p.s, .mk d false []⟩])
    else if p.kind = 5 then (if d.kind = 5 then listM ls (matchN ls sm n) (fun x => placesN ls n x 0) p d else none)
    else sameM sm p d
end Go.Proofs.Ythmpaepdbjldfaa

/-
  Patterns and templates: literals, trees, and what is bound, in memory.
-/
namespace Go.Proofs.Ythmpaepdbjldfaa
set_option linter.unusedVariables false
set_option linter.unusedSimpArgs false
open Go.RowKit Go.Shelf

/-- Nought of a tree. -/
def zeroTr : Value := .agg #[.int .i64 0, .bool false, .slice none 0 0, .bool false, .string ByteArray.empty, .slice none 0 0, .slice none 0 0, .bool false, .slice none 0 0]
theorem info_str : (Try.prog.info? 9).map (fun i => (i.zero, i.size, i.bytes)) = some (some (.string ByteArray.empty), 1, 16) := by kernel_rfl
theorem info_place : (Try.prog.info? 99).map (fun i => (i.zero, i.size, i.bytes)) = some (some (.agg #[.string ByteArray.empty, .int .i64 0]), 2, 24) := by kernel_rfl
theorem info_tree : (Try.prog.info? 64).map (fun i => (i.zero, i.size, i.bytes)) = some (some zeroTr, 9, 144) := by kernel_rfl
theorem info_bind : (Try.prog.info? 66).map (fun i => (i.zero, i.size, i.bytes)) = some (some (.agg #[.string ByteArray.empty, .int .i64 0, .bool false, .slice none 0 0, .bool false, .string ByteArray.empty, .slice none 0 0, .slice none 0 0, .bool false, .slice none 0 0]), 10, 160) := by kernel_rfl
/-! ### Literals -/
/-- A literal's two cells. -/
def IsLk (w : World) (P : Nat → Prop) (cs : List Value) (l : Lk) : Prop := ∃ aA cA, cs = [.string l.name, .slice aA l.all.length cA] ∧ RowK w P 1 IsS aA l.all ∧ l.all.length ≤ cA ∧ l.all.length ≤ 35184372088832
/-- Literals. -/
def Likes (w : World) (P : Nat → Prop) (a : Option Addr) (ls : List Lk) : Prop := RowK w P 2 (IsLk w P) a ls
theorem IsLk.map {w w' : World} {P Q : Nat → Prop} {cs : List Value} {l : Lk} (h : IsLk w P cs l) (hP : ∀ b, b < w.heap.size → P b → Q b) (hc : ∀ b o v, P b → w.cell? ⟨b, o, none⟩ = some v → w'.cell? ⟨b, o, none⟩ = some v) : IsLk w' Q cs l := by
  obtain ⟨aA, cA, e, h1, h2⟩ := h
  exact ⟨aA, cA, e, h1.map (by decide) hP hc (fun _ _ h => h), h2⟩
theorem Likes.map {w w' : World} {P Q : Nat → Prop} {a : Option Addr} {ls : List Lk} (h : Likes w P a ls) (hP : ∀ b, b < w.heap.size → P b → Q b) (hc : ∀ b o v, P b → w.cell? ⟨b, o, none⟩ = some v → w'.cell? ⟨b, o, none⟩ = some v) : Likes w' Q a ls :=
  RowK.map h (by decide) hP hc (fun _ _ h => h.map hP hc)
theorem Likes.updS {w w' : World} {P : Nat → Prop} {a : Option Addr} {ls : List Lk} {S : List Nat} (h : Likes w P a ls) (hu : Upd S w w') (hS : ∀ b, P b → b ∉ S) : Likes w' P a ls :=
  h.map (fun _ _ hp => hp) (fun b _ _ hp hc => hu.cell hc (hS b hp))
theorem Likes.upd {w w' : World} {P : Nat → Prop} {a : Option Addr} {ls : List Lk} (h : Likes w P a ls) (hu : Upd [] w w') : Likes w' P a ls := h.updS hu (by simp)
theorem Likes.mono {w : World} {P Q : Nat → Prop} {a : Option Addr} {ls : List Lk} (h : Likes w P a ls) (hP : ∀ b, b < w.heap.size → P b → Q b) : Likes w Q a ls := h.map hP (fun _ _ _ _ hc => hc)
/-- The i-th literal. -/
theorem Likes.at {w : World} {P : Nat → Prop} {a : Option Addr} {ls : List Lk} (h : Likes w P a ls) {i : Nat} (hi : i < ls.length) :
    ∃ b o aA cA, a = some ⟨b, o, none⟩ ∧ b < w.heap.size ∧ w.cell? ⟨b, o + i * 2, none⟩ = some (.string (ls.getD i default).name) ∧ w.cell? ⟨b, o + i * 2 + 1, none⟩ = some (.slice aA (ls.getD i default).all.length cA) ∧ RowK w P 1 IsS aA (ls.getD i default).all ∧ (ls.getD i default).all.length ≤ cA ∧ (ls.getD i default).all.length ≤ 35184372088832 := by
  obtain ⟨b, o, cs, e, hp, ha, aA, cA, rfl, h1, h2⟩ := h i hi
  exact ⟨b, o, aA, cA, e, ha.lt (by decide), ha.cell0 rfl, ha.cell (j := 1) rfl, h1, h2⟩

/-! ### Trees -/
/-- These nine cells are this tree, in so many levels, whose data are of m levels. -/
def IsT (w : World) (P : Nat → Prop) (m : Nat) : Nat → List Value → Tr → Prop
  | 0, _, _ => False
  | n + 1, cs, t => ∃ cd aK cK, cs = cd ++ [.bool t.many, .slice aK t.kids.length cK] ∧ (IsD w P m cd t.d ∧ szN m t.d ≤ 5000 ∧ dpN m t.d ≤ 200) ∧ RowK w P 9 (IsT w P m n) aK t.kids ∧ t.kids.length ≤ cK ∧ t.kids.length ≤ 1000000
/-- A variable's ten. -/
def IsB (w : World) (P : Nat → Prop) (m n : Nat) (cs : List Value) (b : Bd) : Prop := ∃ ct, cs = .string b.name :: ct ∧ IsT w P m n ct b.t
theorem IsT.map {w w' : World} {P Q : Nat → Prop} {m k : Nat} (hP : ∀ b, b < w.heap.size → P b → Q b) (hc : ∀ b o v, P b → w.cell? ⟨b, o, none⟩ = some v → w'.cell? ⟨b, o, none⟩ = some v) : ∀ {n : Nat} {cs : List Value} {t : Tr}, IsT w P m n cs t → IsT w' Q m (n + k) cs t
  | 0, _, _, h => h.elim
  | n + 1, cs, t, h => by
    obtain ⟨cd, aK, cK, e, ⟨h1, h1'⟩, h2, h3⟩ := h
    rw [show n + 1 + k = (n + k) + 1 by omega]
    exact ⟨cd, aK, cK, e, ⟨IsD.map (m := 0) hP hc h1, h1'⟩, h2.map (by decide) hP hc (fun cs t h => IsT.map hP hc h), h3⟩
theorem IsT.updS {w w' : World} {P : Nat → Prop} {S : List Nat} {m n : Nat} {cs : List Value} {t : Tr} (h : IsT w P m n cs t) (hu : Upd S w w') (hS : ∀ b, P b → b ∉ S) : IsT w' P m n cs t :=
  IsT.map (k := 0) (fun _ _ hp => hp) (fun b _ _ hp hc => hu.cell hc (hS b hp)) h
theorem IsT.upd {w w' : World} {P : Nat → Prop} {m n : Nat} {cs : List Value} {t : Tr} (h : IsT w P m n cs t) (hu : Upd [] w w') : IsT w' P m n cs t := h.updS hu (by simp)
theorem IsT.mono {w : World} {P Q : Nat → Prop} {m n : Nat} {cs : List Value} {t : Tr} (h : IsT w P m n cs t) (hP : ∀ b, b < w.heap.size → P b → Q b) : IsT w Q m n cs t :=
  IsT.map (k := 0) hP (fun _ _ _ _ hc => hc) h
theorem IsT.more {w : World} {P : Nat → Prop} {m n : Nat} {cs : List Value} {t : Tr} (h : IsT w P m n cs t) (k : Nat) : IsT w P m (n + k) cs t := IsT.map (fun _ _ hp => hp) (fun _ _ _ _ hc => hc) h
theorem IsT.le {w : World} {P : Nat → Prop} {m n n' : Nat} {cs : List Value} {t : Tr} (h : IsT w P m n cs t) (hn : n ≤ n') : IsT w P m n' cs t := by
  rw [show n' = n + (n' - n) by omega]
  exact h.more _
theorem IsB.updS {w w' : World} {P : Nat → Prop} {S : List Nat} {m n : Nat} {cs : List Value} {b : Bd} (h : IsB w P m n cs b) (hu : Upd S w w') (hS : ∀ b, P b → b ∉ S) : IsB w' P m n cs b := by
  obtain ⟨ct, e, h⟩ := h
  exact ⟨ct, e, h.updS hu hS⟩
theorem IsB.upd {w w' : World} {P : Nat → Prop} {m n : Nat} {cs : List Value} {b : Bd} (h : IsB w P m n cs b) (hu : Upd [] w w') : IsB w' P m n cs b := h.updS hu (by simp)
theorem IsB.mono {w : World} {P Q : Nat → Prop} {m n : Nat} {cs : List Value} {b : Bd} (h : IsB w P m n cs b) (hP : ∀ b, b < w.heap.size → P b → Q b) : IsB w Q m n cs b := by
  obtain ⟨ct, e, h⟩ := h
  exact ⟨ct, e, h.mono hP⟩
theorem IsB.le {w : World} {P : Nat → Prop} {m n n' : Nat} {cs : List Value} {b : Bd} (h : IsB w P m n cs b) (hn : n ≤ n') : IsB w P m n' cs b := by
  obtain ⟨ct, e, h⟩ := h
  exact ⟨ct, e, h.le hn⟩
theorem IsT.shaped {w : World} {P : Nat → Prop} {m n : Nat} {cs : List Value} {t : Tr} (h : IsT w P m n cs t) : ∃ k neg aL nL cL b s aI nI cI aT nT cT aK cK, cs = [.int .i64 k, .bool neg, .slice aL nL cL, .bool b, .string s, .slice aI nI cI, .slice aT nT cT, .bool t.many, .slice aK t.kids.length cK] := by
  cases n with
  | zero => exact h.elim
  | succ n =>
    obtain ⟨cd, aK, cK, rfl, ⟨h1, _⟩, _⟩ := h
    obtain ⟨k, neg, aL, nL, cL, b, s, aI, nI, cI, aT, nT, cT, rfl⟩ := h1.shaped
    exact ⟨k, neg, aL, nL, cL, b, s, aI, nI, cI, aT, nT, cT, aK, cK, rfl⟩
theorem IsT.one {w : World} {P : Nat → Prop} {m n : Nat} {cs : List Value} {t : Tr} (h : IsT w P m n cs t) : ∀ u ∈ cs, u.oneCell' = true := by
  obtain ⟨k, neg, aL, nL, cL, b, s, aI, nI, cI, aT, nT, cT, aK, cK, rfl⟩ := h.shaped
  intro u hu
  simp only [List.mem_cons, List.not_mem_nil, or_false] at hu
  rcases hu with rfl | rfl | rfl | rfl | rfl | rfl | rfl | rfl | rfl <;> rfl
theorem IsB.one {w : World} {P : Nat → Prop} {m n : Nat} {cs : List Value} {b : Bd} (h : IsB w P m n cs b) : ∀ u ∈ cs, u.oneCell' = true := by
  obtain ⟨ct, rfl, h⟩ := h
  intro u hu
  rcases List.mem_cons.1 hu with rfl | hu
  · rfl
  · exact h.one u hu
theorem IsT.len {w : World} {P : Nat → Prop} {m n : Nat} {cs : List Value} {t : Tr} (h : IsT w P m n cs t) : cs.length = 9 := by
  obtain ⟨k, neg, aL, nL, cL, b, s, aI, nI, cI, aT, nT, cT, aK, cK, rfl⟩ := h.shaped
  rfl
/-- Nine cells, one by one. -/
theorem Blk.nine {w : World} {b : Nat} {t : TypeId} {x0 x1 x2 x3 x4 x5 x6 x7 x8 : Value} (h : Blk w b [x0, x1, x2, x3, x4, x5, x6, x7, x8] t) :
    w.cell? ⟨b, 0, none⟩ = some x0 ∧ w.cell? ⟨b, 1, none⟩ = some x1 ∧ w.cell? ⟨b, 2, none⟩ = some x2 ∧ w.cell? ⟨b, 3, none⟩ = some x3 ∧ w.cell? ⟨b, 4, none⟩ = some x4 ∧ w.cell? ⟨b, 5, none⟩ = some x5 ∧ w.cell? ⟨b, 6, none⟩ = some x6 ∧ w.cell? ⟨b, 7, none⟩ = some x7 ∧ w.cell? ⟨b, 8, none⟩ = some x8 :=
  ⟨h.cell_some rfl, h.cell_some rfl, h.cell_some rfl, h.cell_some rfl, h.cell_some rfl, h.cell_some rfl, h.cell_some rfl, h.cell_some rfl, h.cell_some rfl⟩
/-! ### Places -/
def IsP (cs : List Value) (p : ByteArray × Int) : Prop := cs = [.string p.1, .int .i64 p.2]
theorem IsP.one {cs : List Value} {p : ByteArray × Int} (h : IsP cs p) : ∀ u ∈ cs, u.oneCell' = true := by
  rw [h]
  intro u hu
  simp only [List.mem_cons, List.not_mem_nil, or_false] at hu
  rcases hu with rfl | rfl <;> rfl
theorem RowK.place {w : World} {P : Nat → Prop} {a : Option Addr} {ps : List (ByteArray × Int)} (h : RowK w P 2 IsP a ps) {i : Nat} (hi : i < ps.length) : ∃ b o, a = some ⟨b, o, none⟩ ∧ b < w.heap.size ∧ w.cell? ⟨b, o + i * 2, none⟩ = some (.string (ps.getD i default).1) ∧ w.cell? ⟨b, o + i * 2 + 1, none⟩ = some (.int .i64 (ps.getD i default).2) := by
  obtain ⟨b, o, cs, e, hp, ha, hr⟩ := h i hi
  exact ⟨b, o, e, ha.lt (by decide), ha.cell0 (by rw [hr]; rfl), ha.cell (j := 1) (by rw [hr]; rfl)⟩
end Go.Proofs.Ythmpaepdbjldfaa

/-
  datum.same, datum.Same of like data.
-/
namespace Go.Proofs.Ythmpaepdbjldfaa
set_option linter.unusedVariables false
set_option linter.unusedSimpArgs false
open Go.RowKit

end Go.Proofs.Ythmpaepdbjldfaa
