/-
  Texts of this claim, merged: CfR, RcA, RcB, RcC, RcD. Lemmas and contracts; no conditions of our own.
-/
import Derived.Test.YtknbgbeepachgaaDoorG19
import Derived.Test.YtknbgbeepachgaaDoorG20

/-
  CheckFlows: how many an instruction leaves, walked.
-/
namespace Go.Proofs.YtknbgbeepachgaaDoor
open Go.RowKit Go.Shelf

/-- The document's arities, as the reference writes them. -/
def refAr : List Int := [0, 2, 2, 2, 2, 2, 2, 2, 2, 2, 1, 1, 2, 2, 1, 1, 1, 1, 1, 1, 1, 2, 1, 1, 2, 2, 1, 1, 1, 1, 0, 0, 1, 1, 2, 1, 1, 2, 0]
theorem refAr_at : ∀ k, k < 39 → refAr[k]? = some (arAt k) := by decide +kernel
set_option maxRecDepth 100000 in
theorem run_refAr {k : Nat} (h : k < 39) (w : World) : (Instr.index 85 (.agg #[.int .i64 0, .int .i64 2, .int .i64 2, .int .i64 2, .int .i64 2, .int .i64 2, .int .i64 2, .int .i64 2, .int .i64 2, .int .i64 2, .int .i64 1, .int .i64 1, .int .i64 2, .int .i64 2, .int .i64 1, .int .i64 1, .int .i64 1, .int .i64 1, .int .i64 1, .int .i64 1, .int .i64 1, .int .i64 2, .int .i64 1, .int .i64 1, .int .i64 2, .int .i64 2, .int .i64 1, .int .i64 1, .int .i64 1, .int .i64 1, .int .i64 0, .int .i64 0, .int .i64 1, .int .i64 1, .int .i64 2, .int .i64 1, .int .i64 1, .int .i64 2, .int .i64 0]) (.int .i64 k)).run Tryd.prog w = .ok (.int .i64 (arAt k)) w := by
  refine run_index1 (P := Tryd.prog) (t := 85) (e := 3) (len := 39) rfl (z := .int .i64 0) (bytes := 8) (by kernel_rfl) rfl rfl h ?_ w
  show (refAr.map (Value.int .i64)).toArray[k]? = some (.int .i64 (arAt k))
  rw [List.getElem?_toArray, List.getElem?_map, refAr_at k h]
  rfl
set_option maxRecDepth 100000 in
set_option maxHeartbeats 1500000 in
theorem refArity_in (w : World) (k : Nat) (h1 : 1 ≤ k) (h2 : k < 39) : Calls Tryd.prog 26 #[.int .i64 k] w fun e w' => e = .returned (.int .i64 (arAt k)) ∧ w' = w := by
  have hlo : ¬ (k : Int) < 1 := by omega
  have hhi : ¬ (38 : Int) < (k : Int) := by omega
  have hx := fun w : World => run_refAr h2 w
  go_enter Tryd.func26, Tryd.ntmps26
  go_wp2
  go_ret
  exact ⟨rfl, rfl⟩
theorem refArity_calls (w : World) (p : Int) (h : 0 ≤ arD p) : Calls Tryd.prog 18 #[.int .i64 p] w fun e w' => e = .returned (.int .i64 (arD p)) ∧ w' = w := by
  have hp : 1 ≤ p ∧ p ≤ 38 := by
    unfold arD at h
    split at h
    · assumption
    · omega
  obtain ⟨k, rfl⟩ : ∃ k : Nat, p = k := ⟨p.toNat, by omega⟩
  have e : arD k = arAt k := by
    unfold arD
    rw [if_pos hp]
    rfl
  rw [e]
  have HA := Lib.hid (refArity_in w k (by omega) (by omega))
  clear e h hp
  go_enter Tryd.func18, Tryd.ntmps18
  go_wp2_with fail
  refine HA.out.mono ?_
  rintro e w2 ⟨rfl, rfl⟩
  go_wp2
  go_ret
  exact ⟨rfl, rfl⟩
/-- How many more there are on the stack behind an instruction. -/
theorem leaves_calls {w : World} {x : InsV} (h : InsOk x) (h6 : x.op = 6 → 0 ≤ arD x.a) :
    Calls Tryd.prog 13 #[.agg #[.int .i64 x.op, .int .i64 x.a, .int .i64 x.b]] w fun e w' => e = .returned (.int .i64 (leavesF x)) ∧ Upd [] w w' := by
  have hops := h.ops
  have ha1 := h.a1
  have ha2 := h.a2
  have hb1 := h.b1
  have hb2 := h.b2
  clear h
  obtain ⟨op, a, b⟩ := x
  simp only at hops ha1 ha2 hb1 hb2 h6
  have hu : Upd [] w (w.alloc (.cells #[.int .i64 op, .int .i64 a, .int .i64 b] 47)) := (Upd.refl [] w).alloc _
  have HU := Lib.hid hu
  clear hu
  unfold leavesF needsF
  rcases hops with rfl | rfl | rfl | rfl | rfl | rfl | rfl | rfl | rfl | rfl | rfl | rfl
  case inr.inr.inr.inr.inr.inl =>
    have hr := arD_range a
    have HA := Lib.hid (fun w : World => refArity_calls w a (h6 rfl))
    clear h6
    show Calls _ _ _ w fun e w' => e = .returned (.int .i64 (1 - arD a)) ∧ Upd [] w w'
    generalize arD a = ar at hr HA ⊢
    go_enter Tryd.func13, Tryd.ntmps13
    go_wp2_with fail
    refine (HA.out _).mono ?_
    rintro e w2 ⟨rfl, rfl⟩
    go_wp2
    go_ret
    exact ⟨rfl, HU.out⟩
  all_goals
    clear h6
    go_enter Tryd.func13, Tryd.ntmps13
    go_wp2
    go_ret
    exact ⟨by simp <;> omega, HU.out⟩
theorem wrong_prim {c : CodeV} {n : Nat} {b : BlkV} {hi : Int} {x : InsV} {on : Int} (h : wrongF c n b hi x on = false) (h6 : x.op = 6) : 0 ≤ arD x.a := by
  unfold wrongF thereF at h
  simp only [Bool.or_eq_false_iff, Bool.not_eq_false', h6] at h
  simpa using h.1
/-- What the law asks of an instruction that is come to. -/
structure AskI (dl : List Int) (lo9 : Nat) (hi dp d lv : Int) (i : Nat) (x : InsV) : Prop where
  d0 : 0 ≤ d
  d1 : d ≤ dp
  l0 : 0 ≤ d + lv
  l1 : d + lv ≤ dp
  jmp : x.op = 7 ∨ x.op = 8 → ∃ t : Nat, x.a = t ∧ lo9 ≤ t ∧ (t : Int) < hi ∧ dl.getD t 0 = d + lv
  nxt : x.op ≠ 7 → x.op ≠ 10 → x.op ≠ 11 → (i : Int) + 1 < hi ∧ dl.getD (i + 1) 0 = d + lv
theorem ask_of {c : CodeV} {j : Nat} {b : BlkV} {hi : Int} {dl : List Int} {lo9 i : Nat} {x : InsV} (hx : x = c.ins.getD i default) (hlo : b.lo = lo9) (h : DoneI c j b hi dl i) (hm : dl.getD i 0 ≤ b.dp) : AskI dl lo9 hi b.dp (dl.getD i 0) (leavesF x) i x := by
  have hw := wrong_left h.ok
  have hj := h.jmp
  have hn := h.nxt
  rw [← hx] at hw hj hn
  refine ⟨h.vis, hm, hw.1, hw.2, fun ho => ?_, hn⟩
  obtain ⟨k1, k2, k3⟩ := hj ho
  exact ⟨x.a.toNat, by omega, by omega, by omega, k3⟩
end Go.Proofs.YtknbgbeepachgaaDoor

/-
  CheckCodes, the document's side: how many an instruction takes and puts.
-/
namespace Go.Proofs.YtknbgbeepachgaaDoor
open Go.RowKit Go.Shelf

set_option maxRecDepth 100000 in
set_option maxHeartbeats 1500000 in
theorem refArity_out (w : World) (p : Int) (h : p < 1 ∨ 38 < p) : Calls Tryd.prog 26 #[.int .i64 p] w fun e w' => e = .returned (.int .i64 (-1)) ∧ w' = w := by
  rcases h with h | h
  · go_enter Tryd.func26, Tryd.ntmps26
    go_wp2
    go_ret
    exact ⟨rfl, rfl⟩
  · have h2 : ¬ p < 1 := by omega
    go_enter Tryd.func26, Tryd.ntmps26
    go_wp2
    go_ret
    exact ⟨rfl, rfl⟩
theorem refArity_all (w : World) (p : Int) : Calls Tryd.prog 18 #[.int .i64 p] w fun e w' => e = .returned (.int .i64 (arD p)) ∧ w' = w := by
  by_cases h : 1 ≤ p ∧ p ≤ 38
  · refine refArity_calls w p ?_
    unfold arD
    rw [if_pos h]
    exact (ar_range p.toNat (by omega)).1
  · have e : arD p = -1 := by
      unfold arD
      rw [if_neg h]
    rw [e]
    have HA := Lib.hid (refArity_out w p (by omega))
    clear e h
    go_enter Tryd.func18, Tryd.ntmps18
    go_wp2_with fail
    refine HA.out.mono ?_
    rintro e w2 ⟨rfl, rfl⟩
    go_wp2
    go_ret
    exact ⟨rfl, rfl⟩
set_option maxRecDepth 100000 in
set_option maxHeartbeats 3000000 in
theorem takes_calls {w : World} {x : InsV} (h : InsOk x) :
    Calls Tryd.prog 24 #[.agg (insCells x).toArray] w fun e w' => e = .returned (.tuple #[.int .i64 (needsF x).1, .int .i64 (needsF x).2]) ∧ Upd [] w w' := by
  have hops := h.ops
  have ha1 := h.a1
  have ha2 := h.a2
  clear h
  obtain ⟨op, a, b⟩ := x
  simp only at hops ha1 ha2
  have hu : Upd [] w (w.alloc (.cells #[.int .i64 op, .int .i64 a, .int .i64 b] 60)) := (Upd.refl [] w).alloc _
  have HA := Lib.hid (fun w : World => refArity_all w a)
  have HU := Lib.hid hu
  clear hu
  unfold insCells at *
  rcases hops with rfl | rfl | rfl | rfl | rfl | rfl | rfl | rfl | rfl | rfl | rfl | rfl
  case inr.inr.inr.inr.inr.inl =>
    show Calls _ _ _ w fun e w' => e = .returned (.tuple #[.int .i64 (arD a), .int .i64 1]) ∧ Upd [] w w'
    go_enter Tryd.func24, Tryd.ntmps24
    go_wp2_with fail
    refine (HA.out _).mono ?_
    rintro e w2 ⟨rfl, rfl⟩
    go_wp2
    go_ret2
    exact ⟨rfl, HU.out⟩
  all_goals
    simp only [needsF]
    clear HA
    go_enter Tryd.func24, Tryd.ntmps24
    go_wp2
    go_ret2
    exact ⟨rfl, HU.out⟩
end Go.Proofs.YtknbgbeepachgaaDoor

/-
  CheckCodes, the document's side: is what an instruction names there?
-/
namespace Go.Proofs.YtknbgbeepachgaaDoor
open Go.RowKit Go.Shelf

set_option maxRecDepth 100000 in
set_option maxHeartbeats 3000000 in
theorem may_calls {w : World} {m j : Nat} {aI aB aC : Option Addr} (cI cB cC : Nat) {c : CodeV} (h : IsC w m aI aB aC c) (hj : j < c.blks.length) (hjn : j < 100000) (hi : Int) {x : InsV} (hx : InsOk x) :
    Calls Tryd.prog 25 #[.agg #[.slice aI c.ins.length cI, .slice aB c.blks.length cB, .slice aC c.cons.length cC], .int .i64 j, .int .i64 (c.blks.getD j default).lo, .int .i64 hi, .agg (insCells x).toArray] w fun e w' => e = .returned (.bool (thereF c j (c.blks.getD j default) hi x)) ∧ Upd [] w w' := by
  have hops := hx.ops
  have ha1 := hx.a1
  have ha2 := hx.a2
  obtain ⟨bb, o, eB, y0, y1, y2, y3, y4, y5⟩ := blkAt_get h.blks hj
  subst eB
  have HB := Lib.hid h.blks
  obtain ⟨bl, hbl⟩ : ∃ bl, bl = c.blks.getD j default := ⟨_, rfl⟩
  rw [← hbl] at y0 y1 y2 y3 y4 y5 ⊢
  have l1 := World.block_lt_of_cell? w _ y0
  simp only at l1
  have l2 : bb < w.heap.size + 1 := by omega
  have l3 : bb < w.heap.size + 2 := by omega
  have l4 : bb < w.heap.size + 1 + 1 := by omega
  obtain ⟨nB, hnB⟩ : ∃ nB, nB = c.blks.length := ⟨_, rfl⟩
  rw [← hnB] at hj ⊢
  have hj' : (j : Int) < (nB : Int) := by omega
  clear h hx hbl
  obtain ⟨op, a, b⟩ := x
  obtain ⟨lo, pr, rest, sl, dp, ou⟩ := bl
  unfold insCells at *
  simp only at *
  rcases hops with rfl | rfl | rfl | rfl | rfl | rfl | rfl | rfl | rfl | rfl | rfl | rfl
  case inl =>
    have e : thereF c j ⟨lo, pr, rest, sl, dp, ou⟩ hi ⟨1, a, b⟩ = decide (a < (c.cons.length : Int)) := rfl
    rw [e]
    clear e
    go_enter Tryd.func25, Tryd.ntmps25
    go_wp2_with fail
    try go_quiet (fail)
    go_wp2
    go_ret
    exact ⟨rfl, (by (repeat (first | exact Upd.refl _ _ | apply Upd.drewN | apply Upd.drew | apply Upd.alloc)))⟩
  case inr.inl =>
    have e : thereF c j ⟨lo, pr, rest, sl, dp, ou⟩ hi ⟨2, a, b⟩ = decide (a < sl) := rfl
    rw [e]
    clear e
    go_enter Tryd.func25, Tryd.ntmps25
    go_wp2_with fail
    try go_quiet (fail)
    go_wp2
    go_ret
    exact ⟨rfl, (by (repeat (first | exact Upd.refl _ _ | apply Upd.drewN | apply Upd.drew | apply Upd.alloc)))⟩
  case inr.inr.inl =>
    have e : thereF c j ⟨lo, pr, rest, sl, dp, ou⟩ hi ⟨3, a, b⟩ = decide (a < ou) := rfl
    rw [e]
    clear e
    go_enter Tryd.func25, Tryd.ntmps25
    go_wp2_with fail
    try go_quiet (fail)
    go_wp2
    go_ret
    exact ⟨rfl, (by (repeat (first | exact Upd.refl _ _ | apply Upd.drewN | apply Upd.drew | apply Upd.alloc)))⟩
  case inr.inr.inr.inl =>
    have e : thereF c j ⟨lo, pr, rest, sl, dp, ou⟩ hi ⟨4, a, b⟩ = decide (a < sl) := rfl
    rw [e]
    clear e
    go_enter Tryd.func25, Tryd.ntmps25
    go_wp2_with fail
    try go_quiet (fail)
    go_wp2
    go_ret
    exact ⟨rfl, (by (repeat (first | exact Upd.refl _ _ | apply Upd.drewN | apply Upd.drew | apply Upd.alloc)))⟩
  case inr.inr.inr.inr.inl =>
    have e : thereF c j ⟨lo, pr, rest, sl, dp, ou⟩ hi ⟨5, a, b⟩ = decide ((j : Int) < a ∧ a < (c.blks.length : Int) ∧ (c.blks.getD a.toNat default).ou = b) := rfl
    rw [e]
    clear e
    by_cases g1 : (j : Int) < a
    · by_cases g2 : a < (nB : Int)
      · obtain ⟨t, rfl⟩ : ∃ t : Nat, a = t := ⟨a.toNat, by omega⟩
        rw [Int.toNat_natCast, ← hnB]
        obtain ⟨bb', o', e', _, _, _, _, _, z5⟩ := blkAt_get HB.out (i := t) (by omega)
        injection e' with e'
        injection e' with e1 e2
        subst e1; subst e2
        generalize (c.blks.getD t default).ou = oo at *
        have e : decide ((j : Int) < (t : Int) ∧ (t : Int) < (nB : Int) ∧ oo = b) = decide (oo = b) := by
          by_cases h : oo = b <;> simp [h, g2] <;> omega
        rw [e]
        clear e hnB
        have g3 : decide ((j : Int) < (t : Int)) = true := decide_eq_true g1
        have g4 : decide ((t : Int) < (nB : Int)) = true := decide_eq_true g2
        go_enter Tryd.func25, Tryd.ntmps25
        go_wp2_with fail
        try go_quiet (fail)
        go_wp2
        go_ret
        exact ⟨rfl, (by (repeat (first | exact Upd.refl _ _ | apply Upd.drewN | apply Upd.drew | apply Upd.alloc)))⟩
      · have e : decide ((j : Int) < a ∧ a < (c.blks.length : Int) ∧ (c.blks.getD a.toNat default).ou = b) = false := decide_eq_false fun h => g2 (by rw [hnB]; exact h.2.1)
        rw [e]
        clear e hnB HB
        have g3 : decide ((j : Int) < a) = true := decide_eq_true g1
        have g4 : decide (a < (nB : Int)) = false := decide_eq_false g2
        go_enter Tryd.func25, Tryd.ntmps25
        go_wp2_with fail
        go_quiet (fail)
        go_wp2
        go_ret
        exact ⟨rfl, (by (repeat (first | exact Upd.refl _ _ | apply Upd.drewN | apply Upd.drew | apply Upd.alloc)))⟩
    · have e : decide ((j : Int) < a ∧ a < (c.blks.length : Int) ∧ (c.blks.getD a.toNat default).ou = b) = false := decide_eq_false fun h => g1 h.1
      rw [e]
      clear e
      have g3 : decide ((j : Int) < a) = false := decide_eq_false g1
      go_enter Tryd.func25, Tryd.ntmps25
      go_wp2_with fail
      try go_quiet (fail)
      go_wp2
      go_ret
      exact ⟨rfl, (by (repeat (first | exact Upd.refl _ _ | apply Upd.drewN | apply Upd.drew | apply Upd.alloc)))⟩
  case inr.inr.inr.inr.inr.inl =>
    have e : thereF c j ⟨lo, pr, rest, sl, dp, ou⟩ hi ⟨6, a, b⟩ = decide (0 ≤ arD a) := rfl
    rw [e]
    clear e
    have HA := Lib.hid (fun w : World => refArity_all w a)
    generalize arD a = ar at *
    go_enter Tryd.func25, Tryd.ntmps25
    go_wp2_with fail
    refine (HA.out _).mono ?_
    rintro e w2 ⟨rfl, rfl⟩
    go_wp2
    go_ret
    exact ⟨rfl, (by (repeat (first | exact Upd.refl _ _ | apply Upd.drewN | apply Upd.drew | apply Upd.alloc)))⟩
  case inr.inr.inr.inr.inr.inr.inl =>
    have e : thereF c j ⟨lo, pr, rest, sl, dp, ou⟩ hi ⟨7, a, b⟩ = decide (lo ≤ a ∧ a < hi) := rfl
    rw [e]
    clear e
    by_cases g1 : lo ≤ a
    · have e : decide (lo ≤ a ∧ a < hi) = decide (a < hi) := by simp [g1]
      rw [e]
      clear e
      have g3 : decide (lo ≤ a) = true := decide_eq_true g1
      go_enter Tryd.func25, Tryd.ntmps25
      go_wp2_with fail
      try go_quiet (fail)
      go_wp2
      go_ret
      exact ⟨rfl, (by (repeat (first | exact Upd.refl _ _ | apply Upd.drewN | apply Upd.drew | apply Upd.alloc)))⟩
    · have e : decide (lo ≤ a ∧ a < hi) = false := decide_eq_false fun h => g1 h.1
      rw [e]
      clear e
      have g3 : decide (lo ≤ a) = false := decide_eq_false g1
      go_enter Tryd.func25, Tryd.ntmps25
      go_wp2_with fail
      try go_quiet (fail)
      go_wp2
      go_ret
      exact ⟨rfl, (by (repeat (first | exact Upd.refl _ _ | apply Upd.drewN | apply Upd.drew | apply Upd.alloc)))⟩
  case inr.inr.inr.inr.inr.inr.inr.inl =>
    have e : thereF c j ⟨lo, pr, rest, sl, dp, ou⟩ hi ⟨8, a, b⟩ = decide (lo ≤ a ∧ a < hi) := rfl
    rw [e]
    clear e
    by_cases g1 : lo ≤ a
    · have e : decide (lo ≤ a ∧ a < hi) = decide (a < hi) := by simp [g1]
      rw [e]
      clear e
      have g3 : decide (lo ≤ a) = true := decide_eq_true g1
      go_enter Tryd.func25, Tryd.ntmps25
      go_wp2_with fail
      try go_quiet (fail)
      go_wp2
      go_ret
      exact ⟨rfl, (by (repeat (first | exact Upd.refl _ _ | apply Upd.drewN | apply Upd.drew | apply Upd.alloc)))⟩
    · have e : decide (lo ≤ a ∧ a < hi) = false := decide_eq_false fun h => g1 h.1
      rw [e]
      clear e
      have g3 : decide (lo ≤ a) = false := decide_eq_false g1
      go_enter Tryd.func25, Tryd.ntmps25
      go_wp2_with fail
      try go_quiet (fail)
      go_wp2
      go_ret
      exact ⟨rfl, (by (repeat (first | exact Upd.refl _ _ | apply Upd.drewN | apply Upd.drew | apply Upd.alloc)))⟩
  case inr.inr.inr.inr.inr.inr.inr.inr.inl =>
    have e : thereF c j ⟨lo, pr, rest, sl, dp, ou⟩ hi ⟨9, a, b⟩ = true := rfl
    rw [e]
    clear e
    go_enter Tryd.func25, Tryd.ntmps25
    go_wp2_with fail
    try go_quiet (fail)
    go_wp2
    go_ret
    exact ⟨rfl, (by (repeat (first | exact Upd.refl _ _ | apply Upd.drewN | apply Upd.drew | apply Upd.alloc)))⟩
  case inr.inr.inr.inr.inr.inr.inr.inr.inr.inl =>
    have e : thereF c j ⟨lo, pr, rest, sl, dp, ou⟩ hi ⟨10, a, b⟩ = true := rfl
    rw [e]
    clear e
    go_enter Tryd.func25, Tryd.ntmps25
    go_wp2_with fail
    try go_quiet (fail)
    go_wp2
    go_ret
    exact ⟨rfl, (by (repeat (first | exact Upd.refl _ _ | apply Upd.drewN | apply Upd.drew | apply Upd.alloc)))⟩
  case inr.inr.inr.inr.inr.inr.inr.inr.inr.inr.inl =>
    have e : thereF c j ⟨lo, pr, rest, sl, dp, ou⟩ hi ⟨11, a, b⟩ = true := rfl
    rw [e]
    clear e
    go_enter Tryd.func25, Tryd.ntmps25
    go_wp2_with fail
    try go_quiet (fail)
    go_wp2
    go_ret
    exact ⟨rfl, (by (repeat (first | exact Upd.refl _ _ | apply Upd.drewN | apply Upd.drew | apply Upd.alloc)))⟩
  case inr.inr.inr.inr.inr.inr.inr.inr.inr.inr.inr =>
    have e : thereF c j ⟨lo, pr, rest, sl, dp, ou⟩ hi ⟨12, a, b⟩ = true := rfl
    rw [e]
    clear e
    go_enter Tryd.func25, Tryd.ntmps25
    go_wp2_with fail
    try go_quiet (fail)
    go_wp2
    go_ret
    exact ⟨rfl, (by (repeat (first | exact Upd.refl _ _ | apply Upd.drewN | apply Upd.drew | apply Upd.alloc)))⟩
end Go.Proofs.YtknbgbeepachgaaDoor

/-
  CheckCodes, the document's side: where one is put in: plain lemmas.
-/
namespace Go.Proofs.YtknbgbeepachgaaDoor
open Go.RowKit Go.Shelf

/-- Put in behind those below it. -/
theorem insS_at (x : Int) : ∀ (l : List Int) (i : Nat), i ≤ l.length → (∀ k, k < i → l.getD k 0 < x) → (i < l.length → ¬ l.getD i 0 < x) → insS x l = l.take i ++ x :: l.drop i
  | [], i, hi, _, _ => by
    have : i = 0 := by simpa using hi
    subst this
    rfl
  | y :: l, 0, _, _, h => by
    have h0 : ¬ y < x := by simpa using h (by simp)
    unfold insS
    rw [if_neg h0]
    rfl
  | y :: l, i + 1, hi, hk, h => by
    have h0 : y < x := by simpa using hk 0 (by omega)
    unfold insS
    rw [if_pos h0, insS_at x l i (by simpa using hi) (fun k hki => by simpa using hk (k + 1) (by omega)) (fun hl => by simpa using h (by simpa using hl))]
    rfl
end Go.Proofs.YtknbgbeepachgaaDoor

/-
  CheckCodes, the document's side: what is open; two appends in one.
-/
namespace Go.Proofs.YtknbgbeepachgaaDoor
open Go.RowKit Go.Shelf

/-- A slice of numbers in blocks from base on, wherever it begins. -/
structure SO (w : World) (base : Nat) (v : Value) (xs : List Int) : Prop where
  ex : ∃ a cap, v = .slice a xs.length cap ∧ xs.length ≤ cap ∧ cap ≤ maxLen ∧ (a = none → cap = 0) ∧ (∀ g o p, a = some ⟨g, o, p⟩ → p = none ∧ base ≤ g) ∧ SlI w .i64 a xs
theorem el_int : Tryd.prog.underlying 39 = some (.slice (Tryd.prog.elem 39)) := by kernel_rfl
theorem SO.nil (w : World) (base : Nat) : SO w base (.slice none 0 0) [] := ⟨none, 0, rfl, by simp, by simp, fun _ => rfl, by simp, fun i hi => absurd hi (by simp)⟩
theorem SO.updS {w w' : World} {base : Nat} {v : Value} {xs : List Int} {S : List Nat} (h : SO w base v xs) (hu : Upd S w w') (hS : ∀ x, x ∈ S → x < base) : SO w' base v xs := by
  obtain ⟨a, cap, h1, h2, h3, h4, h5, h6⟩ := h.ex
  exact ⟨a, cap, h1, h2, h3, h4, h5, h6.upd hu (fun b o e hb => by have := hS b hb; have := (h5 b o none e).2; omega)⟩
theorem SO.of_own {w : World} {base n : Nat} {v : Value} {xs : List Int} (h : w.ownsRow base 3 1 v n (xs.map (.int .i64))) : SO w base v xs := by
  obtain ⟨a, c, rfl, hl, hs⟩ := own_SlI h
  rcases h.2 with ⟨e, h0⟩ | ⟨g, cap, cur, e, hb, hg, hnc, hcm, _⟩
  · injection e with e1 e2 e3
    subst e1; subst e2; subst e3
    exact ⟨none, 0, by rw [hl], by omega, by simp, fun _ => rfl, by simp, hs⟩
  · injection e with e1 e2 e3
    subst e1; subst e3
    exact ⟨_, c, by rw [hl], by omega, hcm, by simp, fun g' o' p' e => by
      injection e with e
      injection e with e1 e2 e3
      subst e1
      exact ⟨e3.symm, hb⟩, hs⟩
set_option maxRecDepth 100000 in
/-- The first ones, with no room behind them. -/
theorem run_cut {w0 : World} {base i : Nat} {v : Value} {xs : List Int} (h : SO w0 base v xs) (hi : i ≤ xs.length) : ∃ a1, (∀ w, (Instr.slice 39 v none (some (.int .i64 i)) (some (.int .i64 i))).run Tryd.prog w = .ok (.slice a1 i i) w) ∧ SlI w0 .i64 a1 (xs.take i) ∧ (a1 = none → i = 0) ∧ (∀ g o p, a1 = some ⟨g, o, p⟩ → p = none ∧ base ≤ g) := by
  obtain ⟨a, cap, rfl, h2, h3, h4, h5, h6⟩ := h.ex
  refine ⟨a, fun w => ?_, fun j hj => ?_, fun e => ?_, h5⟩
  · rw [run_slice_hm w 39 a _ cap el_int .i64 .i64 i i (by omega) (by omega) (by omega)]
    have hz : (sizeOf (Tryd.prog.elem 39)).run Tryd.prog w = .ok 1 w := by kernel_rfl
    rw [hz]
    simp only [Result.andThen, sliced, Int.toNat_natCast, Nat.sub_zero]
    congr 2
    cases a with
    | none => simp
    | some ad =>
      obtain ⟨g, o, p⟩ := ad
      obtain ⟨rfl, _⟩ := h5 g o p rfl
      simp [Addr.add]
  · have hj' : j < i := by simp at hj; omega
    obtain ⟨b, o, e, hc⟩ := h6 j (by omega)
    refine ⟨b, o, e, ?_⟩
    rw [hc]
    simp [List.getD_eq_getElem?_getD, hj']
  · have := h4 e
    omega
set_option maxRecDepth 100000 in
/-- Those from here on. -/
theorem run_rest {w0 : World} {base i : Nat} {v : Value} {xs : List Int} (h : SO w0 base v xs) (hi : i ≤ xs.length) : ∃ a1 c1, (∀ w, (Instr.slice 39 v (some (.int .i64 i)) none none).run Tryd.prog w = .ok (.slice a1 (xs.length - i) c1) w) ∧ SO w0 base (.slice a1 (xs.length - i) c1) (xs.drop i) := by
  obtain ⟨a, cap, rfl, h2, h3, h4, h5, h6⟩ := h.ex
  have hz : ∀ w, (sizeOf (Tryd.prog.elem 39)).run Tryd.prog w = .ok 1 w := fun w => by kernel_rfl
  cases a with
  | none =>
    have hc := h4 rfl
    have hx : xs = [] := by
      cases xs with
      | nil => rfl
      | cons x xs => simp at h2; omega
    subst hx
    subst hc
    have hi0 : i = 0 := by simpa using hi
    subst hi0
    refine ⟨none, 0, fun w => ?_, SO.nil _ _⟩
    rw [run_slice_l w 39 none _ 0 el_int .i64 (0 : Nat) (by omega) (by simp), hz]
    simp [Result.andThen, sliced]
  | some ad =>
    obtain ⟨g, o, p⟩ := ad
    obtain ⟨rfl, hb⟩ := h5 g o p rfl
    refine ⟨some ⟨g, if cap = i then o else o + i, none⟩, cap - i, fun w => ?_, ⟨some ⟨g, if cap = i then o else o + i, none⟩, cap - i, by simp, by simp; omega, by omega, by simp, fun g' o' p' e => ?_, fun j hj => ?_⟩⟩
    · rw [run_slice_l w 39 _ _ cap el_int .i64 i (by omega) (by omega), hz]
      simp only [Result.andThen, sliced, Int.toNat_natCast, Nat.mul_one, Option.map_some]
      split <;> simp [Addr.add]
    · injection e with e
      injection e with e1 e2 e3
      subst e1
      exact ⟨e3.symm, hb⟩
    · have hj' : i + j < xs.length := by simp at hj; omega
      obtain ⟨b, o2, e, hc⟩ := h6 (i + j) hj'
      injection e with e
      injection e with e1 e2 e3
      subst e1
      subst e2
      refine ⟨g, _, rfl, ?_⟩
      rw [if_neg (by omega), Nat.add_assoc, hc]
      simp [List.getD_eq_getElem?_getD, List.getElem?_drop]
/-- A run that is known, at a step of a region. -/
theorem step_run {P : Program} {W w' : World} {v u v' : Value} {ops : Array Oper} {o : Oper} {a : Act} {K : Act → World → Prop} {Q : Exit → Act → World → Prop} {E : Prop} (hgd : o.guard = none) (s x : Operand) (t : TypeId)
    (ho : o.op = .call { callee := .builtin .append, args := #[s, x], argTypes := #[t, t] }) (hs : a.eval s = v) (hx : a.eval x = u) (hr : ∀ ty, (Builtin.append_ #[t, t] ty #[v, u]).run P W = .ok v' w') (h : K (a.put o.dst v') w') :
    if Region.wanted o (yielded ops a.tmps) = true then Oper.wp P o a W K Q else E := by
  have hw : Region.wanted o (yielded ops a.tmps) = true := by simp [Region.wanted, hgd]
  rw [if_pos hw]
  unfold Oper.wp execOp
  simp only [ho, resolve, invoke, builtin, Sem.run_bind, Sem.run_pure, Result.andThen_ok, List.map_toArray, List.map_cons, List.map_nil, hs, hx, hr]
  exact h
set_option maxRecDepth 100000 in
/-- The inner one: behind a new row of one. -/
theorem tail_run {W : World} {base B m c2 : Nat} {a2 : Option Addr} {y : Int} {ys : List Int} (hB : Blk W B [.int .i64 y] 3) (hb : base ≤ B) (hm : m = ys.length) (h2 : SlI W .i64 a2 ys) (hn : m ≤ 100000) :
    ∃ g cap w', (∀ ty, (Builtin.append_ #[39, 39] ty #[.slice (some ⟨B, 0, none⟩) 1 1, .slice a2 m c2]).run Tryd.prog W = .ok (.slice (some ⟨g, 0, none⟩) (m + 1) cap) w') ∧ w'.ownsRow base 3 1 (.slice (some ⟨g, 0, none⟩) (m + 1) cap) (m + 1) ((y :: ys).map (.int .i64)) ∧ Upd [B] W w' := by
  obtain ⟨i0, hi, hz0, hz1, hz2⟩ := info_parts info_int
  have hO : W.ownsRow base 3 1 (.slice (some ⟨B, 0, none⟩) 1 1) 1 [.int .i64 y] := own_of_blk hB hb rfl (by omega)
  cases ys with
  | nil =>
    have hm0 : m = 0 := hm
    subst hm0
    refine ⟨B, 1, W, fun ty => ?_, hO, Upd.refl _ _⟩
    cases a2 with
    | none => simp [Builtin.append_, run_underlying Tryd.underlying39, sizeOf, typeInfo, hi, Builtin.lenOf, Builtin.firstCells, storeCells]
    | some ad => simp [Builtin.append_, run_underlying Tryd.underlying39, sizeOf, typeInfo, hi, Builtin.lenOf, Builtin.firstCells, storeCells, loadCells, loadCellsFrom]
  | cons z zs =>
    obtain ⟨g0, o0, e, _⟩ := h2 0 (by simp)
    subst e
    have hnews : ∀ j u, ((z :: zs).map (Value.int .i64))[j]? = some u → W.cell? ((⟨g0, o0, none⟩ : Addr).add j) = some u := by
      intro j u hj
      have hjl : j < (z :: zs).length := by
        have := (List.getElem?_eq_some_iff.1 hj).1
        simpa using this
      obtain ⟨g, o, e, hc⟩ := h2 j hjl
      injection e with e
      injection e with e1 e2
      subst e1; subst e2
      rw [show (⟨g0, o0, none⟩ : Addr).add j = ⟨g0, o0 + j, none⟩ by unfold Addr.add; split <;> simp_all, hc, ← hj, List.getElem?_map, List.getElem?_eq_getElem hjl, List.getD_eq_getElem?_getD, List.getElem?_eq_getElem hjl]
      rfl
    have hl : W.heap.size ≤ W.heap.size := Nat.le_refl _
    have hbs : base ≤ W.heap.size := Nat.le_trans hb (Nat.le_of_lt hB.lt)
    have key := fun ty => run_append_own_at (P := Tryd.prog) W base 39 ty 3 i0 _ 1 8 Tryd.underlying39 hi hz0 hz1 hz2 rfl (by decide) _ 1 _ hO ⟨g0, o0, none⟩ m c2 _ (by simpa using hm.symm) hnews (by simp [Value.oneCell']) (by unfold maxLen; omega) (by omega) hbs
    obtain ⟨v', w', hr, h3, h4, h5, h6⟩ := key 0
    obtain ⟨g, cap, e, hg, _⟩ := h3.form (by omega)
    subst e
    refine ⟨g, cap, w', fun ty => ?_, ?_, Upd.of_grown h4 (fun k hk => by simpa [Value.ownBlock, eq_comm] using hk)⟩
    · rw [Nat.add_comm m 1, ← hr]
      rfl
    · rw [Nat.add_comm m 1]
      exact h3
set_option maxRecDepth 100000 in
/-- The outer one: no room, so there is a new row. -/
theorem ins_run {W : World} {i m c g9 o9 : Nat} {a1 : Option Addr} {xs ys : List Int} (hi1 : xs.length = i) (h1 : SlI W .i64 a1 xs) (hnone : a1 = none → i = 0) (hm : ys.length = m) (hm0 : 0 < m) (h2 : SlI W .i64 (some ⟨g9, o9, none⟩) ys) (hn : i + m ≤ 100001) :
    ∃ cap w', (∀ ty, (Builtin.append_ #[39, 39] ty #[.slice a1 i i, .slice (some ⟨g9, o9, none⟩) m c]).run Tryd.prog W = .ok (.slice (some ⟨W.heap.size, 0, none⟩) (i + m) cap) w') ∧ w'.ownsRow W.heap.size 3 1 (.slice (some ⟨W.heap.size, 0, none⟩) (i + m) cap) (i + m) ((xs ++ ys).map (.int .i64)) ∧ Upd [] W w' := by
  obtain ⟨i0, hi, hz0, hz1, hz2⟩ := info_parts info_int
  have cells : ∀ {g o : Nat} {l : List Int}, SlI W .i64 (some ⟨g, o, none⟩) l → ∀ j u, (l.map (Value.int .i64))[j]? = some u → W.cell? ((⟨g, o, none⟩ : Addr).add j) = some u := by
    intro g o l h j u hj
    have hjl : j < l.length := by
      have := (List.getElem?_eq_some_iff.1 hj).1
      simpa using this
    obtain ⟨g', o', e, hc⟩ := h j hjl
    injection e with e
    injection e with e1 e2
    subst e1; subst e2
    rw [show (⟨g, o, none⟩ : Addr).add j = ⟨g, o + j, none⟩ by unfold Addr.add; split <;> simp_all, hc, ← hj, List.getElem?_map, List.getElem?_eq_getElem hjl, List.getD_eq_getElem?_getD, List.getElem?_eq_getElem hjl]
    rfl
  have hge := grownCap_ge W (i + m) i 3
  have hcm : grownCap W (i + m) i 3 ≤ maxLen := grownCap_le_maxLen W (i + m) i 3 (by unfold maxLen; omega)
  have hlen : ((xs ++ ys).map (Value.int .i64)).length = (i + m) * 1 := by simp; omega
  have grown : (W.drew.alloc (.cells ((xs.map (Value.int .i64)).toArray ++ (ys.map (Value.int .i64)).toArray ++ Builtin.zeroCells (Value.int .i64 0).cells (grownCap W (i + m) i 3 - (i + m))) 3)).ownsRow W.heap.size 3 1
        (.slice (some ⟨W.heap.size, 0, none⟩) (i + m) (grownCap W (i + m) i 3)) (i + m) ((xs ++ ys).map (Value.int .i64)) := by
    refine ⟨hlen, .inr ⟨W.heap.size, _, _, rfl, Nat.le_refl _, heap_alloc_new W.drew _, hge, hcm, ?_, ?_⟩⟩
    · simp only [Array.size_append, List.size_toArray, size_zeroCells, List.length_map, hi1, hm, show (Value.int .i64 0).cells.size = 1 from rfl]
      omega
    · rw [List.map_append]
      simp only [Array.toList_append, List.append_assoc]
      rw [← List.append_assoc, ← List.map_append, ← hlen]
      exact List.take_left
  refine ⟨_, _, fun ty => ?_, grown, (Upd.refl [] W).drew.alloc _⟩
  cases a1 with
  | none =>
    have h0 := hnone rfl
    subst h0
    have hx : xs = [] := List.eq_nil_of_length_eq_zero hi1
    subst hx
    have hr := run_append_nil (P := Tryd.prog) W 39 ty 3 i0 _ Tryd.underlying39 hi hz0 ⟨g9, o9, none⟩ m c (ys.map (.int .i64)) (by rw [hz1]; simpa using hm) (cells h2) hm0 (by omega) (by rw [hz2]; omega)
    simpa using hr
  | some ad =>
    have hc1 : ∀ j u, (xs.map (Value.int .i64))[j]? = some u → W.cell? (ad.add j) = some u := by
      cases xs with
      | nil => simp
      | cons x xs =>
        obtain ⟨g, o, e, _⟩ := h1 0 (by simp)
        injection e with e
        subst e
        exact cells h1
    exact run_append_grow (P := Tryd.prog) W 39 ty 3 i0 _ Tryd.underlying39 hi hz0 ad i i (xs.map (.int .i64)) (by rw [hz1]; simpa using hi1) hc1 ⟨g9, o9, none⟩ m c (ys.map (.int .i64)) (by rw [hz1]; simpa using hm) (cells h2) (by omega) (by omega)
      (growslice_fits (by omega) (by rw [hz2]; omega))
end Go.Proofs.YtknbgbeepachgaaDoor
