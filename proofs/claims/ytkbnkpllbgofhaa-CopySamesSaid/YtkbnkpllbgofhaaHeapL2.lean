/-
  HeapWords, HeapBack: their walks.
-/
import Derived.Test.YtkbnkpllbgofhaaHeapB
namespace Go.Proofs.Ytkbnkpllbgofhaa
open Go.RowKit HeapM

set_option maxRecDepth 100000 in
set_option maxHeartbeats 1000000 in
theorem law_HeapWords (a b : Int) (w : World) (ha : (Lit.int .i64 a).wf = true) (hb : (Lit.int .u64 b).wf = true) :
    Calls Try.prog 6 #[.int .i64 a, .int .u64 b] w fun e w' => e = .returned (.bool true) ∧ Upd [] w w' := by
  obtain ⟨a0, a1⟩ := bounds_i64 ha
  obtain ⟨b0, b1⟩ := bounds_u64 hb
  have hs := fun w => small_calls a w a0 a1
  have hr := fun w => rsmall_calls a w
  have hi := fun w => is_calls b w b0 b1
  have hri := fun w => ris_calls b w b0 b1
  clear ha hb
  go_enter Try.func6, Try.ntmps6
  go_wp2_with fail
  refine (hs _).mono ?_
  rintro e w' ⟨rfl, rfl⟩
  go_wp2_with fail
  refine (hr _).mono ?_
  rintro e w' ⟨rfl, rfl⟩
  go_wp2_with fail
  refine (hi _).mono ?_
  rintro e w' ⟨rfl, rfl⟩
  go_wp2_with fail
  refine (hri _).mono ?_
  rintro e w' ⟨rfl, rfl⟩
  clear hs hr hi hri
  generalize smallW a = s at *
  generalize smallOk a = so at *
  generalize isKind b = k at *
  generalize isNum b = m at *
  go_wp2_with fail
  refine (ref_calls a _).mono ?_
  rintro e w' ⟨rfl, rfl⟩
  go_wp2_with fail
  refine (rref_calls a _).mono ?_
  rintro e w' ⟨rfl, rfl⟩
  go_wp2_with fail
  refine (symbol_calls a _).mono ?_
  rintro e w' ⟨rfl, rfl⟩
  go_wp2_with fail
  refine (rsymbol_calls a _).mono ?_
  rintro e w' ⟨rfl, rfl⟩
  go_wp2_with fail
  refine (special_calls a _).mono ?_
  rintro e w' ⟨rfl, rfl⟩
  go_wp2_with fail
  refine (rspecial_calls a _).mono ?_
  rintro e w' ⟨rfl, rfl⟩
  go_wp2_with fail
  refine (scanned_calls a _).mono ?_
  rintro e w1 ⟨rfl, hS⟩
  go_wp2_with fail
  refine (rscanned_calls a _).mono ?_
  rintro e w' ⟨rfl, rfl⟩
  go_wp2_with fail
  refine (lives17 _).mono ?_
  rintro e w2 ⟨rfl, hL⟩
  go_wp2
  go_ret
  exact ⟨rfl, hS.then hL⟩

/-! ### HeapBack -/
theorem small_range (n : Int) : 0 ≤ smallW n ∧ smallW n ≤ 18446744073709551615 := by
  unfold smallW
  split <;> omega
theorem small_back {n : Int} (h : smallOk n = true) : isKind (smallW n) = 0 ∧ isNum (smallW n) = n := by
  have h' := h
  simp only [smallOk, decide_eq_true_eq] at h'
  unfold smallW
  rw [if_pos h]
  unfold isKind isNum wrap64
  omega
theorem small_inj {a b : Int} (ha : smallOk a = true) (hb : smallOk b = true) : (smallW a == smallW b) = (a == b) := by
  have h1 := small_back ha
  have h2 := small_back hb
  rw [Bool.eq_iff_iff, beq_iff_eq, beq_iff_eq]
  constructor
  · intro h
    rw [h] at h1
    rw [← h1.2, h2.2]
  · intro h
    rw [h]
theorem tag_back {n t : Int} (h : ¬ n < 0) (h' : ¬ 1099511627776 < n) (ht : 1 ≤ t ∧ t ≤ 3) : isKind (tagW n t) = t ∧ isNum (tagW n t) = n ∧ 0 ≤ tagW n t ∧ tagW n t ≤ 18446744073709551615 := by
  unfold tagW
  rw [if_neg (by omega)]
  unfold isKind isNum wrap64
  omega
theorem is_at (x k n : Int) (w : World) (h : 0 ≤ x) (h' : x ≤ 18446744073709551615) (hk : isKind x = k) (hn : isNum x = n) :
    Calls Try.prog 20 #[.int .u64 x] w fun e w' => e = .returned (.tuple #[.int .i64 k, .int .i64 n]) ∧ w = w' := by
  subst hk
  subst hn
  exact is_calls x w h h'
/-- Up to the test: small numbers come back, and no two are one. -/
theorem back_tests {a b : Int} : (smallOk a = true → isKind (smallW a) = 0 ∧ isNum (smallW a) = a) ∧ (smallOk a = true → smallOk b = true → (smallW a == smallW b) = (a == b)) :=
  ⟨fun h => small_back h, fun h h' => small_inj h h'⟩
/-- The words in HeapBack's loop. -/
structure BackRel (w wr : World) (a : Int) (B : Nat) (ws : List Int) : Prop where
  cells : ∀ j, j < 4 → wr.cell? ⟨B, j, none⟩ = some (.int .u64 (ws.getD j 0))
  kind : ∀ j, j < 4 → isKind (ws.getD j 0) = j ∧ isNum (ws.getD j 0) = a ∧ 0 ≤ ws.getD j 0 ∧ ws.getD j 0 ≤ 18446744073709551615
  upd : Upd [] w wr
theorem back_rel {w : World} {a x : Int} (hx : isKind x = 0 ∧ isNum x = a) (hr : 0 ≤ x ∧ x ≤ 18446744073709551615) (h : ¬ a < 0) (h' : ¬ 1099511627776 < a) :
    BackRel w (w.alloc (.cells #[.int .u64 x, .int .u64 (tagW a 1), .int .u64 (tagW a 2), .int .u64 (tagW a 3)] 31)) a w.heap.size [x, tagW a 1, tagW a 2, tagW a 3] := by
  have t1 := tag_back h h' (t := 1) (by omega)
  have t2 := tag_back h h' (t := 2) (by omega)
  have t3 := tag_back h h' (t := 3) (by omega)
  refine ⟨fun j hj => ?_, fun j hj => ?_, (Upd.refl [] w).alloc _⟩
  · rw [(Blk.newAt rfl).cell]
    match j, hj with
    | 0, _ => rfl
    | 1, _ => rfl
    | 2, _ => rfl
    | 3, _ => rfl
  · match j, hj with
    | 0, _ => exact ⟨hx.1, hx.2, hr⟩
    | 1, _ => exact t1
    | 2, _ => exact t2
    | 3, _ => exact t3
theorem ref_zero (a : Int) (w : World) (h : a < 0 ∨ 1099511627776 < a) : Calls Try.prog 21 #[.int .i64 a] w fun e w' => e = .returned (.int .u64 0) ∧ w = w' := by
  have := ref_calls a w
  unfold tagW at this
  rwa [if_pos h] at this
set_option maxRecDepth 100000 in
set_option maxHeartbeats 1000000 in
theorem law_HeapBack (a b : Int) (w : World) (ha : (Lit.int .i64 a).wf = true) (hb : (Lit.int .i64 b).wf = true) :
    Calls Try.prog 4 #[.int .i64 a, .int .i64 b] w fun e w' => e = .returned (.bool true) ∧ Upd [] w w' := by
  obtain ⟨a0, a1⟩ := bounds_i64 ha
  obtain ⟨b0, b1⟩ := bounds_i64 hb
  have hsa := Lib.hid (fun w => small_calls a w a0 a1)
  have hsb := Lib.hid (fun w => small_calls b w b0 b1)
  obtain ⟨T1, T2⟩ := back_tests (a := a) (b := b)
  have hr := small_range a
  clear ha hb
  by_cases hok : smallOk a = true
  · have hra := hok
    simp only [smallOk, decide_eq_true_eq] at hra
    obtain ⟨ra0, ra1⟩ := hra
    have T1' := T1 hok
    have hT : (smallOk b = true ∧ (smallW a == smallW b) = (a == b)) ∨ smallOk b = false := by
      cases h : smallOk b with
      | true => exact .inl ⟨rfl, T2 hok h⟩
      | false => exact .inr rfl
    rw [hok] at hsa
    generalize smallW a = x at *
    generalize smallW b = y at *
    generalize smallOk b = is at *
    clear hok T1 T2
    have HT := Lib.hid T1'; clear T1'
    obtain ⟨r0, r1⟩ := hr
    rcases hT with ⟨rfl, hxy⟩ | rfl
    all_goals
      go_enter Try.func4, Try.ntmps4
      go_wp2_with fail
      refine (hsa.out _).mono ?_
      rintro e w' ⟨rfl, rfl⟩
      go_wp2_with fail
      refine (hsb.out _).mono ?_
      rintro e w' ⟨rfl, rfl⟩
      go_wp2_with fail
      refine (is_at x 0 a _ r0 r1 HT.out.1 HT.out.2).mono ?_
      rintro e w' ⟨rfl, rfl⟩
      by_cases hneg : a < 0
      · go_wp2_with fail
        refine (ref_zero a _ (.inl hneg)).mono ?_
        rintro e w' ⟨rfl, rfl⟩
        go_wp2_with fail
        refine (lives17 _).mono ?_
        rintro e w2 ⟨rfl, hL⟩
        go_wp2
        go_ret
        exact ⟨rfl, hL⟩
      · by_cases hbig : 1099511627776 < a
        · go_wp2_with fail
          refine (ref_zero a _ (.inr hbig)).mono ?_
          rintro e w' ⟨rfl, rfl⟩
          go_wp2_with fail
          refine (lives17 _).mono ?_
          rintro e w2 ⟨rfl, hL⟩
          go_wp2
          go_ret
          exact ⟨rfl, hL⟩
        · go_wp2_with fail
          refine (ref_calls a _).mono ?_
          rintro e w' ⟨rfl, rfl⟩
          go_wp2_with fail
          refine (symbol_calls a _).mono ?_
          rintro e w' ⟨rfl, rfl⟩
          go_wp2_with fail
          refine (special_calls a _).mono ?_
          rintro e w' ⟨rfl, rfl⟩
          have HR := back_rel (w := w) HT.out ⟨r0, r1⟩ (by omega) (by omega)
          generalize tagW a 1 = t1 at *
          generalize tagW a 2 = t2 at *
          generalize tagW a 3 = t3 at *
          go_wp2
          generalize [x, t1, t2, t3] = ws at *
          go_loopw [82] (fun i wr => ∃ j : Nat, j ≤ 4 ∧ i = .int .i64 j ∧ BackRel w wr a w.heap.size ws) (fun i _ => 4 - (intOf i).toNat)
          case atStart => exact ⟨0, by omega, rfl, HR⟩
          case round =>
            obtain ⟨j, hj, rfl, hrr⟩ := hrel
            by_cases hlt : j < 4
            · have hc := hrr.cells j hlt
              obtain ⟨k1, k2, k3, k4⟩ := hrr.kind j hlt
              have HK1 := Lib.hid k1; clear k1
              have HK2 := Lib.hid k2; clear k2
              generalize ws.getD j 0 = wj at *
              go_wp2_with (go_at_call 20; refine (is_at wj j a _ k3 k4 HK1.out HK2.out).mono ?_; rintro e w' ⟨rfl, rfl⟩)
              go_roundw
              case rel => exact ⟨j + 1, by omega, by go_num, hrr⟩
              case measure => simp [intOf]; omega
            · go_wp2_with fail
              refine (lives17 _).mono ?_
              rintro e w2 ⟨rfl, hL⟩
              go_wp2
              go_ret
              exact ⟨rfl, hrr.upd.then hL⟩
  · have hok' : smallOk a = false := by simpa using hok
    have hra := hok'
    simp only [smallOk, decide_eq_false_iff_not] at hra
    have hx : smallW a = 0 := by unfold smallW; rw [hok']; rfl
    rw [hok', hx] at hsa
    have hcase : (a < -2305843009213693952 ∧ a < 0) ∨ (¬ a < -2305843009213693952 ∧ 2305843009213693952 ≤ a ∧ ¬ a < 0 ∧ 1099511627776 < a) := by omega
    have hz : a < 0 ∨ 1099511627776 < a := by omega
    have HZ := Lib.hid hz
    clear hok hok' hra hx T1 T2 hr hz
    generalize smallW b = y at *
    generalize smallOk b = is at *
    rcases hcase with ⟨h1, h2⟩ | ⟨h1, h2, h3, h4⟩
    all_goals
      go_enter Try.func4, Try.ntmps4
      go_wp2_with fail
      refine (hsa.out _).mono ?_
      rintro e w' ⟨rfl, rfl⟩
      go_wp2_with fail
      refine (hsb.out _).mono ?_
      rintro e w' ⟨rfl, rfl⟩
      go_wp2_with fail
      refine (ref_zero a _ HZ.out).mono ?_
      rintro e w' ⟨rfl, rfl⟩
      go_wp2_with fail
      refine (lives17 _).mono ?_
      rintro e w2 ⟨rfl, hL⟩
      go_wp2
      go_ret
      exact ⟨rfl, hL⟩
end Go.Proofs.Ytkbnkpllbgofhaa
