/-
  Texts of this claim, merged: ChT, ChU, ChV. Lemmas and contracts; no conditions of our own.
-/
import Derived.Test.YtknbgbeepachgaaDoorG10
import Derived.Test.YtknbgbeepachgaaDoorG15
import Derived.RangeFuncCalls

/-
  slices.ContainsFunc of instructions, of blocks, of data.
-/
namespace Go.Proofs.YtknbgbeepachgaaDoor
open Go.RowKit

set_option maxRecDepth 100000 in
set_option maxHeartbeats 1500000 in
theorem indexIns {w : World} {a : Option Addr} {xs : List InsV} (f : FuncId) (hen : ∀ args w, (callFunc f args).run Tryd.prog w = .ok (.enter f args) w) (P : InsV → Bool) (m c : Nat) (hm : xs.length = m) (h : InsAt w a xs) (hb : m ≤ 100000)
    (hP : ∀ x W, x ∈ xs → Upd [] w W → Calls Tryd.prog f #[.agg (insCells x).toArray] W fun e w' => e = .returned (.bool (P x)) ∧ Upd [] W w') :
    Calls Tryd.prog 48 #[.slice a m c, .func (.func f) #[] #[]] w fun e w' => (∃ k : Int, e = .returned (.int .i64 k) ∧ decide (0 ≤ k) = xs.any P) ∧ Upd [] w w' := by
  have HP := Lib.hid hP
  have HR := Lib.hid h
  have HM := Lib.hid hm
  clear hP h hm
  go_enter Tryd.func48, Tryd.ntmps48
  go_wp2_with fail
  go_loopw [8] (fun i wr => ∃ j : Nat, j ≤ m ∧ i = .int .i64 j ∧ Hid (∀ i, i < j → P (xs.getD i default) = false) ∧ Hid (Upd [] w wr)) (fun i _ => m - (intOf i).toNat)
  case atStart => exact ⟨0, by omega, rfl, Lib.hid (fun i hi => by omega), Lib.hid (Upd.refl _ _)⟩
  case round =>
    obtain ⟨j, hj, rfl, hG, hU⟩ := hrel
    by_cases hlt : j < m
    · have hjd : j < xs.length := by rw [HM.out]; exact hlt
      obtain ⟨b, o, rfl, x0, x1, x2⟩ := insAt_get (insAt_upd HR.out hU.out) hjd
      have hmem : xs.getD j default ∈ xs := by
        rw [List.getD_eq_getElem?_getD, List.getElem?_eq_getElem hjd]
        exact List.getElem_mem hjd
      have HC := Lib.hid (HP.out _ wr hmem hU.out)
      have HG2 : Hid (P (xs.getD j default) = true → xs.any P = true) := Lib.hid (fun h => List.any_eq_true.2 ⟨_, hmem, h⟩)
      have HG1 : Hid (P (xs.getD j default) = false → ∀ i, i < j + 1 → P (xs.getD i default) = false) := Lib.hid (fun h i hi => by
        by_cases hij : i < j
        · exact hG.out i hij
        · rw [show i = j by omega]
          exact h)
      clear hmem
      generalize xs.getD j default = x at *
      unfold insCells at HC
      go_wp2_with fail
      refine HC.out.mono ?_
      rintro e w5 ⟨rfl, hu5⟩
      have HU5 := Lib.hid (hU.out.then hu5)
      clear HC hu5
      cases hr : P x with
      | true =>
        have HX := Lib.hid (HG2.out hr)
        clear hr HG1 HG2
        go_wp2
        go_ret
        exact ⟨⟨_, rfl, by rw [HX.out]; simp⟩, HU5.out⟩
      | false =>
        have HX := Lib.hid (HG1.out hr)
        clear hr HG1 HG2
        go_wp2
        go_roundw
        case rel => exact ⟨j + 1, by omega, by go_num, HX, HU5⟩
        case measure => simp [intOf]; omega
    · have hjm : j = m := by omega
      subst hjm
      go_wp2
      go_ret
      refine ⟨⟨_, rfl, ?_⟩, hU.out⟩
      have : xs.any P = false := by
        rw [List.any_eq_false]
        intro x hx
        obtain ⟨i, hi, rfl⟩ := List.getElem_of_mem hx
        have := hG.out i (by rw [← HM.out]; exact hi)
        rw [List.getD_eq_getElem?_getD, List.getElem?_eq_getElem hi] at this
        simpa using this
      rw [this]
      rfl
set_option maxRecDepth 100000 in
set_option maxHeartbeats 1500000 in
theorem containsIns {w : World} {a : Option Addr} {xs : List InsV} (f : FuncId) (hen : ∀ args w, (callFunc f args).run Tryd.prog w = .ok (.enter f args) w) (P : InsV → Bool) (m c : Nat) (hm : xs.length = m) (h : InsAt w a xs) (hb : m ≤ 100000)
    (hP : ∀ x W, x ∈ xs → Upd [] w W → Calls Tryd.prog f #[.agg (insCells x).toArray] W fun e w' => e = .returned (.bool (P x)) ∧ Upd [] W w') :
    Calls Tryd.prog 34 #[.slice a m c, .func (.func f) #[] #[]] w fun e w' => e = .returned (.bool (xs.any P)) ∧ Upd [] w w' := by
  have hC := Lib.hid (indexIns f hen P m c hm h hb hP)
  clear h hm hP
  go_enter Tryd.func34, Tryd.ntmps34
  go_wp2_with fail
  refine hC.out.mono ?_
  rintro e w2 ⟨⟨k, rfl, hk⟩, hu2⟩
  have HK := Lib.hid hk
  have HU2 := Lib.hid hu2
  clear hC hk hu2
  go_wp2
  go_ret
  exact ⟨by rw [← HK.out]; rfl, HU2.out⟩
set_option maxRecDepth 100000 in
set_option maxHeartbeats 1500000 in
theorem indexBlk {w : World} {a : Option Addr} {xs : List BlkV} (f : FuncId) (hen : ∀ args w, (callFunc f args).run Tryd.prog w = .ok (.enter f args) w) (P : BlkV → Bool) (m c : Nat) (hm : xs.length = m) (h : BlkAt w a xs) (hb : m ≤ 100000)
    (hP : ∀ x W, x ∈ xs → Upd [] w W → Calls Tryd.prog f #[.agg (blkCells x).toArray] W fun e w' => e = .returned (.bool (P x)) ∧ Upd [] W w') :
    Calls Tryd.prog 50 #[.slice a m c, .func (.func f) #[] #[]] w fun e w' => (∃ k : Int, e = .returned (.int .i64 k) ∧ decide (0 ≤ k) = xs.any P) ∧ Upd [] w w' := by
  have HP := Lib.hid hP
  have HR := Lib.hid h
  have HM := Lib.hid hm
  clear hP h hm
  go_enter Tryd.func50, Tryd.ntmps50
  go_wp2_with fail
  go_loopw [8] (fun i wr => ∃ j : Nat, j ≤ m ∧ i = .int .i64 j ∧ Hid (∀ i, i < j → P (xs.getD i default) = false) ∧ Hid (Upd [] w wr)) (fun i _ => m - (intOf i).toNat)
  case atStart => exact ⟨0, by omega, rfl, Lib.hid (fun i hi => by omega), Lib.hid (Upd.refl _ _)⟩
  case round =>
    obtain ⟨j, hj, rfl, hG, hU⟩ := hrel
    by_cases hlt : j < m
    · have hjd : j < xs.length := by rw [HM.out]; exact hlt
      obtain ⟨b, o, rfl, x0, x1, x2, x3, x4, x5⟩ := blkAt_get (blkAt_upd HR.out hU.out) hjd
      have hmem : xs.getD j default ∈ xs := by
        rw [List.getD_eq_getElem?_getD, List.getElem?_eq_getElem hjd]
        exact List.getElem_mem hjd
      have HC := Lib.hid (HP.out _ wr hmem hU.out)
      have HG2 : Hid (P (xs.getD j default) = true → xs.any P = true) := Lib.hid (fun h => List.any_eq_true.2 ⟨_, hmem, h⟩)
      have HG1 : Hid (P (xs.getD j default) = false → ∀ i, i < j + 1 → P (xs.getD i default) = false) := Lib.hid (fun h i hi => by
        by_cases hij : i < j
        · exact hG.out i hij
        · rw [show i = j by omega]
          exact h)
      clear hmem
      generalize xs.getD j default = x at *
      unfold blkCells at HC
      go_wp2_with fail
      refine HC.out.mono ?_
      rintro e w5 ⟨rfl, hu5⟩
      have HU5 := Lib.hid (hU.out.then hu5)
      clear HC hu5
      cases hr : P x with
      | true =>
        have HX := Lib.hid (HG2.out hr)
        clear hr HG1 HG2
        go_wp2
        go_ret
        exact ⟨⟨_, rfl, by rw [HX.out]; simp⟩, HU5.out⟩
      | false =>
        have HX := Lib.hid (HG1.out hr)
        clear hr HG1 HG2
        go_wp2
        go_roundw
        case rel => exact ⟨j + 1, by omega, by go_num, HX, HU5⟩
        case measure => simp [intOf]; omega
    · have hjm : j = m := by omega
      subst hjm
      go_wp2
      go_ret
      refine ⟨⟨_, rfl, ?_⟩, hU.out⟩
      have : xs.any P = false := by
        rw [List.any_eq_false]
        intro x hx
        obtain ⟨i, hi, rfl⟩ := List.getElem_of_mem hx
        have := hG.out i (by rw [← HM.out]; exact hi)
        rw [List.getD_eq_getElem?_getD, List.getElem?_eq_getElem hi] at this
        simpa using this
      rw [this]
      rfl
set_option maxRecDepth 100000 in
set_option maxHeartbeats 1500000 in
theorem containsBlk {w : World} {a : Option Addr} {xs : List BlkV} (f : FuncId) (hen : ∀ args w, (callFunc f args).run Tryd.prog w = .ok (.enter f args) w) (P : BlkV → Bool) (m c : Nat) (hm : xs.length = m) (h : BlkAt w a xs) (hb : m ≤ 100000)
    (hP : ∀ x W, x ∈ xs → Upd [] w W → Calls Tryd.prog f #[.agg (blkCells x).toArray] W fun e w' => e = .returned (.bool (P x)) ∧ Upd [] W w') :
    Calls Tryd.prog 37 #[.slice a m c, .func (.func f) #[] #[]] w fun e w' => e = .returned (.bool (xs.any P)) ∧ Upd [] w w' := by
  have hC := Lib.hid (indexBlk f hen P m c hm h hb hP)
  clear h hm hP
  go_enter Tryd.func37, Tryd.ntmps37
  go_wp2_with fail
  refine hC.out.mono ?_
  rintro e w2 ⟨⟨k, rfl, hk⟩, hu2⟩
  have HK := Lib.hid hk
  have HU2 := Lib.hid hu2
  clear hC hk hu2
  go_wp2
  go_ret
  exact ⟨by rw [← HK.out]; rfl, HU2.out⟩
set_option maxRecDepth 100000 in
set_option maxHeartbeats 1500000 in
theorem indexDat {w : World} {n : Nat} {a : Option Addr} {xs : List Dat} (f : FuncId) (hen : ∀ args w, (callFunc f args).run Tryd.prog w = .ok (.enter f args) w) (P : Dat → Bool) (m c : Nat) (hm : xs.length = m) (h : RowOf w (fun _ => True) (IsD w (fun _ => True) n) a xs) (hb : m ≤ 100000)
    (hP : ∀ x cs W, x ∈ xs → Upd [] w W → IsD W (fun _ => True) n cs x → Calls Tryd.prog f #[.agg cs.toArray] W fun e w' => e = .returned (.bool (P x)) ∧ Upd [] W w') :
    Calls Tryd.prog 51 #[.slice a m c, .func (.func f) #[] #[]] w fun e w' => (∃ k : Int, e = .returned (.int .i64 k) ∧ decide (0 ≤ k) = xs.any P) ∧ Upd [] w w' := by
  have HP := Lib.hid hP
  have HR := Lib.hid h
  have HM := Lib.hid hm
  clear hP h hm
  go_enter Tryd.func51, Tryd.ntmps51
  go_wp2_with fail
  go_loopw [8] (fun i wr => ∃ j : Nat, j ≤ m ∧ i = .int .i64 j ∧ Hid (∀ i, i < j → P (xs.getD i default) = false) ∧ Hid (Upd [] w wr)) (fun i _ => m - (intOf i).toNat)
  case atStart => exact ⟨0, by omega, rfl, Lib.hid (fun i hi => by omega), Lib.hid (Upd.refl _ _)⟩
  case round =>
    obtain ⟨j, hj, rfl, hG, hU⟩ := hrel
    by_cases hlt : j < m
    · have hjd : j < xs.length := by rw [HM.out]; exact hlt
      obtain ⟨b, o, cs, rfl, _, hat, hd0⟩ := HR.out j hjd
      obtain ⟨k1, n1, a1, l1, p1, b1, s1, i1, m1, d1, t1, o1, q1, rfl⟩ := hd0.shaped
      obtain ⟨x0, x1, x2, x3, x4, x5, x6⟩ := (hat.upd hU.out (by simp)).cells
      have hmem : xs.getD j default ∈ xs := by
        rw [List.getD_eq_getElem?_getD, List.getElem?_eq_getElem hjd]
        exact List.getElem_mem hjd
      have HC := Lib.hid (HP.out _ _ wr hmem hU.out (hd0.upd hU.out))
      have HG2 : Hid (P (xs.getD j default) = true → xs.any P = true) := Lib.hid (fun h => List.any_eq_true.2 ⟨_, hmem, h⟩)
      have HG1 : Hid (P (xs.getD j default) = false → ∀ i, i < j + 1 → P (xs.getD i default) = false) := Lib.hid (fun h i hi => by
        by_cases hij : i < j
        · exact hG.out i hij
        · rw [show i = j by omega]
          exact h)
      clear hmem hat hd0
      generalize xs.getD j default = x at *
      unfold datCells at HC
      go_wp2_with fail
      refine HC.out.mono ?_
      rintro e w5 ⟨rfl, hu5⟩
      have HU5 := Lib.hid (hU.out.then hu5)
      clear HC hu5
      cases hr : P x with
      | true =>
        have HX := Lib.hid (HG2.out hr)
        clear hr HG1 HG2
        go_wp2
        go_ret
        exact ⟨⟨_, rfl, by rw [HX.out]; simp⟩, HU5.out⟩
      | false =>
        have HX := Lib.hid (HG1.out hr)
        clear hr HG1 HG2
        go_wp2
        go_roundw
        case rel => exact ⟨j + 1, by omega, by go_num, HX, HU5⟩
        case measure => simp [intOf]; omega
    · have hjm : j = m := by omega
      subst hjm
      go_wp2
      go_ret
      refine ⟨⟨_, rfl, ?_⟩, hU.out⟩
      have : xs.any P = false := by
        rw [List.any_eq_false]
        intro x hx
        obtain ⟨i, hi, rfl⟩ := List.getElem_of_mem hx
        have := hG.out i (by rw [← HM.out]; exact hi)
        rw [List.getD_eq_getElem?_getD, List.getElem?_eq_getElem hi] at this
        simpa using this
      rw [this]
      rfl
set_option maxRecDepth 100000 in
set_option maxHeartbeats 1500000 in
theorem containsDat {w : World} {n : Nat} {a : Option Addr} {xs : List Dat} (f : FuncId) (hen : ∀ args w, (callFunc f args).run Tryd.prog w = .ok (.enter f args) w) (P : Dat → Bool) (m c : Nat) (hm : xs.length = m) (h : RowOf w (fun _ => True) (IsD w (fun _ => True) n) a xs) (hb : m ≤ 100000)
    (hP : ∀ x cs W, x ∈ xs → Upd [] w W → IsD W (fun _ => True) n cs x → Calls Tryd.prog f #[.agg cs.toArray] W fun e w' => e = .returned (.bool (P x)) ∧ Upd [] W w') :
    Calls Tryd.prog 40 #[.slice a m c, .func (.func f) #[] #[]] w fun e w' => e = .returned (.bool (xs.any P)) ∧ Upd [] w w' := by
  have hC := Lib.hid (indexDat f hen P m c hm h hb hP)
  clear h hm hP
  go_enter Tryd.func40, Tryd.ntmps40
  go_wp2_with fail
  refine hC.out.mono ?_
  rintro e w2 ⟨⟨k, rfl, hk⟩, hu2⟩
  have HK := Lib.hid hk
  have HU2 := Lib.hid hu2
  clear hC hk hu2
  go_wp2
  go_ret
  exact ⟨by rw [← HK.out]; rfl, HU2.out⟩
end Go.Proofs.YtknbgbeepachgaaDoor

/-
  code.Good.
-/
namespace Go.Proofs.YtknbgbeepachgaaDoor
open Go.RowKit Go.Shelf

def upB (n most : Int) : Bool := decide (0 ≤ n) && decide (n ≤ most)
set_option maxRecDepth 100000 in
set_option maxHeartbeats 1500000 in
theorem upTo_calls (w : World) (n most : Int) : Calls Tryd.prog 49 #[.int .i64 n, .int .i64 most] w fun e w' => e = .returned (.bool (upB n most)) ∧ w' = w := by
  unfold upB
  by_cases h : 0 ≤ n
  · have h2 : decide (0 ≤ n) = true := decide_eq_true h
    rw [h2, Bool.true_and]
    go_enter Tryd.func49, Tryd.ntmps49
    go_wp2
    go_ret
    exact ⟨rfl, rfl⟩
  · have h2 : decide (0 ≤ n) = false := decide_eq_false h
    rw [h2, Bool.false_and]
    go_enter Tryd.func49, Tryd.ntmps49
    go_wp2
    go_ret
    exact ⟨rfl, rfl⟩
def insG (x : InsV) : Bool := (decide (1 ≤ x.op ∧ x.op ≤ 12) && (upB x.a 1000000 && upB x.b 1000000)) && ((x.b == 0 || x.op == 5) && (x.a == 0 || decide (x.op < 11)))
theorem insG_ok {x : InsV} (h : insG x = true) : InsOk x := by
  unfold insG upB at h
  simp at h
  obtain ⟨⟨⟨h1, h2⟩, ⟨h3, h4⟩, h5, h6⟩, h7, h8⟩ := h
  exact ⟨h1, h2, h3, h4, h5, h6, fun hne => by rcases h7 with h | h <;> omega, fun hge => by rcases h8 with h | h <;> omega⟩
set_option maxRecDepth 100000 in
set_option maxHeartbeats 3000000 in
theorem goodIns_calls (w : World) (x : InsV) : Calls Tryd.prog 36 #[.agg (insCells x).toArray] w fun e w' => e = .returned (.bool (insG x)) ∧ Upd [] w w' := by
  obtain ⟨op, a, b⟩ := x
  unfold insCells
  have hu : Upd [] w (w.alloc (.cells #[.int .i64 op, .int .i64 a, .int .i64 b] 47)) := (Upd.refl [] w).alloc _
  have HU := Lib.hid hu
  clear hu
  by_cases h1 : op < 1
  · have e : insG ⟨op, a, b⟩ = false := by
      unfold insG
      rw [decide_eq_false (show ¬ (1 ≤ op ∧ op ≤ 12) by omega)]
      rfl
    rw [e]
    clear e
    go_enter Tryd.func36, Tryd.ntmps36
    go_wp2
    go_ret
    exact ⟨rfl, HU.out⟩
  by_cases h2 : 12 < op
  · have e : insG ⟨op, a, b⟩ = false := by
      unfold insG
      rw [decide_eq_false (show ¬ (1 ≤ op ∧ op ≤ 12) by omega)]
      rfl
    rw [e]
    clear e
    go_enter Tryd.func36, Tryd.ntmps36
    go_wp2
    go_ret
    exact ⟨rfl, HU.out⟩
  have e0 : insG ⟨op, a, b⟩ = ((upB a 1000000 && upB b 1000000) && ((b == 0 || op == 5) && (a == 0 || decide (op < 11)))) := by
    unfold insG
    rw [decide_eq_true (show 1 ≤ op ∧ op ≤ 12 by omega)]
    rfl
  rw [e0]
  clear e0
  have HA := Lib.hid (fun W => upTo_calls W a 1000000)
  have HB := Lib.hid (fun W => upTo_calls W b 1000000)
  generalize upB a 1000000 = ua at *
  generalize upB b 1000000 = ub at *
  cases ua with
  | false =>
    rw [Bool.false_and, Bool.false_and]
    clear HB
    go_enter Tryd.func36, Tryd.ntmps36
    go_wp2_with fail
    refine (HA.out _).mono ?_
    rintro e w2 ⟨rfl, rfl⟩
    clear HA
    go_wp2
    go_ret
    exact ⟨rfl, HU.out⟩
  | true =>
    cases ub with
    | false =>
      rw [Bool.true_and, Bool.false_and]
      go_enter Tryd.func36, Tryd.ntmps36
      go_wp2_with fail
      refine (HA.out _).mono ?_
      rintro e w2 ⟨rfl, rfl⟩
      clear HA
      go_wp2_with fail
      refine (HB.out _).mono ?_
      rintro e w2 ⟨rfl, rfl⟩
      clear HB
      go_wp2
      go_ret
      exact ⟨rfl, HU.out⟩
    | true =>
      rw [Bool.true_and, Bool.true_and]
      have hq : (b == 0) = true ∨ ((b == 0) = false ∧ (op == 5) = true) ∨ ((b == 0) = false ∧ (op == 5) = false) := by
        cases h : (b == 0)
        · cases h' : (op == 5)
          · exact .inr (.inr ⟨rfl, rfl⟩)
          · exact .inr (.inl ⟨rfl, rfl⟩)
        · exact .inl rfl
      have hr : (a == 0) = true ∨ (a == 0) = false := by cases (a == 0) <;> simp
      rcases hq with h5 | ⟨h5, h6⟩ | ⟨h5, h6⟩
      · rcases hr with h7 | h7
        · go_enter Tryd.func36, Tryd.ntmps36
          go_wp2_with fail
          refine (HA.out _).mono ?_
          rintro e w2 ⟨rfl, rfl⟩
          go_wp2_with fail
          refine (HB.out _).mono ?_
          rintro e w2 ⟨rfl, rfl⟩
          clear HA HB
          go_wp2
          go_ret
          exact ⟨by rw [h5, h7]; rfl, HU.out⟩
        · go_enter Tryd.func36, Tryd.ntmps36
          go_wp2_with fail
          refine (HA.out _).mono ?_
          rintro e w2 ⟨rfl, rfl⟩
          go_wp2_with fail
          refine (HB.out _).mono ?_
          rintro e w2 ⟨rfl, rfl⟩
          clear HA HB
          go_wp2
          go_ret
          exact ⟨by rw [h5, h7]; rfl, HU.out⟩
      · rcases hr with h7 | h7
        · go_enter Tryd.func36, Tryd.ntmps36
          go_wp2_with fail
          refine (HA.out _).mono ?_
          rintro e w2 ⟨rfl, rfl⟩
          go_wp2_with fail
          refine (HB.out _).mono ?_
          rintro e w2 ⟨rfl, rfl⟩
          clear HA HB
          go_wp2
          go_ret
          exact ⟨by rw [h5, h6, h7]; rfl, HU.out⟩
        · go_enter Tryd.func36, Tryd.ntmps36
          go_wp2_with fail
          refine (HA.out _).mono ?_
          rintro e w2 ⟨rfl, rfl⟩
          go_wp2_with fail
          refine (HB.out _).mono ?_
          rintro e w2 ⟨rfl, rfl⟩
          clear HA HB
          go_wp2
          go_ret
          exact ⟨by rw [h5, h6, h7]; rfl, HU.out⟩
      · go_enter Tryd.func36, Tryd.ntmps36
        go_wp2_with fail
        refine (HA.out _).mono ?_
        rintro e w2 ⟨rfl, rfl⟩
        go_wp2_with fail
        refine (HB.out _).mono ?_
        rintro e w2 ⟨rfl, rfl⟩
        clear HA HB
        go_wp2
        go_ret
        exact ⟨by rw [h5, h6]; rfl, HU.out⟩
set_option maxRecDepth 100000 in
set_option maxHeartbeats 1500000 in
theorem good1I_calls (w : World) (x : InsV) : Calls Tryd.prog 35 #[.agg (insCells x).toArray] w fun e w' => e = .returned (.bool (!insG x)) ∧ Upd [] w w' := by
  have hu : Upd [] w (w.alloc (.cells (insCells x).toArray 47)) := (Upd.refl [] w).alloc _
  have HU := Lib.hid hu
  have HC := Lib.hid (goodIns_calls (w.alloc (.cells (insCells x).toArray 47)) x)
  clear hu
  generalize insG x = g at *
  unfold insCells at *
  go_enter Tryd.func35, Tryd.ntmps35
  go_wp2_with fail
  refine HC.out.mono ?_
  rintro e w2 ⟨rfl, hu2⟩
  have HU2 := Lib.hid (HU.out.then hu2)
  clear hu2 HC
  go_wp2
  go_ret
  exact ⟨rfl, HU2.out⟩
/-- A block's five numbers. -/
def blkNums (b : BlkV) : List Int := [b.lo, b.pr, b.sl, b.dp, b.ou]
def blkG (b : BlkV) : Bool := (blkNums b).all (fun n => upB n 100000)
theorem blkG_ok {b : BlkV} (h : blkG b = true) : 0 ≤ b.lo ∧ b.lo ≤ 100000 ∧ 0 ≤ b.pr ∧ b.pr ≤ 100000 ∧ 0 ≤ b.sl ∧ b.sl ≤ 100000 ∧ 0 ≤ b.dp ∧ b.dp ≤ 100000 ∧ 0 ≤ b.ou ∧ b.ou ≤ 100000 := by
  unfold blkG blkNums upB at h
  simp at h
  omega
set_option maxRecDepth 100000 in
set_option maxHeartbeats 1500000 in
theorem goodBlock_calls (w : World) (b : BlkV) : Calls Tryd.prog 39 #[.agg (blkCells b).toArray] w fun e w' => e = .returned (.bool (blkG b)) ∧ Upd [] w w' := by
  have hu : Upd [] w (w.alloc (.cells (blkCells b).toArray 45)) := (Upd.refl [] w).alloc _
  have hix : ∀ j : Nat, j < 5 → ∀ w, (Instr.index 82 (.agg #[.int .i64 b.lo, .int .i64 b.pr, .int .i64 b.sl, .int .i64 b.dp, .int .i64 b.ou]) (.int .i64 j)).run Tryd.prog w = .ok (.int .i64 ((blkNums b).getD j 0)) w := by
    intro j hj w
    refine run_index1 (z := .int .i64 0) (bytes := 8) Tryd.underlying82 (by kernel_rfl) Tryd.underlying3 rfl hj ?_ w
    obtain rfl | rfl | rfl | rfl | rfl : j = 0 ∨ j = 1 ∨ j = 2 ∨ j = 3 ∨ j = 4 := by omega
    all_goals rfl
  have HIX := Lib.hid hix
  have HU := Lib.hid hu
  obtain ⟨G, hG⟩ : ∃ G, G = blkG b := ⟨_, rfl⟩
  rw [← hG]
  have hG1 : (∀ i, i < 5 → upB ((blkNums b).getD i 0) 100000 = true) → G = true := by
    intro h
    rw [hG]
    unfold blkG
    rw [List.all_eq_true]
    intro x hx
    obtain ⟨i, hi, rfl⟩ := List.getElem_of_mem hx
    have := h i hi
    rwa [List.getD_eq_getElem?_getD, List.getElem?_eq_getElem hi] at this
  have hG2 : ∀ i, i < 5 → upB ((blkNums b).getD i 0) 100000 = false → G = false := by
    intro i hi h
    rw [hG]
    unfold blkG
    rw [List.all_eq_false]
    have hi' : i < (blkNums b).length := hi
    rw [List.getD_eq_getElem?_getD, List.getElem?_eq_getElem hi'] at h
    exact ⟨_, List.getElem_mem hi', by simpa using h⟩
  have HG1 := Lib.hid hG1
  have HG2 := Lib.hid hG2
  clear hu hix hG hG1 hG2
  obtain ⟨lo, pr, rest, sl, dp, ou⟩ := b
  unfold blkCells
  simp only at *
  generalize blkNums ⟨lo, pr, rest, sl, dp, ou⟩ = VL at *
  go_enter Tryd.func39, Tryd.ntmps39
  go_wp2_with fail
  go_loopw [16] (fun i wr => ∃ j : Nat, j ≤ 5 ∧ i = .int .i64 j ∧ Hid (∀ i, i < j → upB (VL.getD i 0) 100000 = true) ∧ Hid (Upd [] w wr)) (fun i _ => 5 - (intOf i).toNat)
  case atStart => exact ⟨0, by omega, rfl, Lib.hid (fun i hi => by omega), HU⟩
  case round =>
    obtain ⟨j, hj, rfl, hA, hU⟩ := hrel
    by_cases hlt : j < 5
    · have ix := HIX.out j hlt
      have hlt' : (j : Int) < 5 := by omega
      have HA1 : Hid (upB (VL.getD j 0) 100000 = true → ∀ i, i < j + 1 → upB (VL.getD i 0) 100000 = true) := Lib.hid (fun h i hi => by
        by_cases hij : i < j
        · exact hA.out i hij
        · rw [show i = j by omega]
          exact h)
      have HA2 := Lib.hid (HG2.out j hlt)
      generalize VL.getD j 0 = x at *
      have HC := Lib.hid (upTo_calls wr x 100000)
      go_wp2_with fail
      refine HC.out.mono ?_
      rintro e w2 ⟨rfl, rfl⟩
      clear HC ix
      cases hr : upB x 100000 with
      | false =>
        have E9 := Lib.hid (HA2.out hr)
        clear hr HA1 HA2
        go_wp2
        go_ret
        exact ⟨by rw [E9.out]; rfl, hU.out⟩
      | true =>
        have HA3 := Lib.hid (HA1.out hr)
        clear hr HA1 HA2
        go_wp2
        go_roundw
        case rel => exact ⟨j + 1, by omega, by go_num, HA3, hU⟩
        case measure => simp [intOf]; omega
    · obtain rfl : j = 5 := by omega
      have E9 := Lib.hid (HG1.out hA.out)
      go_wp2
      go_ret
      exact ⟨by rw [E9.out]; rfl, hU.out⟩
set_option maxRecDepth 100000 in
set_option maxHeartbeats 1500000 in
theorem good2B_calls (w : World) (x : BlkV) : Calls Tryd.prog 38 #[.agg (blkCells x).toArray] w fun e w' => e = .returned (.bool (!blkG x)) ∧ Upd [] w w' := by
  have hu : Upd [] w (w.alloc (.cells (blkCells x).toArray 45)) := (Upd.refl [] w).alloc _
  have HU := Lib.hid hu
  have HC := Lib.hid (goodBlock_calls (w.alloc (.cells (blkCells x).toArray 45)) x)
  clear hu
  generalize blkG x = g at *
  unfold blkCells at *
  go_enter Tryd.func38, Tryd.ntmps38
  go_wp2_with fail
  refine HC.out.mono ?_
  rintro e w2 ⟨rfl, hu2⟩
  have HU2 := Lib.hid (HU.out.then hu2)
  clear hu2 HC
  go_wp2
  go_ret
  exact ⟨rfl, HU2.out⟩
set_option maxRecDepth 100000 in
set_option maxHeartbeats 1500000 in
theorem good3D_calls {n : Nat} {d : Dat} {cs : List Value} {w : World} (h : IsD w (fun _ => True) n cs d) (hs : szN n d ≤ 100000) (hd : dpN n d ≤ 10000) : Calls Tryd.prog 41 #[.agg cs.toArray] w fun e w' => e = .returned (.bool (!constN n d)) ∧ Upd [] w w' := by
  obtain ⟨k1, n1, a1, l1, p1, b1, s1, i1, m1, d1, t1, o1, q1, rfl⟩ := h.shaped
  have hu : Upd [] w (w.alloc (.cells #[.int .i64 k1, .bool n1, .slice a1 l1 p1, .bool b1, .string s1, .slice i1 m1 d1, .slice t1 o1 q1] 56)) := (Upd.refl [] w).alloc _
  have hC := Lib.hid (goodConst_calls ((h.upd hu).old) hs hd)
  have HU := Lib.hid hu
  unfold datCells at *
  clear h hs hu hd
  generalize constN n d = r at *
  go_enter Tryd.func41, Tryd.ntmps41
  go_wp2_with fail
  refine hC.out.mono ?_
  rintro e w2 ⟨rfl, hu2⟩
  have HU2 := Lib.hid (HU.out.then hu2)
  clear hC hu2
  go_wp2
  go_ret
  exact ⟨rfl, HU2.out⟩
end Go.Proofs.YtknbgbeepachgaaDoor

/-
  code.Good, check.shape.
-/
namespace Go.Proofs.YtknbgbeepachgaaDoor
open Go.RowKit Go.Shelf

/-- Not more than is looked at here. -/
structure Lit' (n : Nat) (c : CodeV) : Prop where
  nI : c.ins.length ≤ 60000
  nB : c.blks.length ≤ 5000
  nC : c.cons.length ≤ 5000
  cons : ∀ d ∈ c.cons, szN n d ≤ 100000 ∧ dpN n d ≤ 10000
def codeG (n : Nat) (c : CodeV) : Bool := (c.ins.all insG && c.blks.all blkG) && c.cons.all (constN n)
theorem any_not {α : Type} (f : α → Bool) (l : List α) : l.any (fun x => !f x) = !l.all f := by
  induction l with
  | nil => rfl
  | cons x l ih => simp [List.any_cons, List.all_cons, ih, Bool.not_and]
set_option maxRecDepth 100000 in
set_option maxHeartbeats 1500000 in
theorem codeGood_calls {w : World} {n : Nat} {aI aB aC : Option Addr} (cI cB cC : Nat) {c : CodeV} (h : IsC w n aI aB aC c) (hl : Lit' n c) :
    Calls Tryd.prog 27 #[.agg #[.slice aI c.ins.length cI, .slice aB c.blks.length cB, .slice aC c.cons.length cC]] w fun e w' => e = .returned (.bool (codeG n c)) ∧ Upd [] w w' := by
  have hBx : Blk (w.alloc (.cells #[.slice aI c.ins.length cI, .slice aB c.blks.length cB, .slice aC c.cons.length cC] 26)) w.heap.size [.slice aI c.ins.length cI, .slice aB c.blks.length cB, .slice aC c.cons.length cC] 26 := Blk.newAt rfl
  have hu1 : Upd [] w (w.alloc (.cells #[.slice aI c.ins.length cI, .slice aB c.blks.length cB, .slice aC c.cons.length cC] 26)) := (Upd.refl [] w).alloc _
  have HI := Lib.hid (fun (W : World) (hu : Upd [] w W) => containsIns 35 (enters_of Tryd.func35 (by kernel_rfl) rfl) (fun x => !insG x) c.ins.length cI rfl (insAt_upd h.ins hu) (by have := hl.nI; omega) (fun x W _ _ => good1I_calls W x))
  have HB := Lib.hid (fun (W : World) (hu : Upd [] w W) => containsBlk 38 (enters_of Tryd.func38 (by kernel_rfl) rfl) (fun x => !blkG x) c.blks.length cB rfl (blkAt_upd h.blks hu) (by have := hl.nB; omega) (fun x W _ _ => good2B_calls W x))
  have HC := Lib.hid (fun (W : World) (hu : Upd [] w W) => containsDat 41 (enters_of Tryd.func41 (by kernel_rfl) rfl) (fun x => !constN n x) c.cons.length cC rfl (rowOf_upd h.cons hu) (by have := hl.nC; omega) (fun x cs W hx _ hd => good3D_calls hd (hl.cons x hx).1 (hl.cons x hx).2))
  have hnI := hl.nI
  have hnB := hl.nB
  have hnC := hl.nC
  unfold codeG
  have e1 := any_not insG c.ins
  have e2 := any_not blkG c.blks
  have e3 := any_not (constN n) c.cons
  rw [e1] at HI
  rw [e2] at HB
  rw [e3] at HC
  have HBX := Lib.hid hBx
  have HU1 := Lib.hid hu1
  clear h hl e1 e2 e3 hBx hu1
  generalize c.ins.all insG = gI at *
  generalize c.blks.all blkG = gB at *
  generalize c.cons.all (constN n) = gC at *
  generalize c.ins.length = nI at *
  generalize c.blks.length = nB at *
  generalize c.cons.length = nC at *
  have t1 : ¬ (65536 : Int) < (nI : Int) := by omega
  have t2 : ¬ (5000 : Int) < (nB : Int) := by omega
  have t3 : ¬ (5000 : Int) < (nC : Int) := by omega
  go_enter Tryd.func27, Tryd.ntmps27
  go_wp2_with fail
  refine (HI.out _ HU1.out).mono ?_
  rintro e w2 ⟨rfl, hu2⟩
  have x1 := (hu2.blk HBX.out (by simp)).cell_some (i := 1) rfl
  have x2 := (hu2.blk HBX.out (by simp)).cell_some (i := 2) rfl
  have HBX2 := Lib.hid (hu2.blk HBX.out (by simp))
  have HU2 := Lib.hid (HU1.out.then hu2)
  clear hu2 HI HBX HU1
  cases gI with
  | false =>
    clear HB HC
    go_wp2
    go_ret
    exact ⟨rfl, HU2.out⟩
  | true =>
    go_wp2_with fail
    refine (HB.out _ HU2.out).mono ?_
    rintro e w3 ⟨rfl, hu3⟩
    have y2 := (hu3.blk HBX2.out (by simp)).cell_some (i := 2) rfl
    have HU3 := Lib.hid (HU2.out.then hu3)
    clear hu3 HB HBX2 x1 x2
    cases gB with
    | false =>
      clear HC
      go_wp2
      go_ret
      exact ⟨rfl, HU3.out⟩
    | true =>
      go_wp2_with fail
      refine (HC.out _ HU3.out).mono ?_
      rintro e w4 ⟨rfl, hu4⟩
      have HU4 := Lib.hid (HU3.out.then hu4)
      clear hu4 HC
      go_wp2
      go_ret
      exact ⟨by cases gC <;> rfl, HU4.out⟩
/-- Do the blocks' begins rise, all below m? -/
def risingF (m : Nat) : Int → List BlkV → Bool
  | _, [] => true
  | last, b :: bs => (decide (last < b.lo) && decide (b.lo < m)) && risingF m b.lo bs
def shapeF (n : Nat) (c : CodeV) : Bool :=
  (codeG n c && !c.blks.isEmpty) && (decide ((c.blks.getD 0 default).lo + (c.blks.getD 0 default).pr + (c.blks.getD 0 default).ou ≤ 0 ∧ (c.blks.getD 0 default).rest = false) && risingF c.ins.length (-1) c.blks)
theorem CodeOk.of {n : Nat} {c : CodeV} (h : codeG n c = true) : CodeOk c := by
  unfold codeG at h
  simp only [Bool.and_eq_true, List.all_eq_true] at h
  exact ⟨fun x hx => insG_ok (h.1.1 x hx), fun b hb => blkG_ok (h.1.2 b hb)⟩
set_option maxRecDepth 100000 in
set_option maxHeartbeats 3000000 in
theorem shape_calls {w : World} {n : Nat} {aI aB aC : Option Addr} (cI cB cC : Nat) {c : CodeV} (h : IsC w n aI aB aC c) (hl : Lit' n c) :
    Calls Tryd.prog 20 #[.agg #[.slice aI c.ins.length cI, .slice aB c.blks.length cB, .slice aC c.cons.length cC]] w fun e w' => e = .returned (.bool (shapeF n c)) ∧ Upd [] w w' := by
  have hBx : Blk (w.alloc (.cells #[.slice aI c.ins.length cI, .slice aB c.blks.length cB, .slice aC c.cons.length cC] 26)) w.heap.size [.slice aI c.ins.length cI, .slice aB c.blks.length cB, .slice aC c.cons.length cC] 26 := Blk.newAt rfl
  have hu1 : Upd [] w (w.alloc (.cells #[.slice aI c.ins.length cI, .slice aB c.blks.length cB, .slice aC c.cons.length cC] 26)) := (Upd.refl [] w).alloc _
  have HG := Lib.hid (codeGood_calls cI cB cC (h.upd hu1) hl)
  have hnI := hl.nI
  have hnB := hl.nB
  have HOK := Lib.hid (fun hg => (CodeOk.of (n := n) (c := c) hg).blks)
  have HBX := Lib.hid hBx
  have HU1 := Lib.hid hu1
  have HB := Lib.hid h.blks
  obtain ⟨S, hS⟩ : ∃ S, S = shapeF n c := ⟨_, rfl⟩
  rw [← hS]
  unfold shapeF at hS
  have HS := Lib.hid hS
  clear h hl hBx hu1 hS
  obtain ⟨gg, hgg⟩ : ∃ gg, gg = codeG n c := ⟨_, rfl⟩
  rw [← hgg] at HG HS HOK
  clear hgg
  obtain ⟨ins, blks, cons⟩ := c
  simp only at *
  obtain ⟨nI, hI⟩ : ∃ nI, nI = ins.length := ⟨_, rfl⟩
  obtain ⟨nB, hB⟩ : ∃ nB, nB = blks.length := ⟨_, rfl⟩
  obtain ⟨nC, hC⟩ : ∃ nC, nC = cons.length := ⟨_, rfl⟩
  rw [← hI, ← hB, ← hC] at HG HBX HU1 ⊢
  rw [← hI] at HS hnI
  rw [← hB] at hnB
  have HNB := Lib.hid hB
  clear hI hB hC
  go_enter Tryd.func20, Tryd.ntmps20
  go_wp2_with fail
  refine HG.out.mono ?_
  rintro e w2 ⟨rfl, hu2⟩
  have HBX2 := Lib.hid (hu2.blk HBX.out (by simp))
  have HU2 := Lib.hid (HU1.out.then hu2)
  have x0 := HBX2.out.cell_some (i := 0) rfl
  have x1 := HBX2.out.cell_some (i := 1) rfl
  clear hu2 HG HBX HU1
  cases gg with
  | false =>
    have E9 : Hid (S = false) := Lib.hid (by rw [HS.out]; rfl)
    clear HS
    go_wp2
    go_ret
    exact ⟨by rw [E9.out]; rfl, HU2.out⟩
  | true =>
    by_cases h0 : nB = 0
    · have E9 : Hid (S = false) := Lib.hid (by
        rw [HS.out]
        have : blks = [] := List.eq_nil_of_length_eq_zero (by rw [← HNB.out]; exact h0)
        rw [this]
        rfl)
      have h0' : ((nB : Int) == 0) = true := by simpa using h0
      clear HS HOK h0
      go_wp2
      go_ret
      exact ⟨by rw [E9.out]; rfl, HU2.out⟩
    · have h0' : ((nB : Int) == 0) = false := by simpa using h0
      have h0'' : 0 < nB := by omega
      have h0''' : (0 : Int) < (nB : Int) := by omega
      have hne : blks.isEmpty = false := by
        cases blks with
        | nil => exact absurd HNB.out h0
        | cons _ _ => rfl
      have HS2 : Hid (S = (decide ((blks.getD 0 default).lo + (blks.getD 0 default).pr + (blks.getD 0 default).ou ≤ 0 ∧ (blks.getD 0 default).rest = false) && risingF nI (-1) blks)) := Lib.hid (by
        rw [HS.out, hne]
        rfl)
      have hb0 := HOK.out rfl (blks.getD 0 default) (by
        rw [List.getD_eq_getElem?_getD, List.getElem?_eq_getElem (by rw [← HNB.out]; exact h0'')]
        exact List.getElem_mem _)
      obtain ⟨b, o, rfl, y0, y1, y2, y3, y4, y5⟩ := blkAt_get (blkAt_upd HB.out HU2.out) (i := 0) (by rw [← HNB.out]; exact h0'')
      rw [Nat.zero_mul, Nat.add_zero] at y0 y1 y2 y3 y4 y5
      clear HS hne h0
      generalize blks.getD 0 default = fb at *
      obtain ⟨lo, pr, rest, sl, dp, ou⟩ := fb
      simp only at *
      have s1 : IntKind.i64.wrap (lo + pr) = lo + pr := IntWalk.i64_in _ (by omega)
      have hlt0 := World.block_lt_of_cell? w2 _ y0
      have hlt1 := HBX2.out.lt
      simp only at hlt0
      have HUF : Hid (∀ W, Upd [] w2 W → Upd [] w W) := Lib.hid (fun W hu => HU2.out.then hu)
      by_cases h1 : 0 < lo + pr + ou
      · have E9 : Hid (S = false) := Lib.hid (by rw [HS2.out, decide_eq_false (by omega)]; rfl)
        have HF : Hid (∀ o, Upd [] w (w2.alloc o)) := Lib.hid (fun o => HU2.out.alloc o)
        clear HS2 HOK
        go_wp2
        go_ret
        exact ⟨by rw [E9.out]; rfl, HF.out _⟩
      · cases rest with
        | true =>
          have E9 : Hid (S = false) := Lib.hid (by rw [HS2.out, decide_eq_false (by simp)]; rfl)
          have HF : Hid (∀ o, Upd [] w (w2.alloc o)) := Lib.hid (fun o => HU2.out.alloc o)
          clear HS2 HOK
          go_wp2
          go_ret
          exact ⟨by rw [E9.out]; rfl, HF.out _⟩
        | false =>
          have HS3 : Hid (S = risingF nI (-1) blks) := Lib.hid (by rw [HS2.out, decide_eq_true (by simp; omega)]; rfl)
          clear HS2
          have hu3 : Upd [] w2 (w2.alloc (.cells #[.int .i64 lo, .int .i64 pr, .bool false, .int .i64 sl, .int .i64 dp, .int .i64 ou] 45)) := (Upd.refl [] w2).alloc _
          have HU3 := Lib.hid hu3
          clear hu3
          go_wp2_with fail
          have HUw := Lib.hid (HU2.out.then HU3.out)
          have HBX3 := Lib.hid (HU3.out.blk HBX2.out (by simp))
          generalize w2.alloc (.cells #[.int .i64 lo, .int .i64 pr, .bool false, .int .i64 sl, .int .i64 dp, .int .i64 ou] 45) = w3 at *
          clear x0 x1 y0 y1 y2 y3 y4 y5 HU3 HBX2 hlt0 hlt1 s1 HUF
          have hro : ∀ j, j < nB → 0 ≤ (blks.getD j default).lo ∧ (blks.getD j default).lo ≤ 100000 := by
            intro j hj
            have := HOK.out (by first | rfl | trivial) (blks.getD j default) (by
              rw [List.getD_eq_getElem?_getD, List.getElem?_eq_getElem (by rw [← HNB.out]; exact hj)]
              exact List.getElem_mem _)
            omega
          have HRO := Lib.hid hro
          clear hro HOK
          go_loopw [4, 36] (fun l i wr => ∃ (j : Nat) (last : Int), j ≤ nB ∧ i = .int .i64 j ∧ l = .int .i64 last ∧ Hid (S = risingF nI last (blks.drop j)) ∧ Hid (Upd [] w3 wr)) (fun _ i _ => nB - (intOf i).toNat)
          case atStart => exact ⟨0, -1, by omega, rfl, rfl, HS3, Lib.hid (Upd.refl _ _)⟩
          case round =>
            obtain ⟨j, last, hj, rfl, rfl, hS, hU⟩ := hrel
            by_cases hlt : j < nB
            · obtain ⟨b', o', e', z0, z1, z2, z3, z4, z5⟩ := blkAt_get (blkAt_upd HB.out (HUw.out.then hU.out)) (i := j) (by rw [← HNB.out]; exact hlt)
              injection e' with e'
              injection e' with e1 e2
              subst e1; subst e2
              have hs : S = ((decide (last < (blks.getD j default).lo) && decide ((blks.getD j default).lo < nI)) && risingF nI (blks.getD j default).lo (blks.drop (j + 1))) := by
                rw [hS.out, List.drop_eq_getElem_cons (by rw [← HNB.out]; exact hlt), risingF]
                have e : blks.getD j default = blks[j]'(by rw [← HNB.out]; exact hlt) := by
                  simp [List.getD_eq_getElem?_getD, show j < blks.length by rw [← HNB.out]; exact hlt]
                rw [e]
              have hr := HRO.out j hlt
              generalize blks.getD j default = fb at *
              obtain ⟨lo', pr', rest', sl', dp', ou'⟩ := fb
              simp only at *
              have HSS := Lib.hid hs
              have x0' := (hU.out.blk HBX3.out (by simp)).cell_some (i := 0) rfl
              have x1' := (hU.out.blk HBX3.out (by simp)).cell_some (i := 1) rfl
              have l0 := World.block_lt_of_cell? wr _ z0
              have l1 := World.block_lt_of_cell? wr _ x0'
              simp only at l0 l1
              have HUr := Lib.hid (HUw.out.then (hU.out.alloc (.cells #[.int .i64 lo', .int .i64 pr', .bool rest', .int .i64 sl', .int .i64 dp', .int .i64 ou'] 45)))
              have HUr2 := Lib.hid (hU.out.alloc (.cells #[.int .i64 lo', .int .i64 pr', .bool rest', .int .i64 sl', .int .i64 dp', .int .i64 ou'] 45))
              clear hs hS
              by_cases q1 : lo' ≤ last
              · have E9 : Hid (S = false) := Lib.hid (by rw [HSS.out, decide_eq_false (by omega)]; rfl)
                clear HSS
                go_wp2
                go_ret
                exact ⟨by rw [E9.out]; rfl, HUr.out⟩
              · by_cases q2 : (nI : Int) ≤ lo'
                · have E9 : Hid (S = false) := Lib.hid (by rw [HSS.out, decide_eq_true (show last < lo' by omega), decide_eq_false (by omega)]; rfl)
                  clear HSS
                  go_wp2
                  go_ret
                  exact ⟨by rw [E9.out]; rfl, HUr.out⟩
                · have E9 : Hid (S = risingF nI lo' (blks.drop (j + 1))) := Lib.hid (by rw [HSS.out, decide_eq_true (show last < lo' by omega), decide_eq_true (show lo' < (nI : Int) by omega)]; rfl)
                  clear HSS
                  go_wp2
                  go_roundw
                  case rel => exact ⟨j + 1, lo', by omega, by go_num, rfl, E9, HUr2⟩
                  case measure => simp [intOf]; omega
            · obtain rfl : j = nB := by omega
              have E9 : Hid (S = true) := Lib.hid (by rw [hS.out, HNB.out, List.drop_length]; rfl)
              have HUr := Lib.hid (HUw.out.then hU.out)
              clear hS
              go_wp2
              go_ret
              exact ⟨by rw [E9.out]; rfl, HUr.out⟩
end Go.Proofs.YtknbgbeepachgaaDoor
