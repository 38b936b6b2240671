/-
  Texts of this claim, merged: RN. Lemmas and contracts; no conditions of our own.
-/
import Derived.Test.YthmpaepdbjldfaaG13
import Derived.Test.YthmpaepdbjldfaaG28

/-
  The references' numbers (01, 02): Norm, Same; the document's Same of data (03).
-/
namespace Go.Proofs.Ythmpaepdbjldfaa
set_option linter.unusedVariables false
set_option linter.unusedSimpArgs false
open Go.RowKit Go.Shelf
set_option linter.unusedSimpArgs false

def encU (xs : List Int) : List (List PV) := xs.map fun x => [.raw (.int .u32 x)]
theorem encU_len (xs : List Int) : (encU xs).length = xs.length := by simp [encU]
theorem getD_encU {xs : List Int} {i : Nat} (h : i < xs.length) : (encU xs).getD i [] = [.raw (.int .u32 (xs.getD i 0))] := by
  simp [encU, List.getD_eq_getElem?_getD, h]
theorem take_encU (xs : List Int) (k : Nat) : (encU xs).take k = encU (xs.take k) := by simp [encU, List.map_take]
theorem trimL_take {xs : List Int} : ∀ k, k ≤ xs.length → trimL xs = trimL (xs.take k) → (k = 0 ∨ ∃ j, k = j + 1 ∧ xs.getD j 0 ≠ 0) → trimL xs = xs.take k := by
  intro k hk e h
  rcases h with rfl | ⟨j, rfl, hj⟩
  · rw [e]; simp [trimL_nil]
  · rw [e, take_last (by omega), trimL_other _ hj]
set_option maxRecDepth 100000 in
theorem rnorm1_pf {xs : List Int} (hl : xs.length ≤ 100000000) : PFun Try.prog 40 [.one (.sl 1 (encU xs))] (fun X => X = .a (.one (.sl 1 (encU (trimL xs))))) := by
  refine PFun.enter Try.func40 rfl _ Try.ntmps40 (by simp) ?_
  have F := And.intro ql (encU_len xs)
  have y := And.intro ty_1 (And.intro ty_2 (And.intro ty_3 (And.intro ty_22 (And.intro ty_23 (And.intro ty_60 (ty_4))))))
  repeat' with_reducible first | (refine L.nil ?_; try dsimp only [thenK, blockK]) | refine G.ops ?_ | refine G.last ?_ | refine G.take ?_ | refine G.pass ?_ | refine G.passU ?_ | refine G.pickT ?_ | refine G.pickF ?_ | refine G.quiet ?_ | refine G.then ?_ | refine G.else ?_ | (refine CodeT.skip ?_; dsimp only [thenK, blockK, reduceIte, Nat.reduceEqDiff]) | (refine CodeT.exit ?_; dsimp only [thenK, blockK, reduceIte, Nat.reduceEqDiff]) | refine G.ifT ?_ | refine G.ifF ?_ | refine G.listed ?_ | fail
  refine C.midE (ι := {k : Nat // k ≤ xs.length ∧ trimL xs = xs.take k}) (fun k => tsL [(0, one (.sl 1 (encU xs))), (3, iX (k.1 : Int))] [] [] 0 0 23) ?_ ?_
  · refine CodeT.block ?_
    refine CodeT.loop (ι := {k : Nat // k ≤ xs.length ∧ trimL xs = trimL (xs.take k)}) (fun k => tsL [(0, one (.sl 1 (encU xs))), (3, iX (k.1 : Int))] [] [] 0 0 23) (fun k => k.1) ⟨xs.length, Nat.le_refl _, by simp⟩ G.wkP ?_
    rintro ⟨k, hk, hne⟩
    dsimp only
    cases k with
    | zero =>
      have F := And.intro F (And.intro (show ((0 : Nat) : Int) = 0 by rfl) (decide_eq_false (show ¬ (0 : Int) > 0 by omega)))
      repeat' with_reducible first | (refine L.nil ?_; try dsimp only [thenK, blockK]) | refine G.ops ?_ | refine G.last ?_ | refine G.take ?_ | refine G.pass ?_ | refine G.passU ?_ | refine G.pickT ?_ | refine G.pickF ?_ | refine G.quiet ?_ | refine G.then ?_ | refine G.else ?_ | (refine CodeT.skip ?_; dsimp only [thenK, blockK, reduceIte, Nat.reduceEqDiff]) | (refine CodeT.exit ?_; dsimp only [thenK, blockK, reduceIte, Nat.reduceEqDiff]) | refine G.ifT ?_ | refine G.ifF ?_ | refine CodeT.seq ?_ | refine CodeT.block ?_ | refine G.listed ?_ | fail
      exact ⟨⟨0, hk, trimL_take 0 hk hne (.inl rfl)⟩, G.wkP⟩
    | succ j =>
      have F := And.intro F (And.intro (decide_eq_true (show ((j + 1 : Nat) : Int) > 0 by omega)) (And.intro (show IntKind.i64.wrap (((j + 1 : Nat) : Int) - 1) = (j : Int) by rw [IntWalk.i64_in _ (by omega)]; omega) (And.intro (getD_encU (xs := xs) (i := j) (by omega)) (show ((j : Nat) : Int).toNat = j by omega))))
      by_cases hz : xs.getD j 0 = 0
      · have F := And.intro F (show (xs.getD j 0 == 0) = true by simpa using hz)
        repeat' with_reducible first | (refine L.nil ?_; try dsimp only [thenK, blockK]) | refine G.ops ?_ | refine G.last ?_ | refine G.take ?_ | refine G.pass ?_ | refine G.passU ?_ | refine G.pickT ?_ | refine G.pickF ?_ | refine G.quiet ?_ | refine G.then ?_ | refine G.else ?_ | (refine CodeT.skip ?_; dsimp only [thenK, blockK, reduceIte, Nat.reduceEqDiff]) | (refine CodeT.exit ?_; dsimp only [thenK, blockK, reduceIte, Nat.reduceEqDiff]) | refine G.ifT ?_ | refine G.ifF ?_ | refine CodeT.seq ?_ | refine CodeT.block ?_ | refine G.listed ?_ | fail
        exact ⟨⟨j, by omega, by rw [hne, take_last (by omega), hz, trimL_zero]⟩, by show j < j + 1; omega, G.wkP⟩
      · have F := And.intro F (show (xs.getD j 0 == 0) = false by simpa using hz)
        repeat' with_reducible first | (refine L.nil ?_; try dsimp only [thenK, blockK]) | refine G.ops ?_ | refine G.last ?_ | refine G.take ?_ | refine G.pass ?_ | refine G.passU ?_ | refine G.pickT ?_ | refine G.pickF ?_ | refine G.quiet ?_ | refine G.then ?_ | refine G.else ?_ | (refine CodeT.skip ?_; dsimp only [thenK, blockK, reduceIte, Nat.reduceEqDiff]) | (refine CodeT.exit ?_; dsimp only [thenK, blockK, reduceIte, Nat.reduceEqDiff]) | refine G.ifT ?_ | refine G.ifF ?_ | refine CodeT.seq ?_ | refine CodeT.block ?_ | refine G.listed ?_ | fail
        exact ⟨⟨j + 1, hk, trimL_take _ hk hne (.inr ⟨j, rfl, hz⟩)⟩, G.wkP⟩
  · rintro ⟨k, hk, e⟩
    dsimp only
    repeat' with_reducible first | (refine L.nil ?_; try dsimp only [thenK, blockK]) | refine G.ops ?_ | refine G.last ?_ | refine G.take ?_ | refine G.pass ?_ | refine G.passU ?_ | refine G.pickT ?_ | refine G.pickF ?_ | refine G.quiet ?_ | refine G.then ?_ | refine G.else ?_ | (refine CodeT.skip ?_; dsimp only [thenK, blockK, reduceIte, Nat.reduceEqDiff]) | (refine CodeT.exit ?_; dsimp only [thenK, blockK, reduceIte, Nat.reduceEqDiff]) | refine G.ifT ?_ | refine G.ifF ?_ | refine CodeT.seq ?_ | refine CodeT.block ?_ | refine G.listed ?_ | fail
    refine G.empty_own ?_
    have F := And.intro F (And.intro (show ((k : Nat) : Int).toNat = k by omega) (And.intro (take_encU xs k) (And.intro (show (encU (xs.take k)).length ≤ 100000000 by rw [encU_len, List.length_take]; omega) (And.intro (Int.toNat_zero) (List.drop_zero (l := encU (xs.take k)))))))
    repeat' with_reducible first | (refine L.nil ?_; try dsimp only [thenK, blockK]) | refine G.ops ?_ | refine G.last ?_ | refine G.take ?_ | refine G.pass ?_ | refine G.passU ?_ | refine G.pickT ?_ | refine G.pickF ?_ | refine G.quiet ?_ | refine G.then ?_ | refine G.else ?_ | (refine CodeT.skip ?_; dsimp only [thenK, blockK, reduceIte, Nat.reduceEqDiff]) | (refine CodeT.exit ?_; dsimp only [thenK, blockK, reduceIte, Nat.reduceEqDiff]) | refine G.ifT ?_ | refine G.ifF ?_ | refine CodeT.seq ?_ | refine CodeT.block ?_ | refine G.listed ?_ | fail
    have hn := encU_len (xs.take k)
    rw [List.length_take] at hn
    refine G.appendF ?_
    repeat' with_reducible first | (refine L.nil ?_; try dsimp only [thenK, blockK]) | refine G.ops ?_ | refine G.last ?_ | refine G.take ?_ | refine G.pass ?_ | refine G.passU ?_ | refine G.pickT ?_ | refine G.pickF ?_ | refine G.quiet ?_ | refine G.then ?_ | refine G.else ?_ | (refine CodeT.skip ?_; dsimp only [thenK, blockK, reduceIte, Nat.reduceEqDiff]) | (refine CodeT.exit ?_; dsimp only [thenK, blockK, reduceIte, Nat.reduceEqDiff]) | refine G.ifT ?_ | refine G.ifF ?_ | refine CodeT.seq ?_ | refine CodeT.block ?_ | refine G.listed ?_ | fail
    refine CodeT.ret ⟨.a (.one (.sl 1 (encU (trimL xs)))), ?_, rfl⟩
    simp only [Try.results40, resT, resL, resV, q0, y, F, Nat.reduceLT, Nat.reduceAdd, Nat.reduceEqDiff, Nat.reduceLeDiff, Nat.reduceBNe, Int.reduceToNat, reduceIte, reduceCtorEq]
    rw [e]
set_option maxRecDepth 100000 in
theorem rsame1_pf {xs zs : List Int} (hl : xs.length ≤ 100000000) (hl' : zs.length ≤ 100000000) : PFun Try.prog 66 [.one (.sl 1 (encU xs)), .one (.sl 1 (encU zs))] (fun X => X = .a (.one (.raw (.bool (decide (xs = zs)))))) := by
  refine PFun.enter Try.func66 rfl _ Try.ntmps66 (by simp) ?_
  have F := And.intro ql (And.intro (encU_len xs) (encU_len zs))
  have y := And.intro ty_1 (And.intro ty_3 (And.intro ty_4 (And.intro ty_22 (And.intro ty_26 (And.intro ty_60 (And.intro ty_24 (And.intro ty_9 (And.intro ty_25 (ty_27)))))))))
  by_cases hlen : xs.length = zs.length
  · have F := And.intro F (show ((xs.length : Int) != (zs.length : Int)) = false by simp [hlen])
    repeat' with_reducible first | (refine L.nil ?_; try dsimp only [thenK, blockK]) | refine G.ops ?_ | refine G.last ?_ | refine G.quiet ?_ | refine G.then ?_ | refine G.else ?_ | (refine CodeT.skip ?_; dsimp only [thenK, blockK, reduceIte, Nat.reduceEqDiff]) | (refine CodeT.exit ?_; dsimp only [thenK, blockK, reduceIte, Nat.reduceEqDiff]) | refine G.ifT ?_ | refine G.ifF ?_ | refine CodeT.seq ?_ | refine G.any ?_ | refine G.anyLast ?_ | (refine E.nil ?_; refine ⟨by kernel_rfl, ?_⟩; try dsimp only [thenK, blockK]) | refine H.quiet ?_ | fail
    refine G.mid (ι := {_u : Unit // xs = zs}) (fun _ => tsL [] [] [] 0 0 26) ?_ ?_
    · refine CodeT.block ?_
      refine CodeT.loop (ι := {k : Nat // k ≤ xs.length ∧ xs.take k = zs.take k}) (fun k => tsL [(0, one (.sl 1 (encU xs))), (1, one (.sl 1 (encU zs))), (12, iX (xs.length : Int)), (13, iX (k.1 : Int))] [] [] 0 0 26) (fun k => xs.length - k.1) ⟨0, Nat.zero_le _, by simp⟩ (by show Weak _ _ (tsL [(0, one (.sl 1 (encU xs))), (1, one (.sl 1 (encU zs))), (12, iX (xs.length : Int)), (13, iX 0)] [] [] 0 0 26); exact G.wkP) ?_
      rintro ⟨k, hk, hne⟩
      dsimp only
      by_cases hlt : k < xs.length
      · have F := And.intro F (And.intro (decide_eq_true (show ((k : Nat) : Int) < ((xs.length : Nat) : Int) by omega)) (And.intro (getD_encU hlt) (And.intro (getD_encU (xs := zs) (i := k) (by omega)) (And.intro (show ((k : Nat) : Int).toNat = k by omega) (And.intro (IntWalk.i64_in ((k : Int) + 1) (by omega)) (show ((k + 1 : Nat) : Int) = (k : Int) + 1 by omega))))))
        by_cases hz : xs.getD k 0 = zs.getD k 0
        · have F := And.intro F (show (xs.getD k 0 != zs.getD k 0) = false by rw [hz]; simp)
          repeat' with_reducible first | (refine L.nil ?_; try dsimp only [thenK, blockK]) | refine G.ops ?_ | refine G.last ?_ | refine G.quiet ?_ | refine G.then ?_ | refine G.else ?_ | (refine CodeT.skip ?_; dsimp only [thenK, blockK, reduceIte, Nat.reduceEqDiff]) | (refine CodeT.exit ?_; dsimp only [thenK, blockK, reduceIte, Nat.reduceEqDiff]) | refine G.ifT ?_ | refine G.ifF ?_ | refine CodeT.seq ?_ | refine CodeT.block ?_ | refine G.any ?_ | refine G.anyLast ?_ | (refine E.nil ?_; refine ⟨by kernel_rfl, ?_⟩; try dsimp only [thenK, blockK]) | refine H.quiet ?_ | fail
          exact ⟨⟨k + 1, by omega, by rw [take_last hlt, take_last (by omega), hne, hz]⟩, by show xs.length - (k + 1) < xs.length - k; omega, G.wkP⟩
        · have F := And.intro F (bne_iff_ne.2 hz)
          repeat' with_reducible first | (refine L.nil ?_; try dsimp only [thenK, blockK]) | refine G.ops ?_ | refine G.last ?_ | refine G.quiet ?_ | refine G.then ?_ | refine G.else ?_ | (refine CodeT.skip ?_; dsimp only [thenK, blockK, reduceIte, Nat.reduceEqDiff]) | (refine CodeT.exit ?_; dsimp only [thenK, blockK, reduceIte, Nat.reduceEqDiff]) | refine G.ifT ?_ | refine G.ifF ?_ | refine CodeT.seq ?_ | refine CodeT.block ?_ | refine G.any ?_ | refine G.anyLast ?_ | (refine E.nil ?_; refine ⟨by kernel_rfl, ?_⟩; try dsimp only [thenK, blockK]) | refine H.quiet ?_ | fail
          refine CodeT.ret ⟨_, ?_, rfl⟩
          simp only [Try.results66, resT, resL, resV, q0, y, F, Nat.reduceLT, Nat.reduceAdd, Nat.reduceEqDiff, Nat.reduceLeDiff, Nat.reduceBNe, Int.reduceToNat, reduceIte, reduceCtorEq]
          have : ¬ xs = zs := fun e => hz (by rw [e])
          simp [this]
      · have F := And.intro F (decide_eq_false (show ¬ ((k : Nat) : Int) < ((xs.length : Nat) : Int) by omega))
        repeat' with_reducible first | (refine L.nil ?_; try dsimp only [thenK, blockK]) | refine G.ops ?_ | refine G.last ?_ | refine G.quiet ?_ | refine G.then ?_ | refine G.else ?_ | (refine CodeT.skip ?_; dsimp only [thenK, blockK, reduceIte, Nat.reduceEqDiff]) | (refine CodeT.exit ?_; dsimp only [thenK, blockK, reduceIte, Nat.reduceEqDiff]) | refine G.ifT ?_ | refine G.ifF ?_ | refine CodeT.seq ?_ | refine CodeT.block ?_ | refine G.any ?_ | refine G.anyLast ?_ | (refine E.nil ?_; refine ⟨by kernel_rfl, ?_⟩; try dsimp only [thenK, blockK]) | refine H.quiet ?_ | fail
        exact ⟨⟨(), by rwa [List.take_of_length_le (by omega), List.take_of_length_le (by omega)] at hne⟩, G.wkP⟩
    · rintro ⟨_, e⟩
      repeat' with_reducible first | (refine L.nil ?_; try dsimp only [thenK, blockK]) | refine G.ops ?_ | refine G.last ?_ | refine G.quiet ?_ | refine G.then ?_ | refine G.else ?_ | (refine CodeT.skip ?_; dsimp only [thenK, blockK, reduceIte, Nat.reduceEqDiff]) | (refine CodeT.exit ?_; dsimp only [thenK, blockK, reduceIte, Nat.reduceEqDiff]) | refine G.ifT ?_ | refine G.ifF ?_ | refine CodeT.seq ?_ | refine CodeT.block ?_ | refine G.any ?_ | refine G.anyLast ?_ | (refine E.nil ?_; refine ⟨by kernel_rfl, ?_⟩; try dsimp only [thenK, blockK]) | refine H.quiet ?_ | fail
      refine CodeT.ret ⟨_, ?_, rfl⟩
      simp only [Try.results66, resT, resL, resV, q0, y, F, Nat.reduceLT, Nat.reduceAdd, Nat.reduceEqDiff, Nat.reduceLeDiff, Nat.reduceBNe, Int.reduceToNat, reduceIte, reduceCtorEq]
      simp [e]
  · have F := And.intro F (show ((xs.length : Int) != (zs.length : Int)) = true by simp; omega)
    repeat' with_reducible first | (refine L.nil ?_; try dsimp only [thenK, blockK]) | refine G.ops ?_ | refine G.last ?_ | refine G.quiet ?_ | refine G.then ?_ | refine G.else ?_ | (refine CodeT.skip ?_; dsimp only [thenK, blockK, reduceIte, Nat.reduceEqDiff]) | (refine CodeT.exit ?_; dsimp only [thenK, blockK, reduceIte, Nat.reduceEqDiff]) | refine G.ifT ?_ | refine G.ifF ?_ | refine CodeT.seq ?_ | refine CodeT.block ?_ | refine G.any ?_ | refine G.anyLast ?_ | (refine E.nil ?_; refine ⟨by kernel_rfl, ?_⟩; try dsimp only [thenK, blockK]) | refine H.quiet ?_ | fail
    refine CodeT.ret ⟨_, ?_, rfl⟩
    simp only [Try.results66, resT, resL, resV, q0, y, F, Nat.reduceLT, Nat.reduceAdd, Nat.reduceEqDiff, Nat.reduceLeDiff, Nat.reduceBNe, Int.reduceToNat, reduceIte, reduceCtorEq]
    have : ¬ xs = zs := fun e => hlen (by rw [e])
    simp [this]
theorem encU_def (xs : List Int) : (xs.map fun x => [PV.raw (.int .u32 x)]) = encU xs := rfl
def encI (ng : Bool) (xs : List Int) : List PV := [.raw (.bool ng), .sl 1 (encU xs)]
set_option maxRecDepth 100000 in
theorem rnorm2_pf {ng : Bool} {xs : List Int} (hl : xs.length ≤ 100000000) {q1 : Bool} {q2 : List Int} (hq : normI ng xs = (q1, q2)) : PFun Try.prog 45 [.agg (encI ng xs)] (fun X => X = .a (.agg (encI q1 q2))) := by
  injection hq with hq1 hq2
  subst hq1; subst hq2
  refine PFun.enter Try.func45 rfl _ Try.ntmps45 (by simp) ?_
  have F := And.intro ql (And.intro encI.eq_1 (encU_len (trimL xs)))
  have y := And.intro ty_1 (And.intro ty_2 (And.intro ty_3 (And.intro ty_4 (And.intro ty_13 (And.intro ty_14 (And.intro ty_16 (And.intro ty_22 (And.intro ty_24 (And.intro ty_60 (And.intro ty_9 (ty_12)))))))))))
  repeat' with_reducible first | (refine L.nil ?_; try dsimp only [thenK, blockK]) | refine G.ops ?_ | refine G.last ?_ | refine G.take ?_ | refine G.pass ?_ | refine G.passU ?_ | refine G.pickT ?_ | refine G.pickF ?_ | refine G.alloc ?_ | refine G.box ?_ | refine G.store ?_ | refine G.build ?_ | refine G.quiet ?_ | refine CodeT.seq ?_ |  refine G.pcall1 (enters_of Try.func40 (by kernel_rfl) rfl) (rnorm1_pf hl) ?_ | fail
  have hz : decide (((trimL xs).length : Int) > 0) = decide (0 < (trimL xs).length) := by simp [decide_eq_decide]
  cases ng with
  | false =>
    repeat' with_reducible first | (refine L.nil ?_; try dsimp only [thenK, blockK]) | refine G.ops ?_ | refine G.last ?_ | refine G.take ?_ | refine G.pass ?_ | refine G.passU ?_ | refine G.pickT ?_ | refine G.pickF ?_ | refine G.alloc ?_ | refine G.box ?_ | refine G.store ?_ | refine G.build ?_ | refine G.quiet ?_ | refine CodeT.seq ?_ | refine CodeT.block ?_ | fail
    refine CodeT.ret ⟨_, ?_, rfl⟩
    simp only [Try.results45, resT, resL, resV, q0, y, F, Nat.reduceLT, Nat.reduceAdd, Nat.reduceEqDiff, Nat.reduceLeDiff, Nat.reduceBNe, Int.reduceToNat, reduceIte, reduceCtorEq]
    simp
  | true =>
    repeat' with_reducible first | (refine L.nil ?_; try dsimp only [thenK, blockK]) | refine G.ops ?_ | refine G.last ?_ | refine G.take ?_ | refine G.pass ?_ | refine G.passU ?_ | refine G.pickT ?_ | refine G.pickF ?_ | refine G.alloc ?_ | refine G.box ?_ | refine G.store ?_ | refine G.build ?_ | refine G.quiet ?_ | refine CodeT.seq ?_ | refine CodeT.block ?_ | fail
    refine CodeT.ret ⟨_, ?_, rfl⟩
    simp only [Try.results45, resT, resL, resV, q0, y, F, Nat.reduceLT, Nat.reduceAdd, Nat.reduceEqDiff, Nat.reduceLeDiff, Nat.reduceBNe, Int.reduceToNat, reduceIte, reduceCtorEq]
    simp
set_option maxRecDepth 100000 in
theorem rsame2_pf {ng ng' : Bool} {xs zs : List Int} (hl : xs.length ≤ 100000000) (hl' : zs.length ≤ 100000000) : PFun Try.prog 44 [.agg (encI ng xs), .agg (encI ng' zs)] (fun X => X = .a (.one (.raw (.bool (decide ((ng, xs) = (ng', zs))))))) := by
  refine PFun.enter Try.func44 rfl _ Try.ntmps44 (by simp) ?_
  have F := And.intro ql (And.intro encI.eq_1 (encU_len xs))
  have y := And.intro ty_1 (And.intro ty_4 (And.intro ty_17 (And.intro ty_22 (And.intro ty_24 (ty_60)))))
  repeat' with_reducible first | (refine L.nil ?_; try dsimp only [thenK, blockK]) | refine G.ops ?_ | refine G.last ?_ | refine G.take ?_ | refine G.pass ?_ | refine G.passU ?_ | refine G.pickT ?_ | refine G.pickF ?_ | refine G.box ?_ | refine G.quiet ?_ | refine CodeT.seq ?_ | refine CodeT.block ?_ | (refine G.split (fun h => ?_) (fun h => ?_)) | (refine G.pickS (fun h => ?_) (fun h => ?_)) |  refine G.pcall1 (enters_of Try.func66 (by kernel_rfl) rfl) (rsame1_pf hl hl') ?_ | fail
  all_goals
    refine CodeT.ret ⟨_, ?_, rfl⟩
    simp only [Try.results44, resT, resL, resV, q0, y, F, Nat.reduceLT, Nat.reduceAdd, Nat.reduceEqDiff, Nat.reduceLeDiff, Nat.reduceBNe, Int.reduceToNat, reduceIte, reduceCtorEq]
    simp_all
end Go.Proofs.Ythmpaepdbjldfaa
