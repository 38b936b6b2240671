/-
  Texts of this claim, merged: RS, LwB, LwC, LwD. Lemmas and contracts; no conditions of our own.
-/
import Derived.Test.YthmpaepdbjldfaaG13
import Derived.Test.YthmpaepdbjldfaaG36
import Derived.Test.YthmpaepdbjldfaaG38
import Derived.Test.YthmpaepdbjldfaaG39

/-
  The document's Same of data (03).
-/
namespace Go.Proofs.Ythmpaepdbjldfaa
set_option linter.unusedVariables false
set_option linter.unusedSimpArgs false
open Go.RowKit Go.Shelf
set_option linter.unusedSimpArgs false

theorem good_limbs {n : Nat} {d : Dat} (h : goodN n d = true) : d.limbs.length ≤ 64 := by
  cases n with
  | zero => simp [goodN] at h
  | succ n =>
    have hp := good_plain h
    by_cases hk : d.kind = 1
    · simp [goodN, hk] at h
      omega
    · rw [(hp.1 hk).2]; simp
theorem sameN_no {n : Nat} {a b : Dat} (h : a.kind ≠ b.kind ∨ normI a.neg a.limbs ≠ normI b.neg b.limbs ∨ a.b ≠ b.b ∨ a.s ≠ b.s ∨ (a.items.length : Int) ≠ b.items.length ∨ (a.tail.length : Int) ≠ b.tail.length ∨ (∃ i, i < a.items.length ∧ sameN n (a.items.getD i default) (b.items.getD i default) = false) ∨ ∃ i, i < a.tail.length ∧ sameN n (a.tail.getD i default) (b.tail.getD i default) = false) : sameN (n + 1) a b = false := by
  rw [sameN]
  rcases h with h | h | h | h | h | h | ⟨i, hi, h⟩ | ⟨i, hi, h⟩
  · simp [h]
  · simp [h]
  · simp [h]
  · simp [h]
  · rw [sameL_len (xs := a.items) (by omega)]; simp
  · rw [sameL_len (xs := a.tail) (by omega)]; simp
  · rw [sameL_no hi h]; simp
  · rw [sameL_no hi h]; simp
theorem sameN_yes {n : Nat} {a b : Dat} (h : a.kind = b.kind ∧ normI a.neg a.limbs = normI b.neg b.limbs ∧ a.b = b.b ∧ a.s = b.s ∧ (a.items.length : Int) = b.items.length ∧ (a.tail.length : Int) = b.tail.length) (h1 : ∀ i, i < a.items.length → sameN n (a.items.getD i default) (b.items.getD i default) = true) (h2 : ∀ i, i < a.tail.length → sameN n (a.tail.getD i default) (b.tail.getD i default) = true) : sameN (n + 1) a b = true := by
  rw [sameN, sameL_yes (by omega) h1, sameL_yes (by omega) h2]
  simp [h.1, h.2.1, h.2.2.1, h.2.2.2.1]
theorem trimL_len (xs : List Int) : (trimL xs).length ≤ xs.length := by
  unfold trimL
  rw [List.length_reverse]
  exact Nat.le_trans (List.dropWhile_sublist _).length_le (by simp)
theorem good_sub {n : Nat} {d x : Dat} (h : goodN (n + 1) d = true) (hx : x ∈ d.items ∨ x ∈ d.tail) : goodN n x = true := by
  by_cases hk : d.kind = 5
  · exact (good_list h hk).2 x (by rcases hx with hx | hx <;> simp [hx])
  · obtain ⟨h1, h2⟩ := good_atom h hk
    rw [h1, h2] at hx
    simp at hx
theorem wfD.lens {n : Nat} {d : Dat} (h : wfD (n + 1) d) : d.items.length ≤ 35184372088832 ∧ d.tail.length ≤ 35184372088832 := ⟨h.2.2.2.2.1, h.2.2.2.2.2.1⟩
theorem wfD.item {n : Nat} {d x : Dat} (h : wfD (n + 1) d) (hx : x ∈ d.items) : wfD n x := h.2.2.2.2.2.2.1 x hx
theorem wfD.tl {n : Nat} {d x : Dat} (h : wfD (n + 1) d) (hx : x ∈ d.tail) : wfD n x := h.2.2.2.2.2.2.2 x hx
def stS (a b : Dat) (more : List (Nat × TX)) : TS := tsL ([(2, ptX 0), (3, ptX 1)] ++ more) [(0, .cells 27 (cP (enc a))), (1, .cells 27 (cP (enc b)))] [] 2 0 92
def RSaid (n : Nat) : Prop := ∀ (a b : Dat), wfD n a → wfD n b → goodN n a = true → goodN n b = true → PFun Try.prog 16 [.agg (enc a), .agg (enc b)] (fun X => X = .a (.one (.raw (.bool (sameN n a b)))))
set_option maxRecDepth 100000 in
set_option maxHeartbeats 4000000 in
theorem rsame3_step (n : Nat) (ih : RSaid n) : RSaid (n + 1) := by
  intro a b hw hw' hg hg'
  have hla : a.limbs.length ≤ 100000000 := by have := good_limbs hg; omega
  have hlb : b.limbs.length ≤ 100000000 := by have := good_limbs hg'; omega
  obtain ⟨⟨p1, p2⟩, hp⟩ : ∃ p, normI a.neg a.limbs = p := ⟨_, rfl⟩
  obtain ⟨⟨q1, q2⟩, hq⟩ : ∃ p, normI b.neg b.limbs = p := ⟨_, rfl⟩
  have hp2 : p2.length ≤ 100000000 := by
    injection hp with _ hp
    rw [← hp]
    have := trimL_len a.limbs
    omega
  have hq2 : q2.length ≤ 100000000 := by
    injection hq with _ hq
    rw [← hq]
    have := trimL_len b.limbs
    omega
  have hitemsa : ∀ x ∈ a.items, wfD n x ∧ goodN n x = true := fun x hx => ⟨hw.item hx, good_sub hg (.inl hx)⟩
  have htaila : ∀ x ∈ a.tail, wfD n x ∧ goodN n x = true := fun x hx => ⟨hw.tl hx, good_sub hg (.inr hx)⟩
  have hitemsb : ∀ x ∈ b.items, wfD n x ∧ goodN n x = true := fun x hx => ⟨hw'.item hx, good_sub hg' (.inl hx)⟩
  have htailb : ∀ x ∈ b.tail, wfD n x ∧ goodN n x = true := fun x hx => ⟨hw'.tl hx, good_sub hg' (.inr hx)⟩
  have hla1 : a.items.length ≤ 35184372088832 ∧ a.tail.length ≤ 35184372088832 := hw.lens
  refine PFun.enter Try.func16 rfl _ Try.ntmps16 (by simp) ?_
  have F := And.intro ql (And.intro @enc_eq (And.intro encI.eq_1 encU_def))
  have y := And.intro ty_1 (And.intro ty_2 (And.intro ty_3 (And.intro ty_4 (And.intro ty_5 (And.intro ty_9 (And.intro ty_24 (And.intro ty_25 (And.intro ty_27 (And.intro ty_92 (And.intro ty_54 (And.intro ty_22 (ty_60))))))))))))
  repeat' with_reducible first | (refine L.nil ?_; try dsimp only [thenK, blockK]) | refine G.ops ?_ | refine G.last ?_ | refine G.take ?_ | refine G.pass ?_ | refine G.passU ?_ | refine G.pickT ?_ | refine G.pickF ?_ | refine G.box ?_ | refine G.quiet ?_ | refine G.then ?_ | refine G.else ?_ | (refine CodeT.skip ?_; dsimp only [thenK, blockK, reduceIte, Nat.reduceEqDiff]) | (refine CodeT.exit ?_; dsimp only [thenK, blockK, reduceIte, Nat.reduceEqDiff]) | refine G.ifT ?_ | refine G.ifF ?_ | refine CodeT.seq ?_ | refine G.any ?_ | refine G.anyLast ?_ | (refine E.nil ?_; refine ⟨by kernel_rfl, ?_⟩; try dsimp only [thenK, blockK]) | refine H.quiet ?_ | refine H.box ?_ | refine H.take ?_ | refine H.pass ?_ | refine H.passU ?_ | refine H.pickT ?_ | refine H.pickF ?_ | (refine G.split (fun h => ?_) (fun h => ?_)) | (refine G.pickS (fun h => ?_) (fun h => ?_)) | (refine G.if (fun h => ?_) (fun h => ?_)) | (refine H.split (fun h => ?_) (fun h => ?_)) | (refine H.pickS (fun h => ?_) (fun h => ?_)) |  refine H.pcall1 (enters_of Try.func45 (by kernel_rfl) rfl) (rnorm2_pf hla hp) ?_ | refine H.pcall1 (enters_of Try.func45 (by kernel_rfl) rfl) (rnorm2_pf hlb hq) ?_ | refine H.pcall1 (enters_of Try.func44 (by kernel_rfl) rfl) (rsame2_pf (ng := p1) (ng' := q1) hp2 hq2) ?_ | fail
  all_goals try
    refine CodeT.ret ⟨.a (.one (.raw (.bool (sameN (n + 1) a b)))), ?_, rfl⟩
    simp only [Try.results16, resT, resL, resV, q0, y, F, Nat.reduceLT, Nat.reduceAdd, Nat.reduceEqDiff, Nat.reduceLeDiff, Nat.reduceBNe, Int.reduceToNat, reduceIte, reduceCtorEq]
    clear F y ih hw hw' hg hg'
    rw [sameN_no (by first | (simp_all; done) | grind)]
    done
  rename_i g1 g2 g3 g4 g5
  have hs : a.kind = b.kind ∧ normI a.neg a.limbs = normI b.neg b.limbs ∧ a.b = b.b ∧ a.s = b.s ∧ (a.items.length : Int) = b.items.length ∧ (a.tail.length : Int) = b.tail.length := by
    clear F y ih hw hw' hg hg'
    simp_all
  clear g1 g2 g3 g4 g5 h
  have hi1 := hs.2.2.2.2.1
  have hi2 := hs.2.2.2.2.2
  repeat' with_reducible first | (refine L.nil ?_; try dsimp only [thenK, blockK]) | refine G.ops ?_ | refine G.last ?_ | refine G.take ?_ | refine G.pass ?_ | refine G.passU ?_ | refine G.pickT ?_ | refine G.pickF ?_ | refine G.box ?_ | refine G.quiet ?_ | refine G.then ?_ | refine G.else ?_ | (refine CodeT.skip ?_; dsimp only [thenK, blockK, reduceIte, Nat.reduceEqDiff]) | (refine CodeT.exit ?_; dsimp only [thenK, blockK, reduceIte, Nat.reduceEqDiff]) | refine G.ifT ?_ | refine G.ifF ?_ | refine CodeT.seq ?_ | refine G.any ?_ | refine G.anyLast ?_ | (refine E.nil ?_; refine ⟨by kernel_rfl, ?_⟩; try dsimp only [thenK, blockK]) | refine H.quiet ?_ | refine H.box ?_ | refine H.take ?_ | refine H.pass ?_ | refine H.passU ?_ | refine H.pickT ?_ | refine H.pickF ?_ | fail
  refine G.mid (ι := {_u : Unit // ∀ i, i < a.items.length → sameN n (a.items.getD i default) (b.items.getD i default) = true}) (fun _ => stS a b []) ?_ ?_
  · have F := And.intro F stS.eq_1
    refine CodeT.block ?_
    refine CodeT.loop (ι := {k : Nat // k ≤ a.items.length ∧ ∀ i, i < k → sameN n (a.items.getD i default) (b.items.getD i default) = true}) (fun k => stS a b [(56, iX (a.items.length : Int)), (57, iX (k.1 : Int))]) (fun k => a.items.length - k.1) ⟨0, Nat.zero_le _, fun i q => by omega⟩ (by show Weak _ _ (stS a b [(56, iX (a.items.length : Int)), (57, iX 0)]); dsimp only [stS, List.cons_append, List.nil_append]; exact G.wkP) ?_
    rintro ⟨k, hk, hne⟩
    dsimp only
    by_cases hlt : k < a.items.length
    · have hF := hitemsa _ (mem_getD hlt)
      have hF' := hitemsb _ (mem_getD (show k < b.items.length by omega))
      have F := And.intro F (And.intro (decide_eq_true (show ((k : Nat) : Int) < ((a.items.length : Nat) : Int) by omega)) (And.intro (getD_enc hlt) (And.intro (getD_enc (xs := b.items) (i := k) (by omega)) (And.intro (show ((k : Nat) : Int).toNat = k by omega) (And.intro (IntWalk.i64_in ((k : Int) + 1) (by omega)) (show ((k + 1 : Nat) : Int) = (k : Int) + 1 by omega))))))
      dsimp only [stS, List.cons_append, List.nil_append]
      have hC := ih _ _ hF.1 hF'.1 hF.2 hF'.2
      cases hsm : sameN n (a.items.getD k default) (b.items.getD k default) <;> rw [hsm] at hC
      · repeat' with_reducible first | (refine L.nil ?_; try dsimp only [thenK, blockK]) | refine G.ops ?_ | refine G.last ?_ | refine G.take ?_ | refine G.pass ?_ | refine G.passU ?_ | refine G.pickT ?_ | refine G.pickF ?_ | refine G.box ?_ | refine G.quiet ?_ | refine G.then ?_ | refine G.else ?_ | (refine CodeT.skip ?_; dsimp only [thenK, blockK, reduceIte, Nat.reduceEqDiff]) | (refine CodeT.exit ?_; dsimp only [thenK, blockK, reduceIte, Nat.reduceEqDiff]) | refine G.ifT ?_ | refine G.ifF ?_ | refine CodeT.seq ?_ | refine CodeT.block ?_ | refine G.any ?_ | refine G.anyLast ?_ | (refine E.nil ?_; refine ⟨by kernel_rfl, ?_⟩; try dsimp only [thenK, blockK]) | refine H.quiet ?_ | refine H.box ?_ | refine H.take ?_ | refine H.pass ?_ | refine H.passU ?_ | refine H.pickT ?_ | refine H.pickF ?_ |  refine H.pcall1 (enters_of Try.func16 (by kernel_rfl) rfl) hC ?_ | fail
        refine CodeT.ret ⟨.a (.one (.raw (.bool (sameN (n + 1) a b)))), ?_, rfl⟩
        simp only [Try.results16, resT, resL, resV, q0, y, F, Nat.reduceLT, Nat.reduceAdd, Nat.reduceEqDiff, Nat.reduceLeDiff, Nat.reduceBNe, Int.reduceToNat, reduceIte, reduceCtorEq]
        rw [sameN_no (.inr <| .inr <| .inr <| .inr <| .inr <| .inr <| .inl ⟨k, hlt, hsm⟩)]
      · repeat' with_reducible first | (refine L.nil ?_; try dsimp only [thenK, blockK]) | refine G.ops ?_ | refine G.last ?_ | refine G.take ?_ | refine G.pass ?_ | refine G.passU ?_ | refine G.pickT ?_ | refine G.pickF ?_ | refine G.box ?_ | refine G.quiet ?_ | refine G.then ?_ | refine G.else ?_ | (refine CodeT.skip ?_; dsimp only [thenK, blockK, reduceIte, Nat.reduceEqDiff]) | (refine CodeT.exit ?_; dsimp only [thenK, blockK, reduceIte, Nat.reduceEqDiff]) | refine G.ifT ?_ | refine G.ifF ?_ | refine CodeT.seq ?_ | refine CodeT.block ?_ | refine G.any ?_ | refine G.anyLast ?_ | (refine E.nil ?_; refine ⟨by kernel_rfl, ?_⟩; try dsimp only [thenK, blockK]) | refine H.quiet ?_ | refine H.box ?_ | refine H.take ?_ | refine H.pass ?_ | refine H.passU ?_ | refine H.pickT ?_ | refine H.pickF ?_ |  refine H.pcall1 (enters_of Try.func16 (by kernel_rfl) rfl) hC ?_ | fail
        exact ⟨⟨k + 1, by omega, fun i q => by
          by_cases e : i = k
          · rw [e]; exact hsm
          · exact hne i (by omega)⟩, by show a.items.length - (k + 1) < a.items.length - k; omega, by dsimp only [stS, List.cons_append, List.nil_append]; exact G.wkP⟩
    · have F := And.intro F (decide_eq_false (show ¬ ((k : Nat) : Int) < ((a.items.length : Nat) : Int) by omega))
      dsimp only [stS, List.cons_append, List.nil_append]
      repeat' with_reducible first | (refine L.nil ?_; try dsimp only [thenK, blockK]) | refine G.ops ?_ | refine G.last ?_ | refine G.take ?_ | refine G.pass ?_ | refine G.passU ?_ | refine G.pickT ?_ | refine G.pickF ?_ | refine G.box ?_ | refine G.quiet ?_ | refine G.then ?_ | refine G.else ?_ | (refine CodeT.skip ?_; dsimp only [thenK, blockK, reduceIte, Nat.reduceEqDiff]) | (refine CodeT.exit ?_; dsimp only [thenK, blockK, reduceIte, Nat.reduceEqDiff]) | refine G.ifT ?_ | refine G.ifF ?_ | refine CodeT.seq ?_ | refine CodeT.block ?_ | refine G.any ?_ | refine G.anyLast ?_ | (refine E.nil ?_; refine ⟨by kernel_rfl, ?_⟩; try dsimp only [thenK, blockK]) | refine H.quiet ?_ | refine H.box ?_ | refine H.take ?_ | refine H.pass ?_ | refine H.passU ?_ | refine H.pickT ?_ | refine H.pickF ?_ | fail
      exact ⟨⟨(), fun i q => hne i (by omega)⟩, G.wkP⟩
  · rintro ⟨_, hitemsS⟩
    dsimp only [stS, List.cons_append, List.nil_append]
    repeat' with_reducible first | (refine L.nil ?_; try dsimp only [thenK, blockK]) | refine G.ops ?_ | refine G.last ?_ | refine G.take ?_ | refine G.pass ?_ | refine G.passU ?_ | refine G.pickT ?_ | refine G.pickF ?_ | refine G.box ?_ | refine G.quiet ?_ | refine G.then ?_ | refine G.else ?_ | (refine CodeT.skip ?_; dsimp only [thenK, blockK, reduceIte, Nat.reduceEqDiff]) | (refine CodeT.exit ?_; dsimp only [thenK, blockK, reduceIte, Nat.reduceEqDiff]) | refine G.ifT ?_ | refine G.ifF ?_ | refine CodeT.seq ?_ | refine G.any ?_ | refine G.anyLast ?_ | (refine E.nil ?_; refine ⟨by kernel_rfl, ?_⟩; try dsimp only [thenK, blockK]) | refine H.quiet ?_ | refine H.box ?_ | refine H.take ?_ | refine H.pass ?_ | refine H.passU ?_ | refine H.pickT ?_ | refine H.pickF ?_ | fail
    refine G.mid (ι := {_u : Unit // ∀ i, i < a.tail.length → sameN n (a.tail.getD i default) (b.tail.getD i default) = true}) (fun _ => stS a b []) ?_ ?_
    · have F := And.intro F stS.eq_1
      refine CodeT.block ?_
      refine CodeT.loop (ι := {k : Nat // k ≤ a.tail.length ∧ ∀ i, i < k → sameN n (a.tail.getD i default) (b.tail.getD i default) = true}) (fun k => stS a b [(75, iX (a.tail.length : Int)), (76, iX (k.1 : Int))]) (fun k => a.tail.length - k.1) ⟨0, Nat.zero_le _, fun i q => by omega⟩ (by show Weak _ _ (stS a b [(75, iX (a.tail.length : Int)), (76, iX 0)]); dsimp only [stS, List.cons_append, List.nil_append]; exact G.wkP) ?_
      rintro ⟨k, hk, hne⟩
      dsimp only
      by_cases hlt : k < a.tail.length
      · have hF := htaila _ (mem_getD hlt)
        have hF' := htailb _ (mem_getD (show k < b.tail.length by omega))
        have F := And.intro F (And.intro (decide_eq_true (show ((k : Nat) : Int) < ((a.tail.length : Nat) : Int) by omega)) (And.intro (getD_enc hlt) (And.intro (getD_enc (xs := b.tail) (i := k) (by omega)) (And.intro (show ((k : Nat) : Int).toNat = k by omega) (And.intro (IntWalk.i64_in ((k : Int) + 1) (by omega)) (show ((k + 1 : Nat) : Int) = (k : Int) + 1 by omega))))))
        dsimp only [stS, List.cons_append, List.nil_append]
        have hC := ih _ _ hF.1 hF'.1 hF.2 hF'.2
        cases hsm : sameN n (a.tail.getD k default) (b.tail.getD k default) <;> rw [hsm] at hC
        · repeat' with_reducible first | (refine L.nil ?_; try dsimp only [thenK, blockK]) | refine G.ops ?_ | refine G.last ?_ | refine G.take ?_ | refine G.pass ?_ | refine G.passU ?_ | refine G.pickT ?_ | refine G.pickF ?_ | refine G.box ?_ | refine G.quiet ?_ | refine G.then ?_ | refine G.else ?_ | (refine CodeT.skip ?_; dsimp only [thenK, blockK, reduceIte, Nat.reduceEqDiff]) | (refine CodeT.exit ?_; dsimp only [thenK, blockK, reduceIte, Nat.reduceEqDiff]) | refine G.ifT ?_ | refine G.ifF ?_ | refine CodeT.seq ?_ | refine CodeT.block ?_ | refine G.any ?_ | refine G.anyLast ?_ | (refine E.nil ?_; refine ⟨by kernel_rfl, ?_⟩; try dsimp only [thenK, blockK]) | refine H.quiet ?_ | refine H.box ?_ | refine H.take ?_ | refine H.pass ?_ | refine H.passU ?_ | refine H.pickT ?_ | refine H.pickF ?_ |  refine H.pcall1 (enters_of Try.func16 (by kernel_rfl) rfl) hC ?_ | fail
          refine CodeT.ret ⟨.a (.one (.raw (.bool (sameN (n + 1) a b)))), ?_, rfl⟩
          simp only [Try.results16, resT, resL, resV, q0, y, F, Nat.reduceLT, Nat.reduceAdd, Nat.reduceEqDiff, Nat.reduceLeDiff, Nat.reduceBNe, Int.reduceToNat, reduceIte, reduceCtorEq]
          rw [sameN_no (.inr <| .inr <| .inr <| .inr <| .inr <| .inr <| .inr ⟨k, hlt, hsm⟩)]
        · repeat' with_reducible first | (refine L.nil ?_; try dsimp only [thenK, blockK]) | refine G.ops ?_ | refine G.last ?_ | refine G.take ?_ | refine G.pass ?_ | refine G.passU ?_ | refine G.pickT ?_ | refine G.pickF ?_ | refine G.box ?_ | refine G.quiet ?_ | refine G.then ?_ | refine G.else ?_ | (refine CodeT.skip ?_; dsimp only [thenK, blockK, reduceIte, Nat.reduceEqDiff]) | (refine CodeT.exit ?_; dsimp only [thenK, blockK, reduceIte, Nat.reduceEqDiff]) | refine G.ifT ?_ | refine G.ifF ?_ | refine CodeT.seq ?_ | refine CodeT.block ?_ | refine G.any ?_ | refine G.anyLast ?_ | (refine E.nil ?_; refine ⟨by kernel_rfl, ?_⟩; try dsimp only [thenK, blockK]) | refine H.quiet ?_ | refine H.box ?_ | refine H.take ?_ | refine H.pass ?_ | refine H.passU ?_ | refine H.pickT ?_ | refine H.pickF ?_ |  refine H.pcall1 (enters_of Try.func16 (by kernel_rfl) rfl) hC ?_ | fail
          exact ⟨⟨k + 1, by omega, fun i q => by
            by_cases e : i = k
            · rw [e]; exact hsm
            · exact hne i (by omega)⟩, by show a.tail.length - (k + 1) < a.tail.length - k; omega, by dsimp only [stS, List.cons_append, List.nil_append]; exact G.wkP⟩
      · have F := And.intro F (decide_eq_false (show ¬ ((k : Nat) : Int) < ((a.tail.length : Nat) : Int) by omega))
        dsimp only [stS, List.cons_append, List.nil_append]
        repeat' with_reducible first | (refine L.nil ?_; try dsimp only [thenK, blockK]) | refine G.ops ?_ | refine G.last ?_ | refine G.take ?_ | refine G.pass ?_ | refine G.passU ?_ | refine G.pickT ?_ | refine G.pickF ?_ | refine G.box ?_ | refine G.quiet ?_ | refine G.then ?_ | refine G.else ?_ | (refine CodeT.skip ?_; dsimp only [thenK, blockK, reduceIte, Nat.reduceEqDiff]) | (refine CodeT.exit ?_; dsimp only [thenK, blockK, reduceIte, Nat.reduceEqDiff]) | refine G.ifT ?_ | refine G.ifF ?_ | refine CodeT.seq ?_ | refine CodeT.block ?_ | refine G.any ?_ | refine G.anyLast ?_ | (refine E.nil ?_; refine ⟨by kernel_rfl, ?_⟩; try dsimp only [thenK, blockK]) | refine H.quiet ?_ | refine H.box ?_ | refine H.take ?_ | refine H.pass ?_ | refine H.passU ?_ | refine H.pickT ?_ | refine H.pickF ?_ | fail
        exact ⟨⟨(), fun i q => hne i (by omega)⟩, G.wkP⟩
    · rintro ⟨_, htailS⟩
      dsimp only [stS, List.cons_append, List.nil_append]
      repeat' with_reducible first | (refine L.nil ?_; try dsimp only [thenK, blockK]) | refine G.ops ?_ | refine G.last ?_ | refine G.take ?_ | refine G.pass ?_ | refine G.passU ?_ | refine G.pickT ?_ | refine G.pickF ?_ | refine G.box ?_ | refine G.quiet ?_ | refine G.then ?_ | refine G.else ?_ | (refine CodeT.skip ?_; dsimp only [thenK, blockK, reduceIte, Nat.reduceEqDiff]) | (refine CodeT.exit ?_; dsimp only [thenK, blockK, reduceIte, Nat.reduceEqDiff]) | refine G.ifT ?_ | refine G.ifF ?_ | refine CodeT.seq ?_ | refine CodeT.block ?_ | refine G.any ?_ | refine G.anyLast ?_ | (refine E.nil ?_; refine ⟨by kernel_rfl, ?_⟩; try dsimp only [thenK, blockK]) | refine H.quiet ?_ | refine H.box ?_ | refine H.take ?_ | refine H.pass ?_ | refine H.passU ?_ | refine H.pickT ?_ | refine H.pickF ?_ | fail
      refine CodeT.ret ⟨.a (.one (.raw (.bool (sameN (n + 1) a b)))), ?_, rfl⟩
      simp only [Try.results16, resT, resL, resV, q0, y, F, Nat.reduceLT, Nat.reduceAdd, Nat.reduceEqDiff, Nat.reduceLeDiff, Nat.reduceBNe, Int.reduceToNat, reduceIte, reduceCtorEq]
      rw [sameN_yes hs hitemsS htailS]
theorem rsame3_pf : ∀ n, RSaid n
  | 0 => fun _ _ h => h.elim
  | n + 1 => rsame3_step n (rsame3_pf n)
end Go.Proofs.Ythmpaepdbjldfaa

/-
  The laws' helpers of match (06): Small, light, lives.
-/
namespace Go.Proofs.Ythmpaepdbjldfaa
set_option linter.unusedVariables false
set_option linter.unusedSimpArgs false
open Go.RowKit Go.Shelf
set_option linter.unusedSimpArgs false

def nmA : ByteArray := ⟨#[97]⟩
def nmB : ByteArray := ⟨#[98]⟩
def lvP : Dat := mkL [symD nmA, symD nmB, symD dotsB] []
def lvD : Dat := mkL [numF 1, numF 2, numF 3] []
def lvT : Dat := mkL [symD nmB, symD dotsB, symD nmA] []
def lvR : Dat := mkL [numF 2, numF 3, numF 1] []
def lvB : List Bd := [⟨nmA, .mk (numF 1) false []⟩, ⟨nmB, .mk default true [.mk (numF 2) false [], .mk (numF 3) false []]⟩]
theorem lv_match : matchM [] 3 lvP lvD = some lvB := by kernel_rfl
theorem lv_fill : fillTop 3 3 lvT lvB = (lvR, 0) := by kernel_rfl
theorem lv_same : sameN 6 lvR lvR = true := by kernel_rfl
theorem wfD_mk {n : Nat} {k : Int} {ng b : Bool} {l : List Int} {s : ByteArray} {is ts : List Dat} (h1 : -9223372036854775808 ≤ k ∧ k ≤ 9223372036854775807) (h2 : ∀ x ∈ l, 0 ≤ x ∧ x < 4294967296) (h3 : l.length ≤ 35184372088832) (h4 : s.size ≤ 140737488351232) (h5 : is.length ≤ 35184372088832) (h6 : ts.length ≤ 35184372088832) (h7 : ∀ x ∈ is, wfD n x) (h8 : ∀ x ∈ ts, wfD n x) : wfD (n + 1) (.mk k ng l b s is ts) := by
  rw [wfD]
  exact ⟨h1, h2, h3, h4, h5, h6, h7, h8⟩
theorem no_mem {α : Type} {p : α → Prop} : ∀ x ∈ ([] : List α), p x := fun _ h => by cases h
theorem symD_wf (n : Nat) {s : ByteArray} (h : s.size ≤ 140737488351232) : wfD (n + 1) (symD s) :=
  wfD_mk (by decide) no_mem (by decide) h (by decide) (by decide) no_mem no_mem
theorem numF_wf (n : Nat) {z : Int} (h : 0 ≤ z ∧ z < 4294967296) : wfD (n + 1) (numF z) :=
  wfD_mk (by decide) (fun x hx => by rw [List.mem_singleton] at hx; subst hx; exact h) (by simp) (by decide) (by decide) (by decide) no_mem no_mem
theorem mkL_wf {n : Nat} {is : List Dat} (hl : is.length ≤ 35184372088832) (h : ∀ x ∈ is, wfD n x) : wfD (n + 1) (mkL is []) :=
  wfD_mk (by decide) no_mem (by decide) (by decide) hl (by decide) h no_mem
theorem wfT_mk {m n : Nat} {d : Dat} {mn : Bool} {ks : List Tr} (h1 : wfD m d) (h2 : szN m d ≤ 5000) (h3 : dpN m d ≤ 200) (h4 : ks.length ≤ 1000000) (h5 : ∀ x ∈ ks, wfT m n x) : wfT m (n + 1) (.mk d mn ks) := by
  rw [wfT]
  exact ⟨⟨h1, h2, h3⟩, h4, h5⟩
theorem Match0_pf {m : Nat} {p d : Dat} (hp : wfD m p) (hd : wfD m d) (hsp : szN m p ≤ 5000) (hsd : szN m d ≤ 5000) (hdd : dpN m d ≤ 200) : PFun Try.prog 19 [.agg (enc p), .agg (enc d), .one (.raw (.slice none 0 0))] (fun X => X = matchX (matchM [] m p d) ∧ ∀ bs, matchM [] m p d = some bs → wfS m m bs) :=
  PFun.args (Match_pf (ls := []) hp hd ⟨by simp, fun _ h => by cases h⟩ hsp hsd hdd) (.cons (.agg (PLs.refl _)) (.cons (.agg (PLs.refl _)) (.cons (.one (.nil 2)) .nil)))
set_option maxRecDepth 100000 in
set_option maxHeartbeats 2000000 in
theorem lives_pf : PFun Try.prog 18 [] (fun X => X = .a (.one (.raw (.bool true)))) := by
  have wp : wfD 3 lvP := mkL_wf (by decide) fun x hx => by
    simp only [List.mem_cons, List.not_mem_nil, or_false] at hx
    rcases hx with rfl | rfl | rfl <;> exact symD_wf 1 (by decide)
  have wd : wfD 3 lvD := mkL_wf (by decide) fun x hx => by
    simp only [List.mem_cons, List.not_mem_nil, or_false] at hx
    rcases hx with rfl | rfl | rfl <;> exact numF_wf 1 (by decide)
  have wt : wfD 3 lvT := mkL_wf (by decide) fun x hx => by
    simp only [List.mem_cons, List.not_mem_nil, or_false] at hx
    rcases hx with rfl | rfl | rfl <;> exact symD_wf 1 (by decide)
  have wr : wfD 6 lvR := mkL_wf (by decide) fun x hx => by
    simp only [List.mem_cons, List.not_mem_nil, or_false] at hx
    rcases hx with rfl | rfl | rfl <;> exact numF_wf 4 (by decide)
  have hM : PFun Try.prog 19 [.agg (enc (mkL [symD nmA, symD nmB, symD dotsB] [])), .agg (enc (mkL [numF 1, numF 2, numF 3] [])), .one (.raw (.slice none 0 0))] (fun X => X = .tup [.one (.sl 10 (lvB.map encB)), .one (.raw (.bool true))]) := by
    have h := Match0_pf wp wd (by decide +kernel) (by decide +kernel) (by decide +kernel)
    rw [lv_match] at h
    exact h.imp fun X q => q.1
  have hws : wfS 3 3 lvB := by
    have h0 : ∀ z : Int, 0 ≤ z ∧ z < 4294967296 → szN 3 (numF z) ≤ 5000 ∧ dpN 3 (numF z) ≤ 200 → wfT 3 2 (.mk (numF z) false []) := fun z hz hq => wfT_mk (numF_wf 2 hz) hq.1 hq.2 (by decide) no_mem
    intro b hb
    simp only [lvB, List.mem_cons, List.not_mem_nil, or_false] at hb
    rcases hb with rfl | rfl
    · exact wfT_mk (numF_wf 2 (by decide)) (by decide +kernel) (by decide +kernel) (by decide) no_mem
    · refine wfT_mk (wfD_mk (by decide) no_mem (by decide) (by decide) (by decide) (by decide) no_mem no_mem) (by decide +kernel) (by decide +kernel) (by decide) fun x hx => ?_
      simp only [List.mem_cons, List.not_mem_nil, or_false] at hx
      rcases hx with rfl | rfl
      · exact h0 2 (by decide) (by decide +kernel)
      · exact h0 3 (by decide) (by decide +kernel)
  have hF : PFun Try.prog 26 [.agg (enc (mkL [symD nmB, symD dotsB, symD nmA] [])), .one (.sl 10 (lvB.map encB))] (fun X => X = .tup [.agg (enc lvR), .one (.raw (.int .i64 0))]) := by
    have h := Fill_pf (m := 3) (N := 3) (n := 3) (t := lvT) (s := lvB) wt (by decide +kernel) (by omega) (by omega) hws (by decide)
    rw [lv_fill] at h
    exact h.imp fun X q => q
  have hS : PFun Try.prog 16 [.agg (enc lvR), .agg (enc (mkL [numF 2, numF 3, numF 1] []))] (fun X => X = .a (.one (.raw (.bool true)))) := by
    have h := rsame3_pf 6 lvR lvR wr wr (by decide +kernel) (by decide +kernel)
    rw [lv_same] at h
    exact h
  refine PFun.enter Try.func18 rfl _ Try.ntmps18 (by simp) ?_
  have F := And.intro ql (And.intro @enc_eq (And.intro nmA.eq_1 (And.intro nmB.eq_1 (And.intro dotsB.eq_1 (show ((0 : Int) == 0) = true by decide)))))
  have y := And.intro ty_1 (And.intro ty_2 (And.intro ty_3 (And.intro ty_4 (And.intro ty_6 (And.intro ty_7 (And.intro ty_8 (And.intro ty_9 (And.intro ty_13 (And.intro ty_14 (And.intro ty_15 (And.intro ty_22 (And.intro ty_23 (And.intro ty_24 (And.intro ty_25 (And.intro ty_27 (And.intro ty_35 (And.intro ty_37 (And.intro ty_39 (And.intro ty_40 (And.intro ty_45 (And.intro ty_46 (And.intro ty_54 (And.intro ty_60 (And.intro ty_97 (And.intro ty_98 (And.intro ty_48 (And.intro ty_50 (And.intro ty_66 (And.intro ty_64 (And.intro ty_62 (And.intro ty_71 (And.intro ty_68 (ty_12)))))))))))))))))))))))))))))))))
  repeat' with_reducible first | (refine L.nil ?_; try dsimp only [thenK, blockK]) | refine G.ops ?_ | refine G.last ?_ | refine G.take ?_ | refine G.pass ?_ | refine G.passU ?_ | refine G.pickT ?_ | refine G.pickF ?_ | refine G.alloc ?_ | refine G.store ?_ | refine G.quiet ?_ | refine CodeT.seq ?_ | refine CodeT.block ?_ | refine G.any ?_ | refine G.anyLast ?_ | (refine E.nil ?_; refine ⟨by kernel_rfl, ?_⟩; try dsimp only [thenK, blockK]) | refine H.quiet ?_ | refine H.store ?_ | refine H.alloc ?_ | refine H.listed ?_ | refine H.take ?_ | refine H.pass ?_ | refine H.passU ?_ | refine H.pickT ?_ | refine H.pickF ?_ | refine G.listed ?_ |  refine G.pcall1 (enters_of Try.func31 (by kernel_rfl) rfl) (lsym_pf nmA) ?_ | refine G.pcall1 (enters_of Try.func31 (by kernel_rfl) rfl) (lsym_pf nmB) ?_ | refine G.pcall1 (enters_of Try.func31 (by kernel_rfl) rfl) (lsym_pf dotsB) ?_ | refine G.pcall1 (enters_of Try.func30 (by kernel_rfl) rfl) (lnum_pf 1) ?_ | refine G.pcall1 (enters_of Try.func30 (by kernel_rfl) rfl) (lnum_pf 2) ?_ | refine G.pcall1 (enters_of Try.func30 (by kernel_rfl) rfl) (lnum_pf 3) ?_ | refine G.pcall1 (enters_of Try.func29 (by kernel_rfl) rfl) (llist_pf [symD nmA, symD nmB, symD dotsB]) ?_ | refine G.pcall1 (enters_of Try.func29 (by kernel_rfl) rfl) (llist_pf [numF 1, numF 2, numF 3]) ?_ | refine G.pcall1 (enters_of Try.func29 (by kernel_rfl) rfl) (llist_pf [symD nmB, symD dotsB, symD nmA]) ?_ | refine G.pcall1 (enters_of Try.func29 (by kernel_rfl) rfl) (llist_pf [numF 2, numF 3, numF 1]) ?_ | refine G.pcall1 (enters_of Try.func19 (by kernel_rfl) rfl) (hM) ?_ | refine G.pcall1 (enters_of Try.func26 (by kernel_rfl) rfl) (hF) ?_ | refine G.pcall1 (enters_of Try.func16 (by kernel_rfl) rfl) (hS) ?_ | refine H.pcall1 (enters_of Try.func31 (by kernel_rfl) rfl) (lsym_pf nmA) ?_ | refine H.pcall1 (enters_of Try.func31 (by kernel_rfl) rfl) (lsym_pf nmB) ?_ | refine H.pcall1 (enters_of Try.func31 (by kernel_rfl) rfl) (lsym_pf dotsB) ?_ | refine H.pcall1 (enters_of Try.func30 (by kernel_rfl) rfl) (lnum_pf 1) ?_ | refine H.pcall1 (enters_of Try.func30 (by kernel_rfl) rfl) (lnum_pf 2) ?_ | refine H.pcall1 (enters_of Try.func30 (by kernel_rfl) rfl) (lnum_pf 3) ?_ | refine H.pcall1 (enters_of Try.func29 (by kernel_rfl) rfl) (llist_pf [symD nmA, symD nmB, symD dotsB]) ?_ | refine H.pcall1 (enters_of Try.func29 (by kernel_rfl) rfl) (llist_pf [numF 1, numF 2, numF 3]) ?_ | refine H.pcall1 (enters_of Try.func29 (by kernel_rfl) rfl) (llist_pf [symD nmB, symD dotsB, symD nmA]) ?_ | refine H.pcall1 (enters_of Try.func29 (by kernel_rfl) rfl) (llist_pf [numF 2, numF 3, numF 1]) ?_ | refine H.pcall1 (enters_of Try.func19 (by kernel_rfl) rfl) (hM) ?_ | refine H.pcall1 (enters_of Try.func26 (by kernel_rfl) rfl) (hF) ?_ | refine H.pcall1 (enters_of Try.func16 (by kernel_rfl) rfl) (hS) ?_ | fail
  refine CodeT.ret ⟨_, ?_, rfl⟩
  simp only [Try.results18, resT, resL, resV, q0, y, F, Nat.reduceLT, Nat.reduceAdd, Nat.reduceEqDiff, Nat.reduceLeDiff, Nat.reduceBNe, Int.reduceToNat, reduceIte, reduceCtorEq]
end Go.Proofs.Ythmpaepdbjldfaa

/-
  The law MatchLits of match (06): what its patterns match, and its walk.
-/
namespace Go.Proofs.Ythmpaepdbjldfaa
set_option linter.unusedVariables false
set_option linter.unusedSimpArgs false
open Go.RowKit Go.Shelf
set_option linter.unusedSimpArgs false

def litN : ByteArray := ⟨#[108, 105, 116]⟩
def litP : Nat → Dat
  | 0 => symD litN
  | i + 1 => mkL [symD anyB, litP i] []
def litD (s : ByteArray) : Nat → Dat
  | 0 => symD s
  | i + 1 => mkL [numF 1, litD s i] []
def lkF (all : List ByteArray) : List Lk := [⟨litN, all⟩]
def hasF (all : List ByteArray) (s : ByteArray) : Bool := all.any fun x => decide (x = s)
theorem litP_again (all : List ByteArray) : ∀ i, againF (lkF all) (litP i) = false
  | 0 => by kernel_rfl
  | i + 1 => by simp [againF, isF, litP, mkL, Dat.kind]
theorem lit_match (all : List ByteArray) (s : ByteArray) (sm : Dat → Dat → Bool) : ∀ i n, i < n → matchN (lkF all) sm n (litP i) (litD s i) = if hasF all s then some [] else none
  | i, 0, h => by omega
  | 0, n + 1, _ => by
    have e1 : findF (lkF all) litN = 0 := by kernel_rfl
    have e2 : ((lkF all)[0]?.getD default).all = all := rfl
    cases hh : hasF all s
    · have hh' : (all.any fun x => decide (x = s)) = false := hh
      simp only [matchN, litP, litD, symD, Dat.kind, Dat.s, e1, if_true, List.getD_eq_getElem?_getD, Int.toNat_zero, e2, hh']
      simp
      intro x hx
      exact eq_false_of_ne_true (List.any_eq_false.1 hh' x hx)
    · have hh' : (all.any fun x => decide (x = s)) = true := hh
      simp only [matchN, litP, litD, symD, Dat.kind, Dat.s, e1, if_true, List.getD_eq_getElem?_getD, Int.toNat_zero, e2, hh']
      simp
      obtain ⟨x, hx, e⟩ := List.any_eq_true.1 hh'
      exact ⟨x, hx, e⟩
  | i + 1, n + 1, h => by
    have e0 : againF (lkF all) (symD anyB) = false := by kernel_rfl
    have ih := lit_match all s sm i n (by omega)
    obtain ⟨n, rfl⟩ : ∃ k, n = k + 1 := ⟨n - 1, by omega⟩
    have e3 : matchN (lkF all) sm (n + 1) (symD anyB) (numF 1) = some [] := by
      have e1 : findF (lkF all) anyB = -1 := by kernel_rfl
      simp [matchN, symD, Dat.kind, Dat.s, e1]
    have hp : (litP (i + 1)).items = [symD anyB, litP i] := rfl
    have hd : (litD s (i + 1)).items = [numF 1, litD s i] := rfl
    rw [matchN, if_neg (show ¬ (litP (i + 1)).kind = 3 from (by decide : ¬ (5 : Int) = 3)), if_pos (show (litP (i + 1)).kind = 5 from rfl), if_pos (show (litD s (i + 1)).kind = 5 from rfl), listM, hp, hd]
    have hx : [symD anyB, litP i].findIdx? (againF (lkF all)) = none := by simp [List.findIdx?_cons, e0, litP_again]
    rw [hx]
    dsimp only
    rw [if_pos (show (litP (i + 1)).tail = [] from rfl), if_pos ⟨rfl, rfl⟩]
    simp only [allM, e3, ih]
    cases hasF all s <;> simp
theorem litno_match (all : List ByteArray) (sm : Dat → Dat → Bool) : ∀ i n, i < n → matchN (lkF all) sm n (litP i) (numF 7) = none
  | i, 0, h => by omega
  | 0, n + 1, _ => by
    have e1 : findF (lkF all) litN = 0 := by kernel_rfl
    simp [matchN, litP, symD, numF, Dat.kind, Dat.s, e1]
  | i + 1, n + 1, _ => by
    rw [matchN, if_neg (show ¬ (litP (i + 1)).kind = 3 from (by decide : ¬ (5 : Int) = 3)), if_pos (show (litP (i + 1)).kind = 5 from rfl), if_neg (show ¬ (numF 7).kind = 5 from (by decide : ¬ (1 : Int) = 5))]
theorem good_sym {s : ByteArray} (n : Nat) (h1 : s ≠ ByteArray.empty) (h2 : s.size ≤ 64) : goodN (n + 1) (symD s) = true := by
  have hl : s.toList ≠ [] := fun e => h1 (by
    have : s.data.toList = [] := by rw [← e]; simp [ByteArray.toList_eq]
    apply ByteArray.ext
    simpa using this)
  have hp : PlainD (symD s) := ⟨fun _ => ⟨rfl, rfl⟩, fun _ => rfl, fun h => absurd rfl h, fun _ => ⟨rfl, rfl⟩⟩
  have hz : ((symD s).s.size : Int) ≤ 64 := by show (s.size : Int) ≤ 64; omega
  have hl' : (symD s).s.toList ≠ [] := hl
  rw [goodN]
  simp only [hp, show (symD s).kind = 3 from rfl, hl', hz]
  simpa using hl'
theorem litD_good {s : ByteArray} (h1 : s ≠ ByteArray.empty) (h2 : s.size ≤ 64) : ∀ i n, i + 1 < n → goodN n (litD s i) = true
  | i, 0, h => by omega
  | 0, n + 1, h => good_sym n h1 h2
  | i + 1, n + 1, h => by
    have ih := litD_good h1 h2 i n (by omega)
    obtain ⟨n, rfl⟩ : ∃ k, n = k + 1 := ⟨n - 1, by omega⟩
    have e1 : goodN (n + 1) (numF 1) = true := by
      have hp : PlainD (numF 1) := ⟨fun h => absurd rfl h, fun _ => rfl, fun _ _ => rfl, fun _ => ⟨rfl, rfl⟩⟩
      rw [goodN, decide_eq_true hp]
      rfl
    have hp : PlainD (litD s (i + 1)) := ⟨fun _ => ⟨rfl, rfl⟩, fun _ => rfl, fun _ _ => rfl, fun h => absurd rfl h⟩
    have ht : tailOk (litD s (i + 1)) := .inl rfl
    have hi : (litD s (i + 1)).items ++ (litD s (i + 1)).tail = [numF 1, litD s i] := rfl
    rw [goodN]
    simp only [hp, hi, ht, show (litD s (i + 1)).kind = 5 from rfl, List.all_cons, e1, ih]
    simp
theorem getD_map {α : Type} [Inhabited α] (f : α → List PV) {xs : List α} {i : Nat} (h : i < xs.length) : (xs.map f).getD i [] = f (xs.getD i default) := by
  simp [List.getD_eq_getElem?_getD, h]
theorem lit_check (all : List ByteArray) : ∀ i, i ≤ 4 → checkM (lkF all) 6 (litP i) = 0 ∧ namesM (lkF all) 6 (litP i) = []
  | 0, _ => ⟨by kernel_rfl, by kernel_rfl⟩
  | 1, _ => ⟨by kernel_rfl, by kernel_rfl⟩
  | 2, _ => ⟨by kernel_rfl, by kernel_rfl⟩
  | 3, _ => ⟨by kernel_rfl, by kernel_rfl⟩
  | 4, _ => ⟨by kernel_rfl, by kernel_rfl⟩
  | i + 5, h => by omega
theorem litD_bud (s : ByteArray) : ∀ i, i ≤ 4 → decide (0 ≤ budN 6 (litD s i) 5000 200) = true ∧ szN 6 (litD s i) ≤ 5000 ∧ dpN 6 (litD s i) ≤ 200
  | 0, _ => ⟨by kernel_rfl, Nat.le_of_ble_eq_true (by kernel_rfl), Nat.le_of_ble_eq_true (by kernel_rfl)⟩
  | 1, _ => ⟨by kernel_rfl, Nat.le_of_ble_eq_true (by kernel_rfl), Nat.le_of_ble_eq_true (by kernel_rfl)⟩
  | 2, _ => ⟨by kernel_rfl, Nat.le_of_ble_eq_true (by kernel_rfl), Nat.le_of_ble_eq_true (by kernel_rfl)⟩
  | 3, _ => ⟨by kernel_rfl, Nat.le_of_ble_eq_true (by kernel_rfl), Nat.le_of_ble_eq_true (by kernel_rfl)⟩
  | 4, _ => ⟨by kernel_rfl, Nat.le_of_ble_eq_true (by kernel_rfl), Nat.le_of_ble_eq_true (by kernel_rfl)⟩
  | i + 5, h => by omega
theorem litP_sz : ∀ i, i ≤ 4 → szN 6 (litP i) ≤ 5000
  | 0, _ | 1, _ | 2, _ | 3, _ | 4, _ => by decide +kernel
  | i + 5, h => by omega
theorem litP_wf : ∀ i n, i < n → wfD n (litP i)
  | i, 0, h => by omega
  | 0, n + 1, _ => symD_wf n (by decide)
  | i + 1, n + 1, h => mkL_wf (by simp) fun x hx => by
    obtain ⟨n, rfl⟩ : ∃ k, n = k + 1 := ⟨n - 1, by omega⟩
    simp only [List.mem_cons, List.not_mem_nil, or_false] at hx
    rcases hx with rfl | rfl
    · exact symD_wf n (by decide)
    · exact litP_wf i _ (by omega)
theorem litD_wf {s : ByteArray} (hs : s.size ≤ 64) : ∀ i n, i < n → wfD n (litD s i)
  | i, 0, h => by omega
  | 0, n + 1, _ => symD_wf n (by omega)
  | i + 1, n + 1, h => mkL_wf (by simp) fun x hx => by
    obtain ⟨n, rfl⟩ : ∃ k, n = k + 1 := ⟨n - 1, by omega⟩
    simp only [List.mem_cons, List.not_mem_nil, or_false] at hx
    rcases hx with rfl | rfl
    · exact numF_wf n (by decide)
    · exact litD_wf hs i _ (by omega)
theorem lits_match {all : List ByteArray} {s : ByteArray} (h1 : s ≠ ByteArray.empty) (h2 : s.size ≤ 64) {i : Nat} (hi : i ≤ 4) : matchM (lkF all) 6 (litP i) (litD s i) = (if hasF all s then some [] else none) ∧ matchM (lkF all) 6 (litP i) (numF 7) = none := by
  constructor
  · unfold matchM
    rw [if_pos ⟨(lit_check all i hi).1, by unfold goodM; rw [(litD_bud s i hi).1, litD_good h1 h2 i 6 (by omega)]; rfl⟩]
    exact lit_match all s _ i 6 (by omega)
  · unfold matchM
    split
    · exact litno_match all _ i 6 (by omega)
    · rfl
set_option maxRecDepth 100000 in
set_option maxHeartbeats 4000000 in
theorem lits_pf {all : List ByteArray} {s : ByteArray} {n : Int} (hn : 0 ≤ n) (hl : all.length ≤ 35184372088832) : PFun Try.prog 7 [.one (.sl 1 (all.map encS)), .one (.raw (.string s)), .one (.raw (.int .u64 n))] (fun X => X = .a (.one (.raw (.bool true)))) := by
  refine PFun.enter Try.func7 rfl _ Try.ntmps7 (by simp) ?_
  have F := ql
  have y := And.intro ty_1 (And.intro ty_2 (And.intro ty_3 (And.intro ty_4 (And.intro ty_5 (And.intro ty_6 (And.intro ty_7 (And.intro ty_9 (And.intro ty_20 (And.intro ty_25 (And.intro ty_27 (And.intro ty_35 (And.intro ty_36 (And.intro ty_37 (And.intro ty_49 (And.intro ty_50 (And.intro ty_53 (And.intro ty_54 (And.intro ty_60 (And.intro ty_64 (And.intro ty_68 (And.intro ty_69 (And.intro ty_71 (And.intro ty_95 (And.intro ty_100 (And.intro ty_105 (And.intro ty_106 (And.intro ty_108 (And.intro ty_116 (And.intro ty_62 (And.intro ty_48 (And.intro ty_46 (And.intro ty_66 (And.intro ty_24 (ty_22))))))))))))))))))))))))))))))))))
  repeat' with_reducible first | (refine L.nil ?_; try dsimp only [thenK, blockK]) | refine G.ops ?_ | refine G.last ?_ | refine G.take ?_ | refine G.pass ?_ | refine G.passU ?_ | refine G.pickT ?_ | refine G.pickF ?_ | refine G.alloc ?_ | refine G.store ?_ | refine G.build ?_ | refine G.quiet ?_ | refine G.then ?_ | refine G.else ?_ | (refine CodeT.skip ?_; dsimp only [thenK, blockK, reduceIte, Nat.reduceEqDiff]) | (refine CodeT.exit ?_; dsimp only [thenK, blockK, reduceIte, Nat.reduceEqDiff]) | refine G.ifT ?_ | refine G.ifF ?_ | refine CodeT.seq ?_ | refine G.any ?_ | refine G.anyLast ?_ | (refine E.nil ?_; refine ⟨by kernel_rfl, ?_⟩; try dsimp only [thenK, blockK]) | refine H.quiet ?_ | refine H.store ?_ | refine H.build ?_ | refine H.alloc ?_ | refine H.listed ?_ | refine H.take ?_ | refine H.pass ?_ | refine H.passU ?_ | refine H.pickT ?_ | refine H.pickF ?_ | refine G.listed ?_ | (refine G.split (fun h => ?_) (fun h => ?_)) | (refine G.pickS (fun h => ?_) (fun h => ?_)) | (refine G.if (fun h => ?_) (fun h => ?_)) | (refine H.split (fun h => ?_) (fun h => ?_)) | (refine H.pickS (fun h => ?_) (fun h => ?_)) |  refine G.pcall1 (enters_of Try.func18 (by kernel_rfl) rfl) lives_pf ?_ | fail
  all_goals try
    refine CodeT.ret ⟨_, ?_, rfl⟩
    simp only [Try.results7, resT, resL, resV, q0, y, F, Nat.reduceLT, Nat.reduceAdd, Nat.reduceEqDiff, Nat.reduceLeDiff, Nat.reduceBNe, Int.reduceToNat, reduceIte, reduceCtorEq]
    done
  rename_i c1 c2 c3
  have hs : s ≠ ByteArray.empty := of_decide_eq_false c3
  have h64 : s.size ≤ 64 := by
    have := of_decide_eq_false h
    omega
  have h20 : all.length ≤ 20 := by
    have := of_decide_eq_false c1
    omega
  clear c1 c2 c3 h
  obtain ⟨kk, hkk, hk4⟩ : ∃ kk : Nat, n.tmod 5 = (kk : Int) ∧ kk ≤ 4 := ⟨(n.tmod 5).toNat, by
    have := Int.tmod_nonneg 5 hn
    omega, by
    have := Int.tmod_lt_of_pos n (show (0 : Int) < 5 by decide)
    omega⟩
  have F := And.intro ql (And.intro litN.eq_1 (And.intro anyB.eq_1 (And.intro lkF.eq_1 (And.intro encLk.eq_1 (And.intro @enc_eq (And.intro litP.eq_1 (And.intro litD.eq_1 (And.intro encS.eq_1 (And.intro hkk (IntWalk.i64_in (kk : Int) (by omega)))))))))))
  repeat' with_reducible first | (refine L.nil ?_; try dsimp only [thenK, blockK]) | refine G.ops ?_ | refine G.last ?_ | refine G.take ?_ | refine G.pass ?_ | refine G.passU ?_ | refine G.pickT ?_ | refine G.pickF ?_ | refine G.alloc ?_ | refine G.store ?_ | refine G.build ?_ | refine G.quiet ?_ | refine G.then ?_ | refine G.else ?_ | (refine CodeT.skip ?_; dsimp only [thenK, blockK, reduceIte, Nat.reduceEqDiff]) | (refine CodeT.exit ?_; dsimp only [thenK, blockK, reduceIte, Nat.reduceEqDiff]) | refine G.ifT ?_ | refine G.ifF ?_ | refine CodeT.seq ?_ | refine G.any ?_ | refine G.anyLast ?_ | (refine E.nil ?_; refine ⟨by kernel_rfl, ?_⟩; try dsimp only [thenK, blockK]) | refine H.quiet ?_ | refine H.store ?_ | refine H.build ?_ | refine H.alloc ?_ | refine H.listed ?_ | refine H.take ?_ | refine H.pass ?_ | refine H.passU ?_ | refine H.pickT ?_ | refine H.pickF ?_ | refine G.listed ?_ |  refine G.pcall1 (enters_of Try.func31 (by kernel_rfl) rfl) (lsym_pf litN) ?_ | refine G.pcall1 (enters_of Try.func31 (by kernel_rfl) rfl) (lsym_pf s) ?_ | fail
  refine G.mid (ι := Unit) (fun _ => tsL [(0, one (.sl 1 (all.map encS))), (1, one (.raw (.string s))), (2, one (.raw (.int .u64 n))), (7, one (.sl 2 ((lkF all).map encLk))), (8, ptX 0), (9, ptX 1), (10, iX (kk : Int))] [(0, .cells 27 (cP (enc (litP kk)))), (1, .cells 27 (cP (enc (litD s kk))))] [] 2 0 106) ?_ ?_
  · refine CodeT.block ?_
    refine CodeT.loop (ι := {i : Nat // i ≤ kk}) (fun i => tsL [(0, one (.sl 1 (all.map encS))), (1, one (.raw (.string s))), (2, one (.raw (.int .u64 n))), (7, one (.sl 2 ((lkF all).map encLk))), (8, ptX 0), (9, ptX 1), (10, iX (i.1 : Int))] [(0, .cells 27 (cP (enc (litP i.1)))), (1, .cells 27 (cP (enc (litD s i.1))))] [] 2 0 106) (fun i => kk - i.1) ⟨0, Nat.zero_le _⟩ (by show Weak _ _ (tsL [(0, one (.sl 1 (all.map encS))), (1, one (.raw (.string s))), (2, one (.raw (.int .u64 n))), (7, one (.sl 2 ((lkF all).map encLk))), (8, ptX 0), (9, ptX 1), (10, iX 0)] [(0, .cells 27 (cP (enc (litP 0)))), (1, .cells 27 (cP (enc (litD s 0))))] [] 2 0 106); exact G.wkP) ?_
    rintro ⟨i, hi⟩
    dsimp only
    by_cases hlt : i < kk
    · have F := And.intro F (And.intro (decide_eq_true (show ((i : Nat) : Int) < (kk : Int) by omega)) (And.intro (litP.eq_2 i) (And.intro (litD.eq_2 s i) (And.intro (IntWalk.i64_in ((i : Int) + 1) (by omega)) (show ((i + 1 : Nat) : Int) = (i : Int) + 1 by omega)))))
      repeat' with_reducible first | (refine L.nil ?_; try dsimp only [thenK, blockK]) | refine G.ops ?_ | refine G.last ?_ | refine G.take ?_ | refine G.pass ?_ | refine G.passU ?_ | refine G.pickT ?_ | refine G.pickF ?_ | refine G.alloc ?_ | refine G.store ?_ | refine G.build ?_ | refine G.quiet ?_ | refine G.then ?_ | refine G.else ?_ | (refine CodeT.skip ?_; dsimp only [thenK, blockK, reduceIte, Nat.reduceEqDiff]) | (refine CodeT.exit ?_; dsimp only [thenK, blockK, reduceIte, Nat.reduceEqDiff]) | refine G.ifT ?_ | refine G.ifF ?_ | refine CodeT.seq ?_ | refine CodeT.block ?_ | refine G.any ?_ | refine G.anyLast ?_ | (refine E.nil ?_; refine ⟨by kernel_rfl, ?_⟩; try dsimp only [thenK, blockK]) | refine H.quiet ?_ | refine H.store ?_ | refine H.build ?_ | refine H.alloc ?_ | refine H.listed ?_ | refine H.take ?_ | refine H.pass ?_ | refine H.passU ?_ | refine H.pickT ?_ | refine H.pickF ?_ | refine G.listed ?_ |  refine H.pcall1 (enters_of Try.func31 (by kernel_rfl) rfl) (lsym_pf anyB) ?_ | refine H.pcall1 (enters_of Try.func30 (by kernel_rfl) rfl) (lnum_pf 1) ?_ | refine H.pcall1 (enters_of Try.func29 (by kernel_rfl) rfl) (llist_pf [symD anyB, litP i]) ?_ | refine H.pcall1 (enters_of Try.func29 (by kernel_rfl) rfl) (llist_pf [numF 1, litD s i]) ?_ | fail
      exact ⟨⟨i + 1, hlt⟩, by show kk - (i + 1) < kk - i; omega, G.wkP⟩
    · have F := And.intro F (decide_eq_false (show ¬ ((i : Nat) : Int) < (kk : Int) by omega))
      have hik : i = kk := by omega
      subst hik
      repeat' with_reducible first | (refine L.nil ?_; try dsimp only [thenK, blockK]) | refine G.ops ?_ | refine G.last ?_ | refine G.take ?_ | refine G.pass ?_ | refine G.passU ?_ | refine G.pickT ?_ | refine G.pickF ?_ | refine G.alloc ?_ | refine G.store ?_ | refine G.build ?_ | refine G.quiet ?_ | refine G.then ?_ | refine G.else ?_ | (refine CodeT.skip ?_; dsimp only [thenK, blockK, reduceIte, Nat.reduceEqDiff]) | (refine CodeT.exit ?_; dsimp only [thenK, blockK, reduceIte, Nat.reduceEqDiff]) | refine G.ifT ?_ | refine G.ifF ?_ | refine CodeT.seq ?_ | refine CodeT.block ?_ | refine G.any ?_ | refine G.anyLast ?_ | (refine E.nil ?_; refine ⟨by kernel_rfl, ?_⟩; try dsimp only [thenK, blockK]) | refine H.quiet ?_ | refine H.store ?_ | refine H.build ?_ | refine H.alloc ?_ | refine H.listed ?_ | refine H.take ?_ | refine H.pass ?_ | refine H.passU ?_ | refine H.pickT ?_ | refine H.pickF ?_ | refine G.listed ?_ | fail
      exact ⟨(), G.wkP⟩
  · rintro _
    repeat' with_reducible first | (refine L.nil ?_; try dsimp only [thenK, blockK]) | refine G.ops ?_ | refine G.last ?_ | refine G.take ?_ | refine G.pass ?_ | refine G.passU ?_ | refine G.pickT ?_ | refine G.pickF ?_ | refine G.alloc ?_ | refine G.store ?_ | refine G.build ?_ | refine G.quiet ?_ | refine G.then ?_ | refine G.else ?_ | (refine CodeT.skip ?_; dsimp only [thenK, blockK, reduceIte, Nat.reduceEqDiff]) | (refine CodeT.exit ?_; dsimp only [thenK, blockK, reduceIte, Nat.reduceEqDiff]) | refine G.ifT ?_ | refine G.ifF ?_ | refine CodeT.seq ?_ | refine G.any ?_ | refine G.anyLast ?_ | (refine E.nil ?_; refine ⟨by kernel_rfl, ?_⟩; try dsimp only [thenK, blockK]) | refine H.quiet ?_ | refine H.store ?_ | refine H.build ?_ | refine H.alloc ?_ | refine H.listed ?_ | refine H.take ?_ | refine H.pass ?_ | refine H.passU ?_ | refine H.pickT ?_ | refine H.pickF ?_ | refine G.listed ?_ | fail
    refine G.mid (ι := Unit) (fun _ => tsL [(7, one (.sl 2 ((lkF all).map encLk))), (8, ptX 0), (11, bX (hasF all s)), (9, ptX 1)] [(0, .cells 27 (cP (enc (litP kk)))), (1, .cells 27 (cP (enc (litD s kk))))] [] 2 0 106) ?_ ?_
    · refine CodeT.block ?_
      refine CodeT.loop (ι := {j : Nat // j ≤ all.length}) (fun j => tsL [(0, one (.sl 1 (all.map encS))), (1, one (.raw (.string s))), (7, one (.sl 2 ((lkF all).map encLk))), (8, ptX 0), (9, ptX 1), (11, bX (hasF (all.take j.1) s)), (57, one (.sl 1 (all.map encS))), (58, iX (all.length : Int)), (59, iX (j.1 : Int))] [(0, .cells 27 (cP (enc (litP kk)))), (1, .cells 27 (cP (enc (litD s kk))))] [] 2 0 106) (fun j => all.length - j.1) ⟨0, Nat.zero_le _⟩ (by show Weak _ _ (tsL [(0, one (.sl 1 (all.map encS))), (1, one (.raw (.string s))), (7, one (.sl 2 ((lkF all).map encLk))), (8, ptX 0), (9, ptX 1), (11, bX (false)), (57, one (.sl 1 (all.map encS))), (58, iX (all.length : Int)), (59, iX 0)] [(0, .cells 27 (cP (enc (litP kk)))), (1, .cells 27 (cP (enc (litD s kk))))] [] 2 0 106); exact G.wkP) ?_
      rintro ⟨j, hj⟩
      dsimp only
      by_cases hlt : j < all.length
      · have F := And.intro F (And.intro (decide_eq_true (show ((j : Nat) : Int) < (all.length : Int) by omega)) (And.intro (getD_map encS hlt) (And.intro (show ((j : Nat) : Int).toNat = j by omega) (And.intro (IntWalk.i64_in ((j : Int) + 1) (by omega)) (show ((j + 1 : Nat) : Int) = (j : Int) + 1 by omega)))))
        have hnx : hasF (all.take (j + 1)) s = (hasF (all.take j) s || decide (all.getD j default = s)) := by
          unfold hasF
          rw [List.take_succ_eq_append_getElem hlt, List.any_append]
          simp [List.getD_eq_getElem?_getD, hlt]
        cases hh : hasF (all.take j) s
        · rw [hh, Bool.false_or] at hnx
          have F := And.intro F hnx
          repeat' with_reducible first | (refine L.nil ?_; try dsimp only [thenK, blockK]) | refine G.ops ?_ | refine G.last ?_ | refine G.take ?_ | refine G.pass ?_ | refine G.passU ?_ | refine G.pickT ?_ | refine G.pickF ?_ | refine G.alloc ?_ | refine G.store ?_ | refine G.build ?_ | refine G.quiet ?_ | refine G.then ?_ | refine G.else ?_ | (refine CodeT.skip ?_; dsimp only [thenK, blockK, reduceIte, Nat.reduceEqDiff]) | (refine CodeT.exit ?_; dsimp only [thenK, blockK, reduceIte, Nat.reduceEqDiff]) | refine G.ifT ?_ | refine G.ifF ?_ | refine CodeT.seq ?_ | refine CodeT.block ?_ | refine G.any ?_ | refine G.anyLast ?_ | (refine E.nil ?_; refine ⟨by kernel_rfl, ?_⟩; try dsimp only [thenK, blockK]) | refine H.quiet ?_ | refine H.store ?_ | refine H.build ?_ | refine H.alloc ?_ | refine H.listed ?_ | refine H.take ?_ | refine H.pass ?_ | refine H.passU ?_ | refine H.pickT ?_ | refine H.pickF ?_ | refine G.listed ?_ | fail
          exact ⟨⟨j + 1, hlt⟩, by show all.length - (j + 1) < all.length - j; omega, G.wkP⟩
        · rw [hh, Bool.true_or] at hnx
          have F := And.intro F hnx
          repeat' with_reducible first | (refine L.nil ?_; try dsimp only [thenK, blockK]) | refine G.ops ?_ | refine G.last ?_ | refine G.take ?_ | refine G.pass ?_ | refine G.passU ?_ | refine G.pickT ?_ | refine G.pickF ?_ | refine G.alloc ?_ | refine G.store ?_ | refine G.build ?_ | refine G.quiet ?_ | refine G.then ?_ | refine G.else ?_ | (refine CodeT.skip ?_; dsimp only [thenK, blockK, reduceIte, Nat.reduceEqDiff]) | (refine CodeT.exit ?_; dsimp only [thenK, blockK, reduceIte, Nat.reduceEqDiff]) | refine G.ifT ?_ | refine G.ifF ?_ | refine CodeT.seq ?_ | refine CodeT.block ?_ | refine G.any ?_ | refine G.anyLast ?_ | (refine E.nil ?_; refine ⟨by kernel_rfl, ?_⟩; try dsimp only [thenK, blockK]) | refine H.quiet ?_ | refine H.store ?_ | refine H.build ?_ | refine H.alloc ?_ | refine H.listed ?_ | refine H.take ?_ | refine H.pass ?_ | refine H.passU ?_ | refine H.pickT ?_ | refine H.pickF ?_ | refine G.listed ?_ | fail
          exact ⟨⟨j + 1, hlt⟩, by show all.length - (j + 1) < all.length - j; omega, G.wkP⟩
      · have F := And.intro F (And.intro (decide_eq_false (show ¬ ((j : Nat) : Int) < (all.length : Int) by omega)) (show hasF (all.take j) s = hasF all s by rw [List.take_of_length_le (by omega)]))
        repeat' with_reducible first | (refine L.nil ?_; try dsimp only [thenK, blockK]) | refine G.ops ?_ | refine G.last ?_ | refine G.take ?_ | refine G.pass ?_ | refine G.passU ?_ | refine G.pickT ?_ | refine G.pickF ?_ | refine G.alloc ?_ | refine G.store ?_ | refine G.build ?_ | refine G.quiet ?_ | refine G.then ?_ | refine G.else ?_ | (refine CodeT.skip ?_; dsimp only [thenK, blockK, reduceIte, Nat.reduceEqDiff]) | (refine CodeT.exit ?_; dsimp only [thenK, blockK, reduceIte, Nat.reduceEqDiff]) | refine G.ifT ?_ | refine G.ifF ?_ | refine CodeT.seq ?_ | refine CodeT.block ?_ | refine G.any ?_ | refine G.anyLast ?_ | (refine E.nil ?_; refine ⟨by kernel_rfl, ?_⟩; try dsimp only [thenK, blockK]) | refine H.quiet ?_ | refine H.store ?_ | refine H.build ?_ | refine H.alloc ?_ | refine H.listed ?_ | refine H.take ?_ | refine H.pass ?_ | refine H.passU ?_ | refine H.pickT ?_ | refine H.pickF ?_ | refine G.listed ?_ | fail
        exact ⟨(), G.wkP⟩
    · rintro _
      obtain ⟨q1, q2⟩ := lits_match (all := all) hs h64 hk4
      have hwP := litP_wf kk 6 (by omega)
      have hwD := litD_wf (s := s) h64 kk 6 (by omega)
      have hzP := litP_sz kk hk4
      have hzD := litD_bud s kk hk4
      have hwL : wfL (lkF all) := ⟨by simp [lkF], fun l hl' => by
        simp only [lkF, List.mem_singleton] at hl'
        subst hl'
        exact hl⟩
      have hM := (Match_pf hwP hwD hwL hzP hzD.2.1 hzD.2.2).imp (R' := fun X => X = matchX (matchM (lkF all) 6 (litP kk) (litD s kk))) fun X q => q.1
      have hM7 := (Match_pf hwP (numF_wf 5 (show (0 : Int) ≤ 7 ∧ (7 : Int) < 4294967296 by decide)) hwL hzP (by decide +kernel) (by decide +kernel)).imp (R' := fun X => X = matchX (matchM (lkF all) 6 (litP kk) (numF 7))) fun X q => q.1
      have hN := names_pf hwP hwL (by omega)
      rw [q1] at hM
      rw [q2] at hM7
      rw [(lit_check all kk hk4).2] at hN
      have F := And.intro F (And.intro matchX.eq_1 (And.intro matchX.eq_2 (And.intro (show (true == true) = true by decide) (And.intro (show (false == false) = true by decide) (And.intro (show ((0 : Int) == 0) = true by decide) (show ((0 : Nat) : Int) = 0 by rfl))))))
      cases hh : hasF all s <;> rw [hh] at hM <;> simp only [if_true, Bool.false_eq_true, if_false] at hM
      all_goals
        have F := And.intro F hh
        repeat' with_reducible first | (refine L.nil ?_; try dsimp only [thenK, blockK]) | refine G.ops ?_ | refine G.last ?_ | refine G.take ?_ | refine G.pass ?_ | refine G.passU ?_ | refine G.pickT ?_ | refine G.pickF ?_ | refine G.alloc ?_ | refine G.store ?_ | refine G.build ?_ | refine G.quiet ?_ | refine G.then ?_ | refine G.else ?_ | (refine CodeT.skip ?_; dsimp only [thenK, blockK, reduceIte, Nat.reduceEqDiff]) | (refine CodeT.exit ?_; dsimp only [thenK, blockK, reduceIte, Nat.reduceEqDiff]) | refine G.ifT ?_ | refine G.ifF ?_ | refine CodeT.seq ?_ | refine CodeT.block ?_ | refine G.any ?_ | refine G.anyLast ?_ | (refine E.nil ?_; refine ⟨by kernel_rfl, ?_⟩; try dsimp only [thenK, blockK]) | refine H.quiet ?_ | refine H.store ?_ | refine H.build ?_ | refine H.alloc ?_ | refine H.listed ?_ | refine H.take ?_ | refine H.pass ?_ | refine H.passU ?_ | refine H.pickT ?_ | refine H.pickF ?_ | refine G.listed ?_ |  refine G.pcall1 (enters_of Try.func19 (by kernel_rfl) rfl) (hM) ?_ | refine H.pcall1 (enters_of Try.func19 (by kernel_rfl) rfl) (hM7) ?_ | refine H.pcall1 (enters_of Try.func30 (by kernel_rfl) rfl) (lnum_pf 7) ?_ | refine G.pcall1 (enters_of Try.func32 (by kernel_rfl) rfl) (hN) ?_ | refine G.pcall1 (enters_of Try.func18 (by kernel_rfl) rfl) (lives_pf) ?_ | fail
        refine CodeT.ret ⟨_, ?_, rfl⟩
        simp only [Try.results7, resT, resL, resV, q0, y, F, Nat.reduceLT, Nat.reduceAdd, Nat.reduceEqDiff, Nat.reduceLeDiff, Nat.reduceBNe, Int.reduceToNat, reduceIte, reduceCtorEq]
end Go.Proofs.Ythmpaepdbjldfaa

/-
  The laws of match (06), of what arguments read as.
-/
namespace Go.Proofs.Ythmpaepdbjldfaa
set_option linter.unusedVariables false
set_option linter.unusedSimpArgs false
open Go.RowKit Go.Shelf

theorem bytes_str : 4 ≤ Try.prog.bytesOf 9 := by decide +kernel
theorem strs_open {w : World} {n : Nat} {v : Value} (h : RdS Try.prog w n 68 [v]) : ∃ xs : List ByteArray, PRel (Old w) w (.sl 1 (xs.map encS)) v ∧ xs.length ≤ 35184372088832 := by
  obtain ⟨xs, h1, _, h3⟩ := sl_open (K := 1) encS (fun s => s.size ≤ 140737488351232) Try.underlying68 (by kernel_rfl) (by omega) (fun k cs _ hr => str_open Try.underlying9 hr) h
  refine ⟨xs, h1, ?_⟩
  have := Nat.mul_le_mul_left xs.length bytes_str
  omega
theorem law_MatchLits (v1 v2 : Value) (n : Int) (w : World) (h1 : ArgS Try.prog w 68 v1) (h2 : ArgS Try.prog w 9 v2) (h3 : (Lit.int .u64 n).wf = true) :
    Calls Try.prog 7 #[v1, v2, .int .u64 n] w fun e w' => e = .returned (.bool true) ∧ Upd [] w w' := by
  obtain ⟨a, len, cap, m, rfl, hr⟩ := h1.slice Try.underlying68
  obtain ⟨all, hall, hlen⟩ := strs_open hr
  obtain ⟨s, rfl, _⟩ := h2.str Try.underlying9
  have hn : 0 ≤ n := by
    have e : IntKind.u64.min = 0 := by decide
    simp [Lit.wf] at h3
    omega
  refine law_of (vs := [.slice a len cap, .string s, .int .u64 n]) (lits_pf (all := all) (s := s) hn hlen) rfl fun j x hj => ?_
  match j, hj with
  | 0, hj => injection hj with hj; subst hj; exact hall
  | 1, hj => injection hj with hj; subst hj; exact PRel.raw rfl
  | 2, hj => injection hj with hj; subst hj; exact PRel.raw rfl
  | j + 3, hj => simp at hj
end Go.Proofs.Ythmpaepdbjldfaa
