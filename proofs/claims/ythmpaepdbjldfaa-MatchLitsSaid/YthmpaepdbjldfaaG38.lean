/-
  Texts of this claim, merged: TT, FilA, FilB. Lemmas and contracts; no conditions of our own.
-/
import Derived.Test.YthmpaepdbjldfaaG13
import Derived.Test.YthmpaepdbjldfaaG16
import Derived.Test.YthmpaepdbjldfaaG26
import Derived.Test.YthmpaepdbjldfaaG37

/-
  (*match.filler).row, told by trees.
-/
namespace Go.Proofs.Ythmpaepdbjldfaa
set_option linter.unusedVariables false
set_option linter.unusedSimpArgs false
open Go.RowKit Go.Shelf
set_option linter.unusedSimpArgs false

theorem many_bound : ∀ (n : Nat) (s : List Bd) (t : Dat) (pl : Bool) (q : ByteArray), q ∈ manyN n s t pl → ∃ x, atF s q = some x
  | 0, _, _, _, q, h => by simp [manyN] at h
  | n + 1, s, t, pl, q, h => by
    unfold manyN at h
    split at h
    · split at h
      · rename_i x hx
        split at h
        · rw [List.mem_singleton.1 h]
          exact ⟨x, hx⟩
        · simp at h
      · simp at h
    · split at h
      · exact many_bound n s _ _ q h
      · obtain ⟨y, _, hy⟩ := List.mem_flatMap.1 h
        exact many_bound n s y pl q hy
def trF (s : List Bd) (q : ByteArray) : Tr := (atF s q).getD default
/-- A state of row, behind the names. -/
def stR (x : Dat) (s : List Bd) (k : Nat) (pl : Bool) (st : St) (ns : List ByteArray) (v : Nat) (ts : List Tr) (more : List (Nat × TX)) : TS :=
  tsL ([(0, ptX 0), (2, one (.sl 10 (s.map encB))), (3, iX k), (4, bX pl), (6, ptX 1), (11, one (.sl 1 (ns.map encS))), (13, .a (.one (.os 0 v)))] ++ more) [(0, .cells 93 (cP (stC st))), (1, .cells 27 (cP (enc x)))] [(0, .tok 64 9 v (ts.map encT))] 2 1 109
/-- What the loop over the names knows. -/
structure LN (s : List Bd) (ns : List ByteArray) (j : Nat) (c : Int) : Prop where
  hj : j ≤ ns.length
  h0 : j = 0 → c = -1
  h1 : 0 < j → 0 ≤ c ∧ ∀ i, i < j → ((trF s (ns.getD i default)).kids.length : Int) = c
def FN (s : List Bd) (ns : List ByteArray) (c : Int) (ts : List Tr) : Prop := (c < 0 ∧ kidsN s ns = none) ∨ ∃ c' : Nat, c = c' ∧ kidsN s ns = some c' ∧ ts = ns.map (trF s)
theorem LN.done {s : List Bd} {ns : List ByteArray} {j : Nat} {c : Int} (h : LN s ns j c) (hj : ns.length ≤ j) : FN s ns c ((ns.take j).map (trF s)) := by
  rw [List.take_of_length_le hj]
  cases ns with
  | nil =>
    have := h.h0 (by have := h.hj; simpa using this)
    exact .inl ⟨by omega, rfl⟩
  | cons nm r =>
    have hp : 0 < j := by simp at hj; omega
    obtain ⟨c0, ha⟩ := h.h1 hp
    refine .inr ⟨(trF s nm).kids.length, (ha 0 hp).symm, ?_, rfl⟩
    have hall : (r.all fun q => decide (((atF s q).getD default).kids.length = ((atF s nm).getD default).kids.length)) = true := by
      rw [List.all_eq_true]
      intro q hq
      obtain ⟨i, hi, rfl⟩ := List.getElem_of_mem hq
      have e1 := ha (i + 1) (by simp at hj; omega)
      have e0 := ha 0 hp
      rw [List.getD_cons_succ, List.getD_eq_getElem?_getD, List.getElem?_eq_getElem hi] at e1
      rw [List.getD_cons_zero] at e0
      simp only [Option.getD_some] at e1
      have e2 : (trF s r[i]).kids.length = (trF s nm).kids.length := by omega
      rw [decide_eq_true_eq]
      exact e2
    show (if _ then _ else _) = _
    rw [if_pos hall]
    rfl
theorem LN.bad {s : List Bd} {ns : List ByteArray} {j : Nat} {c : Int} (h : LN s ns j c) (h0 : 0 < j) (hj : j < ns.length) (hne : ((trF s (ns.getD j default)).kids.length : Int) ≠ c) {ts : List Tr} : FN s ns (-2) ts := by
  refine .inl ⟨by omega, ?_⟩
  cases hk : kidsN s ns with
  | none => rfl
  | some c' =>
    have ha := kids_all hk
    obtain ⟨_, hb⟩ := h.h1 h0
    have e1 := ha (ns.getD 0 default) (by rw [List.getD_eq_getElem?_getD, List.getElem?_eq_getElem (by omega)]; exact List.getElem_mem _)
    have e2 := ha (ns.getD j default) (by rw [List.getD_eq_getElem?_getD, List.getElem?_eq_getElem hj]; exact List.getElem_mem _)
    have e3 := hb 0 h0
    have e1' : (trF s (ns.getD 0 default)).kids.length = c' := e1
    have e2' : (trF s (ns.getD j default)).kids.length = c' := e2
    exact absurd (by omega) hne
theorem LN.more {s : List Bd} {ns : List ByteArray} {j : Nat} {c c' : Int} (h : LN s ns j c) (hj : j < ns.length) (hc : ((trF s (ns.getD j default)).kids.length : Int) = c') (hs : 0 < j → c' = c) : LN s ns (j + 1) c' := by
  refine ⟨hj, fun q => by omega, fun _ => ⟨by omega, fun i hi => ?_⟩⟩
  by_cases e : i = j
  · subst e
    exact hc
  · have hp : 0 < j := by omega
    rw [hs hp]
    exact (h.h1 hp).2 i (by omega)
theorem take_tr {s : List Bd} {ns : List ByteArray} {j : Nat} (hj : j < ns.length) : (ns.take (j + 1)).map (trF s) = (ns.take j).map (trF s) ++ [trF s (ns.getD j default)] := by
  rw [List.take_succ_eq_append_getElem hj, List.map_append, List.getD_eq_getElem?_getD, List.getElem?_eq_getElem hj]
  rfl
theorem getD_encS {xs : List ByteArray} {i : Nat} (h : i < xs.length) : (xs.map encS).getD i [] = [.raw (.string (xs.getD i default))] := by
  simp [List.getD_eq_getElem?_getD, h, encS]
def stQ (x : Dat) (s : List Bd) (k : Nat) (pl : Bool) (st : St) (ns : List ByteArray) (v : Nat) (acc : List Dat) (more : List (Nat × TX)) (mt : List (Nat × TK)) (nt : Nat) : TS :=
  tsL ([(0, ptX 0), (2, one (.sl 10 (s.map encB))), (3, iX k), (4, bX pl), (6, ptX 1), (11, one (.sl 1 (ns.map encS))), (13, one (.sl 9 ((ns.map (trF s)).map encT))), (18, .a (.one (.os 0 v)))] ++ more) [(0, .cells 93 (cP (stC st))), (1, .cells 27 (cP (enc x)))] ((0, .tok 27 7 v (acc.map enc)) :: mt) 2 nt 109
abbrev fR (m n : Nat) (x : Dat) (pl : Bool) (k : Nat) (s : List Bd) (st : St) : List Dat × St := rowF (fun s st => fillN m n x s pl st) (fun s => manyN n s x pl) k s st
structure LK (m n : Nat) (x : Dat) (pl : Bool) (k : Nat) (s : List Bd) (ns : List ByteArray) (c : Nat) (st : St) (i : Nat) (acc : List Dat) (st2 : St) : Prop where
  hi : i ≤ c
  hr : (acc, st2) = (List.range i).foldl (fun a i => (a.1 ++ (fR m n x pl k (inner s ns i ++ s) a.2).1, (fR m n x pl k (inner s ns i ++ s) a.2).2)) ([], st)
  hc : CostL n (szL (szN (m + n)) acc) st st2
  hw : ∀ y ∈ acc, wfD (m + n) y
theorem LK.next {m n : Nat} {x : Dat} {pl : Bool} {k : Nat} {s : List Bd} {ns : List ByteArray} {c : Nat} {st : St} {i : Nat} {acc : List Dat} {st2 : St} (h : LK m n x pl k s ns c st i acc st2) (hi : i < c) {a : List Dat × St} (ha : a = fR m n x pl k (inner s ns i ++ s) st2) (hc : CostL n (szL (szN (m + n)) a.1) st2 a.2) (hw : ∀ y ∈ a.1, wfD (m + n) y) : LK m n x pl k s ns c st (i + 1) (acc ++ a.1) a.2 := by
  refine ⟨hi, ?_, ?_, fun y hy => ?_⟩
  · rw [List.range_succ, List.foldl_append, ← h.hr]
    show _ = (acc ++ (fR m n x pl k (inner s ns i ++ s) st2).1, (fR m n x pl k (inner s ns i ++ s) st2).2)
    rw [← ha]
  · rw [szL_append]
    exact h.hc.trans hc
  · rcases List.mem_append.1 hy with hy | hy
    · exact h.hw y hy
    · exact hw y hy
theorem inner_take {s : List Bd} {ns : List ByteArray} {i j : Nat} (hj : j < ns.length) : (inner s ns i).take (j + 1) = (inner s ns i).take j ++ [⟨ns.getD j default, (trF s (ns.getD j default)).kids.getD i default⟩] := by
  have hl : j < (inner s ns i).length := by simpa [inner] using hj
  rw [List.take_succ_eq_append_getElem hl]
  simp [inner, trF, List.getD_eq_getElem?_getD, hj]
theorem kids_few {m N : Nat} {s : List Bd} {ns : List ByteArray} {c : Nat} (hs : wfS m N s) (h : kidsN s ns = some c) : c ≤ 1000000 := by
  cases ns with
  | nil => cases h
  | cons q r =>
    have hl := kids_all h q (by simp)
    cases ha : atF s q with
    | none =>
      rw [ha] at hl
      have e : (Option.getD (none : Option Tr) default).kids.length = 0 := rfl
      omega
    | some x =>
      rw [ha] at hl
      obtain ⟨b, hb, e⟩ := atF_mem ha
      have hx := hs b hb
      rw [e] at hx
      cases N with
      | zero => exact hx.elim
      | succ N =>
        have := hx.2.1
        have hl' : x.kids.length = c := hl
        omega
theorem getD_encT {xs : List Tr} {i : Nat} (h : i < xs.length) : (xs.map encT).getD i [] = encT (xs.getD i default) := by
  simp [List.getD_eq_getElem?_getD, h]
set_option maxRecDepth 100000 in
set_option maxHeartbeats 4000000 in
theorem frow_step (n : Nat) (ih : FillSaid n) (k : Nat) (ihk : ∀ k', k' < k → ∀ (m N : Nat) (x : Dat) (s : List Bd) (pl : Bool) (st : St) (r : List Dat × St), RowPre m N n k' x s st → r = rowF (fun s st => fillN m n x s pl st) (fun s => manyN n s x pl) k' s st → RFun Try.prog 82 93 (stC st) [.agg (enc x), .one (.sl 10 (s.map encB)), .one (.raw (.int .i64 k')), .one (.raw (.bool pl))] (fun X cs' => X = .a (.one (.sl 7 (r.1.map enc))) ∧ cs' = stC r.2 ∧ ∀ y ∈ r.1, wfD (m + n) y))
    (m N : Nat) (x : Dat) (s : List Bd) (pl : Bool) (st : St) (r : List Dat × St) (h : RowPre m N n k x s st) (hr : r = rowF (fun s st => fillN m n x s pl st) (fun s => manyN n s x pl) k s st) : RFun Try.prog 82 93 (stC st) [.agg (enc x), .one (.sl 10 (s.map encB)), .one (.raw (.int .i64 k)), .one (.raw (.bool pl))] (fun X cs' => X = .a (.one (.sl 7 (r.1.map enc))) ∧ cs' = stC r.2 ∧ ∀ y ∈ r.1, wfD (m + n) y) := by
  obtain ⟨hn, hw, hg, hz, hs, hl, he, hlo, hhi, hm1⟩ := h
  refine RFun.enter Try.func82 rfl _ Try.ntmps82 (by simp) ?_
  have F := And.intro qr (And.intro @enc_eq stC.eq_1)
  have y := And.intro ty_1 (And.intro ty_2 (And.intro ty_3 (And.intro ty_4 (And.intro ty_5 (And.intro ty_9 (And.intro ty_10 (And.intro ty_25 (And.intro ty_27 (And.intro ty_34 (And.intro ty_54 (And.intro ty_62 (And.intro ty_63 (And.intro ty_64 (And.intro ty_66 (And.intro ty_68 (And.intro ty_83 (And.intro ty_91 (And.intro ty_92 (And.intro ty_93 (And.intro ty_109 (And.intro ty_122 (And.intro ty_24 (And.intro ty_22 (ty_60))))))))))))))))))))))))
  by_cases he0 : st.e = 0
  · have F := And.intro F (show (st.e != 0) = false by simp [he0])
    by_cases hk : k = 0
    · have hR : r = ([(fillN m n x s pl st).1], (fillN m n x s pl st).2) := by
        rw [hr, hk, rowF, if_neg (by simpa using he0)]
      have F := And.intro F (show ((k : Int) == 0) = true by simp [hk])
      repeat' with_reducible first | (refine L.nil ?_; try dsimp only [thenK, blockK]) | refine G.ops ?_ | refine G.last ?_ | refine G.alloc ?_ | refine G.box ?_ | refine G.store ?_ | refine G.build ?_ | refine G.quiet ?_ | refine G.then ?_ | refine G.else ?_ | (refine CodeT.skip ?_; dsimp only [thenK, blockK, reduceIte, Nat.reduceEqDiff]) | (refine CodeT.exit ?_; dsimp only [thenK, blockK, reduceIte, Nat.reduceEqDiff]) | refine G.ifT ?_ | refine G.ifF ?_ | refine CodeT.seq ?_ | refine CodeT.block ?_ | fail
      refine G.rcall (g := 0) (enters_of Try.func52 (by kernel_rfl) rfl) (ih m N x s pl st ⟨hn, hw, hg, by omega, hs, by omega, he, hlo, hhi, hm1⟩) ?_
      rintro X cs' ⟨rfl, rfl, hwy⟩
      refine G.listed ?_
      repeat' with_reducible first | (refine L.nil ?_; try dsimp only [thenK, blockK]) | refine G.ops ?_ | refine G.last ?_ | refine G.alloc ?_ | refine G.box ?_ | refine G.store ?_ | refine G.build ?_ | refine G.quiet ?_ | refine G.then ?_ | refine G.else ?_ | (refine CodeT.skip ?_; dsimp only [thenK, blockK, reduceIte, Nat.reduceEqDiff]) | (refine CodeT.exit ?_; dsimp only [thenK, blockK, reduceIte, Nat.reduceEqDiff]) | refine G.ifT ?_ | refine G.ifF ?_ | refine CodeT.seq ?_ | refine CodeT.block ?_ | fail
      refine CodeT.ret ⟨.a (.one (.sl 7 [enc (fillN m n x s pl st).1])), .a (.one (.sl 7 (r.1.map enc))), stC r.2, ?_, ?_, ?_, rfl, rfl, ?_⟩
      · simp only [Try.results82, resT, resL, resV, q0, y, F, Nat.reduceLT, Nat.reduceAdd, Nat.reduceEqDiff, Nat.reduceLeDiff, Nat.reduceBNe, Int.reduceToNat, reduceIte, reduceCtorEq]
      · rw [hR]
        exact .a (PA.le_refl _)
      · rw [hR]
        simp only [q0, y, F, Nat.reduceLT, Nat.reduceAdd, Nat.reduceEqDiff, Nat.reduceLeDiff, Nat.reduceBNe, Int.reduceToNat, reduceIte, reduceCtorEq]
      · rw [hR]
        simpa using hwy
    · have F := And.intro F (show ((k : Int) == 0) = false by simp [hk])
      obtain ⟨k', rfl⟩ : ∃ k', k = k' + 1 := ⟨k - 1, by omega⟩
      obtain ⟨ns, hns⟩ : ∃ ns, ns = manyN n s x pl := ⟨_, rfl⟩
      repeat' with_reducible first | (refine L.nil ?_; try dsimp only [thenK, blockK]) | refine G.ops ?_ | refine G.last ?_ | refine G.alloc ?_ | refine G.box ?_ | refine G.store ?_ | refine G.build ?_ | refine G.quiet ?_ | refine G.then ?_ | refine G.else ?_ | (refine CodeT.skip ?_; dsimp only [thenK, blockK, reduceIte, Nat.reduceEqDiff]) | (refine CodeT.exit ?_; dsimp only [thenK, blockK, reduceIte, Nat.reduceEqDiff]) | refine G.ifT ?_ | refine G.ifF ?_ | refine CodeT.seq ?_ | refine CodeT.block ?_ | fail
      refine G.pcall (enters_of Try.func104 (by kernel_rfl) rfl) (many_pf pl hs (by omega) hw (by omega)) ?_
      rintro X rfl
      rw [← hns]
      repeat' with_reducible first | (refine L.nil ?_; try dsimp only [thenK, blockK]) | refine G.ops ?_ | refine G.last ?_ | refine G.alloc ?_ | refine G.box ?_ | refine G.store ?_ | refine G.build ?_ | refine G.quiet ?_ | refine G.then ?_ | refine G.else ?_ | (refine CodeT.skip ?_; dsimp only [thenK, blockK, reduceIte, Nat.reduceEqDiff]) | (refine CodeT.exit ?_; dsimp only [thenK, blockK, reduceIte, Nat.reduceEqDiff]) | refine G.ifT ?_ | refine G.ifF ?_ | fail
      refine CodeT.adoptT 13 (by simp only [q0, y, F, Nat.reduceLT, Nat.reduceAdd, Nat.reduceEqDiff, Nat.reduceLeDiff, Nat.reduceBNe, Int.reduceToNat, reduceIte, reduceCtorEq]; first | done | fail) (by simp only [q0, y, F, Nat.reduceLT, Nat.reduceAdd, Nat.reduceEqDiff, Nat.reduceLeDiff, Nat.reduceBNe, Int.reduceToNat, reduceIte, reduceCtorEq]; first | done | fail) 64 9 ?_
      refine C.midE (ι := {p : Int × Nat × List Tr // FN s ns p.1 p.2.2}) (fun p => stR x s (k' + 1) pl st ns p.1.2.1 p.1.2.2 [(12, iX p.1.1)]) ?_ ?_
      · have hnl : ns.length ≤ 5000 := by
          have := manyN_len n s x pl
          rw [← hns] at this
          omega
        repeat' with_reducible first | (refine L.nil ?_; try dsimp only [thenK, blockK]) | refine G.ops ?_ | refine G.last ?_ | refine G.alloc ?_ | refine G.box ?_ | refine G.store ?_ | refine G.build ?_ | refine G.quiet ?_ | refine G.then ?_ | refine G.else ?_ | (refine CodeT.skip ?_; dsimp only [thenK, blockK, reduceIte, Nat.reduceEqDiff]) | (refine CodeT.exit ?_; dsimp only [thenK, blockK, reduceIte, Nat.reduceEqDiff]) | refine G.ifT ?_ | refine G.ifF ?_ | fail
        refine CodeT.block ?_
        refine CodeT.loop (ι := {p : Nat × Int × Nat // LN s ns p.1 p.2.1}) (fun p => stR x s (k' + 1) pl st ns p.1.2.2 ((ns.take p.1.1).map (trF s)) [(12, iX p.1.2.1), (40, one (.sl 1 (ns.map encS))), (41, iX ns.length), (42, iX (p.1.1 : Int))]) (fun p => ns.length - p.1.1) ⟨(0, -1, 0), ⟨Nat.zero_le _, fun _ => rfl, fun q => absurd q (by simp)⟩⟩ (by show Weak _ _ (stR x s (k' + 1) pl st ns 0 [] [(12, iX (-1)), (40, one (.sl 1 (ns.map encS))), (41, iX ns.length), (42, iX 0)]); dsimp only [stR]; exact G.wkM) ?_
        rintro ⟨⟨j, c, v⟩, hP⟩
        dsimp only at hP ⊢
        have F := And.intro F stR.eq_1
        by_cases hj : j < ns.length
        · obtain ⟨q, hq⟩ : ∃ q, q = ns.getD j default := ⟨_, rfl⟩
          have hqm : q ∈ ns := by rw [hq, List.getD_eq_getElem?_getD, List.getElem?_eq_getElem hj]; exact List.getElem_mem _
          obtain ⟨x', hx'⟩ := many_bound n s x pl q (by rw [← hns]; exact hqm)
          have htr : trF s q = x' := by unfold trF; rw [hx']; rfl
          have F := And.intro F (And.intro (decide_eq_true (show (j : Int) < (ns.length : Int) by omega)) (And.intro (show (List.map encS ns).getD j [] = [.raw (.string q)] by rw [hq]; exact getD_encS hj) (And.intro (show ((j : Nat) : Int).toNat = j by omega) (And.intro encT_eq (@List.map_append Tr (List PV) encT)))))
          repeat' with_reducible first | (refine L.nil ?_; try dsimp only [thenK, blockK]) | refine G.ops ?_ | refine G.last ?_ | refine G.alloc ?_ | refine G.box ?_ | refine G.store ?_ | refine G.build ?_ | refine G.quiet ?_ | refine G.then ?_ | refine G.else ?_ | (refine CodeT.skip ?_; dsimp only [thenK, blockK, reduceIte, Nat.reduceEqDiff]) | (refine CodeT.exit ?_; dsimp only [thenK, blockK, reduceIte, Nat.reduceEqDiff]) | refine G.ifT ?_ | refine G.ifF ?_ | fail
          refine CodeT.seq ?_
          repeat' with_reducible first | (refine L.nil ?_; try dsimp only [thenK, blockK]) | refine G.ops ?_ | refine G.last ?_ | refine G.alloc ?_ | refine G.box ?_ | refine G.store ?_ | refine G.build ?_ | refine G.quiet ?_ | refine G.then ?_ | refine G.else ?_ | (refine CodeT.skip ?_; dsimp only [thenK, blockK, reduceIte, Nat.reduceEqDiff]) | (refine CodeT.exit ?_; dsimp only [thenK, blockK, reduceIte, Nat.reduceEqDiff]) | refine G.ifT ?_ | refine G.ifF ?_ | fail
          refine CodeT.seq ?_
          refine CodeT.block ?_
          repeat' with_reducible first | (refine L.nil ?_; try dsimp only [thenK, blockK]) | refine G.ops ?_ | refine G.last ?_ | refine G.alloc ?_ | refine G.box ?_ | refine G.store ?_ | refine G.build ?_ | refine G.quiet ?_ | refine G.then ?_ | refine G.else ?_ | (refine CodeT.skip ?_; dsimp only [thenK, blockK, reduceIte, Nat.reduceEqDiff]) | (refine CodeT.exit ?_; dsimp only [thenK, blockK, reduceIte, Nat.reduceEqDiff]) | refine G.ifT ?_ | refine G.ifF ?_ | fail
          refine G.pcall (enters_of Try.func103 (by kernel_rfl) rfl) (at_pf q hs (by omega)) ?_
          rintro X rfl
          rw [hx']
          dsimp only [atX]
          repeat' with_reducible first | (refine L.nil ?_; try dsimp only [thenK, blockK]) | refine G.ops ?_ | refine G.last ?_ | refine G.alloc ?_ | refine G.box ?_ | refine G.store ?_ | refine G.build ?_ | refine G.quiet ?_ | refine G.then ?_ | refine G.else ?_ | (refine CodeT.skip ?_; dsimp only [thenK, blockK, reduceIte, Nat.reduceEqDiff]) | (refine CodeT.exit ?_; dsimp only [thenK, blockK, reduceIte, Nat.reduceEqDiff]) | refine G.ifT ?_ | refine G.ifF ?_ | fail
          have F := And.intro F (And.intro (IntWalk.i64_in ((j : Int) + 1) (by omega)) (And.intro (show ((j + 1 : Nat) : Int) = (j : Int) + 1 by omega) (show (ns.take (j + 1)).map (trF s) = (ns.take j).map (trF s) ++ [x'] by rw [take_tr hj, ← hq, htr])))
          by_cases hj0 : j = 0
          · have F := And.intro F (And.intro (decide_eq_true (show c < 0 by have := hP.h0 hj0; omega)) (show (((x'.kids.length : Nat) : Int) != ((x'.kids.length : Nat) : Int)) = false by simp))
            repeat' with_reducible first | (refine L.nil ?_; try dsimp only [thenK, blockK]) | refine G.ops ?_ | refine G.last ?_ | refine G.alloc ?_ | refine G.box ?_ | refine G.store ?_ | refine G.build ?_ | refine G.quiet ?_ | refine G.then ?_ | refine G.else ?_ | (refine CodeT.skip ?_; dsimp only [thenK, blockK, reduceIte, Nat.reduceEqDiff]) | (refine CodeT.exit ?_; dsimp only [thenK, blockK, reduceIte, Nat.reduceEqDiff]) | refine G.ifT ?_ | refine G.ifF ?_ | refine CodeT.seq ?_ | refine CodeT.block ?_ | fail
            refine G.listed ?_
            refine G.append ?_
            repeat' with_reducible first | (refine L.nil ?_; try dsimp only [thenK, blockK]) | refine G.ops ?_ | refine G.last ?_ | refine G.alloc ?_ | refine G.box ?_ | refine G.store ?_ | refine G.build ?_ | refine G.quiet ?_ | refine G.then ?_ | refine G.else ?_ | (refine CodeT.skip ?_; dsimp only [thenK, blockK, reduceIte, Nat.reduceEqDiff]) | (refine CodeT.exit ?_; dsimp only [thenK, blockK, reduceIte, Nat.reduceEqDiff]) | refine G.ifT ?_ | refine G.ifF ?_ | refine CodeT.seq ?_ | refine CodeT.block ?_ | fail
            exact ⟨⟨(j + 1, (x'.kids.length : Int), v + 1), hP.more hj (by rw [← hq, htr]) (fun q => by omega)⟩, by show ns.length - (j + 1) < ns.length - j; omega, (by dsimp only [stR]; exact G.wkM)⟩
          · obtain ⟨hc0, _⟩ := hP.h1 (by omega)
            by_cases hcx : ((x'.kids.length : Nat) : Int) = c
            · have F := And.intro F (And.intro (decide_eq_false (show ¬ c < 0 by omega)) (show (((x'.kids.length : Nat) : Int) != c) = false by simp [hcx]))
              repeat' with_reducible first | (refine L.nil ?_; try dsimp only [thenK, blockK]) | refine G.ops ?_ | refine G.last ?_ | refine G.alloc ?_ | refine G.box ?_ | refine G.store ?_ | refine G.build ?_ | refine G.quiet ?_ | refine G.then ?_ | refine G.else ?_ | (refine CodeT.skip ?_; dsimp only [thenK, blockK, reduceIte, Nat.reduceEqDiff]) | (refine CodeT.exit ?_; dsimp only [thenK, blockK, reduceIte, Nat.reduceEqDiff]) | refine G.ifT ?_ | refine G.ifF ?_ | refine CodeT.seq ?_ | refine CodeT.block ?_ | fail
              refine G.listed ?_
              refine G.append ?_
              repeat' with_reducible first | (refine L.nil ?_; try dsimp only [thenK, blockK]) | refine G.ops ?_ | refine G.last ?_ | refine G.alloc ?_ | refine G.box ?_ | refine G.store ?_ | refine G.build ?_ | refine G.quiet ?_ | refine G.then ?_ | refine G.else ?_ | (refine CodeT.skip ?_; dsimp only [thenK, blockK, reduceIte, Nat.reduceEqDiff]) | (refine CodeT.exit ?_; dsimp only [thenK, blockK, reduceIte, Nat.reduceEqDiff]) | refine G.ifT ?_ | refine G.ifF ?_ | refine CodeT.seq ?_ | refine CodeT.block ?_ | fail
              exact ⟨⟨(j + 1, c, v + 1), hP.more hj (by rw [← hq, htr]; exact hcx) (fun _ => rfl)⟩, by show ns.length - (j + 1) < ns.length - j; omega, (by dsimp only [stR]; exact G.wkM)⟩
            · have F := And.intro F (And.intro (decide_eq_false (show ¬ c < 0 by omega)) (show (((x'.kids.length : Nat) : Int) != c) = true by simp [hcx]))
              repeat' with_reducible first | (refine L.nil ?_; try dsimp only [thenK, blockK]) | refine G.ops ?_ | refine G.last ?_ | refine G.alloc ?_ | refine G.box ?_ | refine G.store ?_ | refine G.build ?_ | refine G.quiet ?_ | refine G.then ?_ | refine G.else ?_ | (refine CodeT.skip ?_; dsimp only [thenK, blockK, reduceIte, Nat.reduceEqDiff]) | (refine CodeT.exit ?_; dsimp only [thenK, blockK, reduceIte, Nat.reduceEqDiff]) | refine G.ifT ?_ | refine G.ifF ?_ | refine CodeT.seq ?_ | refine CodeT.block ?_ | fail
              exact ⟨⟨(-2, v, (ns.take j).map (trF s)), hP.bad (by omega) hj (by rw [← hq, htr]; exact hcx)⟩, (by dsimp only [stR]; exact G.wkM)⟩
        · have F := And.intro F (decide_eq_false (show ¬ (j : Int) < (ns.length : Int) by omega))
          repeat' with_reducible first | (refine L.nil ?_; try dsimp only [thenK, blockK]) | refine G.ops ?_ | refine G.last ?_ | refine G.alloc ?_ | refine G.box ?_ | refine G.store ?_ | refine G.build ?_ | refine G.quiet ?_ | refine G.then ?_ | refine G.else ?_ | (refine CodeT.skip ?_; dsimp only [thenK, blockK, reduceIte, Nat.reduceEqDiff]) | (refine CodeT.exit ?_; dsimp only [thenK, blockK, reduceIte, Nat.reduceEqDiff]) | refine G.ifT ?_ | refine G.ifF ?_ | fail
          refine CodeT.seq ?_
          repeat' with_reducible first | (refine L.nil ?_; try dsimp only [thenK, blockK]) | refine G.ops ?_ | refine G.last ?_ | refine G.alloc ?_ | refine G.box ?_ | refine G.store ?_ | refine G.build ?_ | refine G.quiet ?_ | refine G.then ?_ | refine G.else ?_ | (refine CodeT.skip ?_; dsimp only [thenK, blockK, reduceIte, Nat.reduceEqDiff]) | (refine CodeT.exit ?_; dsimp only [thenK, blockK, reduceIte, Nat.reduceEqDiff]) | refine G.ifT ?_ | refine G.ifF ?_ | fail
          exact ⟨⟨(c, v, (ns.take j).map (trF s)), hP.done (by omega)⟩, (by dsimp only [stR]; exact G.wkM)⟩
      · rintro ⟨⟨c, v, ts⟩, hF⟩
        dsimp only at hF ⊢
        have F0 := F
        have F := And.intro F stR.eq_1
        rcases hF with ⟨hc, hkn⟩ | ⟨c', rfl, hkn, rfl⟩
        · have hR : r = ([], st.fail 5) := by
            rw [hr, rowF, if_neg (by simpa using he0), ← hns, hkn]
          have F := And.intro F (decide_eq_true hc)
          repeat' with_reducible first | (refine L.nil ?_; try dsimp only [thenK, blockK]) | refine G.ops ?_ | refine G.last ?_ | refine G.alloc ?_ | refine G.box ?_ | refine G.store ?_ | refine G.build ?_ | refine G.quiet ?_ | refine G.then ?_ | refine G.else ?_ | (refine CodeT.skip ?_; dsimp only [thenK, blockK, reduceIte, Nat.reduceEqDiff]) | (refine CodeT.exit ?_; dsimp only [thenK, blockK, reduceIte, Nat.reduceEqDiff]) | refine G.ifT ?_ | refine G.ifF ?_ | refine CodeT.seq ?_ | refine CodeT.block ?_ | fail
          refine G.rcall (g := 0) (enters_of Try.func78 (by kernel_rfl) rfl) (fail_rf (st := st) 5) ?_
          rintro X cs' ⟨rfl, rfl⟩
          repeat' with_reducible first | (refine L.nil ?_; try dsimp only [thenK, blockK]) | refine G.ops ?_ | refine G.last ?_ | refine G.alloc ?_ | refine G.box ?_ | refine G.store ?_ | refine G.build ?_ | refine G.quiet ?_ | refine G.then ?_ | refine G.else ?_ | (refine CodeT.skip ?_; dsimp only [thenK, blockK, reduceIte, Nat.reduceEqDiff]) | (refine CodeT.exit ?_; dsimp only [thenK, blockK, reduceIte, Nat.reduceEqDiff]) | refine G.ifT ?_ | refine G.ifF ?_ | refine CodeT.seq ?_ | refine CodeT.block ?_ | fail
          refine CodeT.ret ⟨.a (.one (.raw (.slice none 0 0))), .a (.one (.sl 7 (r.1.map enc))), stC r.2, ?_, ?_, ?_, rfl, rfl, ?_⟩
          · simp only [Try.results82, resT, resL, resV, q0, y, F, Nat.reduceLT, Nat.reduceAdd, Nat.reduceEqDiff, Nat.reduceLeDiff, Nat.reduceBNe, Int.reduceToNat, reduceIte, reduceCtorEq]
          · rw [hR]
            exact .a (.one (.nil 7))
          · rw [hR]
            simp only [q0, y, F, Nat.reduceLT, Nat.reduceAdd, Nat.reduceEqDiff, Nat.reduceLeDiff, Nat.reduceBNe, Int.reduceToNat, reduceIte, reduceCtorEq]
          · rw [hR]
            simp
        · have F := And.intro F (And.intro (decide_eq_false (show ¬ ((c' : Nat) : Int) < 0 by omega)) qf)
          refine CodeT.frz (t := 0) (by simp only [q0, y, F, Nat.reduceLT, Nat.reduceAdd, Nat.reduceEqDiff, Nat.reduceLeDiff, Nat.reduceBNe, Int.reduceToNat, reduceIte, reduceCtorEq]; first | done | rfl) ?_
          refine CodeT.weak (S2 := tsL [(0, ptX 0), (2, one (.sl 10 (s.map encB))), (3, iX ((k' + 1 : Nat) : Int)), (4, bX pl), (6, ptX 1), (11, one (.sl 1 (ns.map encS))), (12, iX c'), (13, one (.sl 9 ((ns.map (trF s)).map encT)))] [(0, .cells 93 (cP (stC st))), (1, .cells 27 (cP (enc x)))] [] 2 0 109) (G.wkM) ?_
          have hc5 : c' ≤ 1000000 := kids_few hs hkn
          have hnl : ns.length ≤ szN n x := by rw [hns]; exact manyN_len n s x pl
          refine CodeT.seq ?_
          repeat' with_reducible first | (refine L.nil ?_; try dsimp only [thenK, blockK]) | refine G.ops ?_ | refine G.last ?_ | refine G.alloc ?_ | refine G.box ?_ | refine G.store ?_ | refine G.build ?_ | refine G.quiet ?_ | refine G.then ?_ | refine G.else ?_ | (refine CodeT.skip ?_; dsimp only [thenK, blockK, reduceIte, Nat.reduceEqDiff]) | (refine CodeT.exit ?_; dsimp only [thenK, blockK, reduceIte, Nat.reduceEqDiff]) | refine G.ifT ?_ | refine G.ifF ?_ | fail
          refine CodeT.adoptT 18 (by simp only [q0, y, F, Nat.reduceLT, Nat.reduceAdd, Nat.reduceEqDiff, Nat.reduceLeDiff, Nat.reduceBNe, Int.reduceToNat, reduceIte, reduceCtorEq]; first | done | fail) (by simp only [q0, y, F, Nat.reduceLT, Nat.reduceAdd, Nat.reduceEqDiff, Nat.reduceLeDiff, Nat.reduceBNe, Int.reduceToNat, reduceIte, reduceCtorEq]; first | done | fail) 27 7 ?_
          refine C.midE (ι := {p : Nat × List Dat × St // LK m n x pl k' s ns c' st c' p.2.1 p.2.2}) (fun p => stQ x s (k' + 1) pl p.1.2.2 ns p.1.1 p.1.2.1 [] [] 1) ?_ ?_
          · have F := And.intro F stQ.eq_1
            repeat' with_reducible first | (refine L.nil ?_; try dsimp only [thenK, blockK]) | refine G.ops ?_ | refine G.last ?_ | refine G.alloc ?_ | refine G.box ?_ | refine G.store ?_ | refine G.build ?_ | refine G.quiet ?_ | refine G.then ?_ | refine G.else ?_ | (refine CodeT.skip ?_; dsimp only [thenK, blockK, reduceIte, Nat.reduceEqDiff]) | (refine CodeT.exit ?_; dsimp only [thenK, blockK, reduceIte, Nat.reduceEqDiff]) | refine G.ifT ?_ | refine G.ifF ?_ | fail
            refine CodeT.block ?_
            refine CodeT.loop (ι := {p : Nat × Nat × List Dat × St // LK m n x pl k' s ns c' st p.1 p.2.2.1 p.2.2.2}) (fun p => stQ x s (k' + 1) pl p.1.2.2.2 ns p.1.2.1 p.1.2.2.1 [(71, iX c'), (72, iX (p.1.1 : Int))] [] 1) (fun p => c' - p.1.1) ⟨(0, 0, [], st), ⟨Nat.zero_le _, rfl, CostL.refl n he, by simp⟩⟩ (by show Weak _ _ (stQ x s (k' + 1) pl st ns 0 [] [(71, iX c'), (72, iX 0)] [] 1); dsimp only [stQ]; exact G.wkM) ?_
            rintro ⟨⟨i, v, acc, st2⟩, hP⟩
            dsimp only at hP ⊢
            by_cases hi : i < c'
            · have hwi := inner_wf hs hkn hi
              have F := And.intro F (And.intro (decide_eq_true (show ((i : Nat) : Int) < ((c' : Nat) : Int) by omega)) (And.intro (show ((i : Nat) : Int).toNat = i by omega) (And.intro encT_eq (And.intro encB.eq_1 (And.intro (@List.map_append Bd (List PV) encB) (And.intro (IntWalk.i64_in ((i : Int) + 1) (by omega)) (show ((i + 1 : Nat) : Int) = (i : Int) + 1 by omega)))))))
              repeat' with_reducible first | (refine L.nil ?_; try dsimp only [thenK, blockK]) | refine G.ops ?_ | refine G.last ?_ | refine G.alloc ?_ | refine G.box ?_ | refine G.store ?_ | refine G.build ?_ | refine G.quiet ?_ | refine G.then ?_ | refine G.else ?_ | (refine CodeT.skip ?_; dsimp only [thenK, blockK, reduceIte, Nat.reduceEqDiff]) | (refine CodeT.exit ?_; dsimp only [thenK, blockK, reduceIte, Nat.reduceEqDiff]) | refine G.ifT ?_ | refine G.ifF ?_ | fail
              refine CodeT.seq ?_
              repeat' with_reducible first | (refine L.nil ?_; try dsimp only [thenK, blockK]) | refine G.ops ?_ | refine G.last ?_ | refine G.alloc ?_ | refine G.box ?_ | refine G.store ?_ | refine G.build ?_ | refine G.quiet ?_ | refine G.then ?_ | refine G.else ?_ | (refine CodeT.skip ?_; dsimp only [thenK, blockK, reduceIte, Nat.reduceEqDiff]) | (refine CodeT.exit ?_; dsimp only [thenK, blockK, reduceIte, Nat.reduceEqDiff]) | refine G.ifT ?_ | refine G.ifF ?_ | fail
              refine CodeT.seq ?_
              refine CodeT.block ?_
              repeat' with_reducible first | (refine L.nil ?_; try dsimp only [thenK, blockK]) | refine G.ops ?_ | refine G.last ?_ | refine G.alloc ?_ | refine G.box ?_ | refine G.store ?_ | refine G.build ?_ | refine G.quiet ?_ | refine G.then ?_ | refine G.else ?_ | (refine CodeT.skip ?_; dsimp only [thenK, blockK, reduceIte, Nat.reduceEqDiff]) | (refine CodeT.exit ?_; dsimp only [thenK, blockK, reduceIte, Nat.reduceEqDiff]) | refine G.ifT ?_ | refine G.ifF ?_ | fail
              refine CodeT.adoptT 20 (by simp only [q0, y, F, Nat.reduceLT, Nat.reduceAdd, Nat.reduceEqDiff, Nat.reduceLeDiff, Nat.reduceBNe, Int.reduceToNat, reduceIte, reduceCtorEq]; first | done | fail) (by simp only [q0, y, F, Nat.reduceLT, Nat.reduceAdd, Nat.reduceEqDiff, Nat.reduceLeDiff, Nat.reduceBNe, Int.reduceToNat, reduceIte, reduceCtorEq]; first | done | fail) 66 10 ?_
              refine C.midE (ι := Nat) (fun u => stQ x s (k' + 1) pl st2 ns v acc [(71, iX c'), (72, iX (i : Int)), (20, .a (.one (.os 1 u)))] [(1, .tok 66 10 u ((inner s ns i).map encB))] 2) ?_ ?_
              · repeat' with_reducible first | (refine L.nil ?_; try dsimp only [thenK, blockK]) | refine G.ops ?_ | refine G.last ?_ | refine G.alloc ?_ | refine G.box ?_ | refine G.store ?_ | refine G.build ?_ | refine G.quiet ?_ | refine G.then ?_ | refine G.else ?_ | (refine CodeT.skip ?_; dsimp only [thenK, blockK, reduceIte, Nat.reduceEqDiff]) | (refine CodeT.exit ?_; dsimp only [thenK, blockK, reduceIte, Nat.reduceEqDiff]) | refine G.ifT ?_ | refine G.ifF ?_ | fail
                refine CodeT.block ?_
                refine CodeT.loop (ι := {p : Nat × Nat // p.1 ≤ ns.length}) (fun p => stQ x s (k' + 1) pl st2 ns v acc [(71, iX c'), (72, iX (i : Int)), (19, iX (i : Int)), (20, .a (.one (.os 1 p.1.2))), (75, one (.sl 1 (ns.map encS))), (76, iX ns.length), (77, iX (p.1.1 : Int))] [(1, .tok 66 10 p.1.2 (((inner s ns i).take p.1.1).map encB))] 2) (fun p => ns.length - p.1.1) ⟨(0, 0), Nat.zero_le _⟩ (by show Weak _ _ (stQ x s (k' + 1) pl st2 ns v acc [(71, iX c'), (72, iX (i : Int)), (19, iX (i : Int)), (20, .a (.one (.os 1 0))), (75, one (.sl 1 (ns.map encS))), (76, iX ns.length), (77, iX 0)] [(1, .tok 66 10 0 [])] 2); dsimp only [stQ]; exact G.wkM) ?_
                rintro ⟨⟨j, u⟩, hjl⟩
                dsimp only at hjl ⊢
                by_cases hj : j < ns.length
                · obtain ⟨q, hq⟩ : ∃ q, q = ns.getD j default := ⟨_, rfl⟩
                  have hqm : q ∈ ns := by rw [hq, List.getD_eq_getElem?_getD, List.getElem?_eq_getElem hj]; exact List.getElem_mem _
                  obtain ⟨x', hx'⟩ := many_bound n s x pl q (by rw [← hns]; exact hqm)
                  have htr : trF s q = x' := by unfold trF; rw [hx']; rfl
                  have hkl : x'.kids.length = c' := by
                    have := kids_all hkn q hqm
                    rw [hx'] at this
                    exact this
                  have F := And.intro F (And.intro (decide_eq_true (show ((j : Nat) : Int) < ((ns.length : Nat) : Int) by omega)) (And.intro (show (List.map encS ns).getD j [] = [.raw (.string q)] by rw [hq]; exact getD_encS hj) (And.intro (show ((j : Nat) : Int).toNat = j by omega) (And.intro (show ((ns.map (trF s)).map encT).getD j [] = encT x' by rw [getD_encT (by simpa using hj), List.getD_eq_getElem?_getD, List.getElem?_map, List.getElem?_eq_getElem hj, ← htr, hq, List.getD_eq_getElem?_getD, List.getElem?_eq_getElem hj]; rfl) (And.intro (getD_encT (xs := x'.kids) (i := i) (by omega)) (And.intro (show (inner s ns i).take (j + 1) = (inner s ns i).take j ++ [⟨q, x'.kids.getD i default⟩] by rw [inner_take hj, ← hq, htr]) (And.intro (IntWalk.i64_in ((j : Int) + 1) (by omega)) (show ((j + 1 : Nat) : Int) = (j : Int) + 1 by omega))))))))
                  repeat' with_reducible first | (refine L.nil ?_; try dsimp only [thenK, blockK]) | refine G.ops ?_ | refine G.last ?_ | refine G.alloc ?_ | refine G.box ?_ | refine G.store ?_ | refine G.build ?_ | refine G.quiet ?_ | refine G.then ?_ | refine G.else ?_ | (refine CodeT.skip ?_; dsimp only [thenK, blockK, reduceIte, Nat.reduceEqDiff]) | (refine CodeT.exit ?_; dsimp only [thenK, blockK, reduceIte, Nat.reduceEqDiff]) | refine G.ifT ?_ | refine G.ifF ?_ | fail
                  refine CodeT.seq ?_
                  repeat' with_reducible first | (refine L.nil ?_; try dsimp only [thenK, blockK]) | refine G.ops ?_ | refine G.last ?_ | refine G.alloc ?_ | refine G.box ?_ | refine G.store ?_ | refine G.build ?_ | refine G.quiet ?_ | refine G.then ?_ | refine G.else ?_ | (refine CodeT.skip ?_; dsimp only [thenK, blockK, reduceIte, Nat.reduceEqDiff]) | (refine CodeT.exit ?_; dsimp only [thenK, blockK, reduceIte, Nat.reduceEqDiff]) | refine G.ifT ?_ | refine G.ifF ?_ | fail
                  refine CodeT.seq ?_
                  refine CodeT.block ?_
                  repeat' with_reducible first | (refine L.nil ?_; try dsimp only [thenK, blockK]) | refine G.ops ?_ | refine G.last ?_ | refine G.alloc ?_ | refine G.box ?_ | refine G.store ?_ | refine G.build ?_ | refine G.quiet ?_ | refine G.then ?_ | refine G.else ?_ | (refine CodeT.skip ?_; dsimp only [thenK, blockK, reduceIte, Nat.reduceEqDiff]) | (refine CodeT.exit ?_; dsimp only [thenK, blockK, reduceIte, Nat.reduceEqDiff]) | refine G.ifT ?_ | refine G.ifF ?_ | fail
                  refine G.listed ?_
                  refine G.append ?_
                  repeat' with_reducible first | (refine L.nil ?_; try dsimp only [thenK, blockK]) | refine G.ops ?_ | refine G.last ?_ | refine G.alloc ?_ | refine G.box ?_ | refine G.store ?_ | refine G.build ?_ | refine G.quiet ?_ | refine G.then ?_ | refine G.else ?_ | (refine CodeT.skip ?_; dsimp only [thenK, blockK, reduceIte, Nat.reduceEqDiff]) | (refine CodeT.exit ?_; dsimp only [thenK, blockK, reduceIte, Nat.reduceEqDiff]) | refine G.ifT ?_ | refine G.ifF ?_ | fail
                  exact ⟨⟨(j + 1, u + 1), hj⟩, by show ns.length - (j + 1) < ns.length - j; omega, (by dsimp only [stQ]; exact G.wkM)⟩
                · have F := And.intro F (And.intro (decide_eq_false (show ¬ ((j : Nat) : Int) < ((ns.length : Nat) : Int) by omega)) (show (inner s ns i).take j = inner s ns i from List.take_of_length_le (by simp [inner]; omega)))
                  repeat' with_reducible first | (refine L.nil ?_; try dsimp only [thenK, blockK]) | refine G.ops ?_ | refine G.last ?_ | refine G.alloc ?_ | refine G.box ?_ | refine G.store ?_ | refine G.build ?_ | refine G.quiet ?_ | refine G.then ?_ | refine G.else ?_ | (refine CodeT.skip ?_; dsimp only [thenK, blockK, reduceIte, Nat.reduceEqDiff]) | (refine CodeT.exit ?_; dsimp only [thenK, blockK, reduceIte, Nat.reduceEqDiff]) | refine G.ifT ?_ | refine G.ifF ?_ | fail
                  refine CodeT.seq ?_
                  repeat' with_reducible first | (refine L.nil ?_; try dsimp only [thenK, blockK]) | refine G.ops ?_ | refine G.last ?_ | refine G.alloc ?_ | refine G.box ?_ | refine G.store ?_ | refine G.build ?_ | refine G.quiet ?_ | refine G.then ?_ | refine G.else ?_ | (refine CodeT.skip ?_; dsimp only [thenK, blockK, reduceIte, Nat.reduceEqDiff]) | (refine CodeT.exit ?_; dsimp only [thenK, blockK, reduceIte, Nat.reduceEqDiff]) | refine G.ifT ?_ | refine G.ifF ?_ | fail
                  exact ⟨u, (by dsimp only [stQ]; exact G.wkM)⟩
              · intro u
                obtain ⟨a, ha⟩ : ∃ a, a = fR m n x pl k' (inner s ns i ++ s) st2 := ⟨_, rfl⟩
                have hil : (inner s ns i).length = ns.length := by simp [inner]
                have hs1 := hP.hc.sz
                have hst2 : st2.left ≤ 5000 := by
                  have q : (0 : Int) ≤ ((szL (szN (m + n)) acc : Nat) : Int) := Int.natCast_nonneg _
                  omega
                have hlo2 := hP.hc.lo he0
                have c1 : ∀ s st, wfS m N s → st.e = 0 → -5000 ≤ st.left → st.left ≤ 5000 → Cost n (szN (m + n) (fillN m n x s pl st).1) st (fillN m n x s pl st).2 := fun s st hw q1 q2 q3 => fillN_cost (m := m) (N := N) n x s pl st (by omega) hg hw q3 (fun _ => q2) (by omega)
                have hca := rowF_cost (nm := fun s => manyN n s x pl) c1 k' (inner s ns i ++ s) st2 hwi hst2 hP.hc.e0
                have hwa := rowF_wf (L := m + n) (nm := fun s => manyN n s x pl) c1 (fun s st hw' q1 q2 q3 => fillN_wf (m := m) (N := N) n x s pl st (by omega) hg hw hw' q3 (fun _ => q2) (by omega)) k' (inner s ns i ++ s) st2 hwi hst2 hP.hc.e0
                rw [show rowF (fun s st => fillN m n x s pl st) (fun s => manyN n s x pl) k' (inner s ns i ++ s) st2 = a from ha.symm] at hca hwa
                have hs2 := hca.sz
                have hl1 := len_szL (m + n) acc
                have hl2 := len_szL (m + n) a.1
                have hlo3 : -5000 - 1 - (n : Int) ≤ a.2.left := (hP.hc.trans hca).lo he0
                have hpre : RowPre m N n k' x (inner s ns i ++ s) st2 := ⟨hn, hw, hg, by omega, hwi, by rw [List.length_append, hil]; omega, hP.hc.e0, by omega, hst2, hm1⟩
                have F := And.intro F (And.intro (show IntKind.i64.wrap (((k' + 1 : Nat) : Int) - 1) = (k' : Int) by rw [IntWalk.i64_in _ (by omega)]; omega) (@List.map_append Dat (List PV) enc))
                refine G.anyLast ?_
                iterate 5 refine H.quiet ?_
                refine H.appendF ?_
                iterate 3 refine H.quiet ?_
                refine E.cons (D.rcall (L := 0) (by simp only [qq, F, Nat.reduceLT]; first | done | fail) (enters_of Try.func82 (by kernel_rfl) rfl) (ihk k' (by omega) m N x (inner s ns i ++ s) pl st2 a hpre ha) (fun X cs' hR => ⟨hR.1, hR.2.1⟩) (by simp only [q0, y, F, Nat.reduceLT, Nat.reduceAdd, Nat.reduceEqDiff, Nat.reduceLeDiff, Nat.reduceBNe, Int.reduceToNat, reduceIte, reduceCtorEq]; first | done | fail) (by simp only [q0, y, F, Nat.reduceLT, Nat.reduceAdd, Nat.reduceEqDiff, Nat.reduceLeDiff, Nat.reduceBNe, Int.reduceToNat, reduceIte, reduceCtorEq]; first | done | fail)) ?_
                refine H.append ?_
                refine H.quiet ?_
                refine E.nil ⟨rfl, ?_⟩
                dsimp only [thenK, blockK]
                repeat' with_reducible first | (refine L.nil ?_; try dsimp only [thenK, blockK]) | refine G.ops ?_ | refine G.last ?_ | refine G.alloc ?_ | refine G.box ?_ | refine G.store ?_ | refine G.build ?_ | refine G.quiet ?_ | refine G.then ?_ | refine G.else ?_ | (refine CodeT.skip ?_; dsimp only [thenK, blockK, reduceIte, Nat.reduceEqDiff]) | (refine CodeT.exit ?_; dsimp only [thenK, blockK, reduceIte, Nat.reduceEqDiff]) | refine G.ifT ?_ | refine G.ifF ?_ | fail
                exact ⟨⟨(i + 1, v + 1, acc ++ a.1, a.2), hP.next hi ha hca hwa⟩, by show c' - (i + 1) < c' - i; omega, (by dsimp only [stQ]; exact G.wkM)⟩
            · have F := And.intro F (decide_eq_false (show ¬ ((i : Nat) : Int) < ((c' : Nat) : Int) by omega))
              have e : i = c' := by have := hP.hi; omega
              subst e
              repeat' with_reducible first | (refine L.nil ?_; try dsimp only [thenK, blockK]) | refine G.ops ?_ | refine G.last ?_ | refine G.alloc ?_ | refine G.box ?_ | refine G.store ?_ | refine G.build ?_ | refine G.quiet ?_ | refine G.then ?_ | refine G.else ?_ | (refine CodeT.skip ?_; dsimp only [thenK, blockK, reduceIte, Nat.reduceEqDiff]) | (refine CodeT.exit ?_; dsimp only [thenK, blockK, reduceIte, Nat.reduceEqDiff]) | refine G.ifT ?_ | refine G.ifF ?_ | fail
              refine CodeT.seq ?_
              repeat' with_reducible first | (refine L.nil ?_; try dsimp only [thenK, blockK]) | refine G.ops ?_ | refine G.last ?_ | refine G.alloc ?_ | refine G.box ?_ | refine G.store ?_ | refine G.build ?_ | refine G.quiet ?_ | refine G.then ?_ | refine G.else ?_ | (refine CodeT.skip ?_; dsimp only [thenK, blockK, reduceIte, Nat.reduceEqDiff]) | (refine CodeT.exit ?_; dsimp only [thenK, blockK, reduceIte, Nat.reduceEqDiff]) | refine G.ifT ?_ | refine G.ifF ?_ | fail
              exact ⟨⟨(v, acc, st2), hP⟩, (by dsimp only [stQ]; exact G.wkM)⟩
          · rintro ⟨⟨v, acc, st2⟩, hP⟩
            dsimp only at hP ⊢
            have hR : r = (acc, st2) := by
              rw [hr, rowF, if_neg (by simpa using he0), ← hns, hkn]
              exact hP.hr.symm
            have F := And.intro F stQ.eq_1
            refine CodeT.frz (t := 0) (by simp only [q0, y, F, Nat.reduceLT, Nat.reduceAdd, Nat.reduceEqDiff, Nat.reduceLeDiff, Nat.reduceBNe, Int.reduceToNat, reduceIte, reduceCtorEq]; first | done | rfl) ?_
            refine CodeT.weak (S2 := tsL [(18, one (.sl 7 (acc.map enc)))] [(0, .cells 93 (cP (stC st2)))] [] 2 0 109) (G.wkM) ?_
            repeat' with_reducible first | (refine L.nil ?_; try dsimp only [thenK, blockK]) | refine G.ops ?_ | refine G.last ?_ | refine G.alloc ?_ | refine G.box ?_ | refine G.store ?_ | refine G.build ?_ | refine G.quiet ?_ | refine G.then ?_ | refine G.else ?_ | (refine CodeT.skip ?_; dsimp only [thenK, blockK, reduceIte, Nat.reduceEqDiff]) | (refine CodeT.exit ?_; dsimp only [thenK, blockK, reduceIte, Nat.reduceEqDiff]) | refine G.ifT ?_ | refine G.ifF ?_ | refine CodeT.seq ?_ | refine CodeT.block ?_ | fail
            refine CodeT.ret ⟨.a (.one (.sl 7 (acc.map enc))), .a (.one (.sl 7 (r.1.map enc))), stC r.2, ?_, ?_, ?_, rfl, rfl, ?_⟩
            · simp only [Try.results82, resT, resL, resV, q0, y, F, Nat.reduceLT, Nat.reduceAdd, Nat.reduceEqDiff, Nat.reduceLeDiff, Nat.reduceBNe, Int.reduceToNat, reduceIte, reduceCtorEq]
            · rw [hR]
              exact .a (PA.le_refl _)
            · rw [hR]
              simp only [q0, y, F, Nat.reduceLT, Nat.reduceAdd, Nat.reduceEqDiff, Nat.reduceLeDiff, Nat.reduceBNe, Int.reduceToNat, reduceIte, reduceCtorEq]
            · rw [hR]
              exact hP.hw
  · have F := And.intro F (bne_iff_ne.2 he0)
    have hR : r = ([], st) := by
      rw [hr]
      cases k <;> rw [rowF, if_pos he0]
    repeat' with_reducible first | (refine L.nil ?_; try dsimp only [thenK, blockK]) | refine G.ops ?_ | refine G.last ?_ | refine G.alloc ?_ | refine G.box ?_ | refine G.store ?_ | refine G.build ?_ | refine G.quiet ?_ | refine G.then ?_ | refine G.else ?_ | (refine CodeT.skip ?_; dsimp only [thenK, blockK, reduceIte, Nat.reduceEqDiff]) | (refine CodeT.exit ?_; dsimp only [thenK, blockK, reduceIte, Nat.reduceEqDiff]) | refine G.ifT ?_ | refine G.ifF ?_ | refine CodeT.seq ?_ | refine CodeT.block ?_ | fail
    refine CodeT.ret ⟨.a (.one (.raw (.slice none 0 0))), .a (.one (.sl 7 (r.1.map enc))), stC r.2, ?_, ?_, ?_, rfl, rfl, ?_⟩
    · simp only [Try.results82, resT, resL, resV, q0, y, F, Nat.reduceLT, Nat.reduceAdd, Nat.reduceEqDiff, Nat.reduceLeDiff, Nat.reduceBNe, Int.reduceToNat, reduceIte, reduceCtorEq]
    · rw [hR]
      exact .a (.one (.nil 7))
    · rw [hR]
      simp only [q0, y, F, Nat.reduceLT, Nat.reduceAdd, Nat.reduceEqDiff, Nat.reduceLeDiff, Nat.reduceBNe, Int.reduceToNat, reduceIte, reduceCtorEq]
    · rw [hR]
      simp
end Go.Proofs.Ythmpaepdbjldfaa

/-
  Templates: fill and row, at all levels.
-/
namespace Go.Proofs.Ythmpaepdbjldfaa
set_option linter.unusedVariables false
set_option linter.unusedSimpArgs false
open Go.RowKit Go.Shelf

theorem frow_all {n : Nat} (ih : FillSaid n) : FRowSaid n := by
  intro m N k
  induction k using Nat.strongRecOn with
  | ind k ihk =>
    intro x s pl st r h hr
    refine frow_step n ih k (fun k' hk' => ?_) m N x s pl st r h hr
    intro m' N' x' s' pl' st' r' h' hr'
    have key : ∀ (K : Nat) (k : Nat), k ≤ K → ∀ (m N : Nat) (x : Dat) (s : List Bd) (pl : Bool) (st : St) (r : List Dat × St), RowPre m N n k x s st → r = rowF (fun s st => fillN m n x s pl st) (fun s => manyN n s x pl) k s st → RFun Try.prog 82 93 (stC st) [.agg (enc x), .one (.sl 10 (s.map encB)), .one (.raw (.int .i64 k)), .one (.raw (.bool pl))] (fun X cs' => X = .a (.one (.sl 7 (r.1.map enc))) ∧ cs' = stC r.2 ∧ ∀ y ∈ r.1, wfD (m + n) y) := by
      intro K
      induction K with
      | zero => intro k hk m N x s pl st r h hr; exact frow_step n ih k (fun k' q => by omega) m N x s pl st r h hr
      | succ K ihK => intro k hk m N x s pl st r h hr; exact frow_step n ih k (fun k' q => ihK k' (by omega)) m N x s pl st r h hr
    exact key k' k' (Nat.le_refl _) m' N' x' s' pl' st' r' h' hr'
theorem fill_all : ∀ n, FillSaid n
  | 0 => fun _ _ _ _ _ _ h => absurd h.gt (by simp [goodN])
  | n + 1 => fill_step n (fill_all n) (frow_all (fill_all n))
end Go.Proofs.Ythmpaepdbjldfaa

/-
  match.Fill, told by trees.
-/
namespace Go.Proofs.Ythmpaepdbjldfaa
set_option linter.unusedVariables false
set_option linter.unusedSimpArgs false
open Go.RowKit Go.Shelf
set_option linter.unusedSimpArgs false

def goodB (n : Nat) (d : Dat) : Bool := decide (0 ≤ budN n d 5000 200) && goodN n d
theorem good_pf {n : Nat} {d : Dat} (hw : wfD n d) (hs : szN n d ≤ 100000) : PFun Try.prog 46 [.agg (enc d)] (fun X => X = .a (.one (.raw (.bool (goodB n d))))) :=
  pf_datum hw fun P cs w hQ hd => (Good_calls hd hs).mono fun e w' ⟨e1, hu⟩ => ⟨_, .a (.one (.raw (.bool (goodB n d)))), e1, hu, .raw rfl, rfl⟩
theorem depth_pf {n : Nat} {d : Dat} (hw : wfD n d) (hs : szN n d ≤ 100000) (hp : dpN n d ≤ 10000) : PFun Try.prog 53 [.agg (enc d)] (fun X => X = .a (.one (.raw (.int .i64 ((dpN n d : Nat) : Int))))) :=
  pf_datum hw fun P cs w hQ hd => (depth_calls n P d cs w hd hs hp).mono fun e w' ⟨e1, hu⟩ => ⟨_, .a (.one (.raw (.int .i64 ((dpN n d : Nat) : Int)))), e1, hu, .raw rfl, rfl⟩
/-- What Fill answers. -/
def fillTop (m n : Nat) (t : Dat) (s : List Bd) : Dat × Int :=
  if goodB n t = false then (zeroD, 12) else
  let r := fillN m n t s false ⟨5000, 0⟩
  if r.2.e ≠ 0 then (zeroD, r.2.e) else if 5000 < szN (m + n) r.1 ∨ 200 < dpN (m + n) r.1 then (zeroD, 12) else (r.1, 0)
set_option maxRecDepth 100000 in
set_option maxHeartbeats 2000000 in
theorem Fill_pf {m N n : Nat} {t : Dat} {s : List Bd} (hw : wfD n t) (hz : szN n t ≤ 5000) (hn : n ≤ 1000) (hm : m ≤ 5000) (hs : wfS m N s) (hl : s.length ≤ 1000000) : PFun Try.prog 26 [.agg (enc t), .one (.sl 10 (s.map encB))] (fun X => X = .tup [.agg (enc (fillTop m n t s).1), .one (.raw (.int .i64 (fillTop m n t s).2))]) := by
  refine PFun.le (R := fun X => PX.le X (.tup [.agg (enc (fillTop m n t s).1), .one (.raw (.int .i64 (fillTop m n t s).2))])) ?_ (fun X hX => ⟨_, hX, rfl⟩)
  refine PFun.enter Try.func26 rfl _ Try.ntmps26 (by simp) ?_
  have F := And.intro ql (And.intro @enc_eq stC.eq_1)
  have y := And.intro ty_1 (And.intro ty_3 (And.intro ty_4 (And.intro ty_5 (And.intro ty_12 (And.intro ty_27 (And.intro ty_37 (And.intro ty_54 (And.intro ty_91 (And.intro ty_93 (And.intro ty_122 (And.intro ty_66 (And.intro ty_9 (And.intro ty_64 (And.intro ty_62 (And.intro ty_24 (And.intro ty_25 (And.intro ty_22 (ty_60))))))))))))))))))
  repeat' with_reducible first | (refine L.nil ?_; try dsimp only [thenK, blockK]) | refine G.ops ?_ | refine G.last ?_ | refine G.take ?_ | refine G.pass ?_ | refine G.passU ?_ | refine G.pickT ?_ | refine G.pickF ?_ | refine G.alloc ?_ | refine G.box ?_ | refine G.store ?_ | refine G.build ?_ | refine G.quiet ?_ | refine G.then ?_ | refine G.else ?_ | (refine CodeT.skip ?_; dsimp only [thenK, blockK, reduceIte, Nat.reduceEqDiff]) | refine CodeT.seq ?_ | refine CodeT.block ?_ | fail
  refine G.pcall (enters_of Try.func46 (by kernel_rfl) rfl) (good_pf hw (by omega)) ?_
  rintro X rfl
  by_cases hg : goodB n t = false
  · have F := And.intro F (And.intro hg Bool.not_false)
    have hR : fillTop m n t s = (zeroD, 12) := by unfold fillTop; rw [if_pos hg]
    repeat' with_reducible first | (refine L.nil ?_; try dsimp only [thenK, blockK]) | refine G.ops ?_ | refine G.last ?_ | refine G.take ?_ | refine G.pass ?_ | refine G.passU ?_ | refine G.pickT ?_ | refine G.pickF ?_ | refine G.alloc ?_ | refine G.box ?_ | refine G.store ?_ | refine G.build ?_ | refine G.quiet ?_ | refine G.then ?_ | refine G.else ?_ | (refine CodeT.skip ?_; dsimp only [thenK, blockK, reduceIte, Nat.reduceEqDiff]) | refine CodeT.seq ?_ | refine CodeT.block ?_ | fail
    refine CodeT.ret ⟨.tup [.agg zeroDC, .one (.raw (.int .i64 12))], ?_, ?_⟩
    · simp only [Try.results26, resT, resL, resV, q0, y, F, Nat.reduceLT, Nat.reduceAdd, Nat.reduceEqDiff, Nat.reduceLeDiff, Nat.reduceBNe, Int.reduceToNat, reduceIte, reduceCtorEq]
      rfl
    · rw [hR]
      exact .tup (.cons zeroD_le (.cons (.one (.refl _)) .nil))
  · have hg' : goodB n t = true := by simpa using hg
    have hgn : goodN n t = true := by
      unfold goodB at hg'
      simp only [Bool.and_eq_true] at hg'
      exact hg'.2
    have F := And.intro F (And.intro hg' Bool.not_true)
    repeat' with_reducible first | (refine L.nil ?_; try dsimp only [thenK, blockK]) | refine G.ops ?_ | refine G.last ?_ | refine G.take ?_ | refine G.pass ?_ | refine G.passU ?_ | refine G.pickT ?_ | refine G.pickF ?_ | refine G.alloc ?_ | refine G.box ?_ | refine G.store ?_ | refine G.build ?_ | refine G.quiet ?_ | refine G.then ?_ | refine G.else ?_ | (refine CodeT.skip ?_; dsimp only [thenK, blockK, reduceIte, Nat.reduceEqDiff]) | refine CodeT.seq ?_ | refine CodeT.block ?_ | fail
    refine G.rcall (g := 2) (enters_of Try.func52 (by kernel_rfl) rfl) (fill_all n m N t s false ⟨5000, 0⟩ ⟨hn, hw, hgn, hz, hs, by omega, fun _ => by show (-5000 : Int) ≤ 5000; omega, by show (-500000 : Int) ≤ 5000; omega, by show (5000 : Int) ≤ 5000; omega, hm⟩) ?_
    rintro X cs' ⟨rfl, rfl, hwr⟩
    have hco := fillN_cost (m := m) (N := N) n t s false ⟨5000, 0⟩ (by omega) hgn hs (by show (5000 : Int) ≤ 5000; omega) (fun _ => by show (-5000 : Int) ≤ 5000; omega) (by show (-500000 : Int) ≤ 5000; omega)
    have hT : fillTop m n t s = if (fillN m n t s false ⟨5000, 0⟩).2.e ≠ 0 then (zeroD, (fillN m n t s false ⟨5000, 0⟩).2.e) else if 5000 < szN (m + n) (fillN m n t s false ⟨5000, 0⟩).1 ∨ 200 < dpN (m + n) (fillN m n t s false ⟨5000, 0⟩).1 then (zeroD, 12) else ((fillN m n t s false ⟨5000, 0⟩).1, 0) := by
      unfold fillTop
      rw [if_neg hg]
    generalize fillN m n t s false ⟨5000, 0⟩ = r at *
    by_cases he : r.2.e = 0
    · have F := And.intro F (show (r.2.e != 0) = false by simp [he])
      repeat' with_reducible first | (refine L.nil ?_; try dsimp only [thenK, blockK]) | refine G.ops ?_ | refine G.last ?_ | refine G.take ?_ | refine G.pass ?_ | refine G.passU ?_ | refine G.pickT ?_ | refine G.pickF ?_ | refine G.alloc ?_ | refine G.box ?_ | refine G.store ?_ | refine G.build ?_ | refine G.quiet ?_ | refine G.then ?_ | refine G.else ?_ | (refine CodeT.skip ?_; dsimp only [thenK, blockK, reduceIte, Nat.reduceEqDiff]) | refine CodeT.seq ?_ | refine CodeT.block ?_ | fail
      have hsz := hco.sz
      have hlo := hco.lo
      have hz2 : szN (m + n) r.1 ≤ 20000 := by
        have q : ((szN (m + n) r.1 : Nat) : Int) ≤ 5000 - r.2.left := hsz
        have q2 : min (5000 : Int) (-5000) - 1 - n ≤ r.2.left := hlo
        omega
      refine G.pcall (enters_of Try.func39 (by kernel_rfl) rfl) (size_pf hwr (by omega)) ?_
      rintro X rfl
      by_cases h5 : 5000 < szN (m + n) r.1
      · have hR : fillTop m n t s = (zeroD, 12) := by rw [hT, if_neg (by simpa using he), if_pos (.inl h5)]
        have F := And.intro F (decide_eq_true (show ((szN (m + n) r.1 : Nat) : Int) > 5000 by omega))
        repeat' with_reducible first | (refine L.nil ?_; try dsimp only [thenK, blockK]) | refine G.ops ?_ | refine G.last ?_ | refine G.take ?_ | refine G.pass ?_ | refine G.passU ?_ | refine G.pickT ?_ | refine G.pickF ?_ | refine G.alloc ?_ | refine G.box ?_ | refine G.store ?_ | refine G.build ?_ | refine G.quiet ?_ | refine G.then ?_ | refine G.else ?_ | (refine CodeT.skip ?_; dsimp only [thenK, blockK, reduceIte, Nat.reduceEqDiff]) | refine CodeT.seq ?_ | refine CodeT.block ?_ | fail
        refine CodeT.ret ⟨.tup [.agg zeroDC, .one (.raw (.int .i64 12))], ?_, ?_⟩
        · simp only [Try.results26, resT, resL, resV, q0, y, F, Nat.reduceLT, Nat.reduceAdd, Nat.reduceEqDiff, Nat.reduceLeDiff, Nat.reduceBNe, Int.reduceToNat, reduceIte, reduceCtorEq]
          rfl
        · rw [hR]
          exact .tup (.cons zeroD_le (.cons (.one (.refl _)) .nil))
      · have F := And.intro F (decide_eq_false (show ¬ ((szN (m + n) r.1 : Nat) : Int) > 5000 by omega))
        repeat' with_reducible first | (refine L.nil ?_; try dsimp only [thenK, blockK]) | refine G.ops ?_ | refine G.last ?_ | refine G.take ?_ | refine G.pass ?_ | refine G.passU ?_ | refine G.pickT ?_ | refine G.pickF ?_ | refine G.alloc ?_ | refine G.box ?_ | refine G.store ?_ | refine G.build ?_ | refine G.quiet ?_ | refine G.then ?_ | refine G.else ?_ | (refine CodeT.skip ?_; dsimp only [thenK, blockK, reduceIte, Nat.reduceEqDiff]) | refine CodeT.seq ?_ | refine CodeT.block ?_ | fail
        refine G.pcall (enters_of Try.func53 (by kernel_rfl) rfl) (depth_pf hwr (by omega) (Nat.le_trans (dpN_lv _ _) (by omega))) ?_
        rintro X rfl
        by_cases h2 : 200 < dpN (m + n) r.1
        · have hR : fillTop m n t s = (zeroD, 12) := by rw [hT, if_neg (by simpa using he), if_pos (.inr h2)]
          have F := And.intro F (decide_eq_true (show ((dpN (m + n) r.1 : Nat) : Int) > 200 by omega))
          repeat' with_reducible first | (refine L.nil ?_; try dsimp only [thenK, blockK]) | refine G.ops ?_ | refine G.last ?_ | refine G.take ?_ | refine G.pass ?_ | refine G.passU ?_ | refine G.pickT ?_ | refine G.pickF ?_ | refine G.alloc ?_ | refine G.box ?_ | refine G.store ?_ | refine G.build ?_ | refine G.quiet ?_ | refine G.then ?_ | refine G.else ?_ | (refine CodeT.skip ?_; dsimp only [thenK, blockK, reduceIte, Nat.reduceEqDiff]) | refine CodeT.seq ?_ | refine CodeT.block ?_ | fail
          refine CodeT.ret ⟨.tup [.agg zeroDC, .one (.raw (.int .i64 12))], ?_, ?_⟩
          · simp only [Try.results26, resT, resL, resV, q0, y, F, Nat.reduceLT, Nat.reduceAdd, Nat.reduceEqDiff, Nat.reduceLeDiff, Nat.reduceBNe, Int.reduceToNat, reduceIte, reduceCtorEq]
            rfl
          · rw [hR]
            exact .tup (.cons zeroD_le (.cons (.one (.refl _)) .nil))
        · have hR : fillTop m n t s = (r.1, 0) := by rw [hT, if_neg (by simpa using he), if_neg (by omega)]
          have F := And.intro F (decide_eq_false (show ¬ ((dpN (m + n) r.1 : Nat) : Int) > 200 by omega))
          repeat' with_reducible first | (refine L.nil ?_; try dsimp only [thenK, blockK]) | refine G.ops ?_ | refine G.last ?_ | refine G.take ?_ | refine G.pass ?_ | refine G.passU ?_ | refine G.pickT ?_ | refine G.pickF ?_ | refine G.alloc ?_ | refine G.box ?_ | refine G.store ?_ | refine G.build ?_ | refine G.quiet ?_ | refine G.then ?_ | refine G.else ?_ | (refine CodeT.skip ?_; dsimp only [thenK, blockK, reduceIte, Nat.reduceEqDiff]) | refine CodeT.seq ?_ | refine CodeT.block ?_ | fail
          refine CodeT.ret ⟨.tup [.agg (enc r.1), .one (.raw (.int .i64 0))], ?_, ?_⟩
          · simp only [Try.results26, resT, resL, resV, q0, y, F, Nat.reduceLT, Nat.reduceAdd, Nat.reduceEqDiff, Nat.reduceLeDiff, Nat.reduceBNe, Int.reduceToNat, reduceIte, reduceCtorEq]
          · rw [hR]
            exact .tup (.cons (PA.le_refl _) (.cons (.one (.refl _)) .nil))
    · have hR : fillTop m n t s = (zeroD, r.2.e) := by rw [hT, if_pos he]
      have F := And.intro F (bne_iff_ne.2 he)
      repeat' with_reducible first | (refine L.nil ?_; try dsimp only [thenK, blockK]) | refine G.ops ?_ | refine G.last ?_ | refine G.take ?_ | refine G.pass ?_ | refine G.passU ?_ | refine G.pickT ?_ | refine G.pickF ?_ | refine G.alloc ?_ | refine G.box ?_ | refine G.store ?_ | refine G.build ?_ | refine G.quiet ?_ | refine G.then ?_ | refine G.else ?_ | (refine CodeT.skip ?_; dsimp only [thenK, blockK, reduceIte, Nat.reduceEqDiff]) | refine CodeT.seq ?_ | refine CodeT.block ?_ | fail
      refine G.anyLast ?_
      refine H.build ?_
      iterate 4 refine H.quiet ?_
      refine H.store ?_
      refine H.quiet ?_
      refine E.nil ⟨rfl, ?_⟩
      dsimp only [thenK]
      refine CodeT.ret ⟨.tup [.agg zeroDC, .one (.raw (.int .i64 r.2.e))], ?_, ?_⟩
      · simp only [Try.results26, resT, resL, resV, q0, y, F, Nat.reduceLT, Nat.reduceAdd, Nat.reduceEqDiff, Nat.reduceLeDiff, Nat.reduceBNe, Int.reduceToNat, reduceIte, reduceCtorEq]
        rfl
      · rw [hR]
        exact .tup (.cons zeroD_le (.cons (.one (.refl _)) .nil))
end Go.Proofs.Ythmpaepdbjldfaa
