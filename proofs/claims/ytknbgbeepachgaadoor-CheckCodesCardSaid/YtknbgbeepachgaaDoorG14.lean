/-
  Texts of this claim, merged: ChN, ChO, ChP. Lemmas and contracts; no conditions of our own.
-/
import Derived.Test.YtknbgbeepachgaaDoorG13
import Derived.StillTailTactics

/-
  How a block is looked at: the plain form; come.
-/
namespace Go.Proofs.YtknbgbeepachgaaDoor
open Go.RowKit

/-! ### Plain -/
/-- A number among rising ones. -/
def insS (x : Int) : List Int → List Int
  | [] => [x]
  | y :: l => if y < x then y :: insS x l else x :: y :: l
theorem insS_perm (x : Int) : ∀ l, (insS x l).Perm (x :: l)
  | [] => List.Perm.refl _
  | y :: l => by
    unfold insS
    split
    · exact ((insS_perm x l).cons y).trans (List.Perm.swap x y l)
    · exact List.Perm.refl _
/-- Where a look stands: how many stand ahead of each; those that are to be looked at, rising; is one wrong? -/
structure Flow where
  deep : List Int
  opn : List Int
  bad : Bool
def comeF (lo hi : Int) (f : Flow) (at' on : Int) : Flow :=
  if at' < lo ∨ hi ≤ at' then { f with bad := true }
  else if f.deep.getD at'.toNat 0 < 0 then ⟨f.deep.set at'.toNat on, insS at' f.opn, f.bad⟩
  else if f.deep.getD at'.toNat 0 ≠ on then { f with bad := true } else f
theorem comeF_len (lo hi : Int) (f : Flow) (at' on : Int) : (comeF lo hi f at' on).opn.length ≤ f.opn.length + 1 := by
  unfold comeF
  split
  · exact Nat.le_succ _
  · split
    · have := (insS_perm at' f.opn).length_eq
      simp at this
      show (insS at' f.opn).length ≤ _
      omega
    · split <;> exact Nat.le_succ _
def needsF (x : InsV) : Int × Int :=
  if x.op = 7 then (0, 0) else if x.op = 4 ∨ x.op = 8 ∨ x.op = 11 ∨ x.op = 12 then (1, 0) else if x.op = 5 then (x.b, 1) else if x.op = 6 then (arD x.a, 1)
  else if x.op = 9 then (x.a + 1, 1) else if x.op = 10 then (x.a + 1, 0) else (0, 1)
def thereF (c : CodeV) (n : Nat) (b : BlkV) (hi : Int) (x : InsV) : Bool :=
  if x.op = 1 then decide (x.a < c.cons.length) else if x.op = 2 ∨ x.op = 4 then decide (x.a < b.sl) else if x.op = 3 then decide (x.a < b.ou)
  else if x.op = 5 then decide ((n : Int) < x.a ∧ x.a < c.blks.length ∧ (c.blks.getD x.a.toNat default).ou = x.b) else if x.op = 6 then decide (0 ≤ arD x.a)
  else if x.op = 7 ∨ x.op = 8 then decide (b.lo ≤ x.a ∧ x.a < hi) else true
/-- An instruction, in parts: is it wrong by itself? -/
def wrongF (c : CodeV) (n : Nat) (b : BlkV) (hi : Int) (x : InsV) (on : Int) : Bool :=
  !thereF c n b hi x || decide (on < (needsF x).1 ∨ b.dp < on - (needsF x).1 + (needsF x).2)
def oneF (c : CodeV) (n : Nat) (b : BlkV) (hi : Int) (f : Flow) (i : Int) : Bool × Flow :=
  let x := c.ins.getD i.toNat default
  let on := f.deep.getD i.toNat 0
  if wrongF c n b hi x on then (false, f)
  else
    let on2 := on + ((needsF x).2 - (needsF x).1)
    if x.op = 11 ∨ x.op = 10 then (decide (on2 = 0), f)
    else
      let f1 := if x.op = 7 ∨ x.op = 8 then comeF b.lo hi f x.a on2 else f
      let f2 := if x.op = 7 then f1 else comeF b.lo hi f1 (i + 1) on2
      (!f2.bad, f2)

/-! ### In memory -/
/-- What a look is about. -/
structure LookK where
  aI : Option Addr
  nI : Nat
  cI : Nat
  aB : Option Addr
  nB : Nat
  cB : Nat
  aC : Option Addr
  nC : Nat
  cC : Nat
  n : Nat
  b : BlkV
  hi : Int
  D : Nat
  nD : Nat
  L : Nat
def arrV (L : Nat) : Value := .func (.func 28) #[.pointer (some ⟨L, 0, none⟩)] #[]
def lookCells (k : LookK) (v : Value) (bad : Bool) (arr : Value) : List Value :=
  [.slice k.aI k.nI k.cI, .slice k.aB k.nB k.cB, .slice k.aC k.nC k.cC, .int .i64 k.n, .int .i64 k.b.lo, .int .i64 k.b.pr, .bool k.b.rest, .int .i64 k.b.sl, .int .i64 k.b.dp, .int .i64 k.b.ou, .int .i64 k.hi, .slice (some ⟨k.D, 0, none⟩) k.nD k.nD, v, .bool bad, arr]
/-- The look as it lies there. -/
structure LS (w : World) (base : Nat) (k : LookK) (arr : Value) (f : Flow) : Prop where
  ex : ∃ v xs, Blk w k.L (lookCells k v f.bad arr) 73 ∧ IRow w base v xs ∧ xs.Perm f.opn ∧ HeapN xs xs.length
  deep : Blk w k.D (f.deep.map (.int .i64)) 3
  len : f.deep.length = k.nD
  few : f.opn.length ≤ 100000
  L : k.L < base
  D : k.D < base
  base : base ≤ w.heap.size
theorem LS.ne {w : World} {base : Nat} {k : LookK} {arr : Value} {f : Flow} (h : LS w base k arr f) : k.D ≠ k.L := by
  obtain ⟨v, xs, h1, _⟩ := h.ex
  exact h.deep.ne h1 (by decide)
theorem LS.upd {w w' : World} {base : Nat} {k : LookK} {arr : Value} {f : Flow} (h : LS w base k arr f) (hu : Upd [] w w') : LS w' base k arr f := by
  obtain ⟨v, xs, h1, h2, h3, h4⟩ := h.ex
  exact ⟨⟨v, xs, hu.blk h1 (by simp), own_upd0 h2 hu, h3, h4⟩, hu.blk h.deep (by simp), h.len, h.few, h.L, h.D, Nat.le_trans h.base hu.size⟩
theorem Kb.of_upd0 {base : Nat} {S : List Nat} {a b : World} (h : Upd [] a b) (hb : base ≤ a.heap.size) : Kb base S a b := Kb.of_upd h hb (by simp) (by simp)
set_option maxRecDepth 100000 in
set_option maxHeartbeats 1500000 in
theorem come_calls {w : World} {base : Nat} {k : LookK} {arr : Value} {f : Flow} (at' on : Int) (h : LS w base k arr f) (hlo : 0 ≤ k.b.lo) (hhi : k.hi ≤ k.nD) (hf : f.opn.length < 100000) (hd : k.nD ≤ 100000) :
    Calls Tryd.prog 28 #[.pointer (some ⟨k.L, 0, none⟩), .int .i64 at', .int .i64 on] w fun e w' => e = .returned (.tuple #[]) ∧ LS w' base k arr (comeF k.b.lo k.hi f at' on) ∧ Kb base [k.L, k.D] w w' := by
  obtain ⟨v, xs, h1, h2, h3, h4⟩ := h.ex
  have c4 := h1.cell_some (i := 4) rfl
  have c10 := h1.cell_some (i := 10) rfl
  have c11 := h1.cell_some (i := 11) rfl
  have c13 := h1.cell_some (i := 13) rfl
  have f13 := h1.free 13
  by_cases ha : at' < k.b.lo ∨ k.hi ≤ at'
  · have e : comeF k.b.lo k.hi f at' on = { f with bad := true } := if_pos ha
    rw [e]
    have hB := h1.set 13 (.bool true)
    have hS : LS (w.setCell ⟨k.L, 13, none⟩ (.bool true)) base k arr { f with bad := true } :=
      ⟨⟨v, xs, hB, own_upd h2 ((Upd.refl [k.L] w).setCell (p := ⟨k.L, 13, none⟩) _ (.inl (by simp))) (fun g hg => by
        have := (h2.lt g hg).1
        have := h.L
        simp; omega), h3, h4⟩, h.deep.set_other _ (by simpa using h.ne), h.len, h.few, h.L, h.D, by simpa [World.setCell] using h.base⟩
    have hK : Kb base [k.L, k.D] w (w.setCell ⟨k.L, 13, none⟩ (.bool true)) := Kb.of_set 13 _ h.base (by simp)
    have H := Lib.hid (And.intro hS hK)
    clear h h1 h2 h3 h4 e hS hK hB c11
    obtain ⟨aI, nI, cI, aB, nB, cB, aC, nC, cC, n, ⟨lo, pr, rest, sl, dp, ou⟩, hi, D, nD, L⟩ := k
    simp only at *
    rcases ha with ha | ha
    · go_enter Tryd.func28, Tryd.ntmps28
      go_wp2
      go_end0
      exact ⟨rfl, H.out⟩
    · by_cases ha2 : at' < lo
      · go_enter Tryd.func28, Tryd.ntmps28
        go_wp2
        go_end0
        exact ⟨rfl, H.out⟩
      · go_enter Tryd.func28, Tryd.ntmps28
        go_wp2
        go_end0
        exact ⟨rfl, H.out⟩
  · obtain ⟨i, rfl⟩ : ∃ i : Nat, at' = i := ⟨at'.toNat, by omega⟩
    have hi1 : ¬ (i : Int) < k.b.lo := by omega
    have hi2 : ¬ k.hi ≤ (i : Int) := by omega
    have hiD : i < k.nD := by omega
    have hiD2 : (i : Int) < (k.nD : Int) := by omega
    have hfl := h.len
    have cD : w.cell? ⟨k.D, i, none⟩ = some (.int .i64 (f.deep.getD i 0)) := h.deep.cell_some (by rw [map_int_get, List.getElem?_eq_getElem (by omega)]; simp [List.getD_eq_getElem?_getD, List.getElem?_eq_getElem (show i < f.deep.length by omega)])
    have fD := h.deep.free i
    have hne := h.ne
    have hLb := h.L
    have hDb := h.D
    obtain ⟨d, hd9⟩ : ∃ d, d = f.deep.getD i 0 := ⟨_, rfl⟩
    rw [← hd9] at cD
    by_cases hneg : d < 0
    · have e : comeF k.b.lo k.hi f i on = ⟨f.deep.set i on, insS i f.opn, f.bad⟩ := by
        unfold comeF
        rw [if_neg ha, Int.toNat_natCast, ← hd9, if_pos hneg]
      rw [e]
      have hu1 : Upd [k.D] w (w.setCell ⟨k.D, i, none⟩ (.int .i64 on)) := (Upd.refl [k.D] w).setCell _ (.inl (by simp))
      have hB1 := hu1.blk h1 (by simpa using hne.symm)
      have hD1 : Blk (w.setCell ⟨k.D, i, none⟩ (.int .i64 on)) k.D ((f.deep.set i on).map (.int .i64)) 3 := by
        rw [← map_int_set]
        exact h.deep.set i _
      have hR1 := own_upd h2 hu1 (fun g hg => by
        have := (h2.lt g hg).1
        simp; omega)
      have hps := hpush_calls (i : Int) hB1 rfl hR1 h.L (by simpa [World.setCell] using h.base) (by rw [h3.length_eq]; omega) h4
      have hfin : ∀ w', HPushPost (w.setCell ⟨k.D, i, none⟩ (.int .i64 on)) base k.L (lookCells k v f.bad arr) 73 xs i w' → LS w' base k arr ⟨f.deep.set i on, insS i f.opn, f.bad⟩ ∧ Kb base [k.L, k.D] w w' := by
        rintro w' ⟨v', ys, q1, q2, q3, q4, q5⟩
        refine ⟨⟨⟨v', ys, q1, q2, q3.trans ((h3.cons _).trans (insS_perm _ _).symm), q4⟩, q5.blk hD1 hDb (by simpa using hne), by simpa using h.len, ?_, h.L, h.D, ?_⟩, ?_⟩
        · have := (insS_perm (i : Int) f.opn).length_eq
          simp at this
          show (insS (i : Int) f.opn).length ≤ 100000
          omega
        · have := q5.size
          have := h.base
          simp at *
          omega
        · exact (Kb.of_set i _ h.base (by simp)).trans (q5.mono (by simp))
      have HPS := Lib.hid hps
      have HFIN := Lib.hid hfin
      clear h h1 h2 h3 h4 e hu1 hB1 hD1 hR1 hps hfin ha hd9 c13 f13 hfl
      obtain ⟨aI, nI, cI, aB, nB, cB, aC, nC, cC, n, ⟨lo, pr, rest, sl, dp, ou⟩, hi, D, nD, L⟩ := k
      simp only at *
      go_enter Tryd.func28, Tryd.ntmps28
      go_wp2_with fail
      refine HPS.out.mono ?_
      rintro e w' ⟨rfl, hp⟩
      have HF := Lib.hid (HFIN.out w' hp)
      clear hp HPS HFIN
      go_wp2
      go_end0
      exact ⟨rfl, HF.out⟩
    · by_cases hon : d = on
      · have e : comeF k.b.lo k.hi f i on = f := by
          unfold comeF
          rw [if_neg ha, Int.toNat_natCast, ← hd9, if_neg hneg, if_neg (by simpa using hon)]
        rw [e]
        have H := Lib.hid (And.intro h (Kb.refl base [k.L, k.D] w))
        subst hon
        clear h h1 h2 h3 h4 e ha hd9 c13 f13 hfl
        obtain ⟨aI, nI, cI, aB, nB, cB, aC, nC, cC, n, ⟨lo, pr, rest, sl, dp, ou⟩, hi, D, nD, L⟩ := k
        simp only at *
        go_enter Tryd.func28, Tryd.ntmps28
        go_wp2
        go_end0
        exact ⟨rfl, H.out⟩
      · have e : comeF k.b.lo k.hi f i on = { f with bad := true } := by
          unfold comeF
          rw [if_neg ha, Int.toNat_natCast, ← hd9, if_neg hneg, if_pos hon]
        rw [e]
        have hB := h1.set 13 (.bool true)
        have hS : LS (w.setCell ⟨k.L, 13, none⟩ (.bool true)) base k arr { f with bad := true } :=
          ⟨⟨v, xs, hB, own_upd h2 ((Upd.refl [k.L] w).setCell (p := ⟨k.L, 13, none⟩) _ (.inl (by simp))) (fun g hg => by
            have := (h2.lt g hg).1
            simp; omega), h3, h4⟩, h.deep.set_other _ (by simpa using h.ne), h.len, h.few, h.L, h.D, by simpa [World.setCell] using h.base⟩
        have hK : Kb base [k.L, k.D] w (w.setCell ⟨k.L, 13, none⟩ (.bool true)) := Kb.of_set 13 _ h.base (by simp)
        have H := Lib.hid (And.intro hS hK)
        have hon2 : (d != on) = true := by simpa using hon
        clear h h1 h2 h3 h4 e ha hd9 hfl hS hK hB
        obtain ⟨aI, nI, cI, aB, nB, cB, aC, nC, cC, n, ⟨lo, pr, rest, sl, dp, ou⟩, hi, D, nD, L⟩ := k
        simp only at *
        go_enter Tryd.func28, Tryd.ntmps28
        go_wp2
        go_end0
        exact ⟨rfl, H.out⟩
end Go.Proofs.YtknbgbeepachgaaDoor

/-
  How many an instruction takes and puts; is what it names there?
-/
namespace Go.Proofs.YtknbgbeepachgaaDoor
open Go.RowKit

/-- An instruction that may be. -/
structure InsOk (x : InsV) : Prop where
  op1 : 1 ≤ x.op
  op2 : x.op ≤ 12
  a1 : 0 ≤ x.a
  a2 : x.a ≤ 1000000
  b1 : 0 ≤ x.b
  b2 : x.b ≤ 1000000
  bc : x.op ≠ 5 → x.b = 0
  ac : 11 ≤ x.op → x.a = 0
theorem InsOk.ops {x : InsV} (h : InsOk x) : x.op = 1 ∨ x.op = 2 ∨ x.op = 3 ∨ x.op = 4 ∨ x.op = 5 ∨ x.op = 6 ∨ x.op = 7 ∨ x.op = 8 ∨ x.op = 9 ∨ x.op = 10 ∨ x.op = 11 ∨ x.op = 12 := by
  have := h.op1
  have := h.op2
  omega
theorem needs_range {x : InsV} (h : InsOk x) : -1 ≤ (needsF x).1 ∧ (needsF x).1 ≤ 1000001 ∧ 0 ≤ (needsF x).2 ∧ (needsF x).2 ≤ 1 := by
  have := h.a1
  have := h.a2
  have := h.b1
  have := h.b2
  have := arD_range x.a
  unfold needsF
  repeat' split
  all_goals simp only
  all_goals omega
set_option maxRecDepth 100000 in
set_option maxHeartbeats 1500000 in
theorem needs_calls {w : World} {x : InsV} (hT : Tabs w) (h : InsOk x) :
    Calls Tryd.prog 46 #[.agg (insCells x).toArray] w fun e w' => e = .returned (.tuple #[.int .i64 (needsF x).1, .int .i64 (needsF x).2]) ∧ Upd [] w w' := by
  have hops := h.ops
  have ha1 := h.a1
  have ha2 := h.a2
  clear h
  obtain ⟨op, a, b⟩ := x
  simp only at hops ha1 ha2
  have hu : Upd [] w (w.alloc (.cells #[.int .i64 op, .int .i64 a, .int .i64 b] 47)) := (Upd.refl [] w).alloc _
  have HA := Lib.hid (arity_calls (hT.upd hu) a)
  have HU := Lib.hid hu
  clear hT hu
  unfold insCells at *
  rcases hops with rfl | rfl | rfl | rfl | rfl | rfl | rfl | rfl | rfl | rfl | rfl | rfl
  case inr.inr.inr.inr.inr.inl =>
    show Calls _ _ _ w fun e w' => e = .returned (.tuple #[.int .i64 (arD a), .int .i64 1]) ∧ Upd [] w w'
    go_enter Tryd.func46, Tryd.ntmps46
    go_wp2_with fail
    refine HA.out.mono ?_
    rintro e w2 ⟨rfl, hu2⟩
    have HU2 := Lib.hid (HU.out.then hu2)
    clear hu2 HA
    go_wp2
    go_ret2
    exact ⟨rfl, HU2.out⟩
  all_goals
    simp only [needsF]
    clear HA
    go_enter Tryd.func46, Tryd.ntmps46
    go_wp2
    go_ret2
    exact ⟨rfl, HU.out⟩
/-- What a look leans on: the code lies there. -/
structure LC (w : World) (k : LookK) (m : Nat) (c : CodeV) : Prop where
  code : IsC w m k.aI k.aB k.aC c
  nI : k.nI = c.ins.length
  nB : k.nB = c.blks.length
  nC : k.nC = c.cons.length
  tabs : Tabs w
theorem LC.upd {w w' : World} {k : LookK} {m : Nat} {c : CodeV} (h : LC w k m c) (hu : Upd [] w w') : LC w' k m c := ⟨h.code.upd hu, h.nI, h.nB, h.nC, h.tabs.upd hu⟩
set_option maxRecDepth 100000 in
set_option maxHeartbeats 3000000 in
theorem there_calls {w : World} {base m : Nat} {k : LookK} {arr : Value} {f : Flow} {c : CodeV} {x : InsV} (hS : LS w base k arr f) (hC : LC w k m c) (h : InsOk x) :
    Calls Tryd.prog 45 #[.pointer (some ⟨k.L, 0, none⟩), .agg (insCells x).toArray] w fun e w' => e = .returned (.bool (thereF c k.n k.b k.hi x)) ∧ Upd [] w w' := by
  obtain ⟨v, xs, h1, _⟩ := hS.ex
  have hops := h.ops
  have ha1 := h.a1
  have ha2 := h.a2
  have hb1 := h.b1
  have hb2 := h.b2
  have hu : Upd [] w (w.alloc (.cells (insCells x).toArray 47)) := (Upd.refl [] w).alloc _
  have hBx : Blk (w.alloc (.cells (insCells x).toArray 47)) w.heap.size (insCells x) 47 := Blk.newAt rfl
  have HA := Lib.hid (arity_calls (hC.tabs.upd hu) x.a)
  obtain ⟨W1, hW1⟩ : ∃ W1, W1 = w.alloc (.cells (insCells x).toArray 47) := ⟨_, rfl⟩
  rw [← hW1] at hu hBx HA
  have hB1 := hu.blk h1 (by simp)
  have c0 := hB1.cell_some (i := 0) rfl
  have c1 := hB1.cell_some (i := 1) rfl
  have c2 := hB1.cell_some (i := 2) rfl
  have c3 := hB1.cell_some (i := 3) rfl
  have c4 := hB1.cell_some (i := 4) rfl
  have c7 := hB1.cell_some (i := 7) rfl
  have c9 := hB1.cell_some (i := 9) rfl
  have c10 := hB1.cell_some (i := 10) rfl
  have x0 := hBx.cell_some (i := 0) rfl
  have x1 := hBx.cell_some (i := 1) rfl
  have x2 := hBx.cell_some (i := 2) rfl
  have HU := Lib.hid hu
  have HC := Lib.hid (hC.upd hu)
  clear h1 hS hC hu h hBx hB1
  obtain ⟨op, a, b⟩ := x
  unfold insCells at *
  simp only at *
  have hW2 := Lib.hid hW1
  clear hW1
  rcases hops with rfl | rfl | rfl | rfl | rfl | rfl | rfl | rfl | rfl | rfl | rfl | rfl
  case inl =>
    have e : thereF c k.n k.b k.hi ⟨1, a, b⟩ = decide (a < (k.nC : Int)) := by rw [HC.out.nC]; rfl
    rw [e]
    clear HA HC e
    obtain ⟨aI, nI, cI, aB, nB, cB, aC, nC, cC, n, ⟨lo, pr, rest, sl, dp, ou⟩, hi, D, nD, L⟩ := k
    simp only at *
    go_enter Tryd.func45, Tryd.ntmps45
    go_wp2_with fail
    rw [← hW2.out]
    go_quiet (fail)
    go_wp2
    go_ret
    exact ⟨rfl, HU.out.drewN _⟩
  case inr.inl =>
    have e : thereF c k.n k.b k.hi ⟨2, a, b⟩ = decide (a < k.b.sl) := rfl
    rw [e]
    clear HA HC e
    obtain ⟨aI, nI, cI, aB, nB, cB, aC, nC, cC, n, ⟨lo, pr, rest, sl, dp, ou⟩, hi, D, nD, L⟩ := k
    simp only at *
    go_enter Tryd.func45, Tryd.ntmps45
    go_wp2_with fail
    rw [← hW2.out]
    go_quiet (fail)
    go_wp2
    go_ret
    exact ⟨rfl, HU.out.drewN _⟩
  case inr.inr.inl =>
    have e : thereF c k.n k.b k.hi ⟨3, a, b⟩ = decide (a < k.b.ou) := rfl
    rw [e]
    clear HA HC e
    obtain ⟨aI, nI, cI, aB, nB, cB, aC, nC, cC, n, ⟨lo, pr, rest, sl, dp, ou⟩, hi, D, nD, L⟩ := k
    simp only at *
    go_enter Tryd.func45, Tryd.ntmps45
    go_wp2_with fail
    rw [← hW2.out]
    go_quiet (fail)
    go_wp2
    go_ret
    exact ⟨rfl, HU.out.drewN _⟩
  case inr.inr.inr.inl =>
    have e : thereF c k.n k.b k.hi ⟨4, a, b⟩ = decide (a < k.b.sl) := rfl
    rw [e]
    clear HA HC e
    obtain ⟨aI, nI, cI, aB, nB, cB, aC, nC, cC, n, ⟨lo, pr, rest, sl, dp, ou⟩, hi, D, nD, L⟩ := k
    simp only at *
    go_enter Tryd.func45, Tryd.ntmps45
    go_wp2_with fail
    rw [← hW2.out]
    go_quiet (fail)
    go_wp2
    go_ret
    exact ⟨rfl, HU.out.drewN _⟩
  case inr.inr.inr.inr.inl =>
    have e : thereF c k.n k.b k.hi ⟨5, a, b⟩ = decide ((k.n : Int) < a ∧ a < c.blks.length ∧ (c.blks.getD a.toNat default).ou = b) := rfl
    rw [e, ← HC.out.nB]
    clear e HA
    by_cases g1 : (k.n : Int) < a
    · by_cases g2 : a < (k.nB : Int)
      · obtain ⟨j, rfl⟩ : ∃ j : Nat, a = j := ⟨a.toNat, by omega⟩
        rw [Int.toNat_natCast]
        obtain ⟨bb, o, eB, _, _, _, _, _, y5⟩ := blkAt_get HC.out.code.blks (i := j) (by rw [← HC.out.nB]; omega)
        rw [eB] at c1
        generalize (c.blks.getD j default).ou = oo at *
        have e : decide ((k.n : Int) < (j : Int) ∧ (j : Int) < (k.nB : Int) ∧ oo = b) = decide (oo = b) := by
          by_cases h : oo = b <;> simp [h, g2] <;> omega
        rw [e]
        clear HC e eB
        obtain ⟨aI, nI, cI, aB, nB, cB, aC, nC, cC, n, ⟨lo, pr, rest, sl, dp, ou⟩, hi, D, nD, L⟩ := k
        simp only at *
        have g3 : decide ((n : Int) < (j : Int)) = true := decide_eq_true g1
        have g4 : decide ((j : Int) < (nB : Int)) = true := decide_eq_true g2
        go_enter Tryd.func45, Tryd.ntmps45
        go_wp2_with fail
        rw [← hW2.out]
        go_quiet (fail)
        go_wp2
        go_ret
        exact ⟨rfl, HU.out.drewN _⟩
      · have e : decide ((k.n : Int) < a ∧ a < (k.nB : Int) ∧ (c.blks.getD a.toNat default).ou = b) = false := decide_eq_false fun h => g2 h.2.1
        rw [e]
        clear HC e
        obtain ⟨aI, nI, cI, aB, nB, cB, aC, nC, cC, n, ⟨lo, pr, rest, sl, dp, ou⟩, hi, D, nD, L⟩ := k
        simp only at *
        have g3 : decide ((n : Int) < a) = true := decide_eq_true g1
        have g4 : decide (a < (nB : Int)) = false := decide_eq_false g2
        go_enter Tryd.func45, Tryd.ntmps45
        go_wp2_with fail
        rw [← hW2.out]
        go_quiet (fail)
        go_wp2
        go_ret
        exact ⟨rfl, HU.out.drewN _⟩
    · have e : decide ((k.n : Int) < a ∧ a < (k.nB : Int) ∧ (c.blks.getD a.toNat default).ou = b) = false := decide_eq_false fun h => g1 h.1
      rw [e]
      clear HC e
      obtain ⟨aI, nI, cI, aB, nB, cB, aC, nC, cC, n, ⟨lo, pr, rest, sl, dp, ou⟩, hi, D, nD, L⟩ := k
      simp only at *
      have g3 : decide ((n : Int) < a) = false := decide_eq_false g1
      go_enter Tryd.func45, Tryd.ntmps45
      go_wp2_with fail
      rw [← hW2.out]
      go_quiet (fail)
      go_wp2
      go_ret
      exact ⟨rfl, HU.out.drewN _⟩
  case inr.inr.inr.inr.inr.inl =>
    have e : thereF c k.n k.b k.hi ⟨6, a, b⟩ = decide (0 ≤ arD a) := rfl
    rw [e]
    clear HC e
    obtain ⟨aI, nI, cI, aB, nB, cB, aC, nC, cC, n, ⟨lo, pr, rest, sl, dp, ou⟩, hi, D, nD, L⟩ := k
    simp only at *
    generalize arD a = q at *
    go_enter Tryd.func45, Tryd.ntmps45
    go_wp2_with fail
    rw [← hW2.out]
    refine HA.out.mono ?_
    rintro e w2 ⟨rfl, hu2⟩
    have HU2 := Lib.hid (HU.out.then hu2)
    clear hu2 HA
    go_wp2
    go_ret
    exact ⟨rfl, HU2.out⟩
  case inr.inr.inr.inr.inr.inr.inl =>
    have e : thereF c k.n k.b k.hi ⟨7, a, b⟩ = decide (k.b.lo ≤ a ∧ a < k.hi) := rfl
    rw [e]
    clear HC e HA
    obtain ⟨aI, nI, cI, aB, nB, cB, aC, nC, cC, n, ⟨lo, pr, rest, sl, dp, ou⟩, hi, D, nD, L⟩ := k
    simp only at *
    by_cases g1 : lo ≤ a
    · have e : decide (lo ≤ a ∧ a < hi) = decide (a < hi) := by
        by_cases h : a < hi <;> simp [h, g1]
      rw [e]
      clear e
      have g3 : decide (lo ≤ a) = true := decide_eq_true g1
      go_enter Tryd.func45, Tryd.ntmps45
      go_wp2_with fail
      rw [← hW2.out]
      go_quiet (fail)
      go_wp2
      go_ret
      exact ⟨rfl, HU.out.drewN _⟩
    · have e : decide (lo ≤ a ∧ a < hi) = false := decide_eq_false fun h => g1 h.1
      rw [e]
      clear e
      have g3 : decide (lo ≤ a) = false := decide_eq_false g1
      go_enter Tryd.func45, Tryd.ntmps45
      go_wp2_with fail
      rw [← hW2.out]
      go_quiet (fail)
      go_wp2
      go_ret
      exact ⟨rfl, HU.out.drewN _⟩
  case inr.inr.inr.inr.inr.inr.inr.inl =>
    have e : thereF c k.n k.b k.hi ⟨8, a, b⟩ = decide (k.b.lo ≤ a ∧ a < k.hi) := rfl
    rw [e]
    clear HC e HA
    obtain ⟨aI, nI, cI, aB, nB, cB, aC, nC, cC, n, ⟨lo, pr, rest, sl, dp, ou⟩, hi, D, nD, L⟩ := k
    simp only at *
    by_cases g1 : lo ≤ a
    · have e : decide (lo ≤ a ∧ a < hi) = decide (a < hi) := by
        by_cases h : a < hi <;> simp [h, g1]
      rw [e]
      clear e
      have g3 : decide (lo ≤ a) = true := decide_eq_true g1
      go_enter Tryd.func45, Tryd.ntmps45
      go_wp2_with fail
      rw [← hW2.out]
      go_quiet (fail)
      go_wp2
      go_ret
      exact ⟨rfl, HU.out.drewN _⟩
    · have e : decide (lo ≤ a ∧ a < hi) = false := decide_eq_false fun h => g1 h.1
      rw [e]
      clear e
      have g3 : decide (lo ≤ a) = false := decide_eq_false g1
      go_enter Tryd.func45, Tryd.ntmps45
      go_wp2_with fail
      rw [← hW2.out]
      go_quiet (fail)
      go_wp2
      go_ret
      exact ⟨rfl, HU.out.drewN _⟩
  all_goals
    simp only [thereF]
    clear HC HA
    obtain ⟨aI, nI, cI, aB, nB, cB, aC, nC, cC, n, ⟨lo, pr, rest, sl, dp, ou⟩, hi, D, nD, L⟩ := k
    simp only at *
    go_enter Tryd.func45, Tryd.ntmps45
    go_wp2_with fail
    rw [← hW2.out]
    go_wp2
    go_ret
    exact ⟨rfl, HU.out⟩
end Go.Proofs.YtknbgbeepachgaaDoor

/-
  Is an instruction right?
-/
namespace Go.Proofs.YtknbgbeepachgaaDoor
set_option linter.unusedVariables false
open Go.RowKit

/-- How many stand there. -/
def DeepOk (f : Flow) : Prop := ∀ i, i < f.deep.length → -1 ≤ f.deep.getD i 0 ∧ f.deep.getD i 0 ≤ 100000
/-- The code may be, as far as that is wanted here. -/
structure CodeOk (c : CodeV) : Prop where
  ins : ∀ x ∈ c.ins, InsOk x
  blks : ∀ b ∈ c.blks, 0 ≤ b.lo ∧ b.lo ≤ 100000 ∧ 0 ≤ b.pr ∧ b.pr ≤ 100000 ∧ 0 ≤ b.sl ∧ b.sl ≤ 100000 ∧ 0 ≤ b.dp ∧ b.dp ≤ 100000 ∧ 0 ≤ b.ou ∧ b.ou ≤ 100000
theorem CodeOk.at {c : CodeV} (h : CodeOk c) {i : Nat} (hi : i < c.ins.length) : InsOk (c.ins.getD i default) := by
  rw [List.getD_eq_getElem?_getD, List.getElem?_eq_getElem hi]
  exact h.ins _ (List.getElem_mem hi)
/-- What one leaves. -/
def OnePost (w : World) (base : Nat) (k : LookK) (RR : Bool × Flow) (e : Ending) (w' : World) : Prop :=
  e = .returned (.bool RR.1) ∧ LS w' base k (arrV k.L) RR.2 ∧ Kb base [k.L, k.D] w w'
theorem OnePost.of {w w' : World} {base : Nat} {k : LookK} {RR : Bool × Flow} {r : Bool} {g : Flow} {e : Ending} (h : RR = (r, g)) (he : e = .returned (.bool r)) (h2 : LS w' base k (arrV k.L) g ∧ Kb base [k.L, k.D] w w') : OnePost w base k RR e w' := by
  rw [h]
  exact ⟨he, h2.1, h2.2⟩
set_option maxRecDepth 100000 in
set_option maxHeartbeats 3000000 in
theorem one_calls {w : World} {base m : Nat} {k : LookK} {f : Flow} {c : CodeV} (hS : LS w base k (arrV k.L) f) (hC : LC w k m c) (hK : CodeOk c) (hf : f.opn.length < 99000) (hDp : DeepOk f) (hlo : 0 ≤ k.b.lo) (hhi : k.hi ≤ k.nD) (hnD : k.nD ≤ 65536) (hdp : k.b.dp ≤ 100000) (hnI : k.nI = k.nD)
    (hCup : ∀ w', Kb base [k.L, k.D] w w' → LC w' k m c) {i : Nat} (hi : i < k.nD) (hb : f.bad = false) :
    Calls Tryd.prog 31 #[.pointer (some ⟨k.L, 0, none⟩), .int .i64 i] w (OnePost w base k (oneF c k.n k.b k.hi f i)) := by
  obtain ⟨v, xs, h1, _⟩ := hS.ex
  have c0 := h1.cell_some (i := 0) rfl
  have c8 := h1.cell_some (i := 8) rfl
  have c11 := h1.cell_some (i := 11) rfl
  have c14 := h1.cell_some (i := 14) rfl
  have hiI : i < c.ins.length := by rw [← hC.nI]; omega
  obtain ⟨bb, o, eI, y0, y1, y2⟩ := insAt_get hC.code.ins hiI
  rw [eI] at c0
  have hx := hK.at hiI
  have hfl := hS.len
  have cD : w.cell? ⟨k.D, i, none⟩ = some (.int .i64 (f.deep.getD i 0)) := hS.deep.cell_some (by rw [map_int_get, List.getElem?_eq_getElem (by omega)]; simp [List.getD_eq_getElem?_getD, List.getElem?_eq_getElem (show i < f.deep.length by omega)])
  have hd := hDp i (by omega)
  have l1 := World.block_lt_of_cell? w _ y0
  have l2 := World.block_lt_of_cell? w _ c8
  have l3 := World.block_lt_of_cell? w _ cD
  simp only at l1 l2 l3
  obtain ⟨x, ex⟩ : ∃ x, x = c.ins.getD i default := ⟨_, rfl⟩
  obtain ⟨d, ed⟩ : ∃ d, d = f.deep.getD i 0 := ⟨_, rfl⟩
  rw [← ex] at y0 y1 y2 hx
  rw [← ed] at cD hd
  have EX := Lib.hid ex
  have ED := Lib.hid ed
  have HS := Lib.hid hS
  have HC := Lib.hid hC
  have HCU := Lib.hid hCup
  have HX := Lib.hid hx
  have hiI2 : (i : Int) < (k.nI : Int) := by omega
  have hiD2 : (i : Int) < (k.nD : Int) := by omega
  clear hS hC hK hCup hx h1 hDp eI ex ed hfl
  obtain ⟨op, a, b⟩ := x
  simp only at y0 y1 y2
  have hone : oneF c k.n k.b k.hi f i = if wrongF c k.n k.b k.hi ⟨op, a, b⟩ d then (false, f) else if op = 11 ∨ op = 10 then (decide (d + ((needsF ⟨op, a, b⟩).2 - (needsF ⟨op, a, b⟩).1) = 0), f)
      else (!(if op = 7 then (if op = 7 ∨ op = 8 then comeF k.b.lo k.hi f a (d + ((needsF ⟨op, a, b⟩).2 - (needsF ⟨op, a, b⟩).1)) else f) else comeF k.b.lo k.hi (if op = 7 ∨ op = 8 then comeF k.b.lo k.hi f a (d + ((needsF ⟨op, a, b⟩).2 - (needsF ⟨op, a, b⟩).1)) else f) (i + 1) (d + ((needsF ⟨op, a, b⟩).2 - (needsF ⟨op, a, b⟩).1))).bad,
        (if op = 7 then (if op = 7 ∨ op = 8 then comeF k.b.lo k.hi f a (d + ((needsF ⟨op, a, b⟩).2 - (needsF ⟨op, a, b⟩).1)) else f) else comeF k.b.lo k.hi (if op = 7 ∨ op = 8 then comeF k.b.lo k.hi f a (d + ((needsF ⟨op, a, b⟩).2 - (needsF ⟨op, a, b⟩).1)) else f) (i + 1) (d + ((needsF ⟨op, a, b⟩).2 - (needsF ⟨op, a, b⟩).1)))) := by
    unfold oneF
    rw [Int.toNat_natCast, ← EX.out, ← ED.out]
  have hnr := needs_range HX.out
  have HONE := Lib.hid hone
  clear hone
  obtain ⟨RR, hRR⟩ : ∃ RR, RR = oneF c k.n k.b k.hi f i := ⟨_, rfl⟩
  rw [← hRR] at HONE ⊢
  clear hRR EX ED
  have hfin0 : ∀ wz, Upd [] w wz → LS wz base k (arrV k.L) f ∧ Kb base [k.L, k.D] w wz := fun wz hz => ⟨HS.out.upd hz, Kb.of_upd0 hz HS.out.base⟩
  have HF0 := Lib.hid hfin0
  clear hfin0
  go_enter Tryd.func31, Tryd.ntmps31
  go_wp2_with fail
  go_region
  have hu1 : Upd [] w (w.alloc (.cells #[.int .i64 op, .int .i64 a, .int .i64 b] 47)).drew := ((Upd.refl [] w).alloc _).drew
  have hBx : Blk (w.alloc (.cells #[.int .i64 op, .int .i64 a, .int .i64 b] 47)).drew w.heap.size [.int .i64 op, .int .i64 a, .int .i64 b] 47 := (Blk.newAt rfl)
  generalize (w.alloc (.cells #[.int .i64 op, .int .i64 a, .int .i64 b] 47)).drew = W1 at *
  have x0 := hBx.cell_some (i := 0) rfl
  have x1 := hBx.cell_some (i := 1) rfl
  have x2 := hBx.cell_some (i := 2) rfl
  have HT := Lib.hid (there_calls (HS.out.upd hu1) (HC.out.upd hu1) HX.out)
  have HU1 := Lib.hid hu1
  have HBX := Lib.hid hBx
  clear hu1 hBx y0 y1 y2 c0 c8 c11 c14 cD l1 l2 l3
  generalize hsz : w.heap.size = bx at *
  have HSZ := Lib.hid hsz
  clear hsz
  go_wp2_with fail
  refine HT.out.mono ?_
  rintro e w2 ⟨rfl, hu2⟩
  have HU2 := Lib.hid (HU1.out.then hu2)
  have HBX2 := Lib.hid (hu2.blk HBX.out (by simp))
  clear hu2 HBX HT x0 x1 x2 HU1
  by_cases hth : thereF c k.n k.b k.hi ⟨op, a, b⟩ = true
  · rw [hth]
    have HTH := Lib.hid hth
    clear hth
    have x0 := HBX2.out.cell_some (i := 0) rfl
    have x1 := HBX2.out.cell_some (i := 1) rfl
    have x2 := HBX2.out.cell_some (i := 2) rfl
    have HN := Lib.hid (needs_calls (HC.out.upd HU2.out).tabs HX.out)
    go_wp2_with fail
    refine HN.out.mono ?_
    rintro e w3 ⟨rfl, hu3⟩
    have HU3 := Lib.hid (HU2.out.then hu3)
    have HBX3 := Lib.hid (hu3.blk HBX2.out (by simp))
    clear hu3 HN HBX2 HU2 x0 x1 x2
    obtain ⟨tk, htk⟩ : ∃ tk, tk = (needsF ⟨op, a, b⟩).1 := ⟨_, rfl⟩
    obtain ⟨pt, hpt⟩ : ∃ pt, pt = (needsF ⟨op, a, b⟩).2 := ⟨_, rfl⟩
    rw [← htk, ← hpt] at hnr HONE ⊢
    have hw : wrongF c k.n k.b k.hi ⟨op, a, b⟩ d = decide (d < tk ∨ k.b.dp < d - tk + pt) := by
      unfold wrongF
      rw [HTH.out, ← htk, ← hpt]
      rfl
    rw [hw] at HONE
    clear hw htk hpt HTH
    have hB3 := HU3.out.blk (HS.out.ex.choose_spec.choose_spec.1) (by simp)
    have c8 := hB3.cell_some (i := 8) rfl
    have c13 := hB3.cell_some (i := 13) rfl
    have c14 : w3.cell? ⟨k.L, 14, none⟩ = some (.func (.func 28) #[.pointer (some ⟨k.L, 0, none⟩)] #[]) := hB3.cell_some (i := 14) rfl
    have x0 := HBX3.out.cell_some (i := 0) rfl
    have x1 := HBX3.out.cell_some (i := 1) rfl
    clear hB3
    have HF3 := Lib.hid (HF0.out w3 HU3.out)
    by_cases q1 : d < tk
    · have e : RR = (false, f) := by
        rw [HONE.out, decide_eq_true (Or.inl q1)]
        rfl
      have E9 := Lib.hid e
      clear HONE e
      go_wp2
      go_ret
      exact OnePost.of E9.out rfl HF3.out
    · by_cases q2 : k.b.dp < d - tk + pt
      · have e : RR = (false, f) := by
          rw [HONE.out, decide_eq_true (Or.inr q2)]
          rfl
        have E9 := Lib.hid e
        clear HONE e
        go_wp2
        go_ret
        exact OnePost.of E9.out rfl HF3.out
      · rw [decide_eq_false (by omega)] at HONE
        have hdp0 : 0 ≤ d - tk := by omega
        have hon : IntKind.i64.wrap (d - tk + pt) = d - tk + pt := IntWalk.i64_in _ (by omega)
        obtain ⟨on, hon2⟩ : ∃ on, on = d + (pt - tk) := ⟨_, rfl⟩
        have hon3 : d + (pt - tk) = on := hon2.symm
        rw [hon3] at HONE
        have hb1 : 0 ≤ on ∧ on ≤ 100000 := by omega
        have HON := Lib.hid hon
        clear hon2 hon
        have ha1 := HX.out.a1
        have ha2 := HX.out.a2
        simp only at ha1 ha2
        by_cases r1 : op = 11 ∨ op = 10
        · have e : RR = (decide (on = 0), f) := by
            rw [HONE.out, if_neg (by simp), if_pos r1]
          have E9 := Lib.hid e
          clear HONE e
          rcases r1 with rfl | rfl
          · go_wp2
            go_ret
            exact OnePost.of E9.out rfl HF3.out
          · go_wp2
            go_ret
            exact OnePost.of E9.out rfl HF3.out
        · have r2 : ¬ op = 11 := fun h => r1 (.inl h)
          have r3 : ¬ op = 10 := fun h => r1 (.inr h)
          rw [if_neg (by simp), if_neg r1] at HONE
          have hbx : bx ∉ [k.L, k.D] := by
            have := HSZ.out
            have h1 := HS.out.L
            have h2 := HS.out.D
            have h3 := HS.out.base
            simp
            omega
          have HBXN := Lib.hid hbx
          have hi1 : IntKind.i64.wrap ((i : Int) + 1) = (i : Int) + 1 := IntWalk.i64_in _ (by omega)
          clear hbx
          by_cases r7 : op = 7
          · subst r7
            have hcm := come_calls a on (HS.out.upd HU3.out.drew) hlo hhi (by omega) (by omega)
            have e : RR = (!(comeF k.b.lo k.hi f a on).bad, comeF k.b.lo k.hi f a on) := by
              rw [HONE.out]
              simp
            have E9 := Lib.hid e
            have HCM := Lib.hid hcm
            clear HONE e hcm hi1
            go_wp2_with fail
            go_still_tail 7, (by kernel_rfl)
            change wpList _ _ _ _ _ w3.drew
            go_wp2_with fail
            refine HCM.out.mono ?_
            rintro e w4 ⟨rfl, hS4, hK4⟩
            have hB4 := hK4.other bx _ _ (Blk.drew HBX3.out) HBXN.out (by decide)
            obtain ⟨v4, xs4, hL4, _⟩ := hS4.ex
            have HK4 := Lib.hid ((Kb.of_upd0 (S := [k.L, k.D]) HU3.out.drew HS.out.base).trans hK4)
            have HS4 := Lib.hid hS4
            have x0 := hB4.cell_some (i := 0) rfl
            have c13 := hL4.cell_some (i := 13) rfl
            clear hB4 hL4 hS4 hK4 HCM HF3 HF0 HBX3 c8 c14 x1
            generalize (comeF k.b.lo k.hi f a on).bad = bd at *
            go_wp2
            go_ret
            exact OnePost.of E9.out rfl ⟨HS4.out, HK4.out⟩
          · by_cases r8 : op = 8
            · subst r8
              have hcm := come_calls a on (HS.out.upd HU3.out.drew) hlo hhi (by omega) (by omega)
              have hcl := comeF_len k.b.lo k.hi f a on
              have e : RR = (!(comeF k.b.lo k.hi (comeF k.b.lo k.hi f a on) (i + 1) on).bad, comeF k.b.lo k.hi (comeF k.b.lo k.hi f a on) (i + 1) on) := by
                rw [HONE.out]
                simp
              have E9 := Lib.hid e
              have HCM := Lib.hid hcm
              have HCL := Lib.hid hcl
              clear HONE e hcm hcl
              go_wp2_with fail
              go_still_tail 7, (by kernel_rfl)
              change wpList _ _ _ _ _ w3.drew
              go_wp2_with fail
              refine HCM.out.mono ?_
              rintro e w4 ⟨rfl, hS4, hK4⟩
              have hB4 := hK4.other bx _ _ (Blk.drew HBX3.out) HBXN.out (by decide)
              obtain ⟨v4, xs4, hL4, _⟩ := hS4.ex
              have HK4 := Lib.hid ((Kb.of_upd0 (S := [k.L, k.D]) HU3.out.drew HS.out.base).trans hK4)
              have hcm2 := come_calls ((i : Int) + 1) on hS4 hlo hhi (by have := HCL.out; omega) (by omega)
              have x0 := hB4.cell_some (i := 0) rfl
              have c14' : w4.cell? ⟨k.L, 14, none⟩ = some (.func (.func 28) #[.pointer (some ⟨k.L, 0, none⟩)] #[]) := hL4.cell_some (i := 14) rfl
              have HCM2 := Lib.hid hcm2
              clear hB4 hL4 hS4 hK4 HCM HF3 HF0 HBX3 c8 c14 c13 x1 hcm2
              go_wp2_with fail
              refine HCM2.out.mono ?_
              rintro e w5 ⟨rfl, hS5, hK5⟩
              obtain ⟨v5, xs5, hL5, _⟩ := hS5.ex
              have HK5 := Lib.hid (HK4.out.trans hK5)
              have HS5 := Lib.hid hS5
              have c13 := hL5.cell_some (i := 13) rfl
              clear hL5 hS5 hK5 HCM2 HK4 x0 c14'
              generalize (comeF k.b.lo k.hi (comeF k.b.lo k.hi f a on) (i + 1) on).bad = bd at *
              go_wp2
              go_ret
              exact OnePost.of E9.out rfl ⟨HS5.out, HK5.out⟩
            · have hcm := come_calls ((i : Int) + 1) on (HS.out.upd HU3.out) hlo hhi (by omega) (by omega)
              have e : RR = (!(comeF k.b.lo k.hi f (i + 1) on).bad, comeF k.b.lo k.hi f (i + 1) on) := by
                rw [HONE.out]
                simp [r7, r8]
              have E9 := Lib.hid e
              have HCM := Lib.hid hcm
              have r7' : (op != 7) = true := by simpa using r7
              have b7 : (op == 7) = false := by simpa using r7
              have b8 : (op == 8) = false := by simpa using r8
              have b10 : (op == 10) = false := by simpa using r3
              have b11 : (op == 11) = false := by simpa using r2
              clear HONE e hcm
              go_wp2_with fail
              refine HCM.out.mono ?_
              rintro e w4 ⟨rfl, hS4, hK4⟩
              obtain ⟨v4, xs4, hL4, _⟩ := hS4.ex
              have HK4 := Lib.hid ((Kb.of_upd0 (S := [k.L, k.D]) HU3.out HS.out.base).trans hK4)
              have HS4 := Lib.hid hS4
              have c13' := hL4.cell_some (i := 13) rfl
              clear hL4 hS4 hK4 HCM HF3 HF0 HBX3 c8 c14 c13 x0 x1
              generalize (comeF k.b.lo k.hi f (i + 1) on).bad = bd at *
              go_wp2
              go_ret
              exact OnePost.of E9.out rfl ⟨HS4.out, HK4.out⟩
  · have hth' : thereF c k.n k.b k.hi ⟨op, a, b⟩ = false := by simpa using hth
    rw [hth']
    have e : RR = (false, f) := by
      rw [HONE.out]
      unfold wrongF
      rw [hth']
      rfl
    have E9 := Lib.hid e
    have HF3 := Lib.hid (HF0.out w2 HU2.out)
    clear e hth hth' HONE HBX2
    go_wp2
    go_ret
    exact OnePost.of E9.out rfl HF3.out
end Go.Proofs.YtknbgbeepachgaaDoor
