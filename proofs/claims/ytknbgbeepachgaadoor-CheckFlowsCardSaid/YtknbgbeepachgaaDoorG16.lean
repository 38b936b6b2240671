/-
  Texts of this claim, merged: ChW, CbP, CbQ. Lemmas and contracts; no conditions of our own.
-/
import Derived.Test.YtknbgbeepachgaaDoorG15
import Derived.Laws.MakeOwn

/-
  check.depths: plain lemmas.
-/
namespace Go.Proofs.YtknbgbeepachgaaDoor
open Go.RowKit Go.Shelf

/-- Where a block ends. -/
def hiF (c : CodeV) (n : Nat) : Int := if n + 1 < c.blks.length then (c.blks.getD (n + 1) default).lo else c.ins.length
/-- The blocks from the n-th on: the first wrong place, if there is one; else how many stand ahead of each. -/
def runF (c : CodeV) : Nat → List BlkV → List Int → Int × List Int
  | _, [], deep => (-1, deep)
  | n, b :: bs, deep =>
    if 0 ≤ (blockF c n b (hiF c n) ⟨deep, [], false⟩).1 then ((blockF c n b (hiF c n) ⟨deep, [], false⟩).1, []) else runF c (n + 1) bs (blockF c n b (hiF c n) ⟨deep, [], false⟩).2.deep
structure DepR where
  deep : List Int
  at' : Int
  e : Int
def depthsF (n : Nat) (c : CodeV) : DepR :=
  if shapeF n c = false then ⟨[], -1, 15⟩
  else if 0 ≤ (runF c 0 c.blks (List.replicate c.ins.length (-1))).1 then ⟨[], (runF c 0 c.blks (List.replicate c.ins.length (-1))).1, 15⟩
  else ⟨(runF c 0 c.blks (List.replicate c.ins.length (-1))).2, 0, 0⟩
theorem loopF_inv {c : CodeV} {n : Nat} {b : BlkV} {hi : Int} {nD : Nat} (hlo : 0 ≤ b.lo) (hhi : hi ≤ nD) (hdp : b.dp ≤ 100000) : ∀ (g : Nat) (f : Flow), FInv b.lo hi nD f → (f.opn ≠ [] → f.bad = false) → FInv b.lo hi nD (loopF c n b hi g f).2
  | 0, f, h, _ => h
  | g + 1, f, h, hb => by
    unfold loopF
    split
    · exact h
    · rename_i i rest e
      have h1 := (h.tail e).1.one (c := c) (n := n) hlo hhi hdp i (hb (by rw [e]; simp))
      split
      · rename_i hr
        exact loopF_inv hlo hhi hdp g _ h1.1 (fun _ => h1.2.2 hr)
      · exact h1.1
theorem blockF_inv {c : CodeV} {n : Nat} {b : BlkV} {hi : Int} {nD : Nat} {f : Flow} (h : FInv b.lo hi nD f) (hop : f.opn = []) (hb : f.bad = false) (hlo : 0 ≤ b.lo) (hhi : hi ≤ nD) (hdp : b.dp ≤ 100000) : FInv b.lo hi nD (blockF c n b hi f).2 := by
  unfold blockF
  split
  · exact h
  · exact loopF_inv hlo hhi hdp _ _ (h.come _ (by omega) (by omega)) (fun hne => by rw [comeF_start hop hne]; exact hb)
theorem risingF_at {m : Nat} : ∀ (bs : List BlkV) (last : Int), risingF m last bs = true → ∀ i, i < bs.length → last < (bs.getD i default).lo ∧ (bs.getD i default).lo < m
  | [], _, _, i, hi => by simp at hi
  | b :: bs, last, h, i, hi => by
    unfold risingF at h
    simp only [Bool.and_eq_true, decide_eq_true_eq] at h
    cases i with
    | zero => exact h.1
    | succ i =>
      have := risingF_at bs b.lo h.2 i (by simpa using hi)
      simp only [List.getD_cons_succ]
      exact ⟨by omega, this.2⟩
theorem hiF_range {n : Nat} {c : CodeV} (h : shapeF n c = true) (j : Nat) : hiF c j ≤ c.ins.length := by
  unfold hiF
  split
  · rename_i hj
    unfold shapeF at h
    simp only [Bool.and_eq_true] at h
    exact Int.le_of_lt (risingF_at _ _ h.2.2 _ hj).2
  · exact Int.le_refl _
theorem Kb.low {base : Nat} {S : List Nat} {w a b : World} (hu : Upd [] w a) (h : Kb base S a b) (hb : w.heap.size ≤ base) (hS : ∀ x, x ∈ S → w.heap.size ≤ x) : Upd [] w b :=
  ⟨h.os.trans hu.os, h.tape.trans hu.tape, h.output.trans hu.output, Nat.le_trans hu.size h.size, fun k hk _ => (h.block k (by omega) (fun hx => by have := hS k hx; omega)).trans (hu.block k hk (by simp))⟩
theorem row_blk {w : World} {base g n : Nat} {xs : List Value} (h : w.ownsRow base 3 1 (.slice (some ⟨g, 0, none⟩) n n) n xs) : Blk w g xs 3 := by
  rcases h.2 with ⟨h', _⟩ | ⟨g', cap', cur, h', hb, hg, hnc, hcm, hcs, htake⟩
  · simp at h'
  · simp only [Value.slice.injEq, Option.some.injEq, Addr.mk.injEq, and_true, true_and] at h'
    obtain ⟨rfl, rfl⟩ := h'
    unfold Blk
    rw [List.take_of_length_le (by simp [hcs])] at htake
    rw [hg, ← htake]
theorem flat_deep {nD : Nat} {deep : List Int} (hl : deep.length = nD) (hd : ∀ i, i < nD → -1 ≤ deep.getD i 0 ∧ deep.getD i 0 ≤ 100000) (lo hi : Int) : FInv lo hi nD ⟨deep, [], false⟩ :=
  ⟨hl, fun i hi => hd i (by rw [← hl]; exact hi), List.Pairwise.nil, by simp⟩
end Go.Proofs.YtknbgbeepachgaaDoor

/-
  What breaks a code that may be run: the plain law.
-/
namespace Go.Proofs.YtknbgbeepachgaaDoor
open Go.RowKit Go.Shelf

/-- Two codes that differ in the i-th instruction alone. -/
structure Twin (c d : CodeV) (i : Nat) : Prop where
  blks : d.blks = c.blks
  cons : d.cons = c.cons
  len : d.ins.length = c.ins.length
  ins : ∀ j, j ≠ i → d.ins.getD j default = c.ins.getD j default
theorem Twin.there {c d : CodeV} {i : Nat} (h : Twin c d i) (n : Nat) (b : BlkV) (hi : Int) (x : InsV) : thereF d n b hi x = thereF c n b hi x := by
  unfold thereF
  rw [h.blks, h.cons]
theorem Twin.one {c d : CodeV} {i : Nat} (h : Twin c d i) (n : Nat) (b : BlkV) (hi : Int) (f : Flow) {j : Int} (hj : j.toNat ≠ i) : oneF d n b hi f j = oneF c n b hi f j := by
  unfold oneF wrongF
  rw [h.ins _ hj]
  simp only [h.there]
theorem Twin.hi {c d : CodeV} {i : Nat} (h : Twin c d i) (n : Nat) : hiF d n = hiF c n := by
  unfold hiF
  rw [h.blks, h.len]
/-- What stands at i stays, once it is not below nought. -/
theorem comeF_keep {lo hi : Int} {f : Flow} {at' on : Int} {i : Nat} (h : 0 ≤ f.deep.getD i 0) : (comeF lo hi f at' on).deep.getD i 0 = f.deep.getD i 0 := by
  unfold comeF
  split
  · rfl
  · split
    · rename_i hneg
      show (f.deep.set at'.toNat on).getD i 0 = _
      rw [List.getD_eq_getElem?_getD, List.getElem?_set]
      by_cases e : at'.toNat = i
      · rw [e] at hneg
        omega
      · rw [if_neg e, ← List.getD_eq_getElem?_getD]
    · split <;> rfl
theorem comeF_out {lo hi : Int} {f : Flow} {at' on : Int} {i : Nat} (hlo : 0 ≤ lo) (h : (i : Int) < lo ∨ hi ≤ i) : (comeF lo hi f at' on).deep.getD i 0 = f.deep.getD i 0 := by
  unfold comeF
  split
  · rfl
  · split
    · show (f.deep.set at'.toNat on).getD i 0 = _
      rw [List.getD_eq_getElem?_getD, List.getElem?_set]
      rw [if_neg (by omega), ← List.getD_eq_getElem?_getD]
    · split <;> rfl
theorem comeF_mem {lo hi : Int} {f : Flow} {at' on x : Int} (h : x ∈ f.opn) : x ∈ (comeF lo hi f at' on).opn := by
  unfold comeF
  split
  · exact h
  · split
    · exact (insS_perm at' f.opn).mem_iff.2 (List.mem_cons_of_mem _ h)
    · split <;> exact h
/-- Who is come to is open, as long as it was not looked at. -/
def OpenI (i : Nat) (f : Flow) : Prop := 0 ≤ f.deep.getD i 0 → (i : Int) ∈ f.opn
theorem OpenI.come {lo hi : Int} {f : Flow} {i : Nat} (h : OpenI i f) (hlo : 0 ≤ lo) (at' on : Int) : OpenI i (comeF lo hi f at' on) := by
  intro hd
  by_cases h0 : 0 ≤ f.deep.getD i 0
  · exact comeF_mem (h h0)
  · unfold comeF at hd ⊢
    split
    · rename_i hr
      rw [if_pos hr] at hd
      exact absurd hd h0
    · rename_i hr
      rw [if_neg hr] at hd
      split
      · rename_i hneg
        rw [if_pos hneg] at hd
        by_cases e : at'.toNat = i
        · have : at' = (i : Int) := by omega
          rw [this]
          exact (insS_perm _ f.opn).mem_iff.2 List.mem_cons_self
        · have hd2 : 0 ≤ (f.deep.set at'.toNat on).getD i 0 := hd
          rw [List.getD_eq_getElem?_getD, List.getElem?_set, if_neg e, ← List.getD_eq_getElem?_getD] at hd2
          exact absurd hd2 h0
      · rename_i hneg
        rw [if_neg hneg] at hd
        split at hd
        · exact absurd hd h0
        · exact absurd hd h0
/-- What one does to a flow: nothing, or it comes to one or two places. -/
theorem oneF_ind {c : CodeV} {n : Nat} {b : BlkV} {hi : Int} {f : Flow} {j : Int} {P : Flow → Prop} (h0 : P f) (h1 : ∀ g at' on, P g → 0 ≤ on → on ≤ b.dp → P (comeF b.lo hi g at' on)) : P (oneF c n b hi f j).2 := by
  unfold oneF
  simp only
  generalize c.ins.getD j.toNat default = x
  generalize f.deep.getD j.toNat 0 = on
  by_cases hw : wrongF c n b hi x on = true
  · rw [if_pos hw]
    exact h0
  · rw [if_neg hw]
    unfold wrongF at hw
    simp only [Bool.or_eq_true, decide_eq_true_eq, not_or] at hw
    have hw2 := hw.2
    have hp := needs_p x
    split
    · exact h0
    · split
      · split
        · exact h1 _ _ _ h0 (by omega) (by omega)
        · exact h0
      · split
        · exact h1 _ _ _ (h1 _ _ _ h0 (by omega) (by omega)) (by omega) (by omega)
        · exact h1 _ _ _ h0 (by omega) (by omega)
theorem FInv.pos {lo hi : Int} {nD : Nat} {f : Flow} (h : FInv lo hi nD f) (hlo : 0 ≤ lo) (hhi : hi ≤ nD) (at' : Int) {on : Int} (h0 : 0 ≤ on) (hp : ∀ x ∈ f.opn, 0 ≤ f.deep.getD x.toNat 0) : ∀ x ∈ (comeF lo hi f at' on).opn, 0 ≤ (comeF lo hi f at' on).deep.getD x.toNat 0 := by
  intro x hx
  unfold comeF at hx ⊢
  split
  · rename_i hr
    rw [if_pos hr] at hx
    exact hp x hx
  · rename_i hr
    rw [if_neg hr] at hx
    split
    · rename_i hneg
      rw [if_pos hneg] at hx
      show 0 ≤ (f.deep.set at'.toNat on).getD x.toNat 0
      have hl := h.len
      rw [List.getD_eq_getElem?_getD, List.getElem?_set]
      by_cases e : at'.toNat = x.toNat
      · rw [if_pos e, if_pos (by omega)]
        exact h0
      · rw [if_neg e, ← List.getD_eq_getElem?_getD]
        rcases insS_mem hx with h1 | h1
        · rw [h1] at e
          exact absurd rfl e
        · exact hp x h1
    · rename_i hneg
      rw [if_neg hneg] at hx
      split at hx
      · split
        · exact hp x hx
        · exact hp x hx
      · split
        · exact hp x hx
        · exact hp x hx
/-- Another block's look. -/
theorem Twin.loop_out {c d : CodeV} {i : Nat} (h : Twin c d i) {n : Nat} {b : BlkV} {hi : Int} {nD : Nat} (hlo : 0 ≤ b.lo) (hhi : hi ≤ nD) (hdp : b.dp ≤ 100000) (ho : (i : Int) < b.lo ∨ hi ≤ i) : ∀ (g : Nat) (f : Flow), FInv b.lo hi nD f → (f.opn ≠ [] → f.bad = false) → loopF d n b hi g f = loopF c n b hi g f
  | 0, _, _, _ => rfl
  | g + 1, f, hf, hb => by
    unfold loopF
    split
    · rfl
    · rename_i j rest e
      obtain ⟨h1, h2, h3, _⟩ := hf.tail e
      rw [h.one n b hi _ (show j.toNat ≠ i by omega)]
      have h4 := h1.one (c := c) (n := n) hlo hhi hdp j (hb (by rw [e]; simp))
      split
      · rename_i hr
        exact h.loop_out hlo hhi hdp ho g _ h4.1 (fun _ => h4.2.2 hr)
      · rfl
theorem loop_out_deep {c : CodeV} {i n : Nat} {b : BlkV} {hi : Int} (hlo : 0 ≤ b.lo) (ho : (i : Int) < b.lo ∨ hi ≤ i) : ∀ (g : Nat) (f : Flow), (loopF c n b hi g f).2.deep.getD i 0 = f.deep.getD i 0
  | 0, _ => rfl
  | g + 1, f => by
    unfold loopF
    split
    · rfl
    · rename_i j rest e
      have h1 : (oneF c n b hi { f with opn := rest } j).2.deep.getD i 0 = f.deep.getD i 0 := oneF_ind (P := fun g => g.deep.getD i 0 = f.deep.getD i 0) rfl (fun g at' on hg _ _ => by rw [comeF_out hlo ho, hg])
      split
      · rw [loop_out_deep hlo ho g, h1]
      · exact h1
theorem loop_keep {c : CodeV} {i n : Nat} {b : BlkV} {hi : Int} : ∀ (g : Nat) (f : Flow), 0 ≤ f.deep.getD i 0 → (loopF c n b hi g f).2.deep.getD i 0 = f.deep.getD i 0
  | 0, _, _ => rfl
  | g + 1, f, h => by
    unfold loopF
    split
    · rfl
    · rename_i j rest e
      have h1 : (oneF c n b hi { f with opn := rest } j).2.deep.getD i 0 = f.deep.getD i 0 := oneF_ind (P := fun g => g.deep.getD i 0 = f.deep.getD i 0) rfl (fun g at' on hg _ _ => by rw [comeF_keep (by rw [hg]; exact h), hg])
      split
      · rw [loop_keep g _ (by rw [h1]; exact h), h1]
      · exact h1
/-- The block in which it stands. -/
theorem Twin.loop_in {c d : CodeV} {i : Nat} (h : Twin c d i) {n : Nat} {b : BlkV} {hi : Int} {nD : Nat} (hlo : 0 ≤ b.lo) (hhi : hi ≤ nD) (hdp : b.dp ≤ 100000) (hbr : ∀ on, wrongF d n b hi (d.ins.getD i default) on = true) :
    ∀ (g : Nat) (f : Flow), FInv b.lo hi nD f → (f.opn ≠ [] → f.bad = false) → muF f < g → OpenI i f → (∀ x ∈ f.opn, 0 ≤ f.deep.getD x.toNat 0) → (loopF c n b hi g f).1 < 0 →
      ((loopF c n b hi g f).2.deep.getD i 0 < 0 → loopF d n b hi g f = loopF c n b hi g f) ∧ (0 ≤ (loopF c n b hi g f).2.deep.getD i 0 → (loopF d n b hi g f).1 = i)
  | 0, f, _, _, hmu, _, _, _ => by omega
  | g + 1, f, hf, hb, hmu, hop, hpos, hres => by
    unfold loopF at hres ⊢
    cases e : f.opn with
    | nil =>
      refine ⟨fun _ => rfl, fun h0 => ?_⟩
      have := hop h0
      rw [e] at this
      cases this
    | cons j rest =>
      rw [e] at hres
      simp only at hres ⊢
      obtain ⟨h1, h2, h3, h5⟩ := hf.tail e
      have h4 := h1.one (c := c) (n := n) hlo hhi hdp j (hb (by rw [e]; simp))
      have hr : (oneF c n b hi { f with opn := rest } j).1 = true := by
        cases hr : (oneF c n b hi { f with opn := rest } j).1 with
        | true => rfl
        | false =>
          rw [hr] at hres
          have : j < 0 := hres
          omega
      rw [hr] at hres ⊢
      simp only [if_true] at hres ⊢
      have hpj := hpos j (by rw [e]; exact List.mem_cons_self)
      by_cases hj : j.toNat = i
      · have hji : j = (i : Int) := by omega
        have hd : (oneF d n b hi { f with opn := rest } j).1 = false := by
          unfold oneF
          simp only
          rw [hj, if_pos (hbr _)]
        rw [hd]
        have h6 : (oneF c n b hi { f with opn := rest } j).2.deep.getD i 0 = f.deep.getD i 0 := oneF_ind (P := fun g => g.deep.getD i 0 = f.deep.getD i 0) rfl (fun g at' on hg _ _ => by rw [comeF_keep (by rw [hg, ← hj]; exact hpj), hg])
        have h7 := loop_keep (c := c) (n := n) (b := b) (hi := hi) (i := i) g _ (by rw [h6, ← hj]; exact hpj)
        refine ⟨fun hneg => ?_, fun _ => hji⟩
        rw [h7, h6, ← hj] at hneg
        omega
      · rw [h.one n b hi _ hj, hr]
        simp only [if_true]
        refine h.loop_in hlo hhi hdp hbr g _ h4.1 (fun _ => h4.2.2 hr) (by rw [h4.2.1]; omega) ?_ ?_ hres
        · refine oneF_ind (P := OpenI i) (fun hd => ?_) (fun g at' on hg _ _ => hg.come hlo at' on)
          have := hop hd
          rw [e] at this
          rcases List.mem_cons.1 this with h8 | h8
          · omega
          · exact h8
        · exact (oneF_ind (P := fun g => FInv b.lo hi nD g ∧ ∀ x ∈ g.opn, 0 ≤ g.deep.getD x.toNat 0) ⟨h1, fun x hx => hpos x (by rw [e]; exact List.mem_cons_of_mem _ hx)⟩ (fun g at' on hg h0 h9 => ⟨hg.1.come at' h0 (by omega), hg.1.pos hlo hhi at' h0 hg.2⟩)).2
/-- A block that may be. -/
structure BlkIn (c : CodeV) (n : Nat) (b : BlkV) : Prop where
  lo : 0 ≤ b.lo
  hi : hiF c n ≤ c.ins.length
  dp : b.dp ≤ 100000
theorem Twin.block_out {c d : CodeV} {i : Nat} (h : Twin c d i) {n : Nat} {b : BlkV} {deep : List Int} (hb : BlkIn c n b) (hf : FInv b.lo (hiF c n) c.ins.length ⟨deep, [], false⟩) (ho : (i : Int) < b.lo ∨ hiF c n ≤ i) :
    blockF d n b (hiF d n) ⟨deep, [], false⟩ = blockF c n b (hiF c n) ⟨deep, [], false⟩ ∧ ((blockF c n b (hiF c n) ⟨deep, [], false⟩).2.deep.getD i 0 = deep.getD i 0) := by
  rw [h.hi]
  unfold blockF
  rw [h.len]
  split
  · exact ⟨rfl, rfl⟩
  · have hf2 := hf.come b.lo (on := 0) (by omega) (by omega)
    refine ⟨h.loop_out hb.lo hb.hi hb.dp ho _ _ hf2 (fun hne => comeF_start rfl hne), ?_⟩
    rw [loop_out_deep hb.lo ho, comeF_out hb.lo ho]
theorem Twin.block_in {c d : CodeV} {i : Nat} (h : Twin c d i) {n : Nat} {b : BlkV} {deep : List Int} (hb : BlkIn c n b) (hf : FInv b.lo (hiF c n) c.ins.length ⟨deep, [], false⟩) (hd : deep.getD i 0 < 0) (hbr : ∀ on, wrongF d n b (hiF c n) (d.ins.getD i default) on = true) (hres : (blockF c n b (hiF c n) ⟨deep, [], false⟩).1 < 0) :
    ((blockF c n b (hiF c n) ⟨deep, [], false⟩).2.deep.getD i 0 < 0 → blockF d n b (hiF d n) ⟨deep, [], false⟩ = blockF c n b (hiF c n) ⟨deep, [], false⟩) ∧ (0 ≤ (blockF c n b (hiF c n) ⟨deep, [], false⟩).2.deep.getD i 0 → (blockF d n b (hiF d n) ⟨deep, [], false⟩).1 = i) := by
  rw [h.hi]
  unfold blockF at hres ⊢
  rw [h.len]
  split
  · rename_i hq
    rw [if_pos hq] at hres
    have := hb.lo
    have h9 : b.lo < 0 := hres
    omega
  · rename_i hq
    rw [if_neg hq] at hres
    have hf2 := hf.come b.lo (on := 0) (by omega) (by omega)
    refine h.loop_in hb.lo hb.hi hb.dp hbr _ _ hf2 (fun hne => comeF_start rfl hne) ?_ ?_ ?_ hres
    · rw [muF_come hf hb.lo hb.hi _ (by omega)]
      have := List.countP_le_length (p := fun x : Int => decide (x < 0)) (l := deep)
      have hl := hf.len
      unfold muF
      simp only [List.length_nil, Nat.add_zero]
      have hl2 : deep.length = c.ins.length := hl
      omega
    · exact OpenI.come (fun h0 => by
        have : 0 ≤ deep.getD i 0 := h0
        omega) hb.lo _ _
    · exact hf.pos hb.lo hb.hi _ (by omega) (by simp)
/-- The blocks' places. -/
structure BlksIn (c : CodeV) : Prop where
  blk : ∀ n, n < c.blks.length → BlkIn c n (c.blks.getD n default)
  next : ∀ n, n + 1 < c.blks.length → (c.blks.getD n default).lo < (c.blks.getD (n + 1) default).lo
theorem runF_out {c d : CodeV} {i : Nat} (h : Twin c d i) (hB : BlksIn c) : ∀ (k n : Nat) (deep : List Int), k = c.blks.length - n → (∀ j, j < c.ins.length → -1 ≤ deep.getD j 0 ∧ deep.getD j 0 ≤ 100000) → deep.length = c.ins.length → (∀ m, n ≤ m → m < c.blks.length → (i : Int) < (c.blks.getD m default).lo) →
    runF d n (c.blks.drop n) deep = runF c n (c.blks.drop n) deep ∧ ((runF c n (c.blks.drop n) deep).1 < 0 → (runF c n (c.blks.drop n) deep).2.getD i 0 = deep.getD i 0) := by
  intro k
  induction k with
  | zero =>
    intro n deep hk _ _ _
    rw [List.drop_of_length_le (by omega)]
    exact ⟨rfl, fun _ => rfl⟩
  | succ k ih =>
    intro n deep hk hd hl hi
    have hn : n < c.blks.length := by omega
    rw [List.drop_eq_getElem_cons hn]
    have e : c.blks[n] = c.blks.getD n default := by simp [List.getD_eq_getElem?_getD, hn]
    rw [e]
    have hf := flat_deep hl hd (c.blks.getD n default).lo (hiF c n)
    obtain ⟨h1, h2⟩ := h.block_out (hB.blk n hn) hf (.inl (hi n (Nat.le_refl _) hn))
    have hI := blockF_inv (c := c) (n := n) hf rfl rfl (hB.blk n hn).lo (hB.blk n hn).hi (hB.blk n hn).dp
    unfold runF
    rw [h1]
    split
    · rename_i hp
      exact ⟨rfl, fun hneg => by have h9 : (blockF c n (c.blks.getD n default) (hiF c n) ⟨deep, [], false⟩).1 < 0 := hneg; omega⟩
    · obtain ⟨h3, h4⟩ := ih (n + 1) _ (by omega) (fun j hj => hI.deep j (by rw [hI.len]; exact hj)) hI.len (fun m h5 h6 => hi m (by omega) h6)
      exact ⟨h3, fun hneg => by rw [h4 hneg, h2]⟩
theorem runF_in {c d : CodeV} {i : Nat} (h : Twin c d i) (hB : BlksIn c) (hi : i < c.ins.length) (hbr : ∀ n b on, n < c.blks.length → b = c.blks.getD n default → wrongF d n b (hiF c n) (d.ins.getD i default) on = true) : ∀ (k n : Nat) (deep : List Int), k = c.blks.length - n → n < c.blks.length → (∀ j, j < c.ins.length → -1 ≤ deep.getD j 0 ∧ deep.getD j 0 ≤ 100000) → deep.length = c.ins.length → (c.blks.getD n default).lo ≤ (i : Int) → deep.getD i 0 < 0 → (runF c n (c.blks.drop n) deep).1 < 0 →
    ((runF c n (c.blks.drop n) deep).2.getD i 0 < 0 → runF d n (c.blks.drop n) deep = runF c n (c.blks.drop n) deep) ∧ (0 ≤ (runF c n (c.blks.drop n) deep).2.getD i 0 → (runF d n (c.blks.drop n) deep).1 = i) := by
  intro k
  induction k with
  | zero => intro n deep hk hn; omega
  | succ k ih =>
    intro n deep hk hn hd hl hlo hdi hres
    rw [List.drop_eq_getElem_cons hn] at hres ⊢
    have e : c.blks[n] = c.blks.getD n default := by simp [List.getD_eq_getElem?_getD, hn]
    rw [e] at hres ⊢
    have hf := flat_deep hl hd (c.blks.getD n default).lo (hiF c n)
    have hI := blockF_inv (c := c) (n := n) hf rfl rfl (hB.blk n hn).lo (hB.blk n hn).hi (hB.blk n hn).dp
    have hID : ∀ j, j < c.ins.length → -1 ≤ (blockF c n (c.blks.getD n default) (hiF c n) ⟨deep, [], false⟩).2.deep.getD j 0 ∧ (blockF c n (c.blks.getD n default) (hiF c n) ⟨deep, [], false⟩).2.deep.getD j 0 ≤ 100000 := fun j hj => hI.deep j (by rw [hI.len]; exact hj)
    unfold runF at hres ⊢
    have hneg : ¬ 0 ≤ (blockF c n (c.blks.getD n default) (hiF c n) ⟨deep, [], false⟩).1 := by
      intro hp
      rw [if_pos hp] at hres
      have h9 : (blockF c n (c.blks.getD n default) (hiF c n) ⟨deep, [], false⟩).1 < 0 := hres
      omega
    rw [if_neg hneg] at hres ⊢
    by_cases hin : (i : Int) < hiF c n
    · obtain ⟨h1, h2⟩ := h.block_in (hB.blk n hn) hf hdi (fun on => hbr n _ on hn rfl) (by omega)
      have hlt : ∀ m, n + 1 ≤ m → m < c.blks.length → (i : Int) < (c.blks.getD m default).lo := by
        intro m h3 h4
        induction m with
        | zero => omega
        | succ m ihm =>
          by_cases hm : m = n
          · subst hm
            unfold hiF at hin
            rw [if_pos h4] at hin
            exact hin
          · have := ihm (by omega) (by omega)
            have := hB.next m h4
            omega
      obtain ⟨h3, h4⟩ := runF_out h hB _ (n + 1) _ rfl hID hI.len hlt
      have h5 := h4 hres
      constructor
      · intro hz
        rw [h5] at hz
        rw [h1 hz, if_neg hneg]
        exact h3
      · intro hz
        rw [h5] at hz
        have h6 := h2 hz
        rw [if_pos (by rw [h6]; omega)]
        exact h6
    · obtain ⟨h1, h2⟩ := h.block_out (hB.blk n hn) hf (.inr (by omega))
      have hn1 : n + 1 < c.blks.length := by
        by_cases hq : n + 1 < c.blks.length
        · exact hq
        · unfold hiF at hin
          rw [if_neg hq] at hin
          omega
      have hlo1 : (c.blks.getD (n + 1) default).lo ≤ (i : Int) := by
        unfold hiF at hin
        rw [if_pos hn1] at hin
        omega
      rw [h1, if_neg hneg]
      exact ih (n + 1) _ (by omega) hn1 hID hI.len hlo1 (by rw [h2]; exact hdi) hres
end Go.Proofs.YtknbgbeepachgaaDoor

/-
  What breaks a code that may be run: the plain law, whole.
-/
namespace Go.Proofs.YtknbgbeepachgaaDoor
open Go.RowKit Go.Shelf

/-- A code whose i-th instruction names what is not there. -/
def breakC (c : CodeV) (i : Nat) : CodeV := ⟨c.ins.set i ⟨(c.ins.getD i default).op, 999999, (c.ins.getD i default).b⟩, c.blks, c.cons⟩
theorem breakC_at {c : CodeV} {i : Nat} (hi : i < c.ins.length) : (breakC c i).ins.getD i default = ⟨(c.ins.getD i default).op, 999999, (c.ins.getD i default).b⟩ := by
  show (c.ins.set i _).getD i default = _
  rw [List.getD_eq_getElem?_getD, List.getElem?_set, if_pos rfl, if_pos hi]
  rfl
theorem breakC_twin (c : CodeV) (i : Nat) : Twin c (breakC c i) i :=
  ⟨rfl, rfl, List.length_set, fun j hj => by
    show (c.ins.set i _).getD j default = _
    rw [List.getD_eq_getElem?_getD, List.getElem?_set, if_neg (Ne.symm hj), ← List.getD_eq_getElem?_getD]⟩
theorem breakC_shape {n : Nat} {c : CodeV} {i : Nat} (hs : shapeF n c = true) (hi : i < c.ins.length) (hop : (c.ins.getD i default).op ≤ 8) : shapeF n (breakC c i) = true := by
  unfold shapeF codeG at hs ⊢
  simp only [Bool.and_eq_true] at hs ⊢
  obtain ⟨⟨⟨⟨h1, h2⟩, h3⟩, h4⟩, h5, h6⟩ := hs
  have hl : (breakC c i).ins.length = c.ins.length := List.length_set
  refine ⟨⟨⟨⟨?_, h2⟩, h3⟩, h4⟩, h5, by rw [hl]; exact h6⟩
  rw [List.all_eq_true] at h1 ⊢
  intro x hx
  rcases List.mem_or_eq_of_mem_set hx with hx | rfl
  · exact h1 x hx
  · have h := h1 (c.ins.getD i default) (by
      rw [List.getD_eq_getElem?_getD, List.getElem?_eq_getElem hi]
      exact List.getElem_mem hi)
    have hok := insG_ok h
    have a1 := hok.op1
    have a2 := hok.b1
    have a3 := hok.b2
    have a4 := hok.bc
    generalize c.ins.getD i default = y at *
    unfold insG upB
    simp
    refine ⟨⟨⟨a1, by omega⟩, a2, a3⟩, ?_, by omega⟩
    by_cases h5 : y.op = 5
    · exact .inr h5
    · exact .inl (a4 h5)
theorem shape_blks {n : Nat} {c : CodeV} (hs : shapeF n c = true) : BlksIn c := by
  have hok := (CodeOk.of (n := n) (c := c) (by unfold shapeF at hs; simp only [Bool.and_eq_true] at hs; exact hs.1.1)).blks
  have hri : risingF c.ins.length (-1) c.blks = true := by
    unfold shapeF at hs
    simp only [Bool.and_eq_true] at hs
    exact hs.2.2
  refine ⟨fun m hm => ?_, fun m hm => ?_⟩
  · have := hok (c.blks.getD m default) (by
      rw [List.getD_eq_getElem?_getD, List.getElem?_eq_getElem hm]
      exact List.getElem_mem hm)
    exact ⟨this.1, hiF_range hs m, this.2.2.2.2.2.2.2.1⟩
  · have hr : ∀ (bs : List BlkV) (last : Int), risingF c.ins.length last bs = true → ∀ m, m + 1 < bs.length → (bs.getD m default).lo < (bs.getD (m + 1) default).lo := by
      intro bs
      induction bs with
      | nil => intro _ _ m hm; simp at hm
      | cons b bs ih =>
        intro last h m hm
        unfold risingF at h
        simp only [Bool.and_eq_true] at h
        cases m with
        | zero =>
          have := (risingF_at bs b.lo h.2 0 (by simpa using hm)).1
          simpa using this
        | succ m =>
          have := ih b.lo h.2 m (by simpa using hm)
          simpa using this
    exact hr _ _ hri m hm
theorem shape_first {n : Nat} {c : CodeV} (hs : shapeF n c = true) : 0 < c.blks.length ∧ (c.blks.getD 0 default).lo ≤ 0 := by
  have hok := (CodeOk.of (n := n) (c := c) (by unfold shapeF at hs; simp only [Bool.and_eq_true] at hs; exact hs.1.1)).blks
  unfold shapeF at hs
  simp only [Bool.and_eq_true, decide_eq_true_eq] at hs
  have h0 : 0 < c.blks.length := by
    cases hb : c.blks with
    | nil =>
      have := hs.1.2
      rw [hb] at this
      simp at this
    | cons _ _ => simp
  have := hok (c.blks.getD 0 default) (by
    rw [List.getD_eq_getElem?_getD, List.getElem?_eq_getElem h0]
    exact List.getElem_mem h0)
  have := hs.2.1.1
  exact ⟨h0, by omega⟩
theorem breaks_said {n : Nat} {c : CodeV} {i : Nat} (hl : Lit' n c) (hi : i < c.ins.length) (hop : (c.ins.getD i default).op ≤ 8) (hok : (depthsF n c).e = 0) :
    ((depthsF n c).deep.getD i 0 < 0 → (depthsF n (breakC c i)).at' = 0 ∧ (depthsF n (breakC c i)).e = 0) ∧ (0 ≤ (depthsF n c).deep.getD i 0 → (depthsF n (breakC c i)).at' = i ∧ (depthsF n (breakC c i)).e = 15) := by
  unfold depthsF at hok
  by_cases hs : shapeF n c = false
  · rw [if_pos hs] at hok
    exact absurd hok (by decide)
  · rw [if_neg hs] at hok
    have hs2 : shapeF n c = true := by simpa using hs
    have hrun : ¬ 0 ≤ (runF c 0 c.blks (List.replicate c.ins.length (-1))).1 := by
      intro h
      rw [if_pos h] at hok
      exact absurd (show (15 : Int) = 0 from hok) (by decide)
    have hd : depthsF n c = ⟨(runF c 0 c.blks (List.replicate c.ins.length (-1))).2, 0, 0⟩ := by
      unfold depthsF
      rw [if_neg hs, if_neg hrun]
    have hT := breakC_twin c i
    have hlen : (breakC c i).ins.length = c.ins.length := List.length_set
    have hdd : depthsF n (breakC c i) = if 0 ≤ (runF (breakC c i) 0 c.blks (List.replicate c.ins.length (-1))).1 then ⟨[], (runF (breakC c i) 0 c.blks (List.replicate c.ins.length (-1))).1, 15⟩ else ⟨(runF (breakC c i) 0 c.blks (List.replicate c.ins.length (-1))).2, 0, 0⟩ := by
      unfold depthsF
      rw [if_neg (by rw [breakC_shape hs2 hi hop]; simp), hlen]
      rfl
    have hcok := CodeOk.of (n := n) (c := c) (by unfold shapeF at hs2; simp only [Bool.and_eq_true] at hs2; exact hs2.1.1)
    obtain ⟨hb0, hlo0⟩ := shape_first hs2
    have hx := hcok.at hi
    have hbr : ∀ m b on, m < c.blks.length → b = c.blks.getD m default → wrongF (breakC c i) m b (hiF c m) ((breakC c i).ins.getD i default) on = true := by
      intro m b on hm hb
      rw [breakC_at hi]
      have hbb := hcok.blks b (by
        rw [hb, List.getD_eq_getElem?_getD, List.getElem?_eq_getElem hm]
        exact List.getElem_mem hm)
      have h2 := hl.nI
      have h3 := hl.nB
      have h4 := hl.nC
      have h5 := hiF_range hs2 m
      have hop1 := hx.op1
      generalize c.ins.getD i default = y at *
      obtain ⟨yo, ya, yb⟩ := y
      simp only at hop hop1 ⊢
      have hth : thereF (breakC c i) m b (hiF c m) ⟨yo, 999999, yb⟩ = false := by
        unfold thereF breakC arD
        simp only
        have : yo = 1 ∨ yo = 2 ∨ yo = 3 ∨ yo = 4 ∨ yo = 5 ∨ yo = 6 ∨ yo = 7 ∨ yo = 8 := by omega
        rcases this with rfl | rfl | rfl | rfl | rfl | rfl | rfl | rfl
        all_goals simp
        all_goals omega
      unfold wrongF
      rw [hth]
      rfl
    have hrep : ∀ j, j < c.ins.length → (List.replicate c.ins.length (-1 : Int)).getD j 0 = -1 := fun j hj => by
      rw [List.getD_eq_getElem?_getD, List.getElem?_replicate, if_pos hj]
      rfl
    have h := runF_in hT (shape_blks hs2) hi hbr _ 0 (List.replicate c.ins.length (-1)) rfl hb0 (fun j hj => by rw [hrep j hj]; omega) (by simp) (by omega) (by rw [hrep i hi]; omega) (by rw [List.drop_zero]; omega)
    rw [List.drop_zero] at h
    rw [hd]
    constructor
    · intro hn
      rw [hdd, h.1 hn, if_neg hrun]
      exact ⟨rfl, rfl⟩
    · intro hn
      rw [hdd, h.2 hn, if_pos (by omega)]
      exact ⟨rfl, rfl⟩
/-- Of code that may be run so many are told as there are instructions. -/
theorem depths_len {n : Nat} {c : CodeV} (hok : (depthsF n c).e = 0) : (depthsF n c).deep.length = c.ins.length := by
  unfold depthsF at hok ⊢
  by_cases hs : shapeF n c = false
  · rw [if_pos hs] at hok
    exact absurd hok (by decide)
  · rw [if_neg hs] at hok ⊢
    have hs2 : shapeF n c = true := by simpa using hs
    by_cases hr : 0 ≤ (runF c 0 c.blks (List.replicate c.ins.length (-1))).1
    · rw [if_pos hr] at hok
      exact absurd (show (15 : Int) = 0 from hok) (by decide)
    · rw [if_neg hr]
      have hB := shape_blks hs2
      have key : ∀ (k m : Nat) (deep : List Int), k = c.blks.length - m → (∀ j, j < c.ins.length → -1 ≤ deep.getD j 0 ∧ deep.getD j 0 ≤ 100000) → deep.length = c.ins.length → ¬ 0 ≤ (runF c m (c.blks.drop m) deep).1 → (runF c m (c.blks.drop m) deep).2.length = c.ins.length := by
        intro k
        induction k with
        | zero =>
          intro m deep hk _ hl _
          rw [List.drop_of_length_le (by omega)]
          exact hl
        | succ k ih =>
          intro m deep hk hd hl hr
          have hm : m < c.blks.length := by omega
          rw [List.drop_eq_getElem_cons hm] at hr ⊢
          have e : c.blks[m] = c.blks.getD m default := by simp [List.getD_eq_getElem?_getD, hm]
          rw [e] at hr ⊢
          have hI := blockF_inv (c := c) (n := m) (flat_deep hl hd (c.blks.getD m default).lo (hiF c m)) rfl rfl (hB.blk m hm).lo (hB.blk m hm).hi (hB.blk m hm).dp
          unfold runF at hr ⊢
          split
          · rename_i h0
            rw [if_pos h0] at hr
            exact absurd h0 hr
          · rename_i h0
            rw [if_neg h0] at hr
            exact ih (m + 1) _ (by omega) (fun j hj => hI.deep j (by rw [hI.len]; exact hj)) hI.len hr
      have := key _ 0 (List.replicate c.ins.length (-1)) rfl (fun j hj => by
        rw [List.getD_eq_getElem?_getD, List.getElem?_replicate, if_pos hj]
        simp) (by simp) (by rw [List.drop_zero]; exact hr)
      rw [List.drop_zero] at this
      exact this
theorem depths_shape {n : Nat} {c : CodeV} (hok : (depthsF n c).e = 0) : shapeF n c = true := by
  unfold depthsF at hok
  by_cases hs : shapeF n c = false
  · rw [if_pos hs] at hok
    exact absurd hok (by decide)
  · simpa using hs
theorem depths_e {n : Nat} (c : CodeV) : (depthsF n c).e = 0 ∨ ((depthsF n c).e = 15 ∧ (depthsF n c).deep = []) := by
  unfold depthsF
  split
  · exact .inr ⟨rfl, rfl⟩
  · split
    · exact .inr ⟨rfl, rfl⟩
    · exact .inl rfl
end Go.Proofs.YtknbgbeepachgaaDoor
