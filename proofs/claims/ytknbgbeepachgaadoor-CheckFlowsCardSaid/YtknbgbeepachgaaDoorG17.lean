/-
  Texts of this claim, merged: CfP, CfQ, ChX. Lemmas and contracts; no conditions of our own.
-/
import Derived.Test.YtknbgbeepachgaaDoorG16

/-
  Where code that may be run leads: the plain law.
-/
namespace Go.Proofs.YtknbgbeepachgaaDoor
open Go.RowKit Go.Shelf

/-- How many more there are behind an instruction. -/
def leavesF (x : InsV) : Int := (needsF x).2 - (needsF x).1
/-- It was looked at, and it leads where it should. -/
structure DoneI (c : CodeV) (n : Nat) (b : BlkV) (hi : Int) (deep : List Int) (i : Nat) : Prop where
  vis : 0 ≤ deep.getD i 0
  ok : wrongF c n b hi (c.ins.getD i default) (deep.getD i 0) = false
  fin : (c.ins.getD i default).op = 11 ∨ (c.ins.getD i default).op = 10 → deep.getD i 0 + leavesF (c.ins.getD i default) = 0
  jmp : (c.ins.getD i default).op = 7 ∨ (c.ins.getD i default).op = 8 → b.lo ≤ (c.ins.getD i default).a ∧ (c.ins.getD i default).a < hi ∧ deep.getD (c.ins.getD i default).a.toNat 0 = deep.getD i 0 + leavesF (c.ins.getD i default)
  nxt : (c.ins.getD i default).op ≠ 7 → (c.ins.getD i default).op ≠ 10 → (c.ins.getD i default).op ≠ 11 → (i : Int) + 1 < hi ∧ deep.getD (i + 1) 0 = deep.getD i 0 + leavesF (c.ins.getD i default)
theorem wrong_left {c : CodeV} {n : Nat} {b : BlkV} {hi : Int} {x : InsV} {on : Int} (h : wrongF c n b hi x on = false) : 0 ≤ on + leavesF x ∧ on + leavesF x ≤ b.dp := by
  unfold wrongF at h
  simp only [Bool.or_eq_false_iff, decide_eq_false_iff_not, not_or] at h
  have hp := needs_p x
  unfold leavesF
  omega
/-- What is not below nought stays, so does what was looked at. -/
theorem DoneI.keep {c : CodeV} {n : Nat} {b : BlkV} {hi : Int} {d e : List Int} {i : Nat} (h : DoneI c n b hi d i) (hk : ∀ k, 0 ≤ d.getD k 0 → e.getD k 0 = d.getD k 0) : DoneI c n b hi e i := by
  have hl := wrong_left h.ok
  have e0 := hk i h.vis
  refine ⟨by rw [e0]; exact h.vis, by rw [e0]; exact h.ok, fun ho => by rw [e0]; exact h.fin ho, fun ho => ?_, fun h1 h2 h3 => ?_⟩
  · obtain ⟨k1, k2, k3⟩ := h.jmp ho
    refine ⟨k1, k2, ?_⟩
    rw [e0, hk _ (by rw [k3]; exact hl.1), k3]
  · obtain ⟨k1, k2⟩ := h.nxt h1 h2 h3
    refine ⟨k1, ?_⟩
    rw [e0, hk _ (by rw [k2]; exact hl.1), k2]
theorem comeF_ok {lo hi : Int} {nD : Nat} {f : Flow} {at' on : Int} (hl : f.deep.length = nD) (hlo : 0 ≤ lo) (hhi : hi ≤ nD) (h : (comeF lo hi f at' on).bad = false) : f.bad = false ∧ lo ≤ at' ∧ at' < hi ∧ (comeF lo hi f at' on).deep.getD at'.toNat 0 = on := by
  unfold comeF at h ⊢
  by_cases h1 : at' < lo ∨ hi ≤ at'
  · rw [if_pos h1] at h
    exact absurd h (by simp)
  · rw [if_neg h1] at h ⊢
    by_cases h2 : f.deep.getD at'.toNat 0 < 0
    · rw [if_pos h2] at h ⊢
      refine ⟨h, by omega, by omega, ?_⟩
      show (f.deep.set at'.toNat on).getD at'.toNat 0 = on
      rw [List.getD_eq_getElem?_getD, List.getElem?_set, if_pos rfl, if_pos (by omega)]
      rfl
    · rw [if_neg h2] at h ⊢
      by_cases h3 : f.deep.getD at'.toNat 0 ≠ on
      · rw [if_pos h3] at h
        exact absurd h (by simp)
      · rw [if_neg h3] at h ⊢
        exact ⟨h, by omega, by omega, by simpa using h3⟩
theorem comeF_len2 {lo hi : Int} {f : Flow} {at' on : Int} : (comeF lo hi f at' on).deep.length = f.deep.length := by
  unfold comeF
  split
  · rfl
  · split
    · exact List.length_set
    · split <;> rfl
/-- What one leaves where it says yes. -/
theorem oneF_done {c : CodeV} {n : Nat} {b : BlkV} {hi : Int} {nD : Nat} {f : Flow} {j : Nat} (hl : f.deep.length = nD) (hlo : 0 ≤ b.lo) (hhi : hi ≤ nD) (hv : 0 ≤ f.deep.getD j 0) (h : (oneF c n b hi f j).1 = true) :
    DoneI c n b hi (oneF c n b hi f j).2.deep j ∧ ∀ k, 0 ≤ f.deep.getD k 0 → (oneF c n b hi f j).2.deep.getD k 0 = f.deep.getD k 0 := by
  have hkeep : ∀ k, 0 ≤ f.deep.getD k 0 → (oneF c n b hi f j).2.deep.getD k 0 = f.deep.getD k 0 := fun k hk =>
    oneF_ind (P := fun g => g.deep.getD k 0 = f.deep.getD k 0) rfl (fun g at' on hg _ _ => by rw [comeF_keep (by rw [hg]; exact hk), hg])
  refine ⟨?_, hkeep⟩
  have ej := hkeep j hv
  unfold oneF at h ej ⊢
  rw [Int.toNat_natCast] at h ej ⊢
  simp only at h ej ⊢
  by_cases hw : wrongF c n b hi (c.ins.getD j default) (f.deep.getD j 0) = true
  · rw [if_pos hw] at h
    exact absurd h (by simp)
  · have hw2 : wrongF c n b hi (c.ins.getD j default) (f.deep.getD j 0) = false := by simpa using hw
    rw [if_neg hw] at h ej ⊢
    have hon : f.deep.getD j 0 + ((needsF (c.ins.getD j default)).2 - (needsF (c.ins.getD j default)).1) = f.deep.getD j 0 + leavesF (c.ins.getD j default) := rfl
    rw [hon] at h ej ⊢
    have hlf := wrong_left hw2
    by_cases he : (c.ins.getD j default).op = 11 ∨ (c.ins.getD j default).op = 10
    · rw [if_pos he] at h ej ⊢
      refine ⟨hv, hw2, fun _ => by simpa using h, fun ho => by omega, fun h1 h2 h3 => by omega⟩
    · rw [if_neg he] at h ej ⊢
      simp only at h ej ⊢
      by_cases h7 : (c.ins.getD j default).op = 7
      · rw [if_pos h7, if_pos (.inl h7)] at h ej ⊢
        have hb : (comeF b.lo hi f (c.ins.getD j default).a (f.deep.getD j 0 + leavesF (c.ins.getD j default))).bad = false := by simpa using h
        obtain ⟨_, k1, k2, k3⟩ := comeF_ok hl hlo hhi hb
        exact ⟨by rw [ej]; exact hv, by rw [ej]; exact hw2, fun ho => by omega, fun _ => ⟨k1, k2, by rw [ej]; exact k3⟩, fun h1 => absurd h7 h1⟩
      · rw [if_neg h7] at h ej ⊢
        by_cases h8 : (c.ins.getD j default).op = 8
        · rw [if_pos (.inr h8)] at h ej ⊢
          have hb : (comeF b.lo hi (comeF b.lo hi f (c.ins.getD j default).a (f.deep.getD j 0 + leavesF (c.ins.getD j default))) (j + 1) (f.deep.getD j 0 + leavesF (c.ins.getD j default))).bad = false := by simpa using h
          obtain ⟨hb1, k4, k5, k6⟩ := comeF_ok (by rw [comeF_len2]; exact hl) hlo hhi hb
          obtain ⟨_, k1, k2, k3⟩ := comeF_ok hl hlo hhi hb1
          refine ⟨by rw [ej]; exact hv, by rw [ej]; exact hw2, fun ho => by omega, fun _ => ⟨k1, k2, ?_⟩, fun _ _ _ => ⟨by omega, ?_⟩⟩
          · rw [ej, comeF_keep (by rw [k3]; exact hlf.1), k3]
          · rw [ej]
            rw [Int.toNat_natCast_add_one] at k6
            exact k6
        · rw [if_neg (by omega)] at h ej ⊢
          have hb : (comeF b.lo hi f (j + 1) (f.deep.getD j 0 + leavesF (c.ins.getD j default))).bad = false := by simpa using h
          obtain ⟨_, k4, k5, k6⟩ := comeF_ok hl hlo hhi hb
          refine ⟨by rw [ej]; exact hv, by rw [ej]; exact hw2, fun ho => by omega, fun ho => by omega, fun _ _ _ => ⟨by omega, ?_⟩⟩
          rw [ej]
          rw [Int.toNat_natCast_add_one] at k6
          exact k6
/-- All that was come to is open or done. -/
def AllDone (c : CodeV) (n : Nat) (b : BlkV) (hi : Int) (f : Flow) : Prop := ∀ i : Nat, b.lo ≤ i → (i : Int) < hi → 0 ≤ f.deep.getD i 0 → (i : Int) ∈ f.opn ∨ DoneI c n b hi f.deep i
theorem loop_done {c : CodeV} {n : Nat} {b : BlkV} {hi : Int} {nD : Nat} (hlo : 0 ≤ b.lo) (hhi : hi ≤ nD) (hdp : b.dp ≤ 100000) : ∀ (g : Nat) (f : Flow), FInv b.lo hi nD f → (f.opn ≠ [] → f.bad = false) → muF f < g → (∀ x ∈ f.opn, 0 ≤ f.deep.getD x.toNat 0) → AllDone c n b hi f → (loopF c n b hi g f).1 < 0 →
    ∀ i : Nat, b.lo ≤ i → (i : Int) < hi → 0 ≤ (loopF c n b hi g f).2.deep.getD i 0 → DoneI c n b hi (loopF c n b hi g f).2.deep i
  | 0, f, _, _, hmu, _, _, _ => by omega
  | g + 1, f, hf, hb, hmu, hpos, hall, hres => by
    unfold loopF at hres ⊢
    cases e : f.opn with
    | nil =>
      intro i h1 h2 h3
      rcases hall i h1 h2 h3 with h | h
      · rw [e] at h
        cases h
      · exact h
    | cons j rest =>
      rw [e] at hres
      simp only at hres ⊢
      obtain ⟨h1, h2, h3, h5⟩ := hf.tail e
      have h4 := h1.one (c := c) (n := n) hlo hhi hdp j (hb (by rw [e]; simp))
      have hr : (oneF c n b hi { f with opn := rest } j).1 = true := by
        cases hr : (oneF c n b hi { f with opn := rest } j).1 with
        | true => rfl
        | false =>
          rw [hr] at hres
          have : j < 0 := hres
          omega
      rw [hr] at hres ⊢
      simp only [if_true] at hres ⊢
      have hpj := hpos j (by rw [e]; exact List.mem_cons_self)
      obtain ⟨k, rfl⟩ : ∃ k : Nat, j = k := ⟨j.toNat, by omega⟩
      rw [Int.toNat_natCast] at hpj
      obtain ⟨hd, hk⟩ := oneF_done (nD := nD) (f := { f with opn := rest }) hf.len hlo hhi hpj hr
      refine loop_done hlo hhi hdp g _ h4.1 (fun _ => h4.2.2 hr) (by rw [h4.2.1]; omega) ?_ ?_ hres
      · exact (oneF_ind (P := fun g => FInv b.lo hi nD g ∧ ∀ x ∈ g.opn, 0 ≤ g.deep.getD x.toNat 0) ⟨h1, fun x hx => hpos x (by rw [e]; exact List.mem_cons_of_mem _ hx)⟩ (fun g at' on hg h0 h9 => ⟨hg.1.come at' h0 (by omega), hg.1.pos hlo hhi at' h0 hg.2⟩)).2
      · intro i q1 q2 q3
        by_cases hik : i = k
        · rw [hik]
          exact .inr hd
        · by_cases h0 : 0 ≤ f.deep.getD i 0
          · rcases hall i q1 q2 h0 with h | h
            · rw [e] at h
              rcases List.mem_cons.1 h with h | h
              · omega
              · exact .inl (oneF_ind (P := fun g => (i : Int) ∈ g.opn) h (fun g at' on hg _ _ => comeF_mem hg))
            · exact .inr (h.keep hk)
          · exact .inl (oneF_ind (P := OpenI i) (fun hd => absurd hd h0) (fun g at' on hg _ _ => hg.come hlo at' on) q3)
end Go.Proofs.YtknbgbeepachgaaDoor

/-
  Where code that may be run leads: block by block, and the whole.
-/
namespace Go.Proofs.YtknbgbeepachgaaDoor
open Go.RowKit Go.Shelf

/-- It asks only for what stands in its own block. -/
theorem DoneI.keep2 {c : CodeV} {n : Nat} {b : BlkV} {hi : Int} {d e : List Int} {i : Nat} (h : DoneI c n b hi d i) (hlo : 0 ≤ b.lo) (h1 : b.lo ≤ i) (h2 : (i : Int) < hi) (hk : ∀ k : Nat, b.lo ≤ k → (k : Int) < hi → e.getD k 0 = d.getD k 0) : DoneI c n b hi e i := by
  have e0 := hk i h1 h2
  refine ⟨by rw [e0]; exact h.vis, by rw [e0]; exact h.ok, fun ho => by rw [e0]; exact h.fin ho, fun ho => ?_, fun q1 q2 q3 => ?_⟩
  · obtain ⟨k1, k2, k3⟩ := h.jmp ho
    refine ⟨k1, k2, ?_⟩
    rw [e0, hk _ (by omega) (by omega), k3]
  · obtain ⟨k1, k2⟩ := h.nxt q1 q2 q3
    refine ⟨k1, ?_⟩
    rw [e0, hk _ (by omega) (by omega), k2]
def MostI (lo hi D : Int) (d : List Int) : Prop := ∀ k : Nat, lo ≤ k → (k : Int) < hi → d.getD k 0 ≤ D
theorem MostI.come {lo hi D : Int} {f : Flow} (h : MostI lo hi D f.deep) (at' : Int) {on : Int} (h1 : on ≤ D) : MostI lo hi D (comeF lo hi f at' on).deep := by
  intro k k1 k2
  have := h k k1 k2
  unfold comeF
  split
  · exact this
  · split
    · show (f.deep.set at'.toNat on).getD k 0 ≤ D
      rw [List.getD_eq_getElem?_getD] at this ⊢
      rw [List.getElem?_set]
      split
      · rename_i he
        split
        · exact h1
        · rw [List.getElem?_eq_none (by omega)] at this
          exact this
      · exact this
    · split <;> exact this
theorem loop_most {c : CodeV} {n : Nat} {b : BlkV} {hi : Int} : ∀ (g : Nat) (f : Flow), MostI b.lo hi b.dp f.deep → MostI b.lo hi b.dp (loopF c n b hi g f).2.deep
  | 0, f, h => h
  | g + 1, f, h => by
    unfold loopF
    split
    · exact h
    · rename_i i rest e
      have h1 := oneF_ind (c := c) (n := n) (b := b) (hi := hi) (f := { f with opn := rest }) (j := i) (P := fun g => MostI b.lo hi b.dp g.deep) h (fun g at' on hg _ h9 => hg.come at' h9)
      split
      · exact loop_most g _ h1
      · exact h1
/-- A block that may be run. -/
structure FlowB (c : CodeV) (m : Nat) (b : BlkV) (deep : List Int) : Prop where
  start : deep.getD b.lo.toNat 0 = 0
  most : MostI b.lo (hiF c m) b.dp deep
  done : ∀ i : Nat, b.lo ≤ i → (i : Int) < hiF c m → 0 ≤ deep.getD i 0 → DoneI c m b (hiF c m) deep i
theorem FlowB.keep {c : CodeV} {m : Nat} {b : BlkV} {d e : List Int} (h : FlowB c m b d) (hlo : 0 ≤ b.lo) (hlt : b.lo < hiF c m) (hk : ∀ k : Nat, b.lo ≤ k → (k : Int) < hiF c m → e.getD k 0 = d.getD k 0) : FlowB c m b e :=
  ⟨by rw [hk _ (by omega) (by omega)]; exact h.start, fun k k1 k2 => by rw [hk k k1 k2]; exact h.most k k1 k2, fun i k1 k2 k3 => (h.done i k1 k2 (by rw [← hk i k1 k2]; exact k3)).keep2 hlo k1 k2 hk⟩
theorem block_done {c : CodeV} {m : Nat} {b : BlkV} {deep : List Int} (hb : BlkIn c m b) (hdp : 0 ≤ b.dp) (hlt : b.lo < hiF c m) (hf : FInv b.lo (hiF c m) c.ins.length ⟨deep, [], false⟩) (hd : ∀ i : Nat, b.lo ≤ i → (i : Int) < hiF c m → deep.getD i 0 < 0) (hres : (blockF c m b (hiF c m) ⟨deep, [], false⟩).1 < 0) :
    FlowB c m b (blockF c m b (hiF c m) ⟨deep, [], false⟩).2.deep := by
  unfold blockF at hres ⊢
  split
  · rename_i hq
    rw [if_pos hq] at hres
    have := hb.lo
    have h9 : b.lo < 0 := hres
    omega
  · rename_i hq
    rw [if_neg hq] at hres
    have hl : deep.length = c.ins.length := hf.len
    have hlo := hb.lo
    have hh := hb.hi
    have hf2 := hf.come b.lo (on := 0) (by omega) (by omega)
    have e0 : (comeF b.lo (hiF c m) ⟨deep, [], false⟩ b.lo 0).deep.getD b.lo.toNat 0 = 0 := (comeF_ok (nD := c.ins.length) hl hlo hh (by
      unfold comeF
      rw [if_neg (by omega), if_pos (hd _ (by omega) (by omega))])).2.2.2
    have hmu : muF (comeF b.lo (hiF c m) ⟨deep, [], false⟩ b.lo 0) < c.ins.length + 1 := by
      rw [muF_come hf hlo hh _ (by omega)]
      have := List.countP_le_length (p := fun x : Int => decide (x < 0)) (l := deep)
      unfold muF
      simp only [List.length_nil, Nat.add_zero]
      omega
    refine ⟨?_, loop_most _ _ (MostI.come (fun k k1 k2 => ?_) _ hdp), ?_⟩
    · rw [loop_keep _ _ (by rw [e0]; omega), e0]
    · have := hd k k1 k2
      show deep.getD k 0 ≤ b.dp
      omega
    · refine loop_done hlo hh hb.dp _ _ hf2 (fun hne => comeF_start rfl hne) hmu (hf.pos hlo hh _ (by omega) (by simp)) ?_ hres
      intro i i1 i2 i3
      exact .inl (OpenI.come (fun h0 => by
        have h9 : 0 ≤ deep.getD i 0 := h0
        have := hd i i1 i2
        omega) hlo _ _ i3)
theorem Twin.self (c : CodeV) (i : Nat) : Twin c c i := ⟨rfl, rfl, rfl, fun _ _ => rfl⟩
theorem lo_mono {c : CodeV} (hB : BlksIn c) (n : Nat) : ∀ k, n + k < c.blks.length → (c.blks.getD n default).lo ≤ (c.blks.getD (n + k) default).lo
  | 0, _ => Int.le_refl _
  | k + 1, h => by
    have h1 := lo_mono hB n k (by omega)
    have h2 := hB.next (n + k) (by omega)
    have : n + (k + 1) = n + k + 1 := by omega
    rw [this]
    omega
theorem hi_above {c : CodeV} {n : Nat} (hs : shapeF n c = true) {m : Nat} (hm : m < c.blks.length) : (c.blks.getD m default).lo < hiF c m := by
  have hB := shape_blks hs
  unfold hiF
  split
  · rename_i h
    exact hB.next m h
  · unfold shapeF at hs
    simp only [Bool.and_eq_true] at hs
    exact (risingF_at _ _ hs.2.2 _ hm).2
theorem runF_done {c : CodeV} {n0 : Nat} (hs : shapeF n0 c = true) (hdp : ∀ m, m < c.blks.length → 0 ≤ (c.blks.getD m default).dp) : ∀ (k n : Nat) (deep : List Int), k = c.blks.length - n → (∀ j, j < c.ins.length → -1 ≤ deep.getD j 0 ∧ deep.getD j 0 ≤ 100000) → deep.length = c.ins.length →
    (∀ i : Nat, n < c.blks.length → (c.blks.getD n default).lo ≤ i → i < c.ins.length → deep.getD i 0 < 0) → (runF c n (c.blks.drop n) deep).1 < 0 →
    ∀ m, n ≤ m → m < c.blks.length → FlowB c m (c.blks.getD m default) (runF c n (c.blks.drop n) deep).2 := by
  have hB := shape_blks hs
  intro k
  induction k with
  | zero =>
    intro n deep hk _ _ _ _ m _ _
    omega
  | succ k ih =>
    intro n deep hk hd hl hneg hres m hm1 hm2
    have hn : n < c.blks.length := by omega
    rw [List.drop_eq_getElem_cons hn] at hres ⊢
    have e : c.blks[n] = c.blks.getD n default := by simp [List.getD_eq_getElem?_getD, hn]
    rw [e] at hres ⊢
    have hf := flat_deep hl hd (c.blks.getD n default).lo (hiF c n)
    have hI := blockF_inv (c := c) (n := n) hf rfl rfl (hB.blk n hn).lo (hB.blk n hn).hi (hB.blk n hn).dp
    have hhi := (hB.blk n hn).hi
    have hlo := (hB.blk n hn).lo
    have hab := hi_above hs hn
    unfold runF at hres ⊢
    by_cases h0 : 0 ≤ (blockF c n (c.blks.getD n default) (hiF c n) ⟨deep, [], false⟩).1
    · rw [if_pos h0] at hres
      have h9 : (blockF c n (c.blks.getD n default) (hiF c n) ⟨deep, [], false⟩).1 < 0 := hres
      omega
    · rw [if_neg h0] at hres ⊢
      have hd1 : ∀ j, j < c.ins.length → -1 ≤ (blockF c n (c.blks.getD n default) (hiF c n) ⟨deep, [], false⟩).2.deep.getD j 0 ∧ (blockF c n (c.blks.getD n default) (hiF c n) ⟨deep, [], false⟩).2.deep.getD j 0 ≤ 100000 := fun j hj => hI.deep j (by rw [hI.len]; exact hj)
      by_cases hmn : m = n
      · rw [hmn]
        have h1 := block_done (hB.blk n hn) (hdp n hn) hab hf (fun i i1 i2 => hneg i hn i1 (by omega)) (by omega)
        refine h1.keep hlo hab (fun i i1 i2 => ?_)
        refine (runF_out (Twin.self c i) hB k (n + 1) _ (by omega) hd1 hI.len (fun q q1 q2 => ?_)).2 hres
        have := lo_mono hB (n + 1) (q - (n + 1)) (by omega)
        rw [show n + 1 + (q - (n + 1)) = q by omega] at this
        unfold hiF at i2
        rw [if_pos (by omega)] at i2
        omega
      · refine ih (n + 1) _ (by omega) hd1 hI.len (fun i q1 q2 q3 => ?_) hres m (by omega) hm2
        have ho : (i : Int) < (c.blks.getD n default).lo ∨ hiF c n ≤ i := by
          unfold hiF
          rw [if_pos q1]
          exact .inr q2
        rw [((Twin.self c i).block_out (hB.blk n hn) hf ho).2]
        have := hB.next n q1
        exact hneg i hn (by omega) q3
/-- What the law says of code that may be run. -/
theorem flows_said {n : Nat} {c : CodeV} (hok : (depthsF n c).e = 0) : ∀ m, m < c.blks.length → FlowB c m (c.blks.getD m default) (depthsF n c).deep := by
  have hs := depths_shape hok
  unfold depthsF at hok ⊢
  rw [if_neg (by rw [hs]; simp)] at hok ⊢
  by_cases hr : 0 ≤ (runF c 0 c.blks (List.replicate c.ins.length (-1))).1
  · rw [if_pos hr] at hok
    exact absurd (show (15 : Int) = 0 from hok) (by decide)
  · rw [if_neg hr]
    have hrep : ∀ j, j < c.ins.length → (List.replicate c.ins.length (-1 : Int)).getD j 0 = -1 := fun j hj => by
      rw [List.getD_eq_getElem?_getD, List.getElem?_replicate, if_pos hj]
      rfl
    have hck := CodeOk.of (n := n) (c := c) (by unfold shapeF at hs; simp only [Bool.and_eq_true] at hs; exact hs.1.1)
    intro m hm
    have := runF_done hs (fun q hq => (hck.blks (c.blks.getD q default) (by
      rw [List.getD_eq_getElem?_getD, List.getElem?_eq_getElem hq]
      exact List.getElem_mem hq)).2.2.2.2.2.2.1) _ 0 (List.replicate c.ins.length (-1)) rfl (fun j hj => by rw [hrep j hj]; omega) (by simp) (fun i _ _ hi => by rw [hrep i hi]; omega) (by rw [List.drop_zero]; omega) m (Nat.zero_le _) hm
    rw [List.drop_zero] at this
    exact this
end Go.Proofs.YtknbgbeepachgaaDoor

/-
  check.depths, Check, Depths.
-/
namespace Go.Proofs.YtknbgbeepachgaaDoor
open Go.RowKit Go.Shelf

/-- What depths tells. -/
def DepPost (w : World) (R : DepR) (e : Ending) (w' : World) : Prop :=
  (∃ a cap, e = .returned (.tuple #[.slice a R.deep.length cap, .int .i64 R.at', .int .i64 R.e]) ∧ (0 < R.deep.length → ∃ D, a = some ⟨D, 0, none⟩ ∧ Blk w' D (R.deep.map (.int .i64)) 3)) ∧ Upd [] w w'
theorem DepPost.of {w w' : World} {R : DepR} {deep : List Int} {at' er : Int} {e : Ending} (h : R = ⟨deep, at', er⟩) {a : Option Addr} {cap : Nat} (he : e = .returned (.tuple #[.slice a deep.length cap, .int .i64 at', .int .i64 er]))
    (hb : 0 < deep.length → ∃ D, a = some ⟨D, 0, none⟩ ∧ Blk w' D (deep.map (.int .i64)) 3) (hu : Upd [] w w') : DepPost w R e w' := by
  rw [h]
  exact ⟨⟨a, cap, he, hb⟩, hu⟩
/-- What the loop over the blocks leans on. -/
structure BRel (w : World) (nI : Nat) (D : Nat) (cells : List Value) (deep : List Int) (W : World) : Prop where
  box : Blk W w.heap.size cells 26
  row : Blk W D (deep.map (.int .i64)) 3
  len : deep.length = nI
  rng : ∀ i, i < nI → -1 ≤ deep.getD i 0 ∧ deep.getD i 0 ≤ 100000
  upd : Upd [] w W
theorem size_succ (W : World) (o : Obj) : W.heap.size + 1 = (W.alloc o).heap.size := by simp
theorem LS.fresh {W : World} {k : LookK} {deep : List Int} (hB : Blk W k.L (lookCells k (.slice none 0 0) false .nilFunc) 73) (hD : Blk W k.D (deep.map (.int .i64)) 3) (hl : deep.length = k.nD) : LS W W.heap.size k .nilFunc ⟨deep, [], false⟩ :=
  ⟨⟨_, [], hB, World.ownsRow_nil _ _ _ _, List.Perm.refl _, fun i _ hi => absurd hi (by simp)⟩, hD, hl, by simp, hB.lt, hD.lt, Nat.le_refl _⟩
/-- A block that is looked at out of depths' loop. -/
theorem look_new {w wr W : World} {n nI nB nC cI cB cC D j : Nat} {aI aB aC : Option Addr} {c : CodeV} {deep : List Int} {b : BlkV} {L : Nat} (hT : Tabs w) (h : IsC w n aI aB aC c) (hOK : CodeOk c) (hnI : nI = c.ins.length) (hnB : nB = c.blks.length) (hnC : nC = c.cons.length) (hnI2 : nI ≤ 60000) (hrel : BRel w nI D [.slice aI nI cI, .slice aB nB cB, .slice aC nC cC] deep wr) (hwD : w.heap.size < D)
    (hj : j < nB) (hb : b = c.blks.getD j default) (hhi : hiF c j ≤ nI) (hL : wr.heap.size ≤ L) (hu : Upd [] wr W) (hB : Blk W L (lookCells ⟨aI, nI, cI, aB, nB, cB, aC, nC, cC, j, b, hiF c j, D, nI, L⟩ (.slice none 0 0) false .nilFunc) 73) :
    Calls Tryd.prog 21 #[.pointer (some ⟨L, 0, none⟩)] W (fun e w' => e = .returned (.int .i64 (blockF c j b (hiF c j) ⟨deep, [], false⟩).1) ∧ BRel w nI D [.slice aI nI cI, .slice aB nB cB, .slice aC nC cC] (blockF c j b (hiF c j) ⟨deep, [], false⟩).2.deep w') := by
  have hbm : b ∈ c.blks := by
    rw [hb, List.getD_eq_getElem?_getD, List.getElem?_eq_getElem (by omega)]
    exact List.getElem_mem _
  obtain ⟨b1, b2, b3, b4, b5, b6, b7, b8, b9, b10⟩ := hOK.blks b hbm
  have hDl := hrel.row.lt
  have hS := LS.fresh (k := ⟨aI, nI, cI, aB, nB, cB, aC, nC, cC, j, b, hiF c j, D, nI, L⟩) (deep := deep) hB (hu.blk hrel.row (by simp)) hrel.len
  have hwW : Upd [] w W := hrel.upd.then hu
  have hLl := hB.lt
  have hlow : ∀ w', Kb W.heap.size [L, D] W w' → Upd [] w w' := fun w' hk => hk.low hwW (hwW.size) (fun x hx => by
    have hz := hrel.upd.size
    simp at hx
    omega)
  have hF := flat_deep hrel.len hrel.rng b.lo (hiF c j)
  refine (block_calls (m := n) hS ⟨h.upd hwW, hnI, hnB, hnC, hT.upd hwW⟩ hOK hF rfl b1 hhi (show nI ≤ 65536 by omega) b8 rfl (fun w' hk => ⟨h.upd (hlow w' hk), hnI, hnB, hnC, hT.upd (hlow w' hk)⟩) rfl).mono ?_
  rintro e w' ⟨he, hd, hk⟩
  have hI := blockF_inv (c := c) (n := j) hF rfl rfl b1 hhi b8
  refine ⟨he, (hk.blk (hu.blk hrel.box (by simp)) (by have := hwW.size; have := hrel.box.lt; have := hu.size; omega) (by
    have hz := hrel.upd.size
    have := hrel.box.lt
    simp
    omega)), hd, hI.len, fun i hi => hI.deep i (by rw [hI.len]; exact hi), hlow w' hk⟩
set_option maxRecDepth 100000 in
set_option maxHeartbeats 4000000 in
theorem depths_calls {w : World} {n : Nat} {aI aB aC : Option Addr} (cI cB cC : Nat) {c : CodeV} (h : IsC w n aI aB aC c) (hl : Lit' n c) (hT : Tabs w) :
    Calls Tryd.prog 15 #[.agg #[.slice aI c.ins.length cI, .slice aB c.blks.length cB, .slice aC c.cons.length cC]] w (DepPost w (depthsF n c)) := by
  have hBx : Blk (w.alloc (.cells #[.slice aI c.ins.length cI, .slice aB c.blks.length cB, .slice aC c.cons.length cC] 26)) w.heap.size [.slice aI c.ins.length cI, .slice aB c.blks.length cB, .slice aC c.cons.length cC] 26 := Blk.newAt rfl
  have hu1 : Upd [] w (w.alloc (.cells #[.slice aI c.ins.length cI, .slice aB c.blks.length cB, .slice aC c.cons.length cC] 26)) := (Upd.refl [] w).alloc _
  have HSH := Lib.hid (shape_calls cI cB cC (h.upd hu1) hl)
  obtain ⟨RR, hRR⟩ : ∃ RR, RR = depthsF n c := ⟨_, rfl⟩
  rw [← hRR]
  unfold depthsF at hRR
  have hnI := hl.nI
  have hnB := hl.nB
  have hOK : shapeF n c = true → CodeOk c := fun hs => CodeOk.of (n := n) (by unfold shapeF at hs; simp only [Bool.and_eq_true] at hs; exact hs.1.1)
  have hLO : shapeF n c = true → ∀ j, hiF c j ≤ c.ins.length := fun hs j => hiF_range hs j
  have H := Lib.hid h
  have HT := Lib.hid hT
  have HR := Lib.hid hRR
  have HOK := Lib.hid hOK
  have HLO := Lib.hid hLO
  have HBX := Lib.hid hBx
  have HU1 := Lib.hid hu1
  obtain ⟨sh, hsh⟩ : ∃ sh, sh = shapeF n c := ⟨_, rfl⟩
  rw [← hsh] at HSH HR HOK HLO
  clear h hl hT hBx hu1 hRR hOK hLO hsh
  obtain ⟨nI, hI⟩ : ∃ nI, nI = c.ins.length := ⟨_, rfl⟩
  obtain ⟨nB, hB⟩ : ∃ nB, nB = c.blks.length := ⟨_, rfl⟩
  obtain ⟨nC, hC⟩ : ∃ nC, nC = c.cons.length := ⟨_, rfl⟩
  rw [← hI, ← hB, ← hC] at HSH HBX HU1 ⊢
  rw [← hI] at hnI HR HLO
  rw [← hB] at hnB
  have HNI := Lib.hid hI
  have HNB := Lib.hid hB
  have HNC := Lib.hid hC
  clear hI hB hC
  go_enter Tryd.func15, Tryd.ntmps15
  go_wp2_with fail
  refine HSH.out.mono ?_
  rintro e w2 ⟨rfl, hu2⟩
  have HBX2 := Lib.hid (hu2.blk HBX.out (by simp))
  have HU2 := Lib.hid (HU1.out.then hu2)
  have x0 := HBX2.out.cell_some (i := 0) rfl
  have x1 := HBX2.out.cell_some (i := 1) rfl
  clear hu2 HSH HBX HU1
  cases sh with
  | false =>
    have E9 : Hid (RR = ⟨[], -1, 15⟩) := Lib.hid (by rw [HR.out]; rfl)
    clear HR HOK HLO
    go_wp2
    go_ret3
    exact DepPost.of E9.out rfl (by simp) HU2.out
  | true =>
    have HR1 : Hid (RR = if 0 ≤ (runF c 0 c.blks (List.replicate nI (-1))).1 then ⟨[], (runF c 0 c.blks (List.replicate nI (-1))).1, 15⟩ else ⟨(runF c 0 c.blks (List.replicate nI (-1))).2, 0, 0⟩) := Lib.hid (by rw [HR.out]; rfl)
    have HOK1 := Lib.hid (HOK.out rfl)
    have HLO1 := Lib.hid (HLO.out rfl)
    clear HR HOK HLO
    obtain ⟨i0, hi, hz0, hz1, hz2⟩ := info_parts info_int
    go_wp2_with (refine wpList_make_full _ rfl (.tmp 16) (.tmp 16) 39 rfl w2.heap.size 3 i0 _ 1 Tryd.underlying39 hi hz0 hz1 .i64 .i64 (nI : Int) (nI : Int) nI rfl rfl rfl rfl (by rw [hz2]; omega) (by unfold maxLen; omega) (Nat.le_refl _) ?_; intro w3 hO3 hg3)
    have hB3 : Blk w3 w2.heap.size ((List.replicate nI (0 : Int)).map (.int .i64)) 3 := by
      have h := row_blk hO3
      rw [show (Value.int IntKind.i64 0).cells = #[.int .i64 0] from rfl, toList_madeCells_one, Nat.mul_one] at h
      rwa [List.map_replicate]
    have hu3 : Upd [] w2 w3 := Upd.of_grown hg3 (by simp)
    have hwD : w.heap.size < w2.heap.size := HBX2.out.lt
    have HBX3 := Lib.hid (hu3.blk HBX2.out (by simp))
    have HU3 := Lib.hid (HU2.out.then hu3)
    have HB3 := Lib.hid hB3
    obtain ⟨D, hD⟩ : ∃ D, D = w2.heap.size := ⟨_, rfl⟩
    rw [← hD] at HB3 hwD ⊢
    clear hO3 hg3 hB3 hu3 HU2 HBX2 x0 x1 hi hz0 hz1 hz2 hD
    go_loopw [20] (fun i wr => ∃ (j : Nat) (xs : List Int), j ≤ nI ∧ i = .int .i64 j ∧ Hid (Blk wr D (xs.map (.int .i64)) 3) ∧ Hid (xs.length = nI) ∧ Hid (∀ i, i < j → xs.getD i 0 = -1) ∧ Hid (Blk wr w.heap.size [.slice aI nI cI, .slice aB nB cB, .slice aC nC cC] 26) ∧ Hid (Upd [] w wr)) (fun i _ => nI - (intOf i).toNat)
    case atStart => exact ⟨0, List.replicate nI 0, by omega, rfl, HB3, Lib.hid (by simp), Lib.hid (fun i hi => by omega), HBX3, HU3⟩
    case round =>
      obtain ⟨j, xs, hj, rfl, hB, hL, hA, hX, hU⟩ := hrel
      by_cases hlt : j < nI
      · have cD : wr.cell? ⟨D, j, none⟩ = some (.int .i64 (xs.getD j 0)) := hB.out.cell_some (by rw [map_int_get, List.getElem?_eq_getElem (by rw [hL.out]; exact hlt)]; simp [List.getD_eq_getElem?_getD, show j < xs.length by rw [hL.out]; exact hlt])
        have fD := hB.out.free j
        have HB4 : Hid (Blk (wr.setCell ⟨D, j, none⟩ (.int .i64 (-1))) D ((xs.set j (-1)).map (.int .i64)) 3) := Lib.hid (by
          rw [← map_int_set]
          exact hB.out.set j _)
        have HL4 : Hid ((xs.set j (-1)).length = nI) := Lib.hid (by rw [List.length_set]; exact hL.out)
        have HA4 : Hid (∀ i, i < j + 1 → (xs.set j (-1)).getD i 0 = -1) := Lib.hid (fun i hi => by
          rw [List.getD_eq_getElem?_getD, List.getElem?_set]
          by_cases hij : j = i
          · rw [if_pos hij, if_pos (by rw [hL.out]; omega)]
            rfl
          · rw [if_neg hij, ← List.getD_eq_getElem?_getD]
            exact hA.out i (by omega))
        have HX4 := Lib.hid (hX.out.set_other (a := ⟨D, j, none⟩) (.int .i64 (-1)) (by simp; omega))
        have HU4 := Lib.hid (hU.out.setCell (p := ⟨D, j, none⟩) (.int .i64 (-1)) (.inr (by simp; omega)))
        have hlt' : (j : Int) < (nI : Int) := by omega
        clear hB hL hA hX hU
        go_wp2
        go_roundw
        case rel => exact ⟨j + 1, _, by omega, by go_num, HB4, HL4, HA4, HX4, HU4⟩
        case measure => simp [intOf]; omega
      · obtain rfl : j = nI := by omega
        have hxs : xs = List.replicate j (-1) := by
          apply List.ext_getElem
          · rw [hL.out, List.length_replicate]
          · intro i h1 h2
            have := hA.out i (by rw [← hL.out]; exact h1)
            rw [List.getD_eq_getElem?_getD, List.getElem?_eq_getElem h1] at this
            simpa using this
        have hrel : BRel w j D [.slice aI j cI, .slice aB nB cB, .slice aC nC cC] xs wr := ⟨hX.out, hB.out, hL.out, fun i hi => by rw [hA.out i hi]; omega, hU.out⟩
        have x1 := hX.out.cell_some (i := 1) rfl
        have HREL := Lib.hid hrel
        have HRUN : Hid (runF c 0 c.blks (List.replicate j (-1)) = runF c 0 (c.blks.drop 0) xs) := Lib.hid (by rw [hxs, List.drop_zero])
        clear hB hL hA hX hU hrel hxs hlt hj
        obtain ⟨nI, rfl⟩ : ∃ nI, nI = j := ⟨_, rfl⟩
        go_wp2_with fail
        go_loopw [30] (fun i wr => ∃ (j : Nat) (deep : List Int), j ≤ nB ∧ i = .int .i64 j ∧ Hid (BRel w nI D [.slice aI nI cI, .slice aB nB cB, .slice aC nC cC] deep wr) ∧ Hid (runF c 0 c.blks (List.replicate nI (-1)) = runF c j (c.blks.drop j) deep)) (fun i _ => nB - (intOf i).toNat)
        case atStart => exact ⟨0, _, by omega, rfl, HREL, HRUN⟩
        case round =>
          obtain ⟨j, deep, hj, rfl, hB, hRun⟩ := hrel
          by_cases hlt : j < nB
          · have hlt' : (j : Int) < (nB : Int) := by omega
            obtain ⟨bb, o, eB, y0, y1, y2, y3, y4, y5⟩ := blkAt_get (blkAt_upd H.out.blks hB.out.upd) (i := j) (by rw [← HNB.out]; exact hlt)
            subst eB
            have hb9 : ∃ b, b = c.blks.getD j default := ⟨_, rfl⟩
            obtain ⟨b, hb⟩ := hb9
            rw [← hb] at y0 y1 y2 y3 y4 y5
            have hrn : runF c 0 c.blks (List.replicate nI (-1)) = if 0 ≤ (blockF c j b (hiF c j) ⟨deep, [], false⟩).1 then ((blockF c j b (hiF c j) ⟨deep, [], false⟩).1, []) else runF c (j + 1) (c.blks.drop (j + 1)) (blockF c j b (hiF c j) ⟨deep, [], false⟩).2.deep := by
              rw [hRun.out, List.drop_eq_getElem_cons (by rw [← HNB.out]; exact hlt), runF]
              have e : c.blks[j]'(by rw [← HNB.out]; exact hlt) = b := by
                rw [hb]
                simp [List.getD_eq_getElem?_getD, show j < c.blks.length by rw [← HNB.out]; exact hlt]
              rw [e]
            have HLK := Lib.hid (fun (W : World) (L : Nat) (h1 : wr.heap.size ≤ L) (h2 : Upd [] wr W) (h3 : Blk W L (lookCells ⟨aI, nI, cI, some ⟨bb, o, none⟩, nB, cB, aC, nC, cC, j, b, hiF c j, D, nI, L⟩ (.slice none 0 0) false .nilFunc) 73) => look_new HT.out H.out HOK1.out HNI.out HNB.out HNC.out hnI hB.out hwD hlt hb (HLO1.out j) h1 h2 h3)
            obtain ⟨r, hr9⟩ : ∃ r, r = blockF c j b (hiF c j) ⟨deep, [], false⟩ := ⟨_, rfl⟩
            rw [← hr9] at hrn HLK
            have HRN := Lib.hid hrn
            have x0 := hB.out.box.cell_some (i := 0) rfl
            have x1 := hB.out.box.cell_some (i := 1) rfl
            have x2 := hB.out.box.cell_some (i := 2) rfl
            have l0 := hB.out.box.lt
            have l1 := World.block_lt_of_cell? wr _ y0
            simp only at l1
            have l2 : w.heap.size < wr.heap.size + 1 := by omega
            have l3 : bb < wr.heap.size + 1 := by omega
            have hj1 : IntKind.i64.wrap ((j : Int) + 1) = (j : Int) + 1 := IntWalk.i64_in _ (by omega)
            have hjw : (j : Int) + 1 = ((j + 1 : Nat) : Int) := by omega
            have HBB := Lib.hid hB.out.upd
            clear hRun hrn hr9 hb
            obtain ⟨lo, pr, rest, sl, dp, ou⟩ := b
            simp only at y0 y1 y2 y3 y4 y5
            by_cases hn : j + 1 < nB
            · obtain ⟨bb', o', e', z0, _⟩ := blkAt_get (blkAt_upd H.out.blks HBB.out) (i := j + 1) (by rw [← HNB.out]; exact hn)
              injection e' with e'
              injection e' with e1 e2
              subst e1; subst e2
              have hh : hiF c j = (c.blks.getD (j + 1) default).lo := by
                unfold hiF
                rw [if_pos (by rw [← HNB.out]; exact hn)]
              rw [hh] at HLK
              generalize (c.blks.getD (j + 1) default).lo = lo2 at *
              have hn' : (j : Int) + 1 < (nB : Int) := by omega
              clear hh hn hjw
              go_wp2_with fail
              refine Calls.mono (HLK.out _ (wr.heap.size + 1) (by omega) ?_ ?_) ?_
              · exact ((Upd.refl [] wr).alloc _).alloc _
              · exact Blk.newAt (size_succ wr _)
              rintro e w5 ⟨rfl, hB5⟩
              have HB5 := Lib.hid hB5
              clear hB5 HLK
              by_cases hr : 0 ≤ r.1
              · have E9 : Hid (RR = ⟨[], r.1, 15⟩) := Lib.hid (by
                  rw [HR1.out, HRN.out, if_pos hr, if_pos hr])
                have hr' : ¬ r.1 < 0 := by omega
                clear HRN
                go_wp2
                go_ret3
                exact DepPost.of E9.out rfl (by simp) HB5.out.upd
              · have HRN2 : Hid (runF c 0 c.blks (List.replicate nI (-1)) = runF c (j + 1) (c.blks.drop (j + 1)) r.2.deep) := Lib.hid (by rw [HRN.out, if_neg hr])
                clear HRN
                go_wp2
                go_roundw
                case rel => exact ⟨j + 1, _, by omega, by go_num, HB5, HRN2⟩
                case measure => simp [intOf]; omega
            · have hh : hiF c j = (nI : Int) := by
                unfold hiF
                rw [if_neg (by rw [← HNB.out]; exact hn), ← HNI.out]
              rw [hh] at HLK
              have hn' : ¬ (j : Int) + 1 < (nB : Int) := by omega
              clear hh hn hjw
              go_wp2_with fail
              refine Calls.mono (HLK.out _ (wr.heap.size + 1) (by omega) ?_ ?_) ?_
              · exact ((Upd.refl [] wr).alloc _).alloc _
              · exact Blk.newAt (size_succ wr _)
              rintro e w5 ⟨rfl, hB5⟩
              have HB5 := Lib.hid hB5
              clear hB5 HLK
              by_cases hr : 0 ≤ r.1
              · have E9 : Hid (RR = ⟨[], r.1, 15⟩) := Lib.hid (by
                  rw [HR1.out, HRN.out, if_pos hr, if_pos hr])
                have hr' : ¬ r.1 < 0 := by omega
                clear HRN
                go_wp2
                go_ret3
                exact DepPost.of E9.out rfl (by simp) HB5.out.upd
              · have HRN2 : Hid (runF c 0 c.blks (List.replicate nI (-1)) = runF c (j + 1) (c.blks.drop (j + 1)) r.2.deep) := Lib.hid (by rw [HRN.out, if_neg hr])
                clear HRN
                go_wp2
                go_roundw
                case rel => exact ⟨j + 1, _, by omega, by go_num, HB5, HRN2⟩
                case measure => simp [intOf]; omega
          · obtain rfl : j = nB := by omega
            have E9 : Hid (RR = ⟨deep, 0, 0⟩) := Lib.hid (by
              rw [HR1.out, hRun.out, HNB.out, List.drop_length, runF, if_neg (by simp)])
            have HB9 := hB
            have HL9 := Lib.hid hB.out.len
            clear hRun hB
            go_wp2
            go_ret3
            exact DepPost.of E9.out (by rw [HL9.out]; rfl) (fun _ => ⟨D, rfl, HB9.out.row⟩) HB9.out.upd
end Go.Proofs.YtknbgbeepachgaaDoor
