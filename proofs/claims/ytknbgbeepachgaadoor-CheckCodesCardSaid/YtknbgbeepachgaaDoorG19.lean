/-
  Texts of this claim, merged: CbQ, CfP, CfQ. Lemmas and contracts; no conditions of our own.
-/
import Derived.Test.YtknbgbeepachgaaDoorG18

/-
  What breaks a code that may be run: the plain law, whole.
-/
namespace Go.Proofs.YtknbgbeepachgaaDoor
open Go.RowKit Go.Shelf

/-- A code whose i-th instruction names what is not there. -/
def breakC (c : CodeV) (i : Nat) : CodeV := ⟨c.ins.set i ⟨(c.ins.getD i default).op, 999999, (c.ins.getD i default).b⟩, c.blks, c.cons⟩
theorem breakC_at {c : CodeV} {i : Nat} (hi : i < c.ins.length) : (breakC c i).ins.getD i default = ⟨(c.ins.getD i default).op, 999999, (c.ins.getD i default).b⟩ := by
  show (c.ins.set i _).getD i default = _
  rw [List.getD_eq_getElem?_getD, List.getElem?_set, if_pos rfl, if_pos hi]
  rfl
theorem breakC_twin (c : CodeV) (i : Nat) : Twin c (breakC c i) i :=
  ⟨rfl, rfl, List.length_set, fun j hj => by
    show (c.ins.set i _).getD j default = _
    rw [List.getD_eq_getElem?_getD, List.getElem?_set, if_neg (Ne.symm hj), ← List.getD_eq_getElem?_getD]⟩
theorem breakC_shape {n : Nat} {c : CodeV} {i : Nat} (hs : shapeF n c = true) (hi : i < c.ins.length) (hop : (c.ins.getD i default).op ≤ 8) : shapeF n (breakC c i) = true := by
  unfold shapeF codeG at hs ⊢
  simp only [Bool.and_eq_true] at hs ⊢
  obtain ⟨⟨⟨⟨h1, h2⟩, h3⟩, h4⟩, h5, h6⟩ := hs
  have hl : (breakC c i).ins.length = c.ins.length := List.length_set
  refine ⟨⟨⟨⟨?_, h2⟩, h3⟩, h4⟩, h5, by rw [hl]; exact h6⟩
  rw [List.all_eq_true] at h1 ⊢
  intro x hx
  rcases List.mem_or_eq_of_mem_set hx with hx | rfl
  · exact h1 x hx
  · have h := h1 (c.ins.getD i default) (by
      rw [List.getD_eq_getElem?_getD, List.getElem?_eq_getElem hi]
      exact List.getElem_mem hi)
    have hok := insG_ok h
    have a1 := hok.op1
    have a2 := hok.b1
    have a3 := hok.b2
    have a4 := hok.bc
    generalize c.ins.getD i default = y at *
    unfold insG upB
    simp
    refine ⟨⟨⟨a1, by omega⟩, a2, a3⟩, ?_, by omega⟩
    by_cases h5 : y.op = 5
    · exact .inr h5
    · exact .inl (a4 h5)
theorem shape_blks {n : Nat} {c : CodeV} (hs : shapeF n c = true) : BlksIn c := by
  have hok := (CodeOk.of (n := n) (c := c) (by unfold shapeF at hs; simp only [Bool.and_eq_true] at hs; exact hs.1.1)).blks
  have hri : risingF c.ins.length (-1) c.blks = true := by
    unfold shapeF at hs
    simp only [Bool.and_eq_true] at hs
    exact hs.2.2
  refine ⟨fun m hm => ?_, fun m hm => ?_⟩
  · have := hok (c.blks.getD m default) (by
      rw [List.getD_eq_getElem?_getD, List.getElem?_eq_getElem hm]
      exact List.getElem_mem hm)
    exact ⟨this.1, hiF_range hs m, this.2.2.2.2.2.2.2.1⟩
  · have hr : ∀ (bs : List BlkV) (last : Int), risingF c.ins.length last bs = true → ∀ m, m + 1 < bs.length → (bs.getD m default).lo < (bs.getD (m + 1) default).lo := by
      intro bs
      induction bs with
      | nil => intro _ _ m hm; simp at hm
      | cons b bs ih =>
        intro last h m hm
        unfold risingF at h
        simp only [Bool.and_eq_true] at h
        cases m with
        | zero =>
          have := (risingF_at bs b.lo h.2 0 (by simpa using hm)).1
          simpa using this
        | succ m =>
          have := ih b.lo h.2 m (by simpa using hm)
          simpa using this
    exact hr _ _ hri m hm
theorem shape_first {n : Nat} {c : CodeV} (hs : shapeF n c = true) : 0 < c.blks.length ∧ (c.blks.getD 0 default).lo ≤ 0 := by
  have hok := (CodeOk.of (n := n) (c := c) (by unfold shapeF at hs; simp only [Bool.and_eq_true] at hs; exact hs.1.1)).blks
  unfold shapeF at hs
  simp only [Bool.and_eq_true, decide_eq_true_eq] at hs
  have h0 : 0 < c.blks.length := by
    cases hb : c.blks with
    | nil =>
      have := hs.1.2
      rw [hb] at this
      simp at this
    | cons _ _ => simp
  have := hok (c.blks.getD 0 default) (by
    rw [List.getD_eq_getElem?_getD, List.getElem?_eq_getElem h0]
    exact List.getElem_mem h0)
  have := hs.2.1.1
  exact ⟨h0, by omega⟩
theorem breaks_said {n : Nat} {c : CodeV} {i : Nat} (hl : Lit' n c) (hi : i < c.ins.length) (hop : (c.ins.getD i default).op ≤ 8) (hok : (depthsF n c).e = 0) :
    ((depthsF n c).deep.getD i 0 < 0 → (depthsF n (breakC c i)).at' = 0 ∧ (depthsF n (breakC c i)).e = 0) ∧ (0 ≤ (depthsF n c).deep.getD i 0 → (depthsF n (breakC c i)).at' = i ∧ (depthsF n (breakC c i)).e = 15) := by
  unfold depthsF at hok
  by_cases hs : shapeF n c = false
  · rw [if_pos hs] at hok
    exact absurd hok (by decide)
  · rw [if_neg hs] at hok
    have hs2 : shapeF n c = true := by simpa using hs
    have hrun : ¬ 0 ≤ (runF c 0 c.blks (List.replicate c.ins.length (-1))).1 := by
      intro h
      rw [if_pos h] at hok
      exact absurd (show (15 : Int) = 0 from hok) (by decide)
    have hd : depthsF n c = ⟨(runF c 0 c.blks (List.replicate c.ins.length (-1))).2, 0, 0⟩ := by
      unfold depthsF
      rw [if_neg hs, if_neg hrun]
    have hT := breakC_twin c i
    have hlen : (breakC c i).ins.length = c.ins.length := List.length_set
    have hdd : depthsF n (breakC c i) = if 0 ≤ (runF (breakC c i) 0 c.blks (List.replicate c.ins.length (-1))).1 then ⟨[], (runF (breakC c i) 0 c.blks (List.replicate c.ins.length (-1))).1, 15⟩ else ⟨(runF (breakC c i) 0 c.blks (List.replicate c.ins.length (-1))).2, 0, 0⟩ := by
      unfold depthsF
      rw [if_neg (by rw [breakC_shape hs2 hi hop]; simp), hlen]
      rfl
    have hcok := CodeOk.of (n := n) (c := c) (by unfold shapeF at hs2; simp only [Bool.and_eq_true] at hs2; exact hs2.1.1)
    obtain ⟨hb0, hlo0⟩ := shape_first hs2
    have hx := hcok.at hi
    have hbr : ∀ m b on, m < c.blks.length → b = c.blks.getD m default → wrongF (breakC c i) m b (hiF c m) ((breakC c i).ins.getD i default) on = true := by
      intro m b on hm hb
      rw [breakC_at hi]
      have hbb := hcok.blks b (by
        rw [hb, List.getD_eq_getElem?_getD, List.getElem?_eq_getElem hm]
        exact List.getElem_mem hm)
      have h2 := hl.nI
      have h3 := hl.nB
      have h4 := hl.nC
      have h5 := hiF_range hs2 m
      have hop1 := hx.op1
      generalize c.ins.getD i default = y at *
      obtain ⟨yo, ya, yb⟩ := y
      simp only at hop hop1 ⊢
      have hth : thereF (breakC c i) m b (hiF c m) ⟨yo, 999999, yb⟩ = false := by
        unfold thereF breakC arD
        simp only
        have : yo = 1 ∨ yo = 2 ∨ yo = 3 ∨ yo = 4 ∨ yo = 5 ∨ yo = 6 ∨ yo = 7 ∨ yo = 8 := by omega
        rcases this with rfl | rfl | rfl | rfl | rfl | rfl | rfl | rfl
        all_goals simp
        all_goals omega
      unfold wrongF
      rw [hth]
      rfl
    have hrep : ∀ j, j < c.ins.length → (List.replicate c.ins.length (-1 : Int)).getD j 0 = -1 := fun j hj => by
      rw [List.getD_eq_getElem?_getD, List.getElem?_replicate, if_pos hj]
      rfl
    have h := runF_in hT (shape_blks hs2) hi hbr _ 0 (List.replicate c.ins.length (-1)) rfl hb0 (fun j hj => by rw [hrep j hj]; omega) (by simp) (by omega) (by rw [hrep i hi]; omega) (by rw [List.drop_zero]; omega)
    rw [List.drop_zero] at h
    rw [hd]
    constructor
    · intro hn
      rw [hdd, h.1 hn, if_neg hrun]
      exact ⟨rfl, rfl⟩
    · intro hn
      rw [hdd, h.2 hn, if_pos (by omega)]
      exact ⟨rfl, rfl⟩
/-- Of code that may be run so many are told as there are instructions. -/
theorem depths_len {n : Nat} {c : CodeV} (hok : (depthsF n c).e = 0) : (depthsF n c).deep.length = c.ins.length := by
  unfold depthsF at hok ⊢
  by_cases hs : shapeF n c = false
  · rw [if_pos hs] at hok
    exact absurd hok (by decide)
  · rw [if_neg hs] at hok ⊢
    have hs2 : shapeF n c = true := by simpa using hs
    by_cases hr : 0 ≤ (runF c 0 c.blks (List.replicate c.ins.length (-1))).1
    · rw [if_pos hr] at hok
      exact absurd (show (15 : Int) = 0 from hok) (by decide)
    · rw [if_neg hr]
      have hB := shape_blks hs2
      have key : ∀ (k m : Nat) (deep : List Int), k = c.blks.length - m → (∀ j, j < c.ins.length → -1 ≤ deep.getD j 0 ∧ deep.getD j 0 ≤ 100000) → deep.length = c.ins.length → ¬ 0 ≤ (runF c m (c.blks.drop m) deep).1 → (runF c m (c.blks.drop m) deep).2.length = c.ins.length := by
        intro k
        induction k with
        | zero =>
          intro m deep hk _ hl _
          rw [List.drop_of_length_le (by omega)]
          exact hl
        | succ k ih =>
          intro m deep hk hd hl hr
          have hm : m < c.blks.length := by omega
          rw [List.drop_eq_getElem_cons hm] at hr ⊢
          have e : c.blks[m] = c.blks.getD m default := by simp [List.getD_eq_getElem?_getD, hm]
          rw [e] at hr ⊢
          have hI := blockF_inv (c := c) (n := m) (flat_deep hl hd (c.blks.getD m default).lo (hiF c m)) rfl rfl (hB.blk m hm).lo (hB.blk m hm).hi (hB.blk m hm).dp
          unfold runF at hr ⊢
          split
          · rename_i h0
            rw [if_pos h0] at hr
            exact absurd h0 hr
          · rename_i h0
            rw [if_neg h0] at hr
            exact ih (m + 1) _ (by omega) (fun j hj => hI.deep j (by rw [hI.len]; exact hj)) hI.len hr
      have := key _ 0 (List.replicate c.ins.length (-1)) rfl (fun j hj => by
        rw [List.getD_eq_getElem?_getD, List.getElem?_replicate, if_pos hj]
        simp) (by simp) (by rw [List.drop_zero]; exact hr)
      rw [List.drop_zero] at this
      exact this
theorem depths_shape {n : Nat} {c : CodeV} (hok : (depthsF n c).e = 0) : shapeF n c = true := by
  unfold depthsF at hok
  by_cases hs : shapeF n c = false
  · rw [if_pos hs] at hok
    exact absurd hok (by decide)
  · simpa using hs
theorem depths_e {n : Nat} (c : CodeV) : (depthsF n c).e = 0 ∨ ((depthsF n c).e = 15 ∧ (depthsF n c).deep = []) := by
  unfold depthsF
  split
  · exact .inr ⟨rfl, rfl⟩
  · split
    · exact .inr ⟨rfl, rfl⟩
    · exact .inl rfl
end Go.Proofs.YtknbgbeepachgaaDoor

/-
  Where code that may be run leads: the plain law.
-/
namespace Go.Proofs.YtknbgbeepachgaaDoor
open Go.RowKit Go.Shelf

/-- How many more there are behind an instruction. -/
def leavesF (x : InsV) : Int := (needsF x).2 - (needsF x).1
/-- It was looked at, and it leads where it should. -/
structure DoneI (c : CodeV) (n : Nat) (b : BlkV) (hi : Int) (deep : List Int) (i : Nat) : Prop where
  vis : 0 ≤ deep.getD i 0
  ok : wrongF c n b hi (c.ins.getD i default) (deep.getD i 0) = false
  fin : (c.ins.getD i default).op = 11 ∨ (c.ins.getD i default).op = 10 → deep.getD i 0 + leavesF (c.ins.getD i default) = 0
  jmp : (c.ins.getD i default).op = 7 ∨ (c.ins.getD i default).op = 8 → b.lo ≤ (c.ins.getD i default).a ∧ (c.ins.getD i default).a < hi ∧ deep.getD (c.ins.getD i default).a.toNat 0 = deep.getD i 0 + leavesF (c.ins.getD i default)
  nxt : (c.ins.getD i default).op ≠ 7 → (c.ins.getD i default).op ≠ 10 → (c.ins.getD i default).op ≠ 11 → (i : Int) + 1 < hi ∧ deep.getD (i + 1) 0 = deep.getD i 0 + leavesF (c.ins.getD i default)
theorem wrong_left {c : CodeV} {n : Nat} {b : BlkV} {hi : Int} {x : InsV} {on : Int} (h : wrongF c n b hi x on = false) : 0 ≤ on + leavesF x ∧ on + leavesF x ≤ b.dp := by
  unfold wrongF at h
  simp only [Bool.or_eq_false_iff, decide_eq_false_iff_not, not_or] at h
  have hp := needs_p x
  unfold leavesF
  omega
/-- What is not below nought stays, so does what was looked at. -/
theorem DoneI.keep {c : CodeV} {n : Nat} {b : BlkV} {hi : Int} {d e : List Int} {i : Nat} (h : DoneI c n b hi d i) (hk : ∀ k, 0 ≤ d.getD k 0 → e.getD k 0 = d.getD k 0) : DoneI c n b hi e i := by
  have hl := wrong_left h.ok
  have e0 := hk i h.vis
  refine ⟨by rw [e0]; exact h.vis, by rw [e0]; exact h.ok, fun ho => by rw [e0]; exact h.fin ho, fun ho => ?_, fun h1 h2 h3 => ?_⟩
  · obtain ⟨k1, k2, k3⟩ := h.jmp ho
    refine ⟨k1, k2, ?_⟩
    rw [e0, hk _ (by rw [k3]; exact hl.1), k3]
  · obtain ⟨k1, k2⟩ := h.nxt h1 h2 h3
    refine ⟨k1, ?_⟩
    rw [e0, hk _ (by rw [k2]; exact hl.1), k2]
theorem comeF_ok {lo hi : Int} {nD : Nat} {f : Flow} {at' on : Int} (hl : f.deep.length = nD) (hlo : 0 ≤ lo) (hhi : hi ≤ nD) (h : (comeF lo hi f at' on).bad = false) : f.bad = false ∧ lo ≤ at' ∧ at' < hi ∧ (comeF lo hi f at' on).deep.getD at'.toNat 0 = on := by
  unfold comeF at h ⊢
  by_cases h1 : at' < lo ∨ hi ≤ at'
  · rw [if_pos h1] at h
    exact absurd h (by simp)
  · rw [if_neg h1] at h ⊢
    by_cases h2 : f.deep.getD at'.toNat 0 < 0
    · rw [if_pos h2] at h ⊢
      refine ⟨h, by omega, by omega, ?_⟩
      show (f.deep.set at'.toNat on).getD at'.toNat 0 = on
      rw [List.getD_eq_getElem?_getD, List.getElem?_set, if_pos rfl, if_pos (by omega)]
      rfl
    · rw [if_neg h2] at h ⊢
      by_cases h3 : f.deep.getD at'.toNat 0 ≠ on
      · rw [if_pos h3] at h
        exact absurd h (by simp)
      · rw [if_neg h3] at h ⊢
        exact ⟨h, by omega, by omega, by simpa using h3⟩
theorem comeF_len2 {lo hi : Int} {f : Flow} {at' on : Int} : (comeF lo hi f at' on).deep.length = f.deep.length := by
  unfold comeF
  split
  · rfl
  · split
    · exact List.length_set
    · split <;> rfl
/-- What one leaves where it says yes. -/
theorem oneF_done {c : CodeV} {n : Nat} {b : BlkV} {hi : Int} {nD : Nat} {f : Flow} {j : Nat} (hl : f.deep.length = nD) (hlo : 0 ≤ b.lo) (hhi : hi ≤ nD) (hv : 0 ≤ f.deep.getD j 0) (h : (oneF c n b hi f j).1 = true) :
    DoneI c n b hi (oneF c n b hi f j).2.deep j ∧ ∀ k, 0 ≤ f.deep.getD k 0 → (oneF c n b hi f j).2.deep.getD k 0 = f.deep.getD k 0 := by
  have hkeep : ∀ k, 0 ≤ f.deep.getD k 0 → (oneF c n b hi f j).2.deep.getD k 0 = f.deep.getD k 0 := fun k hk =>
    oneF_ind (P := fun g => g.deep.getD k 0 = f.deep.getD k 0) rfl (fun g at' on hg _ _ => by rw [comeF_keep (by rw [hg]; exact hk), hg])
  refine ⟨?_, hkeep⟩
  have ej := hkeep j hv
  unfold oneF at h ej ⊢
  rw [Int.toNat_natCast] at h ej ⊢
  simp only at h ej ⊢
  by_cases hw : wrongF c n b hi (c.ins.getD j default) (f.deep.getD j 0) = true
  · rw [if_pos hw] at h
    exact absurd h (by simp)
  · have hw2 : wrongF c n b hi (c.ins.getD j default) (f.deep.getD j 0) = false := by simpa using hw
    rw [if_neg hw] at h ej ⊢
    have hon : f.deep.getD j 0 + ((needsF (c.ins.getD j default)).2 - (needsF (c.ins.getD j default)).1) = f.deep.getD j 0 + leavesF (c.ins.getD j default) := rfl
    rw [hon] at h ej ⊢
    have hlf := wrong_left hw2
    by_cases he : (c.ins.getD j default).op = 11 ∨ (c.ins.getD j default).op = 10
    · rw [if_pos he] at h ej ⊢
      refine ⟨hv, hw2, fun _ => by simpa using h, fun ho => by omega, fun h1 h2 h3 => by omega⟩
    · rw [if_neg he] at h ej ⊢
      simp only at h ej ⊢
      by_cases h7 : (c.ins.getD j default).op = 7
      · rw [if_pos h7, if_pos (.inl h7)] at h ej ⊢
        have hb : (comeF b.lo hi f (c.ins.getD j default).a (f.deep.getD j 0 + leavesF (c.ins.getD j default))).bad = false := by simpa using h
        obtain ⟨_, k1, k2, k3⟩ := comeF_ok hl hlo hhi hb
        exact ⟨by rw [ej]; exact hv, by rw [ej]; exact hw2, fun ho => by omega, fun _ => ⟨k1, k2, by rw [ej]; exact k3⟩, fun h1 => absurd h7 h1⟩
      · rw [if_neg h7] at h ej ⊢
        by_cases h8 : (c.ins.getD j default).op = 8
        · rw [if_pos (.inr h8)] at h ej ⊢
          have hb : (comeF b.lo hi (comeF b.lo hi f (c.ins.getD j default).a (f.deep.getD j 0 + leavesF (c.ins.getD j default))) (j + 1) (f.deep.getD j 0 + leavesF (c.ins.getD j default))).bad = false := by simpa using h
          obtain ⟨hb1, k4, k5, k6⟩ := comeF_ok (by rw [comeF_len2]; exact hl) hlo hhi hb
          obtain ⟨_, k1, k2, k3⟩ := comeF_ok hl hlo hhi hb1
          refine ⟨by rw [ej]; exact hv, by rw [ej]; exact hw2, fun ho => by omega, fun _ => ⟨k1, k2, ?_⟩, fun _ _ _ => ⟨by omega, ?_⟩⟩
          · rw [ej, comeF_keep (by rw [k3]; exact hlf.1), k3]
          · rw [ej]
            rw [Int.toNat_natCast_add_one] at k6
            exact k6
        · rw [if_neg (by omega)] at h ej ⊢
          have hb : (comeF b.lo hi f (j + 1) (f.deep.getD j 0 + leavesF (c.ins.getD j default))).bad = false := by simpa using h
          obtain ⟨_, k4, k5, k6⟩ := comeF_ok hl hlo hhi hb
          refine ⟨by rw [ej]; exact hv, by rw [ej]; exact hw2, fun ho => by omega, fun ho => by omega, fun _ _ _ => ⟨by omega, ?_⟩⟩
          rw [ej]
          rw [Int.toNat_natCast_add_one] at k6
          exact k6
/-- All that was come to is open or done. -/
def AllDone (c : CodeV) (n : Nat) (b : BlkV) (hi : Int) (f : Flow) : Prop := ∀ i : Nat, b.lo ≤ i → (i : Int) < hi → 0 ≤ f.deep.getD i 0 → (i : Int) ∈ f.opn ∨ DoneI c n b hi f.deep i
theorem loop_done {c : CodeV} {n : Nat} {b : BlkV} {hi : Int} {nD : Nat} (hlo : 0 ≤ b.lo) (hhi : hi ≤ nD) (hdp : b.dp ≤ 100000) : ∀ (g : Nat) (f : Flow), FInv b.lo hi nD f → (f.opn ≠ [] → f.bad = false) → muF f < g → (∀ x ∈ f.opn, 0 ≤ f.deep.getD x.toNat 0) → AllDone c n b hi f → (loopF c n b hi g f).1 < 0 →
    ∀ i : Nat, b.lo ≤ i → (i : Int) < hi → 0 ≤ (loopF c n b hi g f).2.deep.getD i 0 → DoneI c n b hi (loopF c n b hi g f).2.deep i
  | 0, f, _, _, hmu, _, _, _ => by omega
  | g + 1, f, hf, hb, hmu, hpos, hall, hres => by
    unfold loopF at hres ⊢
    cases e : f.opn with
    | nil =>
      intro i h1 h2 h3
      rcases hall i h1 h2 h3 with h | h
      · rw [e] at h
        cases h
      · exact h
    | cons j rest =>
      rw [e] at hres
      simp only at hres ⊢
      obtain ⟨h1, h2, h3, h5⟩ := hf.tail e
      have h4 := h1.one (c := c) (n := n) hlo hhi hdp j (hb (by rw [e]; simp))
      have hr : (oneF c n b hi { f with opn := rest } j).1 = true := by
        cases hr : (oneF c n b hi { f with opn := rest } j).1 with
        | true => rfl
        | false =>
          rw [hr] at hres
          have : j < 0 := hres
          omega
      rw [hr] at hres ⊢
      simp only [if_true] at hres ⊢
      have hpj := hpos j (by rw [e]; exact List.mem_cons_self)
      obtain ⟨k, rfl⟩ : ∃ k : Nat, j = k := ⟨j.toNat, by omega⟩
      rw [Int.toNat_natCast] at hpj
      obtain ⟨hd, hk⟩ := oneF_done (nD := nD) (f := { f with opn := rest }) hf.len hlo hhi hpj hr
      refine loop_done hlo hhi hdp g _ h4.1 (fun _ => h4.2.2 hr) (by rw [h4.2.1]; omega) ?_ ?_ hres
      · exact (oneF_ind (P := fun g => FInv b.lo hi nD g ∧ ∀ x ∈ g.opn, 0 ≤ g.deep.getD x.toNat 0) ⟨h1, fun x hx => hpos x (by rw [e]; exact List.mem_cons_of_mem _ hx)⟩ (fun g at' on hg h0 h9 => ⟨hg.1.come at' h0 (by omega), hg.1.pos hlo hhi at' h0 hg.2⟩)).2
      · intro i q1 q2 q3
        by_cases hik : i = k
        · rw [hik]
          exact .inr hd
        · by_cases h0 : 0 ≤ f.deep.getD i 0
          · rcases hall i q1 q2 h0 with h | h
            · rw [e] at h
              rcases List.mem_cons.1 h with h | h
              · omega
              · exact .inl (oneF_ind (P := fun g => (i : Int) ∈ g.opn) h (fun g at' on hg _ _ => comeF_mem hg))
            · exact .inr (h.keep hk)
          · exact .inl (oneF_ind (P := OpenI i) (fun hd => absurd hd h0) (fun g at' on hg _ _ => hg.come hlo at' on) q3)
end Go.Proofs.YtknbgbeepachgaaDoor

/-
  Where code that may be run leads: block by block, and the whole.
-/
namespace Go.Proofs.YtknbgbeepachgaaDoor
open Go.RowKit Go.Shelf

/-- It asks only for what stands in its own block. -/
theorem DoneI.keep2 {c : CodeV} {n : Nat} {b : BlkV} {hi : Int} {d e : List Int} {i : Nat} (h : DoneI c n b hi d i) (hlo : 0 ≤ b.lo) (h1 : b.lo ≤ i) (h2 : (i : Int) < hi) (hk : ∀ k : Nat, b.lo ≤ k → (k : Int) < hi → e.getD k 0 = d.getD k 0) : DoneI c n b hi e i := by
  have e0 := hk i h1 h2
  refine ⟨by rw [e0]; exact h.vis, by rw [e0]; exact h.ok, fun ho => by rw [e0]; exact h.fin ho, fun ho => ?_, fun q1 q2 q3 => ?_⟩
  · obtain ⟨k1, k2, k3⟩ := h.jmp ho
    refine ⟨k1, k2, ?_⟩
    rw [e0, hk _ (by omega) (by omega), k3]
  · obtain ⟨k1, k2⟩ := h.nxt q1 q2 q3
    refine ⟨k1, ?_⟩
    rw [e0, hk _ (by omega) (by omega), k2]
def MostI (lo hi D : Int) (d : List Int) : Prop := ∀ k : Nat, lo ≤ k → (k : Int) < hi → d.getD k 0 ≤ D
theorem MostI.come {lo hi D : Int} {f : Flow} (h : MostI lo hi D f.deep) (at' : Int) {on : Int} (h1 : on ≤ D) : MostI lo hi D (comeF lo hi f at' on).deep := by
  intro k k1 k2
  have := h k k1 k2
  unfold comeF
  split
  · exact this
  · split
    · show (f.deep.set at'.toNat on).getD k 0 ≤ D
      rw [List.getD_eq_getElem?_getD] at this ⊢
      rw [List.getElem?_set]
      split
      · rename_i he
        split
        · exact h1
        · rw [List.getElem?_eq_none (by omega)] at this
          exact this
      · exact this
    · split <;> exact this
theorem loop_most {c : CodeV} {n : Nat} {b : BlkV} {hi : Int} : ∀ (g : Nat) (f : Flow), MostI b.lo hi b.dp f.deep → MostI b.lo hi b.dp (loopF c n b hi g f).2.deep
  | 0, f, h => h
  | g + 1, f, h => by
    unfold loopF
    split
    · exact h
    · rename_i i rest e
      have h1 := oneF_ind (c := c) (n := n) (b := b) (hi := hi) (f := { f with opn := rest }) (j := i) (P := fun g => MostI b.lo hi b.dp g.deep) h (fun g at' on hg _ h9 => hg.come at' h9)
      split
      · exact loop_most g _ h1
      · exact h1
/-- A block that may be run. -/
structure FlowB (c : CodeV) (m : Nat) (b : BlkV) (deep : List Int) : Prop where
  start : deep.getD b.lo.toNat 0 = 0
  most : MostI b.lo (hiF c m) b.dp deep
  done : ∀ i : Nat, b.lo ≤ i → (i : Int) < hiF c m → 0 ≤ deep.getD i 0 → DoneI c m b (hiF c m) deep i
theorem FlowB.keep {c : CodeV} {m : Nat} {b : BlkV} {d e : List Int} (h : FlowB c m b d) (hlo : 0 ≤ b.lo) (hlt : b.lo < hiF c m) (hk : ∀ k : Nat, b.lo ≤ k → (k : Int) < hiF c m → e.getD k 0 = d.getD k 0) : FlowB c m b e :=
  ⟨by rw [hk _ (by omega) (by omega)]; exact h.start, fun k k1 k2 => by rw [hk k k1 k2]; exact h.most k k1 k2, fun i k1 k2 k3 => (h.done i k1 k2 (by rw [← hk i k1 k2]; exact k3)).keep2 hlo k1 k2 hk⟩
theorem block_done {c : CodeV} {m : Nat} {b : BlkV} {deep : List Int} (hb : BlkIn c m b) (hdp : 0 ≤ b.dp) (hlt : b.lo < hiF c m) (hf : FInv b.lo (hiF c m) c.ins.length ⟨deep, [], false⟩) (hd : ∀ i : Nat, b.lo ≤ i → (i : Int) < hiF c m → deep.getD i 0 < 0) (hres : (blockF c m b (hiF c m) ⟨deep, [], false⟩).1 < 0) :
    FlowB c m b (blockF c m b (hiF c m) ⟨deep, [], false⟩).2.deep := by
  unfold blockF at hres ⊢
  split
  · rename_i hq
    rw [if_pos hq] at hres
    have := hb.lo
    have h9 : b.lo < 0 := hres
    omega
  · rename_i hq
    rw [if_neg hq] at hres
    have hl : deep.length = c.ins.length := hf.len
    have hlo := hb.lo
    have hh := hb.hi
    have hf2 := hf.come b.lo (on := 0) (by omega) (by omega)
    have e0 : (comeF b.lo (hiF c m) ⟨deep, [], false⟩ b.lo 0).deep.getD b.lo.toNat 0 = 0 := (comeF_ok (nD := c.ins.length) hl hlo hh (by
      unfold comeF
      rw [if_neg (by omega), if_pos (hd _ (by omega) (by omega))])).2.2.2
    have hmu : muF (comeF b.lo (hiF c m) ⟨deep, [], false⟩ b.lo 0) < c.ins.length + 1 := by
      rw [muF_come hf hlo hh _ (by omega)]
      have := List.countP_le_length (p := fun x : Int => decide (x < 0)) (l := deep)
      unfold muF
      simp only [List.length_nil, Nat.add_zero]
      omega
    refine ⟨?_, loop_most _ _ (MostI.come (fun k k1 k2 => ?_) _ hdp), ?_⟩
    · rw [loop_keep _ _ (by rw [e0]; omega), e0]
    · have := hd k k1 k2
      show deep.getD k 0 ≤ b.dp
      omega
    · refine loop_done hlo hh hb.dp _ _ hf2 (fun hne => comeF_start rfl hne) hmu (hf.pos hlo hh _ (by omega) (by simp)) ?_ hres
      intro i i1 i2 i3
      exact .inl (OpenI.come (fun h0 => by
        have h9 : 0 ≤ deep.getD i 0 := h0
        have := hd i i1 i2
        omega) hlo _ _ i3)
theorem Twin.self (c : CodeV) (i : Nat) : Twin c c i := ⟨rfl, rfl, rfl, fun _ _ => rfl⟩
theorem lo_mono {c : CodeV} (hB : BlksIn c) (n : Nat) : ∀ k, n + k < c.blks.length → (c.blks.getD n default).lo ≤ (c.blks.getD (n + k) default).lo
  | 0, _ => Int.le_refl _
  | k + 1, h => by
    have h1 := lo_mono hB n k (by omega)
    have h2 := hB.next (n + k) (by omega)
    have : n + (k + 1) = n + k + 1 := by omega
    rw [this]
    omega
theorem hi_above {c : CodeV} {n : Nat} (hs : shapeF n c = true) {m : Nat} (hm : m < c.blks.length) : (c.blks.getD m default).lo < hiF c m := by
  have hB := shape_blks hs
  unfold hiF
  split
  · rename_i h
    exact hB.next m h
  · unfold shapeF at hs
    simp only [Bool.and_eq_true] at hs
    exact (risingF_at _ _ hs.2.2 _ hm).2
theorem runF_done {c : CodeV} {n0 : Nat} (hs : shapeF n0 c = true) (hdp : ∀ m, m < c.blks.length → 0 ≤ (c.blks.getD m default).dp) : ∀ (k n : Nat) (deep : List Int), k = c.blks.length - n → (∀ j, j < c.ins.length → -1 ≤ deep.getD j 0 ∧ deep.getD j 0 ≤ 100000) → deep.length = c.ins.length →
    (∀ i : Nat, n < c.blks.length → (c.blks.getD n default).lo ≤ i → i < c.ins.length → deep.getD i 0 < 0) → (runF c n (c.blks.drop n) deep).1 < 0 →
    ∀ m, n ≤ m → m < c.blks.length → FlowB c m (c.blks.getD m default) (runF c n (c.blks.drop n) deep).2 := by
  have hB := shape_blks hs
  intro k
  induction k with
  | zero =>
    intro n deep hk _ _ _ _ m _ _
    omega
  | succ k ih =>
    intro n deep hk hd hl hneg hres m hm1 hm2
    have hn : n < c.blks.length := by omega
    rw [List.drop_eq_getElem_cons hn] at hres ⊢
    have e : c.blks[n] = c.blks.getD n default := by simp [List.getD_eq_getElem?_getD, hn]
    rw [e] at hres ⊢
    have hf := flat_deep hl hd (c.blks.getD n default).lo (hiF c n)
    have hI := blockF_inv (c := c) (n := n) hf rfl rfl (hB.blk n hn).lo (hB.blk n hn).hi (hB.blk n hn).dp
    have hhi := (hB.blk n hn).hi
    have hlo := (hB.blk n hn).lo
    have hab := hi_above hs hn
    unfold runF at hres ⊢
    by_cases h0 : 0 ≤ (blockF c n (c.blks.getD n default) (hiF c n) ⟨deep, [], false⟩).1
    · rw [if_pos h0] at hres
      have h9 : (blockF c n (c.blks.getD n default) (hiF c n) ⟨deep, [], false⟩).1 < 0 := hres
      omega
    · rw [if_neg h0] at hres ⊢
      have hd1 : ∀ j, j < c.ins.length → -1 ≤ (blockF c n (c.blks.getD n default) (hiF c n) ⟨deep, [], false⟩).2.deep.getD j 0 ∧ (blockF c n (c.blks.getD n default) (hiF c n) ⟨deep, [], false⟩).2.deep.getD j 0 ≤ 100000 := fun j hj => hI.deep j (by rw [hI.len]; exact hj)
      by_cases hmn : m = n
      · rw [hmn]
        have h1 := block_done (hB.blk n hn) (hdp n hn) hab hf (fun i i1 i2 => hneg i hn i1 (by omega)) (by omega)
        refine h1.keep hlo hab (fun i i1 i2 => ?_)
        refine (runF_out (Twin.self c i) hB k (n + 1) _ (by omega) hd1 hI.len (fun q q1 q2 => ?_)).2 hres
        have := lo_mono hB (n + 1) (q - (n + 1)) (by omega)
        rw [show n + 1 + (q - (n + 1)) = q by omega] at this
        unfold hiF at i2
        rw [if_pos (by omega)] at i2
        omega
      · refine ih (n + 1) _ (by omega) hd1 hI.len (fun i q1 q2 q3 => ?_) hres m (by omega) hm2
        have ho : (i : Int) < (c.blks.getD n default).lo ∨ hiF c n ≤ i := by
          unfold hiF
          rw [if_pos q1]
          exact .inr q2
        rw [((Twin.self c i).block_out (hB.blk n hn) hf ho).2]
        have := hB.next n q1
        exact hneg i hn (by omega) q3
/-- What the law says of code that may be run. -/
theorem flows_said {n : Nat} {c : CodeV} (hok : (depthsF n c).e = 0) : ∀ m, m < c.blks.length → FlowB c m (c.blks.getD m default) (depthsF n c).deep := by
  have hs := depths_shape hok
  unfold depthsF at hok ⊢
  rw [if_neg (by rw [hs]; simp)] at hok ⊢
  by_cases hr : 0 ≤ (runF c 0 c.blks (List.replicate c.ins.length (-1))).1
  · rw [if_pos hr] at hok
    exact absurd (show (15 : Int) = 0 from hok) (by decide)
  · rw [if_neg hr]
    have hrep : ∀ j, j < c.ins.length → (List.replicate c.ins.length (-1 : Int)).getD j 0 = -1 := fun j hj => by
      rw [List.getD_eq_getElem?_getD, List.getElem?_replicate, if_pos hj]
      rfl
    have hck := CodeOk.of (n := n) (c := c) (by unfold shapeF at hs; simp only [Bool.and_eq_true] at hs; exact hs.1.1)
    intro m hm
    have := runF_done hs (fun q hq => (hck.blks (c.blks.getD q default) (by
      rw [List.getD_eq_getElem?_getD, List.getElem?_eq_getElem hq]
      exact List.getElem_mem hq)).2.2.2.2.2.2.1) _ 0 (List.replicate c.ins.length (-1)) rfl (fun j hj => by rw [hrep j hj]; omega) (by simp) (fun i _ _ hi => by rw [hrep i hi]; omega) (by rw [List.drop_zero]; omega) m (Nat.zero_le _) hm
    rw [List.drop_zero] at this
    exact this
end Go.Proofs.YtknbgbeepachgaaDoor
