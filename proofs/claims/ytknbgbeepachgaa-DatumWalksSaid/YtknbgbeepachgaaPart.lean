/-
  A region's first operations held by what each of them leaves, the rest walked order by order.
-/
import Derived.Test.YtknbgbeepachgaaInv
namespace Go.Proofs.Ytknbgbeepachgaa
open Go.RowKit

section
variable {P : Program} {ops : Array Oper} {Q : Exit → Act → World → Prop}

/-- The operations from m on wait for all before. -/
def partAt (ops : Array Oper) (L : Array Bool) (m f : Nat) : Bool :=
  decide (m ≤ ops.size) && (L.size == ops.size) && (List.range ops.size).all (fun i => (L.getD i false == decide (i < m)) && (depsOf ops i).all (fun j => decide (j < i)) && (decide (i < m) || (List.range m).all (fun j => (needsOf ops f i).contains j)))
theorem count_set {listed : Array Bool} {i k : Nat} (hk : k = listed.size) (hi : i < k) (h : listed.getD i false = false) :
    (List.range k).countP (fun j => !(listed.setIfInBounds i true).getD j false) + 1 = (List.range k).countP (fun j => !listed.getD j false) := by
  have hgen : ∀ l : List Nat, l.Nodup → l.countP (fun j => !(listed.setIfInBounds i true).getD j false) + (if i ∈ l then 1 else 0) = l.countP (fun j => !listed.getD j false) := by
    intro l
    induction l with
    | nil => intro _; rfl
    | cons x l ih =>
      intro hn
      obtain ⟨hx, hn⟩ := List.nodup_cons.1 hn
      have h1 := ih hn
      rw [List.countP_cons, List.countP_cons]
      by_cases e : x = i
      · subst e
        rw [if_neg hx] at h1
        rw [getD_set (by omega), h, if_neg (by simp), if_pos (by simp), if_pos (by simp)]
        omega
      · have e' : ¬ i = x := fun x => e x.symm
        have e2 : (listed.setIfInBounds i true).getD x false = listed.getD x false := by
          rw [getD_set (by omega)]
          simp [e]
        have e3 : (if i ∈ x :: l then 1 else 0) = if i ∈ l then 1 else 0 := by simp [e']
        rw [e2, e3]
        generalize (if i ∈ l then 1 else 0) = c at *
        omega
  have := hgen (List.range k) List.nodup_range
  rw [if_pos (List.mem_range.2 hi)] at this
  exact this
theorem wpAny_part_go {I : (Nat → Bool) → Act → World → Prop} {L : Array Bool} {m f : Nat} (hc : partAt ops L m f = true) (hsteps : StepsOk P ops Q I (List.range m)) (hrest : ∀ d a w, I d a w → (∀ j, j < m → d j = true) → wpAny P .any ops Q (ops.size - m) L a w) :
    ∀ (fuel : Nat) (listed : Array Bool) (a : Act) (w : World), listed.size = ops.size → (List.range ops.size).countP (fun j => !listed.getD j false) = fuel → Shut ops listed → (∀ j, m ≤ j → listed.getD j false = false) → I (fun j => listed.getD j false) a w → wpAny P .any ops Q fuel listed a w := by
  unfold partAt at hc
  simp only [Bool.and_eq_true, decide_eq_true_eq, List.all_eq_true, List.mem_range, Bool.or_eq_true, List.contains_iff_mem, beq_iff_eq] at hc
  obtain ⟨⟨hm, hLs⟩, hall0⟩ := hc
  intro fuel
  induction fuel with
  | zero =>
    intro listed a w hl hcnt hsh hA hI
    have hall : ∀ j, j < ops.size → listed.getD j false = true := by
      intro j hj
      rw [List.countP_eq_zero] at hcnt
      have := hcnt j (List.mem_range.2 hj)
      simpa using this
    have hms : m = ops.size := by
      rcases Nat.lt_or_ge m ops.size with h | h
      · have := hall m h
        rw [hA m (Nat.le_refl _)] at this
        cases this
      · omega
    have hr := hrest _ a w hI (fun j hj => hall j (by omega))
    rw [show ops.size - m = 0 by omega] at hr
    have hLe : L = listed := by
      apply Array.ext (by omega)
      intro i h1 h2
      have h3 := (hall0 i (by omega)).1.1
      have h4 := hall i (by omega)
      simp only [Array.getD, h1, h2, dite_true] at h3 h4
      have h5 : decide (i < m) = true := by simp; omega
      rw [h5] at h3
      exact h3.trans h4.symm
    rw [← hLe]
    exact hr
  | succ fuel ih =>
    intro listed a w hl hcnt hsh hA hI
    by_cases hall : ∀ j, j < m → listed.getD j false = true
    · have hLe : L = listed := by
        apply Array.ext (by omega)
        intro i h1 h2
        have h3 := (hall0 i (by omega)).1.1
        simp only [Array.getD, h1, dite_true] at h3
        by_cases him : i < m
        · have h4 := hall i him
          simp only [Array.getD, h2, dite_true] at h4
          have h5 : decide (i < m) = true := by simpa using him
          rw [h5] at h3
          exact h3.trans h4.symm
        · have h4 := hA i (by omega)
          simp only [Array.getD, h2, dite_true] at h4
          have h5 : decide (i < m) = false := by simpa using him
          rw [h5] at h3
          exact h3.trans h4.symm
      have hr := hrest _ a w hI hall
      have hfu : ops.size - m = fuel + 1 := by
        have h1 : (List.range' m (ops.size - m)).countP (fun j => !listed.getD j false) = ops.size - m := by
          have h2 : (List.range' m (ops.size - m)).countP (fun j => !listed.getD j false) = (List.range' m (ops.size - m)).length := by
            rw [List.countP_eq_length]
            intro j hj
            obtain ⟨h3, h4⟩ := List.mem_range'_1.1 hj
            rw [hA j h3]
            rfl
          rw [h2, List.length_range']
        have h2 : (List.range' 0 m).countP (fun j => !listed.getD j false) = 0 := by
          rw [List.countP_eq_zero]
          intro j hj
          obtain ⟨h3, h4⟩ := List.mem_range'_1.1 hj
          rw [hall j (by omega)]
          simp
        have h3 : (List.range ops.size).countP (fun j => !listed.getD j false) = (List.range' 0 m).countP (fun j => !listed.getD j false) + (List.range' m (ops.size - m)).countP (fun j => !listed.getD j false) := by
          rw [List.range_eq_range', show ops.size = m + (ops.size - m) by omega, ← List.range'_append_1, List.countP_append, show m + (ops.size - m) - m = ops.size - m by omega, Nat.zero_add]
        omega
      rw [hfu, hLe] at hr
      exact hr
    · have hne : ∀ i ∈ Region.ready .any ops listed, i < m := by
        intro i hi
        obtain ⟨h1, h2, h3⟩ := mem_ready hi
        rcases Nat.lt_or_ge i m with h | h
        · exact h
        · exfalso
          have hn := ((hall0 i h1).2).resolve_left (by omega)
          exact hall fun j hj => hsh.needs f i h3 j (hn j hj)
      refine ⟨fun h0 => ?_, fun i hi => ?_⟩
      · exfalso
        refine hall fun j hj => ?_
        suffices hj' : ∀ k j, j < k → j < m → listed.getD j false = true from hj' (j + 1) j (by omega) hj
        intro k
        induction k with
        | zero => intro j hj; omega
        | succ k ihk =>
          intro j hjk hjm
          by_cases hlt : j < k
          · exact ihk j hlt hjm
          · cases hx : listed.getD j false with
            | true => rfl
            | false =>
              have : j ∈ Region.ready .any ops listed := ready_mem (by omega) (by rw [getD_flip (by omega)]; exact hx) (fun i hi => by
                have := (hall0 j (by omega)).1.2 i hi
                exact ihk i (by omega) (by omega))
              rw [h0] at this
              cases this
      · have him := hne i hi
        obtain ⟨h1, h2, h3⟩ := mem_ready hi
        rw [getD_flip (by omega)] at h2
        refine wpOp_step (Array.getElem?_eq_getElem h1) (fun K' hK' => hsteps i (List.mem_range.2 him) _ (Array.getElem?_eq_getElem h1) _ a w hI h2 h3 K' (fun a' w' hI' => hK' a' w' ?_))
        refine ih _ a' w' (by simpa using hl) ?_ (hsh.set (by omega) h3) (fun j hj => ?_) ?_
        · have := count_set (listed := listed) (i := i) (k := ops.size) (by omega) h1 h2
          omega
        · rw [getD_set (by omega), hA j hj]
          have : ¬ j = i := by omega
          simp [this]
        · have e : (fun j => (listed.setIfInBounds i true).getD j false) = (fun j => j == i || listed.getD j false) := by
            funext j
            exact getD_set (by omega)
          rw [e]
          exact hI'
/-- The first m operations by what they leave; the rest order by order. -/
theorem wpAny_part {a : Act} {w : World} (L : Array Bool) (m f : Nat) (I : (Nat → Bool) → Act → World → Prop) (hc : partAt ops L m f = true) (h0 : I (fun _ => false) a w)
    (hsteps : StepsOk P ops Q I (List.range m)) (hrest : ∀ d a w, I d a w → (∀ j, j < m → d j = true) → wpAny P .any ops Q (ops.size - m) L a w) : wpAny P .any ops Q ops.size (Array.replicate ops.size false) a w := by
  refine wpAny_part_go hc hsteps hrest ops.size _ a _ (by simp) ?_ (fun i hi => ?_) (fun j _ => getD_none _ _) ?_
  · have h2 : (List.range ops.size).countP (fun j => !(Array.replicate ops.size false).getD j false) = (List.range ops.size).length := by
      rw [List.countP_eq_length]
      intro j _
      rw [getD_none]
      rfl
    rw [h2, List.length_range]
  · rw [getD_none] at hi
    cases hi
  · have e : (fun j => (Array.replicate ops.size false).getD j false) = fun _ => false := by
      funext j
      exact getD_none _ _
    rw [e]
    exact h0
end
/-- What holds of a value lasts. -/
def Lasts (r : World → Value → Prop) : Prop := ∀ W W' v, Upd [] W W' → r W v → r W' v
def isVal (c : Value) : World → Value → Prop := fun _ v => v = c
def isOne (lo : Nat) (cs : List Value) (t : TypeId) : World → Value → Prop := fun W v => ∃ g, v = .slice (some ⟨g, 0, none⟩) 1 1 ∧ lo ≤ g ∧ Blk W g cs t
theorem isVal_lasts (c : Value) : Lasts (isVal c) := fun _ _ _ _ h => h
theorem isOne_lasts (lo : Nat) (cs : List Value) (t : TypeId) : Lasts (isOne lo cs t) := fun _ _ _ hu ⟨g, e, h1, h2⟩ => ⟨g, e, h1, hu.blk h2 (by simp)⟩
structure PInv (Ws : World) (Rs : List (World → Value → Prop)) (d : Nat → Bool) (W : World) (l : List Value) : Prop where
  upd : Upd [] Ws W
  res : ∀ j r, Rs[j]? = some r → d j = true → r W (l.getD j undef)
theorem PInv.new {Ws : World} {Rs : List (World → Value → Prop)} {l : List Value} : PInv Ws Rs (fun _ => false) Ws.drew l := ⟨(Upd.refl [] Ws).drew, fun _ _ _ h => by cases h⟩
theorem PInv.put {Ws W W' : World} {Rs : List (World → Value → Prop)} {d : Nat → Bool} {l : List Value} (h : PInv Ws Rs d W l) (hl : ∀ r ∈ Rs, Lasts r) (i : Nat) {r : World → Value → Prop} (hr : Rs[i]? = some r) (hi : i < l.length) (hu : Upd [] W W') {v : Value} (hv : r W' v) : PInv Ws Rs (fun j => j == i || d j) W' (l.set i v) := by
  refine ⟨h.upd.then hu, fun j r' hj hd => ?_⟩
  by_cases e : j = i
  · subst e
    rw [hr] at hj
    injection hj with hj
    subst hj
    simpa [List.getD_eq_getElem?_getD, hi] using hv
  · have hd' : d j = true := by simpa [e] using hd
    have h2 := hl r' (List.mem_of_getElem? hj) _ _ _ hu (h.res j r' hj hd')
    rw [List.getD_eq_getElem?_getD, List.getElem?_set_ne (fun x => e x.symm), ← List.getD_eq_getElem?_getD]
    exact h2
end Go.Proofs.Ytknbgbeepachgaa
