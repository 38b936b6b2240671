/-
  A heap as the list of its objects: a kind and words each. Plain lists and numbers.
-/
import Derived.Below
namespace Go.Proofs.Ytkbnkpllbgofhaa.HeapM

abbrev HObj := Int × List Int
/-- How many words these objects take. -/
def used : List HObj → Nat
  | [] => 0
  | o :: L => o.2.length + 1 + used L
/-- The words as they lie, and the kinds. -/
def wordsOf : List HObj → List Int
  | [] => []
  | o :: L => (o.2.length : Int) :: (o.2 ++ wordsOf L)
def kindsOf : List HObj → List Int
  | [] => []
  | o :: L => o.1 :: (List.replicate o.2.length 0 ++ kindsOf L)
/-- The object that begins at word q. -/
def objAt : List HObj → Nat → Option HObj
  | [], _ => none
  | o :: L, q => if q = 0 then some o else if q ≤ o.2.length then none else objAt L (q - 1 - o.2.length)
/-- Word i of the object at q is another one. -/
def setAt : List HObj → Nat → Nat → Int → List HObj
  | [], _, _, _ => []
  | o :: L, q, i, x => if q = 0 then (o.1, o.2.set i x) :: L else if q ≤ o.2.length then o :: L else o :: setAt L (q - 1 - o.2.length) i x
/-- Where objects begin, from word q on. -/
def starts : List HObj → Nat → List Nat
  | [], _ => []
  | o :: L, q => q :: starts L (q + 1 + o.2.length)
def Kinds (L : List HObj) : Prop := ∀ o ∈ L, 1 ≤ o.1 ∧ o.1 ≤ 8
def Words (L : List HObj) : Prop := ∀ o ∈ L, ∀ x ∈ o.2, 0 ≤ x ∧ x < 18446744073709551616

theorem length_words (L : List HObj) : (wordsOf L).length = used L := by
  induction L with
  | nil => rfl
  | cons o L ih => simp [wordsOf, used, ih]; omega
theorem length_kinds (L : List HObj) : (kindsOf L).length = used L := by
  induction L with
  | nil => rfl
  | cons o L ih => simp [kindsOf, used, ih]; omega
theorem used_append (L M : List HObj) : used (L ++ M) = used L + used M := by
  induction L with
  | nil => simp [used]
  | cons o L ih => simp [used, ih]; omega
theorem words_append (L M : List HObj) : wordsOf (L ++ M) = wordsOf L ++ wordsOf M := by
  induction L with
  | nil => rfl
  | cons o L ih => simp [wordsOf, ih]
theorem kinds_append (L M : List HObj) : kindsOf (L ++ M) = kindsOf L ++ kindsOf M := by
  induction L with
  | nil => rfl
  | cons o L ih => simp [kindsOf, ih]

theorem at_mem {L : List HObj} : ∀ {q : Nat} {o : HObj}, objAt L q = some o → o ∈ L := by
  induction L with
  | nil => intro q o h; cases h
  | cons a L ih =>
    intro q o h
    unfold objAt at h
    split at h
    · cases h; simp
    · split at h
      · cases h
      · exact List.mem_cons_of_mem _ (ih h)
/-- Where an object begins: its kind, how many words, and these. -/
theorem at_some {L : List HObj} : ∀ {q : Nat} {o : HObj}, objAt L q = some o → q + 1 + o.2.length ≤ used L ∧ (kindsOf L).getD q 0 = o.1 ∧ (wordsOf L).getD q 0 = (o.2.length : Int) ∧ ∀ i, i < o.2.length → (wordsOf L)[q + 1 + i]? = o.2[i]? := by
  induction L with
  | nil => intro q o h; cases h
  | cons a L ih =>
    intro q o h
    unfold objAt at h
    split at h
    · cases h
      subst q
      refine ⟨by simp [used]; omega, rfl, rfl, fun i hi => ?_⟩
      simp only [wordsOf]
      rw [show 0 + 1 + i = i + 1 by omega, List.getElem?_cons_succ, List.getElem?_append_left hi]
    · split at h
      · cases h
      · rename_i h0 h1
        obtain ⟨g1, g2, g3, g4⟩ := ih h
        obtain ⟨m, rfl⟩ : ∃ m, q = m + 1 + a.2.length := ⟨q - 1 - a.2.length, by omega⟩
        have e : m + 1 + a.2.length - 1 - a.2.length = m := by omega
        rw [e] at g1 g2 g3 g4
        refine ⟨by simp only [used]; omega, ?_, ?_, fun i hi => ?_⟩
        · simp only [kindsOf, List.getD_eq_getElem?_getD] at g2 ⊢
          rw [show m + 1 + a.2.length = (m + a.2.length) + 1 by omega, List.getElem?_cons_succ, List.getElem?_append_right (by simp)]
          simpa using g2
        · simp only [wordsOf, List.getD_eq_getElem?_getD] at g3 ⊢
          rw [show m + 1 + a.2.length = (m + a.2.length) + 1 by omega, List.getElem?_cons_succ, List.getElem?_append_right (by omega)]
          simpa using g3
        · simp only [wordsOf]
          rw [show m + 1 + a.2.length + 1 + i = (m + 1 + i + a.2.length) + 1 by omega, List.getElem?_cons_succ, List.getElem?_append_right (by omega), show m + 1 + i + a.2.length - a.2.length = m + 1 + i by omega]
          exact g4 i hi
theorem at_none {L : List HObj} : ∀ {q : Nat}, objAt L q = none → (kindsOf L).getD q 0 = 0 := by
  induction L with
  | nil => intro q h; rfl
  | cons a L ih =>
    intro q h
    unfold objAt at h
    split at h
    · cases h
    · rename_i h0
      obtain ⟨m, rfl⟩ : ∃ m, q = m + 1 := ⟨q - 1, by omega⟩
      simp only [kindsOf, List.getD_eq_getElem?_getD, List.getElem?_cons_succ]
      split at h
      · rw [List.getElem?_append_left (by simp; omega), List.getElem?_replicate, if_pos (by omega)]
        rfl
      · rw [List.getElem?_append_right (by simp; omega)]
        have := ih h
        simp only [List.getD_eq_getElem?_getD] at this
        simpa [show m + 1 - 1 - a.2.length = m - a.2.length by omega] using this
theorem at_beyond {L : List HObj} {q : Nat} (h : used L ≤ q) : objAt L q = none := by
  cases e : objAt L q with
  | none => rfl
  | some o => have := (at_some e).1; omega
theorem set_used (L : List HObj) : ∀ (q i : Nat) (x : Int), used (setAt L q i x) = used L := by
  induction L with
  | nil => intros; rfl
  | cons a L ih =>
    intro q i x
    unfold setAt
    split
    · simp [used]
    · split
      · rfl
      · simp [used, ih]
theorem set_kinds (L : List HObj) : ∀ (q i : Nat) (x : Int), kindsOf (setAt L q i x) = kindsOf L := by
  induction L with
  | nil => intros; rfl
  | cons a L ih =>
    intro q i x
    unfold setAt
    split
    · simp [kindsOf]
    · split
      · rfl
      · simp [kindsOf, ih]
theorem set_words {L : List HObj} : ∀ {q : Nat} {o : HObj} (i : Nat) (x : Int), objAt L q = some o → i < o.2.length → wordsOf (setAt L q i x) = (wordsOf L).set (q + 1 + i) x := by
  induction L with
  | nil => intro q o i x h; cases h
  | cons a L ih =>
    intro q o i x h hi
    unfold objAt at h
    unfold setAt
    split at h
    · rename_i h0
      cases h
      subst q
      rw [if_pos rfl]
      simp only [wordsOf, List.length_set]
      rw [show 0 + 1 + i = i + 1 by omega, List.set_cons_succ, List.set_append_left _ _ hi]
    · split at h
      · cases h
      · rename_i h0 h1
        rw [if_neg h0, if_neg h1]
        simp only [wordsOf]
        rw [ih i x h hi]
        rw [show q + 1 + i = (q + i) + 1 by omega, List.set_cons_succ, List.set_append_right _ _ (by omega), show q + i - a.2.length = q - 1 - a.2.length + 1 + i by omega]
theorem set_mem {L : List HObj} : ∀ {q i : Nat} {x : Int} {o : HObj}, o ∈ setAt L q i x → ∃ o' ∈ L, o.1 = o'.1 ∧ ∀ y ∈ o.2, y ∈ o'.2 ∨ y = x := by
  induction L with
  | nil => intro q i x o h; cases h
  | cons a L ih =>
    intro q i x o h
    unfold setAt at h
    split at h
    · rcases List.mem_cons.1 h with rfl | h
      · refine ⟨a, by simp, rfl, fun y hy => ?_⟩
        have := List.mem_or_eq_of_mem_set hy
        exact this
      · exact ⟨o, by simp [h], rfl, fun y hy => .inl hy⟩
    · split at h
      · exact ⟨o, h, rfl, fun y hy => .inl hy⟩
      · rcases List.mem_cons.1 h with rfl | h
        · exact ⟨o, by simp, rfl, fun y hy => .inl hy⟩
        · obtain ⟨o', h1, h2, h3⟩ := ih h
          exact ⟨o', by simp [h1], h2, h3⟩
theorem Kinds.set {L : List HObj} (h : Kinds L) (q i : Nat) (x : Int) : Kinds (setAt L q i x) := by
  intro o ho
  obtain ⟨o', h1, h2, _⟩ := set_mem ho
  rw [h2]
  exact h o' h1
theorem Words.set {L : List HObj} (h : Words L) (q i : Nat) {x : Int} (hx : 0 ≤ x ∧ x < 18446744073709551616) : Words (setAt L q i x) := by
  intro o ho y hy
  obtain ⟨o', h1, _, h3⟩ := set_mem ho
  rcases h3 y hy with h4 | rfl
  · exact h o' h1 y h4
  · exact hx
theorem at_append_left {L M : List HObj} {q : Nat} (h : q < used L) : objAt (L ++ M) q = objAt L q := by
  induction L generalizing q with
  | nil => simp [used] at h
  | cons a L ih =>
    simp only [List.cons_append, objAt]
    split
    · rfl
    · split
      · rfl
      · exact ih (by simp only [used] at h; omega)
theorem at_append_new {L : List HObj} {o : HObj} : objAt (L ++ [o]) (used L) = some o := by
  induction L with
  | nil => rfl
  | cons a L ih =>
    simp only [List.cons_append, objAt, used]
    rw [if_neg (by omega), if_neg (by omega), show a.2.length + 1 + used L - 1 - a.2.length = used L by omega]
    exact ih
theorem at_set {L : List HObj} : ∀ {q i : Nat} {x : Int} {o : HObj}, objAt L q = some o → objAt (setAt L q i x) q = some (o.1, o.2.set i x) := by
  induction L with
  | nil => intro q i x o h; cases h
  | cons a L ih =>
    intro q i x o h
    unfold objAt at h
    unfold setAt
    split at h
    · rename_i h0
      cases h
      rw [if_pos h0, objAt, if_pos h0]
    · split at h
      · cases h
      · rename_i h0 h1
        rw [if_neg h0, if_neg h1, objAt, if_neg h0, if_neg h1]
        exact ih h
theorem at_set_other {L : List HObj} : ∀ {q i r : Nat} {x : Int}, r ≠ q → objAt (setAt L q i x) r = objAt L r := by
  induction L with
  | nil => intros; rfl
  | cons a L ih =>
    intro q i r x h
    unfold setAt
    split
    · rename_i h0
      subst q
      simp only [objAt, List.length_set, if_neg h]
    · split
      · rfl
      · rename_i h0 h1
        simp only [objAt]
        split
        · rfl
        · split
          · rfl
          · exact ih (by omega)

/-- Where objects begin, among the first i words: places, from 1 on. -/
def upto (ks : List Int) (i : Nat) : List Int := ((List.range i).filter (fun j => ks.getD j 0 != 0)).map (fun j : Nat => (j : Int) + 1)
theorem upto_step_no {ks : List Int} {i : Nat} (h : ks.getD i 0 = 0) : upto ks (i + 1) = upto ks i := by
  have h' : (ks.getD i 0 != 0) = false := by simpa using h
  unfold upto
  rw [List.range_succ, List.filter_append]
  simp [-List.getD_eq_getElem?_getD, h']
theorem upto_step_yes {ks : List Int} {i : Nat} (h : ks.getD i 0 ≠ 0) : upto ks (i + 1) = upto ks i ++ [(i : Int) + 1] := by
  have h' : (ks.getD i 0 != 0) = true := by simpa using h
  unfold upto
  rw [List.range_succ, List.filter_append]
  simp [-List.getD_eq_getElem?_getD, h']
theorem upto_length (ks : List Int) (i : Nat) : (upto ks i).length ≤ i := by
  unfold upto
  rw [List.length_map]
  exact Nat.le_trans (List.length_filter_le _ _) (by simp)
theorem starts_filter {L : List HObj} : ∀ q, Kinds L → (List.range' q (used L)).filter (fun j => (kindsOf L).getD (j - q) 0 != 0) = starts L q := by
  induction L with
  | nil => intro q _; rfl
  | cons o L ih =>
    intro q hk
    have ho := hk o (by simp)
    have ih' := ih (q + 1 + o.2.length) (fun x hx => hk x (by simp [hx]))
    have e : used (o :: L) = 1 + (o.2.length + used L) := by simp only [used]; omega
    rw [e, ← List.range'_append_1, ← List.range'_append_1, List.filter_append, List.filter_append]
    have e1 : (List.range' q 1).filter (fun j => (kindsOf (o :: L)).getD (j - q) 0 != 0) = [q] := by
      have h1 : ((kindsOf (o :: L)).getD (q - q) 0 != 0) = true := by
        simp [kindsOf]
        omega
      show List.filter (fun j => (kindsOf (o :: L)).getD (j - q) 0 != 0) [q] = [q]
      simp only [List.filter_cons, h1, if_true, List.filter_nil]
    have e2 : (List.range' (q + 1) o.2.length).filter (fun j => (kindsOf (o :: L)).getD (j - q) 0 != 0) = [] := by
      rw [List.filter_eq_nil_iff]
      intro j hj
      have hj' := List.mem_range'_1.1 hj
      obtain ⟨m, rfl⟩ : ∃ m, j = q + 1 + m := ⟨j - q - 1, by omega⟩
      simp only [kindsOf, List.getD_eq_getElem?_getD]
      rw [show q + 1 + m - q = m + 1 by omega, List.getElem?_cons_succ, List.getElem?_append_left (by simp; omega), List.getElem?_replicate, if_pos (by omega)]
      simp
    have e3 : (List.range' (q + 1 + o.2.length) (used L)).filter (fun j => (kindsOf (o :: L)).getD (j - q) 0 != 0) = starts L (q + 1 + o.2.length) := by
      rw [← ih']
      apply List.filter_congr
      intro j hj
      have hj' := List.mem_range'_1.1 hj
      obtain ⟨m, rfl⟩ : ∃ m, j = q + 1 + o.2.length + m := ⟨j - q - 1 - o.2.length, by omega⟩
      simp only [kindsOf, List.getD_eq_getElem?_getD]
      rw [show q + 1 + o.2.length + m - q = (o.2.length + m) + 1 by omega, List.getElem?_cons_succ, List.getElem?_append_right (by simp), List.length_replicate, show o.2.length + m - o.2.length = m by omega, show q + 1 + o.2.length + m - (q + 1 + o.2.length) = m by omega]
    rw [e1, e2, e3]
    rfl
/-- Where objects begin: places, from 1 on. -/
def objsR (L : List HObj) : List Int := (starts L 0).map (fun q : Nat => (q : Int) + 1)
theorem upto_all {L : List HObj} (h : Kinds L) : upto (kindsOf L) (used L) = objsR L := by
  unfold upto objsR
  rw [← starts_filter 0 h, List.range_eq_range']
  rfl

end Go.Proofs.Ytkbnkpllbgofhaa.HeapM
