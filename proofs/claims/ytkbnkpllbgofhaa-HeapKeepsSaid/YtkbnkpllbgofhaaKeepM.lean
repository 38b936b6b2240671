/-
  HeapKeeps in plain lists: what the heap holds behind so many rounds.
-/
import Derived.Test.YtkbnkpllbgofhaaHeapM
namespace Go.Proofs.Ytkbnkpllbgofhaa.HeapM

theorem set_append_new {L : List HObj} {o : HObj} {i : Nat} {x : Int} : setAt (L ++ [o]) (used L) i x = L ++ [(o.1, o.2.set i x)] := by
  induction L with
  | nil => rfl
  | cons a L ih =>
    simp only [List.cons_append, setAt, used]
    rw [if_neg (by omega), if_neg (by omega), show a.2.length + 1 + used L - 1 - a.2.length = used L by omega, ih]

section
variable (Z : List Int)
/-- How many words object t has. -/
def kAt (t : Nat) : Nat := (Z.getD t 0 % 30).toNat
/-- Object t, its first j words set. -/
def kPart (t j : Nat) : HObj := (1 + (t : Int) % 8, (List.range j).map (fun b : Nat => (t : Int) * 100 + (b : Int)) ++ List.replicate (kAt Z t - j) 0)
def kObjs (i : Nat) : List HObj := (List.range i).map (fun t => kPart Z t (kAt Z t))
def kPos (t : Nat) : Nat := used (kObjs Z t)

theorem kObjs_succ (i : Nat) : kObjs Z (i + 1) = kObjs Z i ++ [kPart Z i (kAt Z i)] := by
  unfold kObjs
  rw [List.range_succ, List.map_append]
  rfl
theorem kPart_length (t j : Nat) (h : j ≤ kAt Z t) : (kPart Z t j).2.length = kAt Z t := by
  simp [kPart]
  omega
theorem kPart_zero (t : Nat) : kPart Z t 0 = (1 + (t : Int) % 8, List.replicate (kAt Z t) 0) := by simp [kPart]
theorem kPart_set (t j : Nat) (h : j < kAt Z t) : ((kPart Z t j).1, (kPart Z t j).2.set j ((t : Int) * 100 + (j : Int))) = kPart Z t (j + 1) := by
  unfold kPart
  rw [List.set_append_right _ _ (by simp), List.length_map, List.length_range, Nat.sub_self, List.range_succ, List.map_append]
  rw [show kAt Z t - j = (kAt Z t - (j + 1)) + 1 by omega, List.replicate_succ, List.set_cons_zero]
  simp
theorem kPos_succ (t : Nat) : kPos Z (t + 1) = kPos Z t + (kAt Z t + 1) := by
  unfold kPos
  rw [kObjs_succ, used_append]
  simp [used, kPart_length]
theorem kAt_lt (t : Nat) : kAt Z t < 30 := by
  unfold kAt
  omega
theorem kPos_le (t : Nat) : kPos Z t ≤ 30 * t := by
  induction t with
  | zero => simp [kPos, kObjs, used]
  | succ t ih =>
    have := kAt_lt Z t
    rw [kPos_succ]
    omega
theorem kPos_mono {a b : Nat} (h : a < b) : kPos Z a < kPos Z b := by
  induction b with
  | zero => omega
  | succ b ih =>
    rw [kPos_succ]
    rcases Nat.lt_or_ge a b with h' | h'
    · have := ih h'
      omega
    · have : a = b := by omega
      subst this
      omega
theorem kObjs_at {t m : Nat} (h : t < m) : objAt (kObjs Z m) (kPos Z t) = some (kPart Z t (kAt Z t)) := by
  induction m with
  | zero => omega
  | succ m ih =>
    rw [kObjs_succ]
    rcases Nat.lt_or_ge t m with h' | h'
    · rw [at_append_left (kPos_mono Z h')]
      exact ih h'
    · have : t = m := by omega
      subst this
      exact at_append_new
theorem kPart_get (t b : Nat) (h : b < kAt Z t) : (kPart Z t (kAt Z t)).2.getD b 0 = (t : Int) * 100 + (b : Int) := by
  simp [kPart, List.getD_eq_getElem?_getD, h]
theorem kPart_rest (t j : Nat) (h : j < kAt Z t) : (kPart Z t j).2.getD j 0 = 0 := by
  unfold kPart
  rw [List.getD_eq_getElem?_getD, List.getElem?_append_right (by simp), List.length_map, List.length_range, Nat.sub_self, List.getElem?_replicate, if_pos (by omega)]
  rfl
/-- What is to be found at the end. -/
def kWant (i : Nat) (jj w : Int) (t b : Nat) : Int := if t = i ∧ (b : Int) = jj then w else (t : Int) * 100 + (b : Int)
def kFin (m i : Nat) (jj w : Int) (M : List HObj) : Prop :=
  ∀ t, t < m → ∃ o, objAt M (kPos Z t) = some o ∧ o.2.length = kAt Z t ∧ ∀ b, b < kAt Z t → o.2.getD b 0 = kWant i jj w t b
theorem kFin_none {m i : Nat} {w : Int} : kFin Z m i (-1) w (kObjs Z m) := by
  intro t ht
  refine ⟨_, kObjs_at Z ht, kPart_length Z _ _ (Nat.le_refl _), fun b hb => ?_⟩
  rw [kPart_get Z t b hb]
  unfold kWant
  rw [if_neg (by omega)]
theorem kFin_set {m i j : Nat} {w : Int} (hi : i < m) : kFin Z m i (j : Int) w (setAt (kObjs Z m) (kPos Z i) j w) := by
  intro t ht
  by_cases e : t = i
  · subst e
    refine ⟨_, at_set (kObjs_at Z ht), by simp [kPart_length], fun b hb => ?_⟩
    unfold kWant
    by_cases hb2 : b = j
    · subst hb2
      rw [if_pos ⟨rfl, rfl⟩]
      have := kPart_length Z t _ (Nat.le_refl _)
      simp [List.getD_eq_getElem?_getD, this, hb]
    · rw [if_neg (by omega)]
      rw [← kPart_get Z t b hb]
      simp only [List.getD_eq_getElem?_getD]
      rw [List.getElem?_set_ne (by omega)]
  · have hne : kPos Z t ≠ kPos Z i := by
      rcases Nat.lt_or_ge t i with h | h
      · have := kPos_mono Z h
        omega
      · have := kPos_mono Z (show i < t by omega)
        omega
    refine ⟨_, (at_set_other hne).trans (kObjs_at Z ht), kPart_length Z _ _ (Nat.le_refl _), fun b hb => ?_⟩
    rw [kPart_get Z t b hb]
    unfold kWant
    rw [if_neg (by omega)]
end
end Go.Proofs.Ytkbnkpllbgofhaa.HeapM
