/-
  A list of objects that is filled word by word: plain lists and numbers.
-/
import Derived.Test.YtkbnkpllbgofhaaCopyN
namespace Go.Proofs.Ytkbnkpllbgofhaa
open HeapM

def zeroG (D : List HObj) : List HObj := D.map (fun o => (o.1, List.replicate o.2.length 0))
/-- The first i objects are whole, the next one has its first k words. -/
def fillG (D : List HObj) (i k : Nat) : List HObj := D.mapIdx (fun t o => (o.1, if t < i then o.2 else if t = i then fillTo o.2 k else List.replicate o.2.length 0))
theorem zeroG_len (D : List HObj) : (zeroG D).length = D.length := by simp [zeroG]
theorem zeroG_get {D : List HObj} {j : Nat} {o : HObj} (h : D[j]? = some o) : (zeroG D)[j]? = some (o.1, List.replicate o.2.length 0) := by
  unfold zeroG
  rw [List.getElem?_map, h]
  rfl
theorem zeroG_take {D : List HObj} {j : Nat} {o : HObj} (h : D[j]? = some o) : (zeroG D).take (j + 1) = (zeroG D).take j ++ [(o.1, List.replicate o.2.length 0)] := by
  have hj : j < D.length := (List.getElem?_eq_some_iff.1 h).1
  have hg := zeroG_get h
  rw [List.take_succ_eq_append_getElem (by rw [zeroG_len]; exact hj)]
  rw [List.getElem?_eq_getElem (by rw [zeroG_len]; exact hj)] at hg
  rw [Option.some.inj hg]
theorem zeroG_pos (D : List HObj) (t : Nat) : posOf (zeroG D) t = posOf D t := by
  apply posOf_congr
  unfold zeroG
  rw [List.map_map]
  apply List.map_congr_left
  intro o _
  simp
theorem zeroG_used (D : List HObj) : HeapM.used (zeroG D) = HeapM.used D := by
  have := zeroG_pos D D.length
  rwa [posOf_len, ← zeroG_len D, posOf_len] at this
theorem fillG_len (D : List HObj) (i k : Nat) : (fillG D i k).length = D.length := by simp [fillG]
theorem fillG_pos {D : List HObj} {i k : Nat} (hk : ∀ o, D[i]? = some o → k ≤ o.2.length) (t : Nat) : posOf (fillG D i k) t = posOf D t := by
  apply posOf_congr
  apply List.ext_getElem?
  intro t
  simp only [List.getElem?_map, fillG, List.getElem?_mapIdx]
  cases hD : D[t]? with
  | none => rfl
  | some o =>
    simp only [Option.map_some]
    congr 2
    split
    · rfl
    · split
      · rename_i e
        subst e
        exact fillTo_len (hk o hD)
      · simp
theorem fillG_start (D : List HObj) : fillG D 0 0 = zeroG D := by
  apply List.ext_getElem?
  intro t
  simp only [fillG, zeroG, List.getElem?_mapIdx, List.getElem?_map]
  cases D[t]? with
  | none => rfl
  | some o =>
    simp only [Option.map_some, Nat.not_lt_zero, if_false]
    split
    · rw [fillTo_zero]
    · rfl
theorem fillG_next {D : List HObj} {i : Nat} {o : HObj} (h : D[i]? = some o) : fillG D i o.2.length = fillG D (i + 1) 0 := by
  apply List.ext_getElem?
  intro t
  simp only [fillG, List.getElem?_mapIdx]
  cases hD : D[t]? with
  | none => rfl
  | some o' =>
    simp only [Option.map_some]
    congr 2
    by_cases h1 : t < i
    · rw [if_pos h1, if_pos (by omega)]
    · by_cases h2 : t = i
      · subst h2
        rw [h] at hD
        cases hD
        rw [if_neg (by omega), if_pos rfl, if_pos (by omega), fillTo_all]
      · rw [if_neg h1, if_neg h2, if_neg (by omega)]
        split
        · rw [fillTo_zero]
        · rfl
theorem fillG_done (D : List HObj) : fillG D D.length 0 = D := by
  apply List.ext_getElem?
  intro t
  simp only [fillG, List.getElem?_mapIdx]
  cases hD : D[t]? with
  | none => rfl
  | some o =>
    have := (List.getElem?_eq_some_iff.1 hD).1
    simp only [Option.map_some, if_pos this]
theorem fillG_get {D : List HObj} {i k : Nat} {o : HObj} (h : D[i]? = some o) : (fillG D i k)[i]? = some (o.1, fillTo o.2 k) := by
  simp only [fillG, List.getElem?_mapIdx, h, Option.map_some, Nat.lt_irrefl, if_false, if_true]
theorem fillG_set {D : List HObj} {i k : Nat} {o : HObj} (h : D[i]? = some o) (hk : k < o.2.length) :
    setAt (fillG D i k) (posOf D i) k (o.2.getD k 0) = fillG D i (k + 1) ∧ objAt (fillG D i k) (posOf D i) = some (o.1, fillTo o.2 k) := by
  have hp : posOf (fillG D i k) i = posOf D i := fillG_pos (fun o' h' => by rw [h] at h'; cases h'; omega) i
  have hg := fillG_get (k := k) h
  rw [← hp]
  refine ⟨?_, at_pos hg⟩
  rw [set_at k _ hg]
  apply List.ext_getElem?
  intro t
  rw [List.getElem?_set]
  split
  · rename_i ht
    subst ht
    rw [fillG_len, if_pos (List.getElem?_eq_some_iff.1 h).1, fillG_get h]
    simp only
    rw [fillTo_step hk]
  · rename_i ht
    simp only [fillG, List.getElem?_mapIdx]
    cases D[t]? with
    | none => rfl
    | some o' =>
      have : ¬ t = i := by omega
      simp only [Option.map_some, if_neg this]
theorem zeroG_fits {D : List HObj} {j n : Nat} {o : HObj} (hk : Kinds D) (hn : HeapM.used D ≤ n) (h : D[j]? = some o) : fits ((zeroG D).take j) n o.1 o.2.length := by
  have hm : o ∈ D := List.mem_of_getElem? h
  obtain ⟨h1, h2⟩ := hk o hm
  have hp := posOf_lt (zeroG_get h)
  rw [zeroG_used] at hp
  simp only [List.length_replicate] at hp
  unfold posOf at hp
  exact ⟨h1, h2, by omega, by omega⟩
end Go.Proofs.Ytkbnkpllbgofhaa
