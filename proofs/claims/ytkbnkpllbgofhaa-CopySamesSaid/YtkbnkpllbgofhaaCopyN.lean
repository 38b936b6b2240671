/-
  Copy: the new heap, by definition.
-/
import Derived.Test.YtkbnkpllbgofhaaCopyL
import Derived.Test.YtkbnkpllbgofhaaTwo
namespace Go.Proofs.Ytkbnkpllbgofhaa
open HeapM

def newL (L : List HObj) (R : List Int) : List HObj := R.map (fun r => (kindR L r, List.replicate (lenR L r) 0))
/-- A word, where it leads now. -/
def movedR (L : List HObj) (R : List Int) (x : Int) : Int := if 0 < leadR L x ∧ leadR L x ∈ R then tagW ((posOf (newL L R) (R.idxOf (leadR L x)) : Int) + 1) 1 else x
def outWords (L : List HObj) (R : List Int) (r : Int) : List Int := if scanned (kindR L r) = true then (wordsR L r).map (movedR L R) else wordsR L r
def collectL (L : List HObj) (R : List Int) : List HObj := R.map (fun r => (kindR L r, outWords L R r))
/-- The first i objects are whole, the next one has its first k words. -/
def fillL (L : List HObj) (R : List Int) (i k : Nat) : List HObj := R.mapIdx (fun t r => (kindR L r, if t < i then outWords L R r else if t = i then fillTo (outWords L R r) k else List.replicate (lenR L r) 0))
/-- The places, the first j of them. -/
def nowTo (L : List HObj) (R : List Int) (j : Nat) : List Int := fillTo (0 :: posTo (newL L R) R.length) (j + 1)

theorem sum_sub (f : Int → Nat) : ∀ (l m : List Int), l.Nodup → (∀ x, x ∈ l → x ∈ m) → (l.map f).sum ≤ (m.map f).sum
  | [], _, _, _ => Nat.zero_le _
  | x :: l, m, hn, hs => by
    obtain ⟨h1, h2⟩ := List.nodup_cons.1 hn
    have hx := hs x (List.mem_cons_self ..)
    have ih := sum_sub f l (m.erase x) h2 (fun y hy => (List.mem_erase_of_ne (fun (e : y = x) => h1 (by rw [← e]; exact hy))).2 (hs y (List.mem_cons_of_mem _ hy)))
    have hp := ((List.perm_cons_erase hx).map f).sum_nat
    rw [hp]
    simp only [List.map_cons, List.sum_cons]
    omega
theorem used_sum (L : List HObj) : HeapM.used L = (L.map (fun o => o.2.length + 1)).sum := by
  induction L with
  | nil => rfl
  | cons a L ih => simp only [HeapM.used, List.map_cons, List.sum_cons, ih]
theorem posOf_congr {A B : List HObj} (h : A.map (fun o => o.2.length + 1) = B.map (fun o => o.2.length + 1)) (i : Nat) : posOf A i = posOf B i := by
  unfold posOf
  rw [used_sum, used_sum, List.map_take, List.map_take, h]
theorem objs_sum (L : List HObj) : ((objsR L).map (fun r => lenR L r + 1)).sum = HeapM.used L := by
  rw [objsR_pos, List.map_map, ← posOf_len]
  have : ∀ j, j ≤ L.length → ((List.range j).map ((fun r => lenR L r + 1) ∘ fun i : Nat => (posOf L i : Int) + 1)).sum = posOf L j := by
    intro j
    induction j with
    | zero => intro _; simp [posOf, HeapM.used]
    | succ j ih =>
      intro hj
      have ho := List.getElem?_eq_getElem (show j < L.length by omega)
      rw [List.range_succ, List.map_append, List.sum_append, ih (by omega), posOf_next ho]
      have e : lenR L ((posOf L j : Int) + 1) = (L[j]'(by omega)).2.length := by
        unfold lenR
        rw [objR_pos ho]
        rfl
      simp [e]
  exact this _ (Nat.le_refl _)
theorem newL_used {L : List HObj} {R : List Int} (h : Met L R) : HeapM.used (newL L R) ≤ HeapM.used L := by
  have := sum_sub (fun r => lenR L r + 1) R (objsR L) h.nodup h.sub
  rw [objs_sum] at this
  rw [used_sum]
  unfold newL
  rw [List.map_map]
  have e : ((fun o : HObj => o.2.length + 1) ∘ fun r => (kindR L r, List.replicate (lenR L r) (0 : Int))) = fun r => lenR L r + 1 := by
    funext r
    simp
  rw [e]
  exact this
theorem newL_get {L : List HObj} {R : List Int} {j : Nat} (h : j < R.length) : (newL L R)[j]? = some (kindR L (R.getD j 0), List.replicate (lenR L (R.getD j 0)) 0) := by
  unfold newL
  rw [List.getElem?_map, List.getElem?_eq_getElem h]
  simp [List.getD_eq_getElem?_getD, h]
theorem newL_len (L : List HObj) (R : List Int) : (newL L R).length = R.length := by simp [newL]
theorem newL_take {L : List HObj} {R : List Int} {j : Nat} (h : j < R.length) : (newL L R).take (j + 1) = (newL L R).take j ++ [(kindR L (R.getD j 0), List.replicate (lenR L (R.getD j 0)) 0)] := by
  rw [List.take_succ_eq_append_getElem (by rw [newL_len]; exact h)]
  have := newL_get (L := L) h
  rw [List.getElem?_eq_getElem (by rw [newL_len]; exact h)] at this
  rw [Option.some.inj this]
theorem reach_kind {L : List HObj} (hk : Kinds L) {R : List Int} (h : Met L R) {r : Int} (hr : r ∈ R) : 1 ≤ kindR L r ∧ kindR L r ≤ 8 := by
  have := h.sub r hr
  rw [objsR_pos] at this
  simp only [List.mem_map, List.mem_range] at this
  obtain ⟨i, hi, rfl⟩ := this
  unfold kindR
  rw [objR_pos (List.getElem?_eq_getElem hi)]
  exact hk _ (List.getElem_mem hi)
theorem newL_fits {L : List HObj} {R : List Int} {j n : Nat} (hk : Kinds L) (h : Met L R) (hn : HeapM.used L ≤ n) (hj : j < R.length) : fits ((newL L R).take j) n (kindR L (R.getD j 0)) (lenR L (R.getD j 0)) := by
  have hm : R.getD j 0 ∈ R := by simp [List.getD_eq_getElem?_getD, hj]
  obtain ⟨h1, h2⟩ := reach_kind hk h hm
  have hu := newL_used h
  have hp := posOf_lt (newL_get (L := L) hj)
  simp only [List.length_replicate] at hp
  unfold posOf at hp
  exact ⟨h1, h2, by omega, by omega⟩
theorem outWords_len (L : List HObj) (R : List Int) (r : Int) : (outWords L R r).length = lenR L r := by
  unfold outWords
  split
  · rw [List.length_map, wordsR_len]
  · exact wordsR_len L r
theorem fillL_len (L : List HObj) (R : List Int) (i k : Nat) : (fillL L R i k).length = R.length := by simp [fillL]
theorem fillL_map {L : List HObj} {R : List Int} {i k : Nat} (hk : ∀ (h : i < R.length), k ≤ lenR L (R[i]'h)) : (fillL L R i k).map (fun o => o.2.length + 1) = (newL L R).map (fun o => o.2.length + 1) := by
  apply List.ext_getElem?
  intro t
  simp only [List.getElem?_map, fillL, newL, List.getElem?_mapIdx]
  rcases Nat.lt_or_ge t R.length with ht | ht
  · rw [List.getElem?_eq_getElem ht]
    simp only [Option.map_some, List.length_replicate]
    congr 2
    split
    · exact outWords_len _ _ _
    · split
      · rename_i e
        subst e
        rw [fillTo_len (by rw [outWords_len]; exact hk ht)]
        exact outWords_len _ _ _
      · simp
  · rw [List.getElem?_eq_none ht]
    rfl
theorem fillL_pos {L : List HObj} {R : List Int} {i k : Nat} (hk : ∀ (h : i < R.length), k ≤ lenR L (R[i]'h)) (t : Nat) : posOf (fillL L R i k) t = posOf (newL L R) t := posOf_congr (fillL_map hk) t
theorem fillL_start (L : List HObj) (R : List Int) : fillL L R 0 0 = newL L R := by
  apply List.ext_getElem?
  intro t
  simp only [fillL, newL, List.getElem?_mapIdx, List.getElem?_map]
  rcases Nat.lt_or_ge t R.length with ht | ht
  · rw [List.getElem?_eq_getElem ht]
    simp only [Option.map_some, Nat.not_lt_zero, if_false]
    split
    · rw [fillTo_zero, outWords_len]
    · rfl
  · rw [List.getElem?_eq_none ht]
    rfl
theorem fillL_next {L : List HObj} {R : List Int} {i : Nat} (_h : i < R.length) : fillL L R i (lenR L (R.getD i 0)) = fillL L R (i + 1) 0 := by
  apply List.ext_getElem?
  intro t
  simp only [fillL, List.getElem?_mapIdx]
  rcases Nat.lt_or_ge t R.length with ht | ht
  · rw [List.getElem?_eq_getElem ht]
    simp only [Option.map_some]
    congr 2
    by_cases h1 : t < i
    · rw [if_pos h1, if_pos (by omega)]
    · by_cases h2 : t = i
      · subst h2
        have e : R.getD t 0 = R[t] := by simp [List.getD_eq_getElem?_getD, ht]
        rw [if_neg (by omega), if_pos rfl, if_pos (by omega), e, ← outWords_len L R, fillTo_all]
      · rw [if_neg h1, if_neg h2, if_neg (by omega)]
        split
        · rw [fillTo_zero, outWords_len]
        · rfl
  · rw [List.getElem?_eq_none ht]
    rfl
theorem fillL_done (L : List HObj) (R : List Int) : fillL L R R.length 0 = collectL L R := by
  apply List.ext_getElem?
  intro t
  simp only [fillL, collectL, List.getElem?_mapIdx, List.getElem?_map]
  rcases Nat.lt_or_ge t R.length with ht | ht
  · rw [List.getElem?_eq_getElem ht]
    simp only [Option.map_some, if_pos ht]
  · rw [List.getElem?_eq_none ht]
    rfl
theorem fillL_get {L : List HObj} {R : List Int} {i k : Nat} (h : i < R.length) : (fillL L R i k)[i]? = some (kindR L (R.getD i 0), fillTo (outWords L R (R.getD i 0)) k) := by
  simp only [fillL, List.getElem?_mapIdx]
  rw [List.getElem?_eq_getElem h]
  simp [List.getD_eq_getElem?_getD, h]
theorem fillL_set {L : List HObj} {R : List Int} {i k : Nat} (h : i < R.length) (hk : k < lenR L (R.getD i 0)) :
    setAt (fillL L R i k) (posOf (newL L R) i) k ((outWords L R (R.getD i 0)).getD k 0) = fillL L R i (k + 1) ∧ objAt (fillL L R i k) (posOf (newL L R) i) = some (kindR L (R.getD i 0), fillTo (outWords L R (R.getD i 0)) k) := by
  have e : R.getD i 0 = R[i] := by simp [List.getD_eq_getElem?_getD, h]
  have hp : posOf (fillL L R i k) i = posOf (newL L R) i := fillL_pos (fun h' => by rw [← e]; omega) i
  have hg := fillL_get (L := L) (k := k) h
  rw [← hp]
  refine ⟨?_, at_pos hg⟩
  rw [set_at k _ hg]
  apply List.ext_getElem?
  intro t
  rw [List.getElem?_set]
  split
  · rename_i ht
    subst ht
    rw [fillL_len, if_pos h, fillL_get h]
    simp only
    rw [fillTo_step (by rw [outWords_len]; exact hk)]
  · rename_i ht
    simp only [fillL, List.getElem?_mapIdx]
    rcases Nat.lt_or_ge t R.length with ht2 | ht2
    · rw [List.getElem?_eq_getElem ht2]
      simp only [Option.map_some]
      have : ¬ t = i := by omega
      simp only [if_neg this]
    · rw [List.getElem?_eq_none ht2]
      rfl
theorem movedR_range {L : List HObj} {R : List Int} {x : Int} (_h : HeapM.used L ≤ 65536) (hm : Met L R) (hx : 0 ≤ x ∧ x < 18446744073709551616) : 0 ≤ movedR L R x ∧ movedR L R x < 18446744073709551616 := by
  unfold movedR
  split
  · rename_i hc
    have h1 := newL_used hm
    have h2 : posOf (newL L R) (R.idxOf (leadR L x)) ≤ HeapM.used (newL L R) := by
      have := posOf_lt (newL_get (L := L) (List.idxOf_lt_length_iff.2 hc.2))
      omega
    unfold tagW
    split <;> omega
  · exact hx
theorem outWords_range {L : List HObj} {R : List Int} (h : HeapM.used L ≤ 65536) (hw : Words L) (hm : Met L R) (r : Int) : ∀ x ∈ outWords L R r, 0 ≤ x ∧ x < 18446744073709551616 := by
  intro x hx
  unfold outWords at hx
  split at hx
  · simp only [List.mem_map] at hx
    obtain ⟨y, hy, rfl⟩ := hx
    exact movedR_range h hm (wordsR_range hw r y hy)
  · exact wordsR_range hw r x hx
theorem nowTo_start (L : List HObj) (R : List Int) : nowTo L R 0 = List.replicate (R.length + 1) 0 := by
  simp [nowTo, fillTo, posTo_len, List.replicate_succ]
theorem nowTo_len {L : List HObj} {R : List Int} {j : Nat} (h : j ≤ R.length) : (nowTo L R j).length = R.length + 1 := by
  unfold nowTo
  rw [fillTo_len (by simp [posTo_len]; omega)]
  simp [posTo_len]
theorem nowTo_step {L : List HObj} {R : List Int} {j : Nat} (h : j < R.length) : (nowTo L R j).set (j + 1) ((posOf (newL L R) j : Int) + 1) = nowTo L R (j + 1) := by
  have hl : j + 1 < (0 :: posTo (newL L R) R.length).length := by simp [posTo_len]; exact h
  have := fillTo_step hl
  have e : (0 :: posTo (newL L R) R.length).getD (j + 1) 0 = (posOf (newL L R) j : Int) + 1 := by
    simp [posTo, List.getD_eq_getElem?_getD, h]
  rw [e] at this
  exact this
/-- What now has in the end. -/
theorem nowTo_get {L : List HObj} {R : List Int} {j : Nat} (h : j < R.length) : (nowTo L R R.length).getD (j + 1) 0 = (posOf (newL L R) j : Int) + 1 := by
  have e : nowTo L R R.length = 0 :: posTo (newL L R) R.length := by
    unfold nowTo
    have := fillTo_all (0 :: posTo (newL L R) R.length)
    rwa [List.length_cons, posTo_len] at this
  rw [e]
  simp [posTo, List.getD_eq_getElem?_getD, h]
end Go.Proofs.Ytkbnkpllbgofhaa
