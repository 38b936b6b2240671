/-
  Copy: what is reached, by definition.
-/
import Derived.Test.YtkbnkpllbgofhaaRefH
import Derived.Test.YtkbnkpllbgofhaaHeapB
namespace Go.Proofs.Ytkbnkpllbgofhaa
open HeapM

/-- The place that a word leads to; 0: none. -/
def leadR (L : List HObj) (x : Int) : Int := if isKind x = 1 ∧ kindR L (isNum x) ≠ 0 then isNum x else 0
def meetR (L : List HObj) (l : List Int) (x : Int) : List Int := if 0 < leadR L x ∧ leadR L x ∉ l then l ++ [leadR L x] else l
def meetsR (L : List HObj) (l ws : List Int) : List Int := ws.foldl (meetR L) l
def wordsR (L : List HObj) (r : Int) : List Int := ((objR L r).map (·.2)).getD []
def scanR (L : List HObj) (l : List Int) (r : Int) : List Int := if scanned (kindR L r) = true then meetsR L l (wordsR L r) else l
/-- The list behind so many rounds. -/
def bfs (L : List HObj) (ws : List Int) : Nat → List Int
  | 0 => meetsR L [] ws
  | i + 1 => if i < (bfs L ws i).length then scanR L (bfs L ws i) ((bfs L ws i).getD i 0) else bfs L ws i
def reachR (L : List HObj) (ws : List Int) : List Int := bfs L ws L.length
/-- What is met is there, and once. -/
structure Met (L : List HObj) (l : List Int) : Prop where
  nodup : l.Nodup
  sub : ∀ r, r ∈ l → r ∈ objsR L
theorem kind_obj {L : List HObj} {r : Int} (h : kindR L r ≠ 0) : r ∈ objsR L := by
  unfold kindR at h
  cases ho : objR L r with
  | none => simp [ho] at h
  | some o =>
    obtain ⟨q, e, hq⟩ := objR_some ho
    obtain ⟨i, hi, hp⟩ := pos_at hq
    rw [objsR_pos]
    simp only [List.mem_map, List.mem_range]
    exact ⟨i, (List.getElem?_eq_some_iff.1 hi).1, by rw [hp, e]⟩
theorem lead_obj {L : List HObj} {x : Int} (h : 0 < leadR L x) : leadR L x ∈ objsR L := by
  unfold leadR at *
  split at h
  · rename_i hc
    rw [if_pos hc]
    exact kind_obj hc.2
  · omega
theorem Met.nil (L : List HObj) : Met L [] := ⟨List.nodup_nil, fun _ h => by cases h⟩
theorem Met.meet {L : List HObj} {l : List Int} (h : Met L l) (x : Int) : Met L (meetR L l x) := by
  unfold meetR
  split
  · rename_i hc
    refine ⟨List.nodup_append.2 ⟨h.nodup, by simp, fun a ha b hb e => ?_⟩, fun r hr => ?_⟩
    · simp at hb
      exact hc.2 (by rw [← hb, ← e]; exact ha)
    · rcases List.mem_append.1 hr with hr | hr
      · exact h.sub r hr
      · simp at hr
        exact hr ▸ lead_obj hc.1
  · exact h
theorem Met.meets {L : List HObj} : ∀ (ws : List Int) {l : List Int}, Met L l → Met L (meetsR L l ws)
  | [], _, h => h
  | x :: ws, _, h => Met.meets ws (h.meet x)
theorem Met.scan {L : List HObj} {l : List Int} (h : Met L l) (r : Int) : Met L (scanR L l r) := by
  unfold scanR
  split
  · exact h.meets _
  · exact h
theorem Met.bfs (L : List HObj) (ws : List Int) : ∀ i, Met L (bfs L ws i)
  | 0 => (Met.nil L).meets ws
  | i + 1 => by
    rw [Proofs.Ytkbnkpllbgofhaa.bfs]
    split
    · exact (Met.bfs L ws i).scan _
    · exact Met.bfs L ws i
theorem nodup_le : ∀ (l m : List Int), l.Nodup → (∀ x, x ∈ l → x ∈ m) → l.length ≤ m.length
  | [], _, _, _ => Nat.zero_le _
  | x :: l, m, hn, hs => by
    obtain ⟨h1, h2⟩ := List.nodup_cons.1 hn
    have hx := hs x (List.mem_cons_self ..)
    have := nodup_le l (m.erase x) h2 (fun y hy => (List.mem_erase_of_ne (fun (e : y = x) => h1 (by rw [← e]; exact hy))).2 (hs y (List.mem_cons_of_mem _ hy)))
    rw [List.length_erase_of_mem hx] at this
    have := List.length_pos_of_mem hx
    simp
    omega
theorem Met.len {L : List HObj} {l : List Int} (h : Met L l) : l.length ≤ L.length := by
  have := nodup_le _ _ h.nodup h.sub
  rw [objsR_pos] at this
  simpa using this
theorem bfs_stop {L : List HObj} {ws : List Int} {i : Nat} (h : (bfs L ws i).length ≤ i) : ∀ j, bfs L ws (i + j) = bfs L ws i
  | 0 => rfl
  | j + 1 => by
    have e := bfs_stop h j
    rw [← Nat.add_assoc, bfs, if_neg (by rw [e]; omega), e]
theorem bfs_done {L : List HObj} {ws : List Int} {i : Nat} (h1 : i ≤ (bfs L ws i).length) (h : (bfs L ws i).length ≤ i) : bfs L ws i = reachR L ws := by
  have hl := (Met.bfs L ws i).len
  have := bfs_stop h (L.length - i)
  rw [show i + (L.length - i) = L.length by omega] at this
  exact this.symm
theorem bfs_next {L : List HObj} {ws : List Int} {i : Nat} (h : i < (bfs L ws i).length) : bfs L ws (i + 1) = scanR L (bfs L ws i) ((bfs L ws i).getD i 0) := by
  rw [bfs, if_pos h]
theorem meets_snoc (L : List HObj) (l ws : List Int) (x : Int) : meetsR L l (ws ++ [x]) = meetR L (meetsR L l ws) x := by
  simp [meetsR]
end Go.Proofs.Ytkbnkpllbgofhaa
