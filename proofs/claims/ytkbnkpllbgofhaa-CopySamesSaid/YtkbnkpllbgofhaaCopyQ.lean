/-
  Copy: the numbers' map, by value.
-/
import Derived.Test.YtkbnkpllbgofhaaCopyM
import Derived.Maps.OwnOps
import Derived.Maps.Views
namespace Go.Proofs.Ytkbnkpllbgofhaa
open Go.RowKit HeapM Go.Maps

def numOf (l : List Int) (r : Int) : Int := place l r + 1
theorem numOf_nil (r : Int) : numOf [] r = 0 := by simp [numOf, place]
theorem numOf_snoc {l : List Int} {x : Int} (hx : x ∉ l) (r : Int) : numOf (l ++ [x]) r = if r = x then (l.length : Int) + 1 else numOf l r := by
  unfold numOf place
  by_cases h : r = x
  · subst h
    rw [if_pos (by simp), if_pos rfl, List.idxOf_append, if_neg hx]
    simp
  · rw [if_neg h]
    by_cases hr : r ∈ l
    · rw [if_pos (by simp [hr]), if_pos hr, List.idxOf_append, if_pos hr]
    · rw [if_neg (by simp [hr, h]), if_neg hr]
theorem numOf_zero {l : List Int} {r : Int} : numOf l r = 0 ↔ r ∉ l := by
  unfold numOf place
  split <;> simp_all <;> omega

theorem int_key : Keyed Try.prog 3 := int_keyed Try.underlying3
/-- Block b is a map that holds each one's number. -/
def NumMap (w : World) (b : Nat) (l : List Int) : Prop :=
  ∃ D : DataW Unit, w.ownsMap Try.prog 3 (plainElem Try.prog 3) b l.length D ∧ ∀ r : Int, D.atKey (.int .i64 r) (.lit (.int .i64 0)) = .lit (.int .i64 (numOf l r))
theorem NumMap.made (w : World) : NumMap (w.alloc (.map #[] 0)) w.heap.size [] :=
  ⟨.map [], World.ownsMap_made .., fun r => by rw [numOf_nil]; rfl⟩
theorem NumMap.kept {w w' : World} {b : Nat} {l : List Int} (h : NumMap w b l) (e : w'.heap[b]? = w.heap[b]?) : NumMap w' b l := by
  obtain ⟨D, ⟨es, c, h1, h2⟩, h3⟩ := h
  exact ⟨D, ⟨es, c, by rw [e, h1], h2⟩, h3⟩
theorem NumMap.lt {w : World} {b : Nat} {l : List Int} (h : NumMap w b l) : b < w.heap.size := by
  obtain ⟨D, h, _⟩ := h
  exact h.lt
theorem NumMap.look {w : World} {b : Nat} {l : List Int} (h : NumMap w b l) (r : Int) (hr : (Lit.int .i64 r).wf = true) :
    (Instr.lookup 131 (.map (some b)) (.int .i64 r) false).run Try.prog w = .ok (.int .i64 (numOf l r)) w := by
  obtain ⟨D, ho, hD⟩ := h
  obtain ⟨c, hrun, hat, _⟩ := ho.lookup_int int_key Try.underlying131 Try.underlying3 (by kernel_rfl) (key := .int .i64 r) (kl := .int .i64 r) (keyOf_int_mk Try.underlying3 hr)
  rw [hD r] at hat
  cases hat
  exact hrun
theorem NumMap.put {w : World} {b : Nat} {l : List Int} (h : NumMap w b l) (x : Int) (hx : x ∉ l) (hr : (Lit.int .i64 x).wf = true) (hl : l.length < 65536) :
    ∃ w', (Instr.mapUpdate 131 (.map (some b)) (.int .i64 x) (.int .i64 ((l.length : Int) + 1))).run Try.prog w = .ok () w' ∧ NumMap w' b (l ++ [x]) ∧ w.grownBy w' (some b) := by
  obtain ⟨D, ho, hD⟩ := h
  obtain ⟨w', hrun, ho', hg⟩ := ho.update int_key Try.underlying131 (by unfold maxLen; omega) (key := .int .i64 x) (kl := .int .i64 x) (keyOf_int_mk Try.underlying3 hr) (plainElem_int Try.underlying3 (a := (l.length : Int) + 1) (by simp [Lit.wf, IntKind.min, IntKind.max, IntKind.signed, IntKind.bits]; omega))
  refine ⟨w', hrun, ⟨_, by simpa using ho', fun r => ?_⟩, hg⟩
  rw [numOf_snoc hx]
  obtain ⟨es, c, _, _, _, e⟩ := ho
  by_cases hrx : r = x
  · subst hrx
    rw [if_pos rfl]
    exact atKey_put_same (k := .int .i64 r) ⟨_, e⟩ (by simp [WideAt.IsKeyLit]) _ _
  · rw [if_neg hrx, atKey_put_other (by simp [hrx])]
    exact hD r
end Go.Proofs.Ytkbnkpllbgofhaa
