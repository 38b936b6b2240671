/-
  pavanelaw03.all: what its loop leans on.
-/
import Derived.Test.YtknbgbeepachgaaWalkC
import Derived.Test.YtknbgbeepachgaaPart
namespace Go.Proofs.Ytknbgbeepachgaa
open Go.RowKit Go.Shelf

theorem seq_nil (W : World) (b : Nat) : (binOp .eql 44 (.func (.func 28) #[] #[.pointer (some ⟨b, 0, none⟩)]) Value.nilFunc).run Try.prog W = .ok (.bool false) W := by
  first
    | rfl
    | kernel_rfl
    | (simp [binOp, go_sem]; done)
/-- What the loop that gathers leans on: most's box, the list's box, the list. -/
structure ARel (w W4 : World) (most : Int) (n : Nat) (lv : Value) (ys : List (Cd w w.heap.size n)) (W : World) : Prop where
  mst : Blk W (w.heap.size + 1) [.int .i64 most] 3
  box : Blk W (w.heap.size + 1 + 1 + 1) [lv] 25
  own : W.ownsRow W4.heap.size 27 7 lv ys.length (ys.map (fun y => y.1.1)).flatten
  upd : Upd [] w W
  lt : W4.heap.size ≤ W.heap.size
section
variable {w W4 W W' : World} {most : Int} {n : Nat} {lv : Value} {ys : List (Cd w w.heap.size n)}
theorem ARel.row (h : ARel w W4 most n lv ys W) : rowAt (w.heap.size + 1 + 1 + 1) W = lv.ownBlock := by
  unfold rowAt
  rw [h.box.cell_some (i := 0) rfl]
theorem ARel.ok (h : ARel w W4 most n lv ys W) (hz : w.heap.size + 4 ≤ W4.heap.size) : RowOk w.heap.size (w.heap.size + 1 + 1 + 1) W := by
  have hb := h.box.lt
  refine ⟨⟨by omega, hb⟩, fun r hr => ?_⟩
  rw [h.row] at hr
  have := h.own.lt r hr
  omega
theorem ARel.step (h : ARel w W4 most n lv ys W) (hu : Upd [] W W') : ARel w W4 most n lv ys W' :=
  ⟨hu.blk h.mst (by simp), hu.blk h.box (by simp), own_upd0 h.own hu, h.upd.then hu, Nat.le_trans h.lt hu.size⟩
theorem ARel.noCell {row : Option Nat} (h : ARel w W4 most n lv ys W) (hz : w.heap.size + 4 ≤ W4.heap.size) (hg : W.grownBy W' row) (hr : ∀ r, row = some r → W4.heap.size ≤ r ∧ ∃ o : Obj, W.heap[r]? = some o ∧ o.isCells = false) : ARel w W4 most n lv ys W' := by
  have hu : Upd row.toList W W' := Upd.of_grown hg (fun k hk => by simp [hk])
  refine ⟨h.mst.noCell hg (fun r e => (hr r e).2), h.box.noCell hg (fun r e => (hr r e).2), own_upd h.own hu (fun g hg' hx => ?_), h.upd.onto hu (fun x hx => ?_), Nat.le_trans h.lt hg.size⟩
  · obtain ⟨ob, e1, e2⟩ := (hr g (by simpa using hx)).2
    rcases h.own.2 with ⟨e, _⟩ | ⟨g', cap, cur, e, _, hgg, _⟩
    · rw [e] at hg'
      cases hg'
    · rw [e] at hg'
      injection hg' with hg'
      subst hg'
      rw [hgg] at e1
      cases e1
      cases e2
  · have := (hr x (by simpa using hx)).1
    omega
theorem KW.putObj {n₀ lb l : Nat} {W : World} {o o' : Obj} (hl : n₀ ≤ l) (hlb : lb < l) (ho : W.heap[l]? = some o) (hc : o.isCells = false) : KW n₀ lb W (W.putObj l o') := by
  have hg := grownBy_putObj' W l o'
  have hlt := (Array.getElem?_eq_some_iff.1 ho).1
  have hne : ∀ k ob, W.heap[k]? = some ob → ob.isCells = true → k ≠ l := by
    intro k ob h1 h2 e
    subst e
    rw [ho] at h1
    cases h1
    rw [hc] at h2
    cases h2
  exact ⟨Below.mk hg.os hg.tape hg.output hg.size (fun k hk => hg.block k (by omega) (fun e => by injection e with e; omega)), fun k ob _ _ h1 h2 => (hg.block k (Array.getElem?_eq_some_iff.1 h1).1 (fun e => hne k ob h1 h2 (by injection e))).trans h1, .inl (rowAt_same (hg.block lb (by omega) (fun e => by injection e with e; omega)))⟩
/-- Behind a round that appends. -/
theorem ARel.next {lv' : Value} {x : Cd w w.heap.size n} (h : ARel w W4 most n lv ys W) (hz : w.heap.size + 4 ≤ W4.heap.size) (hu : Upd ((w.heap.size + 1 + 1 + 1) :: lv.ownBlock.toList) W W') (hb : Blk W' (w.heap.size + 1 + 1 + 1) [lv'] 25)
    (hO : W'.ownsRow W4.heap.size 27 7 lv' (ys.length + 1) ((ys.map (fun y => y.1.1)).flatten ++ x.1.1)) (hg : lv'.ownBlock = lv.ownBlock ∨ ∃ g, lv'.ownBlock = some g ∧ W.heap.size ≤ g) :
    KeepsFrom W4.heap.size W W' ∧ KW w.heap.size (w.heap.size + 1 + 1 + 1) W W' ∧ ARel w W4 most n lv' (ys ++ [x]) W' := by
  have hlo : ∀ k, lv.ownBlock = some k → W4.heap.size ≤ k ∧ k < W.heap.size := h.own.lt
  have hn : ∀ b, b < W4.heap.size → b ≠ w.heap.size + 1 + 1 + 1 → b ∉ (w.heap.size + 1 + 1 + 1) :: lv.ownBlock.toList := by
    intro b hb hne hx
    rcases List.mem_cons.1 hx with h | h
    · exact hne h
    · have := (hlo b (by simpa using h)).1
      omega
  have hz2 := h.upd.size
  have hlt := h.lt
  refine ⟨⟨hu.size, fun k o hk hko hc => ?_⟩, ⟨Below.mk hu.os hu.tape hu.output hu.size (fun k hk => hu.block k (by omega) (hn k (by omega) (by omega))), fun k o h1 h2 hko _ => ?_, ?_⟩, ⟨hu.blk h.mst (hn _ (by omega) (by omega)), hb, by simpa using hO, h.upd.onto hu (fun k hk => ?_), Nat.le_trans h.lt hu.size⟩⟩
  · refine (hu.block k (Array.getElem?_eq_some_iff.1 hko).1 (fun hx => ?_)).trans hko
    rcases List.mem_cons.1 hx with e | e
    · omega
    · have hk' : lv.ownBlock = some k := by simpa using e
      rcases h.own.2 with ⟨e, _⟩ | ⟨g', cap', cur, e, _, hgg, _⟩
      · rw [e] at hk'
        cases hk'
      · rw [e] at hk'
        injection hk' with hk'
        subst hk'
        rw [hgg] at hko
        cases hko
        cases hc
  · rw [h.row] at h2
    refine (hu.block k (Array.getElem?_eq_some_iff.1 hko).1 (fun hx => ?_)).trans hko
    rcases List.mem_cons.1 hx with e | e
    · exact h1 e
    · exact h2 (by simpa using e)
  · have e : rowAt (w.heap.size + 1 + 1 + 1) W' = lv'.ownBlock := by
      unfold rowAt
      rw [hb.cell_some (i := 0) rfl]
    rw [e, h.row]
    rcases hg with hg | ⟨g, hg, h2⟩
    · exact .inl hg
    · exact .inr ⟨g, hg, by omega, h2, (hO.lt g hg).2⟩
  · rcases List.mem_cons.1 hk with e | e
    · omega
    · have := (hlo k (by simpa using e)).1
      omega
end
end Go.Proofs.Ytknbgbeepachgaa
