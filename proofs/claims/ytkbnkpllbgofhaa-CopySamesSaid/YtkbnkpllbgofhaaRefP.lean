/-
  The document's heap: the two appends of Alloc, as laws.
-/
import Derived.Test.YtkbnkpllbgofhaaRefO
namespace Go.Proofs.Ytkbnkpllbgofhaa
open Go.RowKit HeapM

/-- What Alloc has behind its first append: the list anew. -/
structure App1 (w2 w3 : World) (L : List HObj) (bs : List Nat) (ln g cap : Nat) : Prop where
  own : w3.ownsRow w2.heap.size 61 3 (.slice (some ⟨g, 0, none⟩) ln cap) ln (objCells L bs 0)
  upd : Upd [] w2 w3
/-- The first append: to an empty list that was made here. -/
theorem step_app1 {w2 W : World} {L : List HObj} {bs : List Nat} {g0 ln c : Nat} {ops : Array Oper} {o : Oper} {a : Act} {K : Act → World → Prop} {Q : Exit → Act → World → Prop} {E : Prop} (hgd : o.guard = none) (s x : Operand)
    (ho : o.op = .call { callee := .builtin .append, args := #[s, x], argTypes := #[64, 64] })
    (hL : 0 < ln) (hlen : ln ≤ 65536) (h3 : (objCells L bs 0).length = ln * 3) (HC : ∀ j u, (objCells L bs 0)[j]? = some u → w2.cell? ((⟨g0, 0, none⟩ : Addr).add j) = some u)
    (kb : Nat) (hs : a.eval s = .slice (some ⟨kb, 0, none⟩) 0 0) (hx : a.eval x = .slice (some ⟨g0, 0, none⟩) ln c)
    (hu : Upd [] w2 W) (hk : W.heap[kb]? = some (.cells #[] 61 (0, 0))) (hkb : w2.heap.size ≤ kb)
    (h : ∀ g cap w3, App1 w2 w3 L bs ln g cap → (∀ b cs t, Blk W b cs t → b ≠ kb → Blk w3 b cs t) → W.heap.size ≤ w3.heap.size → w2.heap.size ≤ g → (kb = g ∨ g = W.heap.size) → g < w3.heap.size → K (a.put o.dst (.slice (some ⟨g, 0, none⟩) ln cap)) w3) :
    if Region.wanted o (yielded ops a.tmps) = true then Oper.wp Try.prog o a W K Q else E := by
  obtain ⟨i0, hi, hz0, hz1, hz2⟩ := info_parts info_obj
  have hkl : kb < W.heap.size := (Array.getElem?_eq_some_iff.1 hk).1
  refine step_append_lies _ hgd s x 64 ho w2.heap.size 61 i0 _ 3 40 Try.underlying64 hi hz0 hz1 hz2 (by rfl) (by decide) (.slice (some ⟨kb, 0, none⟩) 0 0) 0 [] hs (own_at hk hkb) ⟨g0, 0, none⟩ ln c (objCells L bs 0) hx h3 (news_up HC hu) (objCells_one _ _ _) hL (by unfold maxLen; omega) (by omega) hu.size _ rfl ?_
  intro g cap w3 hown hgr hg hlt
  simp only [Nat.zero_add, List.nil_append] at hown ⊢
  have hgg : kb = g ∨ g = W.heap.size := by simpa [Value.ownBlock] using hg
  have hsz := hu.size
  refine h g cap w3 ⟨hown, up_grown hu hgr (fun k hk => by simp [Value.ownBlock] at hk; omega)⟩ (fun b cs t B hb => blk_grown B hgr (by simp [Value.ownBlock]; omega)) hgr.size (by omega) hgg hlt
/-- The second append: the new object. -/
theorem step_app2 {w2 w3 W : World} {L : List HObj} {bs : List Nat} {ln g1 cap1 k u m : Nat} {ops : Array Oper} {o : Oper} {a : Act} {K : Act → World → Prop} {Q : Exit → Act → World → Prop} {E : Prop} (hgd : o.guard = none) (s x y : Operand)
    (ho : o.op = .call { callee := .builtin .append, args := #[s, x], argTypes := #[64, 64] })
    (hlen : ln ≤ 65536) (hln : ln = L.length) (hA : App1 w2 w3 L bs ln g1 cap1) (hg1 : w2.heap.size ≤ g1)
    (bx mk : Nat) (hs : a.eval s = .slice (some ⟨g1, 0, none⟩) ln cap1) (hx : a.eval x = .slice (some ⟨bx, 0, none⟩) 1 1) (_hy : a.eval y = .slice (some ⟨mk, 0, none⟩) m m)
    (hu : Upd [] w3 W) (hb : Blk W bx [.int .i64 ((u : Int) + 1), .int .i64 k, .slice (some ⟨mk, 0, none⟩) m m] 61) (hm : Blk W mk (List.replicate m (.int .u64 0)) 30) (hmk : w2.heap.size ≤ mk) (hne : g1 ≠ mk)
    (h : ∀ g cap w4, AllocMem w2 w4 L bs k u m g cap mk → K (a.put o.dst (.slice (some ⟨g, 0, none⟩) (ln + 1) cap)) w4) :
    if Region.wanted o (yielded ops a.tmps) = true then Oper.wp Try.prog o a W K Q else E := by
  obtain ⟨i0, hi, hz0, hz1, hz2⟩ := info_parts info_obj
  have hsz := hA.upd.size
  have hsz2 := hu.size
  refine step_append_lies _ hgd s x 64 ho w2.heap.size 61 i0 _ 3 40 Try.underlying64 hi hz0 hz1 hz2 (by rfl) (by decide) (.slice (some ⟨g1, 0, none⟩) ln cap1) ln (objCells L bs 0) hs (own_upd0 hA.own hu) ⟨bx, 0, none⟩ 1 1 _ hx (by rfl) (news_of (rest := []) (by exact hb)) (three_one _ _ _ _ _) (by omega) (by unfold maxLen; omega) (by omega) (by omega) _ rfl ?_
  intro g cap w4 hown hgr hg hlt
  refine h g cap w4 ⟨by rw [← hln]; exact hown, blk_grown hm hgr (by simp [Value.ownBlock]; exact hne), hmk, up_grown (hA.upd.then hu) hgr (fun k hk => by simp [Value.ownBlock] at hk; omega)⟩
end Go.Proofs.Ytkbnkpllbgofhaa
