/-
  The two heaps: Alloc of the document's; what stays.
-/
import Derived.Test.YtkbnkpllbgofhaaTwo
import Derived.Test.YtkbnkpllbgofhaaRefQ
import Derived.Test.YtkbnkpllbgofhaaRefR
namespace Go.Proofs.Ytkbnkpllbgofhaa
open Go.RowKit HeapM

theorem two_ralloc {w0 w : World} {p bw bk pr n : Nat} {X : List (Nat × List Value × TypeId)} {LA LR : List HObj} (h : Two w0 w p bw bk pr n X LA LR) (k m : Int) : Calls Try.prog 36 #[rptr pr, .int .i64 k, .int .i64 m] w fun e w' =>
    e = .returned (.tuple #[.int .i64 (allocN LR n k m), .bool (allocB LR n k m)]) ∧ Two w0 w' p bw bk pr n X LA (allocL LR n k m) := by
  obtain ⟨v, bs, hr, hb⟩ := h.R
  unfold allocN allocB allocL
  by_cases hf : fits LR n k m
  · rw [if_pos hf, if_pos hf, decide_eq_true hf]
    obtain ⟨k', rfl⟩ : ∃ k' : Nat, k = k' := ⟨k.toNat, by have := hf.1; omega⟩
    obtain ⟨m', rfl⟩ : ∃ m' : Nat, m = m' := ⟨m.toNat, by have := hf.2.2.1; omega⟩
    have hc : Calls Try.prog 36 #[rptr pr, .int .i64 k', .int .i64 m'] w (RAllocPost pr n w0.heap.size LR bs k' m' w) := by
      rcases Nat.eq_zero_or_pos LR.length with hL | hL
      · exact ralloc_first hr h.upd.size k' m' hf (List.length_eq_zero_iff.1 hL)
      · exact ralloc_more hr h.upd.size k' m' hf hL
    refine hc.mono ?_
    rintro e w' ⟨v', mk, rfl, hR, hu, hm, hv⟩
    refine ⟨rfl, h.r hr hb hR ?_ hu (fun y hy => .inl (by simpa using hy))⟩
    have := h.upd.size
    intro b hb2
    rcases List.mem_append.1 hb2 with hb2 | hb2
    · exact hb b hb2
    · simp at hb2; omega
  · rw [if_neg hf, if_neg hf, decide_eq_false hf]
    exact (ralloc_full hr k m hf).mono fun _ _ ⟨he, hu⟩ => ⟨he, h.step hu⟩


/-- Blocks of other types stay. -/
def KeepT (w w' : World) : Prop := ∀ b cs t, Blk w b cs t → t ∉ [72, 31, 5, 66, 30] → Blk w' b cs t
theorem KeepT.refl (w : World) : KeepT w w := fun _ _ _ h _ => h
theorem KeepT.trans {a b c : World} (h : KeepT a b) (k : KeepT b c) : KeepT a c := fun _ _ _ hb ht => k _ _ _ (h _ _ _ hb ht) ht
theorem KeepT.of_upd {a b : World} (h : Upd [] a b) : KeepT a b := fun _ _ _ hb _ => h.blk hb (by simp)
theorem own_keep {w w' : World} {base : Nat} {e : TypeId} {size : Nat} {v : Value} {n : Nat} {xs : List Value} (h : w.ownsRow base e size v n xs) (hk : KeepT w w') (he : e ∉ [72, 31, 5, 66, 30]) : w'.ownsRow base e size v n xs := by
  refine ⟨h.1, ?_⟩
  rcases h.2 with hn | ⟨g, cap, cur, rfl, hb, hgg, rest⟩
  · exact .inl hn
  · have B : Blk w g cur.toList e := by unfold Blk; simpa using hgg
    have B' := hk g _ _ B he
    unfold Blk at B'
    exact .inr ⟨g, cap, cur, rfl, hb, by simpa using B', rest⟩
/-- All blocks of other types. -/
def allX (w : World) : List (Nat × List Value × TypeId) := (List.range w.heap.size).filterMap (fun b => match w.heap[b]? with
  | some (Obj.cells cs t (0, 0)) => if t ∈ [72, 31, 5, 66, 30] then none else some (b, cs.toList, t)
  | _ => none)
theorem allX_has {w : World} {b : Nat} {cs : List Value} {t : TypeId} (h : Blk w b cs t) (ht : t ∉ [72, 31, 5, 66, 30]) : (b, cs, t) ∈ allX w := by
  unfold allX
  rw [List.mem_filterMap]
  refine ⟨b, List.mem_range.2 h.lt, ?_⟩
  unfold Blk at h
  rw [h]
  simp only
  rw [if_neg ht]
theorem allX_is {w : World} {x : Nat × List Value × TypeId} (h : x ∈ allX w) : Blk w x.1 x.2.1 x.2.2 ∧ x.2.2 ∉ [72, 31, 5, 66, 30] := by
  unfold allX at h
  rw [List.mem_filterMap] at h
  obtain ⟨b, hb, h⟩ := h
  split at h
  · rename_i cs t e
    split at h
    · cases h
    · rename_i hn
      cases h
      exact ⟨by unfold Blk; simpa using e, hn⟩
  · cases h
theorem two_all {w0 w : World} {p bw bk pr n : Nat} {X : List (Nat × List Value × TypeId)} {LA LR : List HObj} (h : Two w0 w p bw bk pr n X LA LR) : Two w0 w p bw bk pr n (allX w) LA LR :=
  ⟨h.A, h.R, h.upd, h.f1, h.f2, h.f3, h.f4, fun _ hx => allX_is hx⟩
theorem two_keep {w0 w w' : World} {p bw bk pr n : Nat} {LA LR : List HObj} (h : Two w0 w' p bw bk pr n (allX w) LA LR) : KeepT w w' := fun _ _ _ hb ht => h.box (allX_has hb ht)
end Go.Proofs.Ytkbnkpllbgofhaa
