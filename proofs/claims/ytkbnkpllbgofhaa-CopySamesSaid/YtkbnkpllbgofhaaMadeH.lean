/-
  Copy's statements: the heaps that are made.
-/
import Derived.Test.YtkbnkpllbgofhaaMadeW
namespace Go.Proofs.Ytkbnkpllbgofhaa
open Go.RowKit HeapM

/-- Both heaps, with the blocks of the document's. -/
structure Duo (w0 w : World) (p bw bk pr n : Nat) (v : Value) (bs : List Nat) (LA LR : List HObj) : Prop where
  A : HeapA w p bw bk n LA
  R : RHeap w pr n w0.heap.size LR v bs
  fb : ∀ b, b ∈ bs → w0.heap.size ≤ b
  upd : Upd [] w0 w
  f1 : w0.heap.size ≤ p
  f2 : w0.heap.size ≤ bw
  f3 : w0.heap.size ≤ bk
  f4 : w0.heap.size ≤ pr
section
variable {w0 w w' : World} {p bw bk pr n : Nat} {v : Value} {bs : List Nat} {LA LR LA' LR' : List HObj}
theorem Two.duo (h : Two w0 w p bw bk pr n [] LA LR) : ∃ v bs, Duo w0 w p bw bk pr n v bs LA LR := by
  obtain ⟨v, bs, r, hb⟩ := h.R
  exact ⟨v, bs, h.A, r, hb, h.upd, h.f1, h.f2, h.f3, h.f4⟩
theorem Duo.two (h : Duo w0 w p bw bk pr n v bs LA LR) : Two w0 w p bw bk pr n [] LA LR := ⟨h.A, ⟨v, bs, h.R, h.fb⟩, h.upd, h.f1, h.f2, h.f3, h.f4, fun _ h => by cases h⟩
theorem Duo.step (h : Duo w0 w p bw bk pr n v bs LA LR) (hu : Upd [] w w') : Duo w0 w' p bw bk pr n v bs LA LR :=
  ⟨h.A.upd0 hu, h.R.upd0 hu, h.fb, h.upd.then hu, h.f1, h.f2, h.f3, h.f4⟩
theorem Duo.a (h : Duo w0 w p bw bk pr n v bs LA LR) (hA : HeapA w' p bw bk n LA') (hu : Upd [bw] w w') : Duo w0 w' p bw bk pr n v bs LA' LR := by
  have f2 := h.f2
  have hb : bw ∈ [p, bw, bk] := by simp
  refine ⟨hA, h.R.upd hu ?_ ?_ ?_, h.fb, h.upd.fresh hu (by simpa using f2), h.f1, h.f2, h.f3, h.f4⟩
  · exact fun hx => apart h.A h.R hb (.inl (by simpa [eq_comm] using hx))
  · exact fun g hg hx => apart h.A h.R hb (.inr (.inl (by simp at hx; rw [← hx]; exact hg)))
  · exact fun b hb' hx => apart h.A h.R hb (.inr (.inr (by simp at hx; rw [← hx]; exact hb')))
theorem Duo.r (h : Duo w0 w p bw bk pr n v bs LA LR) (hR : RHeap w' pr n w0.heap.size LR' v bs) (hu : Upd bs w w') : Duo w0 w' p bw bk pr n v bs LA LR' := by
  have hn : ∀ x, x ∈ [p, bw, bk] → x ∉ bs := fun x hx hs => apart h.A h.R hx (.inr (.inr hs))
  exact ⟨h.A.upd hu (hn _ (by simp)) (hn _ (by simp)) (hn _ (by simp)), hR, h.fb, h.upd.fresh hu h.fb, h.f1, h.f2, h.f3, h.f4⟩
theorem Duo.sort (h : Duo w0 w p bw bk pr n v bs LA LR) {x : Nat} (hx : x ∈ bw :: bs) : ∃ cs t, Blk w x cs t ∧ (t = 31 ∨ t = 30) := by
  rcases List.mem_cons.1 hx with rfl | hx
  · obtain ⟨_, _, _, ws, hm, _⟩ := h.A
    exact ⟨_, _, hm.hw, .inl rfl⟩
  · obtain ⟨i, hi, rfl⟩ := List.getElem_of_mem hx
    have hi2 : i < LR.length := by rw [← h.R.bodies.len]; exact hi
    exact ⟨_, _, h.R.bodies.blk i _ _ (List.getElem?_eq_getElem hi2) (List.getElem?_eq_getElem hi), .inr rfl⟩
theorem Duo.keep {b : Nat} {cs : List Value} {t : TypeId} (h : Duo w0 w p bw bk pr n v bs LA LR) {S : List Nat} (hS : ∀ x, x ∈ S → x ∈ bw :: bs) (hu : Upd S w w') (B : Blk w b cs t) (ht : t ≠ 31 ∧ t ≠ 30) : Blk w' b cs t :=
  hu.blk B (fun hx => by
    obtain ⟨cs', t', B', e⟩ := h.sort (hS _ hx)
    have := (B.inj B').2
    subst this
    rcases e with e | e
    · exact ht.1 e
    · exact ht.2 e)
theorem Duo.own {base size m : Nat} {e : TypeId} {u : Value} {xs : List Value} (h : Duo w0 w p bw bk pr n v bs LA LR) {S : List Nat} (hS : ∀ x, x ∈ S → x ∈ bw :: bs) (hu : Upd S w w') (ho : w.ownsRow base e size u m xs) (ht : e ≠ 31 ∧ e ≠ 30) : w'.ownsRow base e size u m xs :=
  own_upd ho hu (fun g hg hx => by
    obtain ⟨cs, B⟩ := own_blk ho hg
    obtain ⟨cs', t', B', e'⟩ := h.sort (hS _ hx)
    have := (B.inj B').2
    subst this
    rcases e' with e' | e'
    · exact ht.1 e'
    · exact ht.2 e')
end

/-- The objects that are made. -/
def madeAt (l : List ObjD) : List Int := posTo (l.map (fun o => ((1 + o.1 % 8 : Int), List.replicate o.2.length (0 : Int)))) l.length
def madeL (l : List ObjD) : List HObj := l.map (fun o => (1 + o.1 % 8, o.2.map (wordVal (madeAt l))))
theorem madeL_len (l : List ObjD) : (madeL l).length = l.length := by simp [madeL]
theorem madeL_get {l : List ObjD} {i : Nat} (h : i < l.length) : (madeL l)[i]? = some (1 + (l.getD i (0, [])).1 % 8, (l.getD i (0, [])).2.map (wordVal (madeAt l))) := by
  unfold madeL
  rw [List.getElem?_map, List.getElem?_eq_getElem h]
  simp [List.getD_eq_getElem?_getD, h]
theorem madeL_zero (l : List ObjD) : zeroG (madeL l) = l.map (fun o => ((1 + o.1 % 8 : Int), List.replicate o.2.length (0 : Int))) := by
  unfold zeroG madeL
  rw [List.map_map]
  apply List.map_congr_left
  intro o _
  simp
theorem posTo_congr {A B : List HObj} (h : ∀ t, posOf A t = posOf B t) (i : Nat) : posTo A i = posTo B i := by
  unfold posTo
  apply List.map_congr_left
  intro t _
  rw [h t]
theorem madeAt_pos (l : List ObjD) : madeAt l = posTo (madeL l) l.length := by
  unfold madeAt
  rw [← madeL_zero]
  exact posTo_congr (fun t => zeroG_pos _ t) _
theorem madeAt_len (l : List ObjD) : (madeAt l).length = l.length := by unfold madeAt; exact posTo_len _ _
theorem madeL_kinds {l : List ObjD} (h : RngO l) : Kinds (madeL l) := by
  intro o ho
  obtain ⟨x, hx, rfl⟩ := List.mem_map.1 ho
  have := h x hx
  simp only
  omega
theorem madeL_words {l : List ObjD} (h : RngO l) : Words (madeL l) := by
  intro o ho x hx
  obtain ⟨y, hy, rfl⟩ := List.mem_map.1 ho
  obtain ⟨z, hz, rfl⟩ := List.mem_map.1 hx
  exact wordVal_range _ ((h y hy).2.2.1 z hz)
theorem madeL_used (l : List ObjD) : HeapM.used (madeL l) = sizeTo l l.length := by
  rw [used_sum]
  unfold madeL sizeTo
  rw [List.map_map, List.take_of_length_le (Nat.le_refl _)]
  congr 1
  apply List.map_congr_left
  intro o _
  simp
  omega
/-- What made gives. -/
def MadePost (D : List HObj) (at_ : List Int) (w : World) (e : Ending) (w' : World) : Prop :=
  ∃ p bw bk pr v bs a c, e = .returned (.tuple #[hptr p, rptr pr, .slice a at_.length c]) ∧ Duo w w' p bw bk pr 3000 v bs D D ∧ SlI w' .i64 a at_
end Go.Proofs.Ytkbnkpllbgofhaa
