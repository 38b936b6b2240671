/-
  The program's heap and the document's, side by side.
-/
import Derived.Test.YtkbnkpllbgofhaaRefO
import Derived.Test.YtkbnkpllbgofhaaHeapO
namespace Go.Proofs.Ytkbnkpllbgofhaa
open Go.RowKit HeapM

structure Two (w0 w : World) (p bw bk pr n : Nat) (X : List (Nat × List Value × TypeId)) (LA LR : List HObj) : Prop where
  A : HeapA w p bw bk n LA
  R : ∃ v bs, RHeap w pr n w0.heap.size LR v bs ∧ ∀ b, b ∈ bs → w0.heap.size ≤ b
  upd : Upd [] w0 w
  f1 : w0.heap.size ≤ p
  f2 : w0.heap.size ≤ bw
  f3 : w0.heap.size ≤ bk
  f4 : w0.heap.size ≤ pr
  ex : ∀ x, x ∈ X → Blk w x.1 x.2.1 x.2.2 ∧ x.2.2 ∉ [72, 31, 5, 66, 30]

section
variable {w0 w w' : World} {p bw bk pr n : Nat} {LA LR : List HObj} {X : List (Nat × List Value × TypeId)}
theorem HeapA.sort (h : HeapA w p bw bk n LA) {x : Nat} (hx : x ∈ [p, bw, bk]) : ∃ cs t, Blk w x cs t ∧ (t = 72 ∨ t = 31 ∨ t = 5) := by
  obtain ⟨_, _, _, ws, hm, _⟩ := h
  simp only [List.mem_cons, List.not_mem_nil, or_false] at hx
  rcases hx with rfl | rfl | rfl
  · exact ⟨_, _, hm.hp, .inl rfl⟩
  · exact ⟨_, _, hm.hw, .inr (.inl rfl)⟩
  · exact ⟨_, _, hm.hk, .inr (.inr rfl)⟩
theorem RHeap.sort {base : Nat} {v : Value} {bs : List Nat} (h : RHeap w pr n base LR v bs) {x : Nat} (hx : x = pr ∨ v.ownBlock = some x ∨ x ∈ bs) : ∃ cs t, Blk w x cs t ∧ (t = 66 ∨ t = 61 ∨ t = 30) := by
  rcases hx with rfl | hx | hx
  · exact ⟨_, _, h.hp, .inl rfl⟩
  · rcases h.own.2 with ⟨e, _⟩ | ⟨g, cap, cur, e, _, hh, _⟩
    · rw [e] at hx; cases hx
    · rw [e] at hx
      have : g = x := by simpa [Value.ownBlock] using hx
      subst this
      exact ⟨cur.toList, _, by unfold Blk; simpa using hh, .inr (.inl rfl)⟩
  · obtain ⟨i, hi, rfl⟩ := List.getElem_of_mem hx
    have hi2 : i < LR.length := by rw [← h.bodies.len]; exact hi
    exact ⟨_, _, h.bodies.blk i _ _ (List.getElem?_eq_getElem hi2) (List.getElem?_eq_getElem hi), .inr (.inr rfl)⟩
theorem apart {base : Nat} {v : Value} {bs : List Nat} (hA : HeapA w p bw bk n LA) (hR : RHeap w pr n base LR v bs) {x : Nat} (hx : x ∈ [p, bw, bk]) (hy : x = pr ∨ v.ownBlock = some x ∨ x ∈ bs) : False := by
  obtain ⟨cs, t, hb, ht⟩ := hA.sort hx
  obtain ⟨cs', t', hb', ht'⟩ := hR.sort hy
  have e := (hb.inj hb').2
  rcases ht with rfl | rfl | rfl <;> rcases ht' with rfl | rfl | rfl <;> exact absurd e (by decide)
theorem Two.step (h : Two w0 w p bw bk pr n X LA LR) (hu : Upd [] w w') : Two w0 w' p bw bk pr n X LA LR := by
  obtain ⟨v, bs, r, hb⟩ := h.R
  exact ⟨h.A.upd0 hu, ⟨v, bs, r.upd0 hu, hb⟩, h.upd.then hu, h.f1, h.f2, h.f3, h.f4, fun x hx => ⟨hu.blk (h.ex x hx).1 (by simp), (h.ex x hx).2⟩⟩
theorem Two.a {LA' : List HObj} (h : Two w0 w p bw bk pr n X LA LR) (hA : HeapA w' p bw bk n LA') (hu : Upd [p, bw, bk] w w') : Two w0 w' p bw bk pr n X LA' LR := by
  obtain ⟨v, bs, r, hb⟩ := h.R
  have f1 := h.f1
  have f2 := h.f2
  have f3 := h.f3
  refine ⟨hA, ⟨v, bs, r.upd hu ?_ ?_ ?_, hb⟩, h.upd.fresh hu ?_, h.f1, h.f2, h.f3, h.f4, fun x hx => ⟨hu.blk (h.ex x hx).1 (fun hy => ?_), (h.ex x hx).2⟩⟩
  rotate_left 4
  · obtain ⟨cs, t, hb, ht⟩ := h.A.sort hy
    have e := (hb.inj (h.ex x hx).1).2
    have := (h.ex x hx).2
    rw [← e] at this
    rcases ht with rfl | rfl | rfl <;> simp at this
  · exact fun hx => apart h.A r hx (.inl rfl)
  · exact fun g hg hx => apart h.A r hx (.inr (.inl hg))
  · exact fun b hb hx => apart h.A r hx (.inr (.inr hb))
  · intro x hx
    simp only [List.mem_cons, List.not_mem_nil, or_false] at hx
    omega
theorem Two.r {LR' : List HObj} {v v' : Value} {bs bs' : List Nat} {S : List Nat} (h : Two w0 w p bw bk pr n X LA LR) (r : RHeap w pr n w0.heap.size LR v bs) (hb : ∀ b, b ∈ bs → w0.heap.size ≤ b)
    (r' : RHeap w' pr n w0.heap.size LR' v' bs') (hb' : ∀ b, b ∈ bs' → w0.heap.size ≤ b) (hu : Upd S w w') (hS : ∀ x, x ∈ S → x = pr ∨ x ∈ bs) : Two w0 w' p bw bk pr n X LA LR' := by
  have f4 := h.f4
  have hn : ∀ x, x ∈ [p, bw, bk] → x ∉ S := fun x hx hs => apart h.A r hx (by rcases hS x hs with e | e; exact .inl e; exact .inr (.inr e))
  refine ⟨h.A.upd hu (hn _ (by simp)) (hn _ (by simp)) (hn _ (by simp)), ⟨v', bs', r', hb'⟩, h.upd.fresh hu ?_, h.f1, h.f2, h.f3, h.f4, fun x hx => ⟨hu.blk (h.ex x hx).1 (fun hy => ?_), (h.ex x hx).2⟩⟩
  · intro x hx
    rcases hS x hx with rfl | e
    · exact h.f4
    · exact hb x e
  · have := (h.ex x hx).2
    rcases hS _ hy with e | e
    · have e2 := ((h.ex x hx).1.inj (e ▸ r.hp)).2
      rw [e2] at this
      simp at this
    · obtain ⟨i, hi, he⟩ := List.getElem_of_mem e
      have hi2 : i < LR.length := by rw [← r.bodies.len]; exact hi
      have B := r.bodies.blk i _ _ (List.getElem?_eq_getElem hi2) (List.getElem?_eq_getElem hi)
      rw [he] at B
      have e2 := ((h.ex x hx).1.inj B).2
      rw [e2] at this
      simp at this
theorem Two.put (h : Two w0 w p bw bk pr n X LA LR) {b : Nat} {cs : List Value} {t : TypeId} (B : Blk w b cs t) (ht : t ∉ [72, 31, 5, 66, 30]) : Two w0 w p bw bk pr n ((b, cs, t) :: X) LA LR :=
  ⟨h.A, h.R, h.upd, h.f1, h.f2, h.f3, h.f4, fun x hx => by
    rcases List.mem_cons.1 hx with rfl | hx
    · exact ⟨B, ht⟩
    · exact h.ex x hx⟩
theorem Two.drop (h : Two w0 w p bw bk pr n X LA LR) : Two w0 w p bw bk pr n [] LA LR := ⟨h.A, h.R, h.upd, h.f1, h.f2, h.f3, h.f4, fun _ hx => by cases hx⟩
theorem Two.box (h : Two w0 w p bw bk pr n X LA LR) {b : Nat} {cs : List Value} {t : TypeId} (hx : (b, cs, t) ∈ X) : Blk w b cs t := (h.ex _ hx).1
theorem Two.c0 (h : Two w0 w p bw bk pr n X LA LR) : w.cell? ⟨pr, 0, none⟩ = some (.int .i64 n) := by
  obtain ⟨v, bs, r, hb⟩ := h.R
  exact r.cells.1

instance (L : List HObj) (n : Nat) (k m : Int) : Decidable (fits L n k m) := by unfold fits; infer_instance
def allocN (L : List HObj) (n : Nat) (k m : Int) : Int := if fits L n k m then HeapM.used L + 1 else 0
def allocB (L : List HObj) (n : Nat) (k m : Int) : Bool := decide (fits L n k m)
def allocL (L : List HObj) (n : Nat) (k m : Int) : List HObj := if fits L n k m then L ++ [(k, List.replicate m.toNat 0)] else L

/-! ### What each call does to the two -/
theorem two_alloc (h : Two w0 w p bw bk pr n X LA LR) (k m : Int) : Calls Try.prog 16 #[hptr p, .int .i64 k, .int .i64 m] w fun e w' =>
    e = .returned (.tuple #[.int .i64 (allocN LA n k m), .bool (allocB LA n k m)]) ∧ Two w0 w' p bw bk pr n X (allocL LA n k m) LR := by
  unfold allocN allocB allocL
  by_cases hf : fits LA n k m
  · rw [if_pos hf, if_pos hf, decide_eq_true hf]
    exact (alloc_I h.A k m hf _ rfl).mono fun _ _ ⟨he, hA, hu⟩ => ⟨he, h.a hA hu⟩
  · rw [if_neg hf, if_neg hf, decide_eq_false hf]
    exact (alloc_full h.A k m hf).mono fun _ _ ⟨he, d, hw⟩ => ⟨he, h.step (hw ▸ (Upd.refl [] w).drewN d)⟩
theorem two_set (h : Two w0 w p bw bk pr n X LA LR) (r i x : Int) (hx : 0 ≤ x ∧ x < 18446744073709551616) : Calls Try.prog 27 #[hptr p, .int .i64 r, .int .i64 i, .int .u64 x] w fun e w' =>
    e = .returned (.bool (getR LA r i).isSome) ∧ Two w0 w' p bw bk pr n X (setR LA r i x) LR :=
  (set_calls h.A r i x hx).mono fun _ _ ⟨he, hA, hu⟩ => ⟨he, h.a hA (hu.mono (by intro y hy _; simp at hy; simp [hy]))⟩
theorem two_rset (h : Two w0 w p bw bk pr n X LA LR) (r i x : Int) (hx : 0 ≤ x ∧ x < 18446744073709551616) : Calls Try.prog 37 #[rptr pr, .int .i64 r, .int .i64 i, .int .u64 x] w fun e w' =>
    e = .returned (.bool (getR LR r i).isSome) ∧ Two w0 w' p bw bk pr n X LA (setR LR r i x) := by
  obtain ⟨v, bs, hr, hb⟩ := h.R
  exact (rset_calls hr r i x hx).mono fun _ _ ⟨he, hR, hu⟩ => ⟨he, h.r hr hb hR hb hu (fun y hy => .inr hy)⟩
theorem two_get (h : Two w0 w p bw bk pr n X LA LR) (r i : Int) : Calls Try.prog 26 #[hptr p, .int .i64 r, .int .i64 i] w fun e w' =>
    e = .returned (.tuple #[.int .u64 ((getR LA r i).getD 0), .bool (getR LA r i).isSome]) ∧ Two w0 w' p bw bk pr n X LA LR :=
  (get_calls h.A r i).mono fun _ _ ⟨he, hw⟩ => ⟨he, hw ▸ h⟩
theorem two_rget (h : Two w0 w p bw bk pr n X LA LR) (r i : Int) : Calls Try.prog 38 #[rptr pr, .int .i64 r, .int .i64 i] w fun e w' =>
    e = .returned (.tuple #[.int .u64 ((getR LR r i).getD 0), .bool (getR LR r i).isSome]) ∧ Two w0 w' p bw bk pr n X LA LR := by
  obtain ⟨v, bs, hr, hb⟩ := h.R
  exact (rget_calls hr r i).mono fun _ _ ⟨he, hu⟩ => ⟨he, h.step hu⟩
theorem two_kind (h : Two w0 w p bw bk pr n X LA LR) (r : Int) : Calls Try.prog 25 #[hptr p, .int .i64 r] w fun e w' =>
    e = .returned (.int .i64 (kindR LA r)) ∧ Two w0 w' p bw bk pr n X LA LR :=
  (kind_calls h.A r).mono fun _ _ ⟨he, hw⟩ => ⟨he, hw ▸ h⟩
theorem two_len (h : Two w0 w p bw bk pr n X LA LR) (r : Int) : Calls Try.prog 24 #[hptr p, .int .i64 r] w fun e w' =>
    e = .returned (.int .i64 (lenR LA r)) ∧ Two w0 w' p bw bk pr n X LA LR :=
  (len_calls h.A r).mono fun _ _ ⟨he, hw⟩ => ⟨he, hw ▸ h⟩
theorem two_used (h : Two w0 w p bw bk pr n X LA LR) : Calls Try.prog 17 #[hptr p] w fun e w' =>
    e = .returned (.int .i64 (HeapM.used LA)) ∧ Two w0 w' p bw bk pr n X LA LR :=
  (used_A h.A _ rfl).mono fun _ _ ⟨he, hw⟩ => ⟨he, hw ▸ h⟩
theorem two_words (h : Two w0 w p bw bk pr n X LA LR) : Calls Try.prog 41 #[hptr p] w fun e w' =>
    e = .returned (.int .i64 n) ∧ Two w0 w' p bw bk pr n X LA LR :=
  (words_A h.A).mono fun _ _ ⟨he, hw⟩ => ⟨he, hw ▸ h⟩
theorem two_rused (h : Two w0 w p bw bk pr n X LA LR) : Calls Try.prog 40 #[rptr pr] w fun e w' =>
    e = .returned (.int .i64 (HeapM.used LR)) ∧ Two w0 w' p bw bk pr n X LA LR := by
  obtain ⟨v, bs, hr, hb⟩ := h.R
  exact (rused_calls hr).mono fun _ _ ⟨he, hu⟩ => ⟨he, h.step hu⟩
/-- What At gives: kind and words' number. -/
theorem two_rat (h : Two w0 w p bw bk pr n X LA LR) (r : Int) : Calls Try.prog 39 #[rptr pr, .int .i64 r] w fun e w' =>
    (∃ z a ok, e = .returned (.tuple #[.agg #[.int .i64 z, .int .i64 (kindR LR r), .slice a (lenR LR r) (lenR LR r)], .bool ok])) ∧ Two w0 w' p bw bk pr n X LA LR := by
  obtain ⟨v, bs, hr, hb⟩ := h.R
  refine (rat_calls hr r).mono ?_
  rintro e w' ⟨⟨v, rfl, hv⟩, hu⟩
  refine ⟨?_, h.step hu⟩
  rcases hv with ⟨i, o, ho, hr, ho2, rfl⟩ | ⟨ho, rfl⟩
  · unfold kindR lenR
    rw [ho2]
    exact ⟨_, _, _, rfl⟩
  · unfold kindR lenR
    rw [ho]
    exact ⟨_, _, _, rfl⟩
theorem two_objects (h : Two w0 w p bw bk pr n X LA LR) : Calls Try.prog 43 #[hptr p] w (ObjPost LA w) := objects_calls h.A
theorem two_robjects (h : Two w0 w p bw bk pr n X LA LR) : Calls Try.prog 44 #[rptr pr] w (ObjPost LR w) := by
  obtain ⟨v, bs, hr, hb⟩ := h.R
  exact robjects_calls hr
end
end Go.Proofs.Ytkbnkpllbgofhaa
