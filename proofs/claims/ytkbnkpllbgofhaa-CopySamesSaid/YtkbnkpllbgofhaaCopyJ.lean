/-
  Copy: the document's Collect.
-/
import Derived.Test.YtkbnkpllbgofhaaCopyI
namespace Go.Proofs.Ytkbnkpllbgofhaa
open Go.RowKit HeapM

theorem ralloc_any {w : World} {p n base : Nat} {L : List HObj} {v : Value} {bs : List Nat} (h : RHeap w p n base L v bs) (hbase : base ≤ w.heap.size) (k : Int) (m : Nat) (hf : fits L n k m) :
    Calls Try.prog 36 #[rptr p, .int .i64 k, .int .i64 m] w fun e w' => ∃ v' mk, e = .returned (.tuple #[.int .i64 ((HeapM.used L : Int) + 1), .bool true]) ∧ RHeap w' p n base (L ++ [(k, List.replicate m 0)]) v' (bs ++ [mk]) ∧ Upd [p] w w' ∧ w.heap.size ≤ mk := by
  obtain ⟨k', rfl⟩ : ∃ k' : Nat, k = k' := ⟨k.toNat, by have := hf.1; omega⟩
  have hc : Calls Try.prog 36 #[rptr p, .int .i64 k', .int .i64 m] w (RAllocPost p n base L bs k' m w) := by
    rcases Nat.eq_zero_or_pos L.length with hL | hL
    · exact ralloc_first h hbase k' m hf (List.length_eq_zero_iff.1 hL)
    · exact ralloc_more h hbase k' m hf hL
  exact hc.mono fun _ _ ⟨v', mk, h1, h2, h3, h4, _⟩ => ⟨v', mk, h1, h2, h3, h4⟩
/-- What the document's Collect holds. -/
structure RCol (w0 w : World) (B1 px n : Nat) (X : List HObj) (v : Value) (bs : List Nat) (a : Option Addr) (R : List Int) (lv : Value) (at_ : List Int) : Prop where
  x : RHeap w px n w0.heap.size X v bs
  fb : ∀ b, b ∈ bs → w0.heap.size ≤ b
  fp : w0.heap.size ≤ px
  upd : Upd [] w0 w
  row : SlI w .i64 a R
  rowt : ∀ b o, a = some ⟨b, o, none⟩ → (∃ cs, Blk w b cs 3) ∧ b < B1
  hB : w0.heap.size ≤ B1
  own : w.ownsRow B1 3 1 lv at_.length (at_.map (.int .i64))
  hle : B1 ≤ w.heap.size
section
variable {w0 w w' : World} {B1 px n : Nat} {X X' : List HObj} {v v' : Value} {bs bs' : List Nat} {a : Option Addr} {R at_ at2 : List Int} {lv lv2 : Value}
theorem RCol.step (h : RCol w0 w B1 px n X v bs a R lv at_) (hu : Upd [] w w') : RCol w0 w' B1 px n X v bs a R lv at_ :=
  ⟨h.x.upd0 hu, h.fb, h.fp, h.upd.then hu, h.row.upd0 hu, fun b o e => by
    obtain ⟨⟨cs, B⟩, hl⟩ := h.rowt b o e
    exact ⟨⟨cs, hu.blk B (by simp)⟩, hl⟩, h.hB, own_upd0 h.own hu, Nat.le_trans h.hle hu.size⟩
/-- The new heap has changed, in these blocks. -/
theorem RCol.xs (h : RCol w0 w B1 px n X v bs a R lv at_) (hx : RHeap w' px n w0.heap.size X' v' bs') (hb : ∀ b, b ∈ bs' → w0.heap.size ≤ b) {S : List Nat} (hu : Upd S w w') (hS : ∀ k, k ∈ S → k = px ∨ k ∈ bs) : RCol w0 w' B1 px n X' v' bs' a R lv at_ := by
  have hS0 : ∀ k, k ∈ S → w0.heap.size ≤ k := fun k hk => by
    rcases hS k hk with e | e
    · rw [e]; exact h.fp
    · exact h.fb k e
  have hT : ∀ {b cs}, Blk w b cs 3 → b ∉ S := by
    intro b cs B hk
    obtain ⟨cs', t', B', e⟩ := h.x.sort (x := b) (by rcases hS b hk with e | e; exact .inl e; exact .inr (.inr e))
    have := (B.inj B').2
    subst this
    rcases e with e | e | e <;> exact absurd e (by decide)
  exact ⟨hx, hb, h.fp, h.upd.fresh hu hS0, h.row.upd hu (fun b o e => by
    obtain ⟨⟨cs, B⟩, _⟩ := h.rowt b o e
    exact hT B), fun b o e => by
      obtain ⟨⟨cs, B⟩, hl⟩ := h.rowt b o e
      exact ⟨⟨cs, hu.blk B (hT B)⟩, hl⟩, h.hB, own_upd h.own hu (fun g hg => by
      obtain ⟨cs, B⟩ := own_blk h.own hg
      exact hT B), Nat.le_trans h.hle hu.size⟩
/-- The list has grown. -/
theorem RCol.grow (h : RCol w0 w B1 px n X v bs a R lv at_) {S : List Nat} (hu : Upd S w w') (hS : ∀ k, k ∈ S → lv.ownBlock = some k) (ho : w'.ownsRow B1 3 1 lv2 at2.length (at2.map (.int .i64))) : RCol w0 w' B1 px n X v bs a R lv2 at2 := by
  have hne : ∀ b o, a = some ⟨b, o, none⟩ → b ∉ S := by
    intro b o e hk
    have h1 := (h.rowt b o e).2
    have h2 := (h.own.lt b (hS b hk)).1
    omega
  have hB := h.hB
  have hT : ∀ {b cs t}, Blk w b cs t → t ≠ 3 → b ∉ S := by
    intro b cs t B hn hk
    obtain ⟨cs', B'⟩ := own_blk h.own (hS b hk)
    exact hn (B.inj B').2
  have hx : ∀ y, (y = px ∨ v.ownBlock = some y ∨ y ∈ bs) → y ∉ S := by
    intro y hy
    obtain ⟨cs', t', B', e⟩ := h.x.sort hy
    exact hT B' (by rcases e with e | e | e <;> rw [e] <;> decide)
  exact ⟨h.x.upd hu (hx _ (.inl rfl)) (fun g hg => hx _ (.inr (.inl hg))) (fun b hb => hx _ (.inr (.inr hb))), h.fb, h.fp, h.upd.fresh hu (fun k hk => by have := (h.own.lt k (hS k hk)).1; omega), h.row.upd hu hne, fun b o e => by
      obtain ⟨⟨cs, B⟩, hl⟩ := h.rowt b o e
      exact ⟨⟨cs, hu.blk B (hne b o e)⟩, hl⟩, h.hB, ho, Nat.le_trans h.hle hu.size⟩
end
end Go.Proofs.Ytkbnkpllbgofhaa
