/-
  Texts of this claim, merged: Base, Args, Sized. Lemmas and contracts; no conditions of our own.
-/
import Derived.WalkKit
import Derived.WalkSpells
import Derived.WalkLawsBesides
import Derived.Deep.QuietTactic
import Derived.Deep.OwnRows
import Derived.BigQuiet
import Derived.Lib.Hide
import Derived.KernelRfl
import Derived.OpenShut
import Derived.Maps.AppendAt
import Derived.ProofKit
import Derived.Deep.Slices
import Derived.SizedLaws

/-
  Blocks of cells in a world, and what a call may have changed: small lemmas over any program.
-/
namespace Go.Proofs.YtknbgbeepachgaaDoor
open Go.RowKit

/-! ### A block of cells -/
/-- Block b holds these cells, none of them frozen. -/
def Blk (w : World) (b : Nat) (cs : List Value) (t : TypeId) : Prop := w.heap[b]? = some (.cells cs.toArray t (0, 0))

theorem Blk.cell {w : World} {b : Nat} {cs : List Value} {t : TypeId} (h : Blk w b cs t) (i : Nat) : w.cell? ⟨b, i, none⟩ = cs[i]? := by
  unfold Blk at h
  simp [World.cell?, h]
theorem Blk.cell_some {w : World} {b : Nat} {cs : List Value} {t : TypeId} (h : Blk w b cs t) {i : Nat} {v : Value} (hi : cs[i]? = some v) : w.cell? ⟨b, i, none⟩ = some v := by rw [h.cell, hi]
theorem Blk.free {w : World} {b : Nat} {cs : List Value} {t : TypeId} (h : Blk w b cs t) (i : Nat) : w.frozen? ⟨b, i, none⟩ = false := by
  unfold Blk at h
  simp [World.frozen?, h]
theorem Blk.lt {w : World} {b : Nat} {cs : List Value} {t : TypeId} (h : Blk w b cs t) : b < w.heap.size := (Array.getElem?_eq_some_iff.1 h).1
theorem Blk.set {w : World} {b : Nat} {cs : List Value} {t : TypeId} (h : Blk w b cs t) (i : Nat) (v : Value) : Blk (w.setCell ⟨b, i, none⟩ v) b (cs.set i v) t := by
  unfold Blk at *
  rw [heap_setCell_same w b i _ t v h]
  simp
theorem Blk.set_other {w : World} {b : Nat} {cs : List Value} {t : TypeId} (h : Blk w b cs t) {a : Addr} (v : Value) (hne : b ≠ a.block) : Blk (w.setCell a v) b cs t := by
  unfold Blk at *
  rw [heap_setCell_other w a b v hne]
  exact h
theorem Blk.alloc {w : World} {b : Nat} {cs : List Value} {t : TypeId} (h : Blk w b cs t) (o : Obj) : Blk (w.alloc o) b cs t := by
  have := h.lt
  unfold Blk at *
  rw [Below.heap_alloc w o b this]
  exact h
theorem Blk.new (w : World) (cs : List Value) (t : TypeId) : Blk (w.alloc (.cells cs.toArray t)) w.heap.size cs t := heap_alloc_new w _
theorem Blk.new' (w : World) (c : Array Value) (t : TypeId) : Blk (w.alloc (.cells c t)) w.heap.size c.toList t := by
  have := heap_alloc_new w (.cells c t)
  unfold Blk
  simpa using this
theorem Blk.newAt {w : World} {b : Nat} {c : Array Value} {t : TypeId} (hb : b = w.heap.size) : Blk (w.alloc (.cells c t)) b c.toList t := hb ▸ Blk.new' w c t
theorem Blk.drew {w : World} {b : Nat} {cs : List Value} {t : TypeId} (h : Blk w b cs t) : Blk w.drew b cs t := h
theorem Blk.drewN {w : World} {b : Nat} {cs : List Value} {t : TypeId} (h : Blk w b cs t) (n : Nat) : Blk (w.drewN n) b cs t := h
theorem Blk.of_eq {w w' : World} {b : Nat} {cs : List Value} {t : TypeId} (h : Blk w b cs t) (e : w'.heap[b]? = w.heap[b]?) : Blk w' b cs t := by
  unfold Blk at *
  rw [e]
  exact h
theorem Blk.inj {w : World} {b : Nat} {cs cs' : List Value} {t t' : TypeId} (h : Blk w b cs t) (h' : Blk w b cs' t') : cs = cs' ∧ t = t' := by
  unfold Blk at *
  rw [h] at h'
  injection h' with h'
  injection h' with h1 h2
  exact ⟨by simpa using h1, h2⟩
/-- Blocks of two element types are two. -/
theorem Blk.ne {w : World} {b b' : Nat} {cs cs' : List Value} {t t' : TypeId} (h : Blk w b cs t) (h' : Blk w b' cs' t') (hne : t ≠ t') : b ≠ b' := by
  rintro rfl
  exact hne (h.inj h').2

/-! ### What may have changed -/
/-- Of the blocks that were there only those of S may have changed. -/
structure Upd (S : List Nat) (w w' : World) : Prop where
  os : w'.os = w.os
  tape : w'.tape = w.tape
  output : w'.output = w.output
  size : w.heap.size ≤ w'.heap.size
  block : ∀ k, k < w.heap.size → k ∉ S → w'.heap[k]? = w.heap[k]?

theorem Upd.refl (S : List Nat) (w : World) : Upd S w w := ⟨rfl, rfl, rfl, Nat.le_refl _, fun _ _ _ => rfl⟩
theorem Upd.trans {S T : List Nat} {a b c : World} (h : Upd S a b) (k : Upd T b c) (hT : ∀ x, x ∈ T → x < a.heap.size → x ∈ S) : Upd S a c :=
  ⟨k.os.trans h.os, k.tape.trans h.tape, k.output.trans h.output, Nat.le_trans h.size k.size, fun i hi hn => (k.block i (Nat.lt_of_lt_of_le hi h.size) (fun hx => hn (hT i hx hi))).trans (h.block i hi hn)⟩
theorem Upd.then {S : List Nat} {a b c : World} (h : Upd S a b) (k : Upd S b c) : Upd S a c := h.trans k (fun _ hx _ => hx)
theorem Upd.then0 {S : List Nat} {a b c : World} (h : Upd S a b) (k : Upd [] b c) : Upd S a c := h.trans k (fun _ hx _ => by cases hx)
theorem Upd.mono {S T : List Nat} {a b : World} (h : Upd S a b) (hT : ∀ x, x ∈ S → x < a.heap.size → x ∈ T) : Upd T a b :=
  ⟨h.os, h.tape, h.output, h.size, fun k hk hn => h.block k hk (fun hx => hn (hT k hx hk))⟩
theorem Upd.drew {S : List Nat} {a b : World} (h : Upd S a b) : Upd S a b.drew := ⟨h.os, h.tape, h.output, h.size, h.block⟩
theorem Upd.drewN {S : List Nat} {a b : World} (h : Upd S a b) (n : Nat) : Upd S a (b.drewN n) := ⟨h.os, h.tape, h.output, h.size, h.block⟩
theorem Upd.alloc {S : List Nat} {a b : World} (h : Upd S a b) (o : Obj) : Upd S a (b.alloc o) :=
  h.trans (T := []) ⟨rfl, rfl, rfl, by simp, fun k hk _ => Below.heap_alloc _ _ _ hk⟩ (fun _ hx _ => by cases hx)
theorem Upd.setCell {S : List Nat} {a b : World} (h : Upd S a b) {p : Addr} (v : Value) (hp : p.block ∈ S ∨ a.heap.size ≤ p.block) : Upd S a (b.setCell p v) :=
  h.trans (T := [p.block]) ⟨rfl, rfl, rfl, by simp [World.setCell], fun k hk hn => Below.heap_setCell _ _ _ _ (by simpa using hn)⟩ (fun x hx hlt => by
    have : x = p.block := by simpa using hx
    subst this
    rcases hp with hp | hp
    · exact hp
    · omega)
theorem Upd.below {a b : World} (h : Upd [] a b) : Below a.heap.size a b := ⟨h.os, h.tape, h.output, h.size, fun k hk => h.block k hk (by simp)⟩
theorem Upd.of_below {B : Nat} {a b : World} (h : Below B a b) (hB : a.heap.size ≤ B) (S : List Nat) : Upd S a b := ⟨h.os, h.tape, h.output, h.size, fun k hk _ => h.block k (by omega)⟩
theorem Upd.blk {S : List Nat} {a b : World} (h : Upd S a b) {k : Nat} {cs : List Value} {t : TypeId} (hb : Blk a k cs t) (hn : k ∉ S) : Blk b k cs t := hb.of_eq (h.block k hb.lt hn)
theorem Upd.cell {S : List Nat} {a b : World} (h : Upd S a b) {p : Addr} {v : Value} (hc : a.cell? p = some v) (hn : p.block ∉ S) : b.cell? p = some v :=
  (World.cell?_of_block (w := a) (h.block p.block (World.block_lt_of_cell? a p hc) hn)).trans hc
theorem Upd.frozen {S : List Nat} {a b : World} (h : Upd S a b) {p : Addr} (hp : p.block < a.heap.size) (hn : p.block ∉ S) : b.frozen? p = a.frozen? p :=
  World.frozen?_of_block (w := a) (h.block p.block hp hn)

/-! ### A run of cells written -/
/-- These cells, vs written from the o-th on. -/
def over (cs : List Value) (o : Nat) (vs : List Value) : List Value := cs.take o ++ vs ++ cs.drop (o + vs.length)
theorem over_nil (cs : List Value) (o : Nat) : over cs o [] = cs := by simp [over]
theorem set_over (cs : List Value) (o : Nat) (v : Value) (vs : List Value) (h : o < cs.length) : over (cs.set o v) (o + 1) vs = over cs o (v :: vs) := by
  unfold over
  rw [List.take_set, List.take_succ_eq_append_getElem h, List.set_append_right _ _ (by simp; omega)]
  rw [List.length_take, Nat.min_eq_left (by omega), Nat.sub_self]
  simp only [List.set_cons_zero, List.append_assoc, List.cons_append, List.nil_append, List.length_cons]
  rw [List.drop_set_of_lt (by omega), show o + 1 + vs.length = o + (vs.length + 1) by omega]
theorem Blk.setCells {b : Nat} {t : TypeId} : ∀ (vs : List Value) {w : World} {cs : List Value} (o : Nat), Blk w b cs t → o + vs.length ≤ cs.length → Blk (w.setCells b o vs) b (over cs o vs) t
  | [], w, cs, o, h, _ => by rw [over_nil]; exact h
  | v :: vs, w, cs, o, h, hl => by
    rw [← set_over cs o v vs (by simp at hl; omega)]
    exact Blk.setCells vs (o + 1) (h.set o v) (by simp at hl ⊢; omega)
theorem Blk.setCells_other {b : Nat} {t : TypeId} : ∀ (vs : List Value) {w : World} {cs : List Value} {b' : Nat} (o : Nat), Blk w b cs t → b ≠ b' → Blk (w.setCells b' o vs) b cs t
  | [], _, _, _, _, h, _ => h
  | v :: vs, _, _, _, o, h, hne => Blk.setCells_other vs (o + 1) (h.set_other v hne) hne
theorem Upd.setCells {S : List Nat} {a : World} : ∀ (vs : List Value) {b : World} {g : Nat} (o : Nat), Upd S a b → (g ∈ S ∨ a.heap.size ≤ g) → Upd S a (b.setCells g o vs)
  | [], _, _, _, h, _ => h
  | v :: vs, _, _, o, h, hg => Upd.setCells vs (o + 1) (h.setCell v hg) hg
theorem run_clear_none {P : Program} (t e ty : TypeId) (ht : P.underlying t = some (.slice e)) (a : Option Addr) (c : Nat) (w : World) :
    (Builtin.clear_ #[t] ty #[.slice a 0 c]).run P w = .ok (.tuple #[]) w := by
  cases a <;> simp [Builtin.clear_, run_underlying ht, go_sem]
theorem replicate_plus {α : Type} (a b : Nat) (x : α) : List.replicate (a + b) x = List.replicate a x ++ List.replicate b x := by
  apply List.ext_getElem?
  intro i
  rw [List.getElem?_append]
  simp only [List.getElem?_replicate, List.length_replicate]
  split <;> split <;> first | rfl | omega | skip
  · rw [if_pos (by omega)]
  · rw [if_neg (by omega)]

theorem map_int_set (k : IntKind) (l : List Int) (i : Nat) (x : Int) : (l.map (Value.int k)).set i (.int k x) = (l.set i x).map (Value.int k) := by rw [List.map_set]
theorem map_int_get (k : IntKind) (l : List Int) (i : Nat) : (l.map (Value.int k))[i]? = l[i]?.map (Value.int k) := by simp

/-- An argument that reads as data. -/
def ArgIs (P : Program) (w : World) (t : TypeId) (v : Value) : Prop :=
  ∃ (H : Type) (enc : TypeId × Value → H) (d : DataW H) (ps : List MemPlace), DataW.Trod enc P w 0 (fun _ => true) true t v d ps ∧ ∃ base, Value.okWide P w .any base t v

theorem ret_int {k : IntKind} {a b : Int} (h : a = b) : Ending.returned (.int k a) = .returned (.int k b) := by rw [h]
theorem ret_bool {a b : Bool} (h : a = b) : Ending.returned (.bool a) = .returned (.bool b) := by rw [h]
/-- A slice of whole numbers that reads as xs. -/
def SlI (w : World) (k : IntKind) (a : Option Addr) (xs : List Int) : Prop :=
  ∀ i, i < xs.length → ∃ b o, a = some ⟨b, o, none⟩ ∧ w.cell? ⟨b, o + i, none⟩ = some (.int k (xs.getD i 0))
theorem SlI.upd {w w' : World} {k : IntKind} {a : Option Addr} {xs : List Int} (h : SlI w k a xs) {S : List Nat} (hu : Upd S w w') (hS : ∀ b o, a = some ⟨b, o, none⟩ → b ∉ S) : SlI w' k a xs := by
  intro i hi
  obtain ⟨b, o, e, hc⟩ := h i hi
  exact ⟨b, o, e, hu.cell hc (hS _ _ e)⟩
theorem SlI.upd0 {w w' : World} {k : IntKind} {a : Option Addr} {xs : List Int} (h : SlI w k a xs) (hu : Upd [] w w') : SlI w' k a xs := h.upd hu (by simp)
theorem SlI.of_blk {w : World} {k : IntKind} {b : Nat} {xs : List Int} {t : TypeId} {rest : List Value} (h : Blk w b (xs.map (.int k) ++ rest) t) : SlI w k (some ⟨b, 0, none⟩) xs := by
  intro i hi
  refine ⟨b, 0, rfl, h.cell_some ?_⟩
  rw [Nat.zero_add, List.getElem?_append_left (by simpa using hi), map_int_get, List.getElem?_eq_getElem hi, List.getD_eq_getElem?_getD, List.getElem?_eq_getElem hi]
  rfl
/-- The first place of a number; -1: it is not there. -/
def place (xs : List Int) (x : Int) : Int := if x ∈ xs then (xs.idxOf x : Int) else -1
theorem place_at {xs : List Int} {x : Int} {j : Nat} (h : ∀ i, i < j → xs.getD i 0 ≠ x) (hj : j < xs.length) (e : xs.getD j 0 = x) : place xs x = j := by
  have hx : xs[j] = x := by simpa [List.getD_eq_getElem?_getD, hj] using e
  have hm : x ∈ xs := hx ▸ List.getElem_mem hj
  have hle : xs.idxOf x = j := by
    have h1 := List.idxOf_lt_length_iff.2 hm
    rcases Nat.lt_trichotomy (xs.idxOf x) j with h3 | h3 | h3
    · exact absurd (by simp [List.getD_eq_getElem?_getD, h1]) (h _ h3)
    · exact h3
    · exfalso
      have := List.not_of_lt_findIdx (p := (· == x)) (xs := xs) (i := j) h3
      simp [hx] at this
  unfold place
  rw [if_pos hm, hle]
theorem place_none {xs : List Int} {x : Int} (h : ∀ i, i < xs.length → xs.getD i 0 ≠ x) : place xs x = -1 := by
  unfold place
  rw [if_neg]
  intro hm
  obtain ⟨i, hi, e⟩ := List.getElem_of_mem hm
  exact h i hi (by simpa [List.getD_eq_getElem?_getD, hi] using e)
theorem place_nonneg (xs : List Int) (x : Int) : decide (0 ≤ place xs x) = decide (x ∈ xs) := by
  unfold place
  split <;> simp_all

/-- Behind an append: the row that grew, and all else. -/
theorem Upd.of_grown {S : List Nat} {a b : World} {row : Option Nat} (h : a.grownBy b row) (hr : ∀ k, row = some k → k ∈ S) : Upd S a b :=
  ⟨h.os, h.tape, h.output, h.size, fun k hk hn => h.block k hk (fun e => hn (hr k e.symm))⟩
theorem own_row {w : World} {base : Nat} {e : TypeId} {size : Nat} {v : Value} {n : Nat} {xs : List Value} (h : w.ownsRow base e size v n xs) : ∃ row, base ≤ row ∧ ∀ k, v.ownBlock = some k → k = row := by
  cases hv : v.ownBlock with
  | none => exact ⟨base, Nat.le_refl _, fun k h => by cases h⟩
  | some k => exact ⟨k, (h.lt k hv).1, fun k' h => by injection h with h; exact h.symm⟩
theorem one1 {x : Value} (h : x.oneCell' = true) : ∀ u ∈ [x], u.oneCell' = true := by
  intro u hu
  rw [List.mem_singleton] at hu
  rw [hu]
  exact h
/-- One element, of whatever many cells, appended to a row of one's own. -/
theorem wpList_app {P : Program} {w : World} {ops : Array Oper} {rest : List Oper} {o : Oper} {a : Act} {Q : Exit → Act → World → Prop} (hgd : o.guard = none) (s x : Operand) (t : TypeId)
    (ho : o.op = .call { callee := .builtin .append, args := #[s, x], argTypes := #[t, t] })
    (base : Nat) (e : TypeId) (z : Value) (size bytes : Nat) (ht : P.underlying t = some (.slice e)) (hinfo : (P.info? e).map (fun i => (i.zero, i.size, i.bytes)) = some (some z, size, bytes))
    (hzs : z.cells.size = size) (hsz : 0 < size) (v : Value) (n : Nat) (xs : List Value) (hs : a.eval s = v) (hown : w.ownsRow base e size v n xs)
    (us : List Value) (c : Nat) (hx : a.eval x = .slice (some ⟨w.heap.size, 0, none⟩) 1 c) (hl : us.length = size) (h1 : ∀ u ∈ us, u.oneCell' = true)
    (h63 : n + 1 ≤ maxLen) (hbytes : (n + 1) * bytes ≤ 140737488355328) (hbase : base ≤ w.heap.size)
    (h : ∀ g cap w' S, w'.ownsRow base e size (.slice (some ⟨g, 0, none⟩) (n + 1) cap) (n + 1) (xs ++ us) → Upd S w w' → (∀ k, k ∈ S → v.ownBlock = some k) → (v.ownBlock = some g ∨ g = w.heap.size + 1) →
      wpList P ops Q rest (a.put o.dst (.slice (some ⟨g, 0, none⟩) (n + 1) cap)) w') :
    wpList P ops Q (o :: rest) a (w.alloc (.cells us.toArray e)) := by
  obtain ⟨i, hi, hz0, hz1, hz2⟩ := info_parts hinfo
  refine wpList_append_own_at _ hgd s x t ho base e i z size bytes ht hi hz0 hz1 hz2 hzs hsz v n xs hs (hown.alloc _) ⟨w.heap.size, 0, none⟩ 1 c us hx (by omega) ?_ h1 h63 hbytes (by simp; omega) ?_
  · intro j u hj
    have : (⟨w.heap.size, 0, none⟩ : Addr).add j = ⟨w.heap.size, j, none⟩ := by unfold Addr.add; split <;> simp_all
    rw [this, (Blk.new w us e).cell, hj]
  · intro v' w' hown' hg _ hb'
    have hu : Upd v.ownBlock.toList w w' := ((Upd.refl _ w).alloc _).then (Upd.of_grown hg (fun k hk => by simp [hk]))
    rcases hown'.2 with ⟨rfl, h0⟩ | ⟨g, cap, cur, rfl, _⟩
    · omega
    · exact h g cap w' _ hown' hu (fun k hk => by simpa using hk) (by simpa [Value.ownBlock, eq_comm] using hb')

theorem own_SlI {w : World} {base n : Nat} {e : TypeId} {k : IntKind} {v : Value} {xs : List Int} (h : w.ownsRow base e 1 v n (xs.map (.int k))) : ∃ a c, v = .slice a n c ∧ xs.length = n ∧ SlI w k a xs := by
  have hl : xs.length = n := by have := h.1; simpa using this
  rcases h.2 with ⟨rfl, h0⟩ | ⟨g, cap, cur, rfl, _⟩
  · subst h0
    exact ⟨none, 0, rfl, hl, fun i hi => absurd hi (by omega)⟩
  · refine ⟨_, cap, rfl, hl, fun i hi => ⟨g, 0, rfl, ?_⟩⟩
    have := h.cells (g := g) rfl i (.int k (xs.getD i 0)) (by simp [List.getElem?_eq_getElem hi, List.getD_eq_getElem?_getD])
    rwa [show (⟨g, 0, none⟩ : Addr).add i = ⟨g, 0 + i, none⟩ by unfold Addr.add; split <;> simp_all] at this

theorem own_upd {w w' : World} {base : Nat} {e : TypeId} {size : Nat} {v : Value} {n : Nat} {xs : List Value} (h : w.ownsRow base e size v n xs) {S : List Nat} (hu : Upd S w w') (hS : ∀ g, v.ownBlock = some g → g ∉ S) : w'.ownsRow base e size v n xs := by
  refine ⟨h.1, ?_⟩
  rcases h.2 with hn | ⟨g, cap, cur, rfl, hb, hgg, rest⟩
  · exact .inl hn
  · exact .inr ⟨g, cap, cur, rfl, hb, by rw [hu.block g (Array.getElem?_eq_some_iff.1 hgg).1 (hS g rfl)]; exact hgg, rest⟩
theorem own_upd0 {w w' : World} {base : Nat} {e : TypeId} {size : Nat} {v : Value} {n : Nat} {xs : List Value} (h : w.ownsRow base e size v n xs) (hu : Upd [] w w') : w'.ownsRow base e size v n xs := own_upd h hu (by simp)

end Go.Proofs.YtknbgbeepachgaaDoor

/-
  What an argument reads as, opened type by type: small lemmas over any program.
-/
namespace Go.Proofs.YtknbgbeepachgaaDoor
open Go.RowKit Go.ChangeShapes Go.WideShapes

/-- These cells read as a value of type t, in so many levels. -/
def RdN (P : Program) (w : World) (n : Nat) (t : TypeId) (cs : List Value) : Prop :=
  ∃ (H : Type) (enc : TypeId × Value → H) (base : Nat) (x : DataW H × List MemPlace), DataW.trod enc P w base (fun _ => true) true n t cs = some x

section
variable {P : Program} {w : World} {n : Nat} {t : TypeId} {cs : List Value}
theorem RdN.int {k : IntKind} (ht : P.underlying t = some (.int k)) (h : RdN P w n t cs) : ∃ z, cs = [.int k z] ∧ (Lit.int k z).wf = true := by
  obtain ⟨H, enc, base, x, h⟩ := h
  obtain ⟨z, h1, _, h2⟩ := DataW.trod_int ht h
  exact ⟨z, h1, h2⟩
theorem RdN.bool (ht : P.underlying t = some .bool) (h : RdN P w n t cs) : ∃ b, cs = [.bool b] := by
  obtain ⟨H, enc, base, x, h⟩ := h
  obtain ⟨z, h1, _⟩ := DataW.trod_bool ht h
  exact ⟨z, h1⟩
theorem RdN.str (ht : P.underlying t = some .string) (h : RdN P w n t cs) : ∃ s : ByteArray, cs = [.string s] ∧ s.size ≤ maxLen := by
  obtain ⟨H, enc, base, x, h⟩ := h
  obtain ⟨z, h1, _, h2⟩ := DataW.trod_string ht h
  exact ⟨z, h1, h2⟩
theorem add_none (b o k : Nat) : (⟨b, o, none⟩ : Addr).add k = ⟨b, o + k, none⟩ := by
  unfold Addr.add
  split <;> simp_all
theorem spot_zero {w : World} {a : Addr} {v : Value} (h : w.cell? (a.add 0) = some v) : ∃ b o, a = ⟨b, o, none⟩ := by
  obtain ⟨b, o, s⟩ := a
  have := World.cell?_spot h
  cases s with
  | none => exact ⟨b, o, rfl⟩
  | some s => simp [Addr.add] at this
/-- A slice: nil, or so many elements, each read. -/
theorem RdN.slice {e : TypeId} (ht : P.underlying t = some (.slice e)) (hsz : 0 < P.cellsOf e) (h : RdN P w n t cs) :
    cs = [.slice none 0 0] ∨ ∃ (a : Addr) (len cap m : Nat), n = m + 1 ∧ cs = [.slice (some a) len cap] ∧ len ≤ cap ∧ cap ≤ maxLen ∧
      ∀ i, i < cap → ∃ b o cs', a = ⟨b, o, none⟩ ∧ cs'.length = P.cellsOf e ∧ (∀ j, j < P.cellsOf e → w.cell? ⟨b, o + i * P.cellsOf e + j, none⟩ = cs'[j]?) ∧ RdN P w m e cs' := by
  obtain ⟨H, enc, base, x, h⟩ := h
  rcases DataW.trod_slice ht h with ⟨h, _⟩ | ⟨a, len, cap, elems, rest, m, hn, hcs, _, hb, hl, hm, hlen, hel, hsp, _⟩
  · exact .inl h
  · refine .inr ⟨a, len, cap, m, hn, hcs, hl, hm, fun i hi => ?_⟩
    have hgot : ∀ i, i < cap → ∃ cs' y, w.cells? base (a.add (i * P.cellsOf e)) (P.cellsOf e) = some cs' ∧ DataW.trod enc P w base (fun _ => true) true m e cs' = some y := by
      intro i hi
      have hgot : ∃ y, (w.cells? base (a.add (i * P.cellsOf e)) (P.cellsOf e)).bind (DataW.trod enc P w base (fun _ => true) true m e) = some y := by
        rcases Nat.lt_or_ge i len with hlt | hge
        · exact ⟨_, (hel i hlt).trans (List.getElem?_eq_getElem (by omega))⟩
        · obtain ⟨h1, h2⟩ := hsp rfl
          have := h2 (i - len) (by omega)
          rw [show len + (i - len) = i by omega] at this
          exact ⟨_, this.trans (List.getElem?_eq_getElem (by omega))⟩
      obtain ⟨y, hy⟩ := hgot
      obtain ⟨cs', h1, h2⟩ := Option.bind_eq_some_iff.1 hy
      exact ⟨cs', y, h1, h2⟩
    obtain ⟨b, o, rfl⟩ : ∃ b o, a = ⟨b, o, none⟩ := by
      obtain ⟨cs', y, h1, h2⟩ := hgot 0 (by omega)
      obtain ⟨_, h4, h5⟩ := World.cells?_some h1
      have h0 := h5 0 hsz
      rw [List.getElem?_eq_getElem (by omega), Nat.zero_mul] at h0
      have : (a.add 0).add 0 = a.add 0 := by
        unfold Addr.add
        split <;> simp_all
      rw [this] at h0
      exact spot_zero h0
    obtain ⟨cs', y, h1, h2⟩ := hgot i hi
    obtain ⟨_, h4, h5⟩ := World.cells?_some h1
    refine ⟨b, o, cs', rfl, h4, fun j hj => ?_, ⟨H, enc, base, y, h2⟩⟩
    have := h5 j hj
    rw [add_none, add_none] at this
    exact this
theorem RdN.struct {fs : Array Field} (ht : P.underlying t = some (.struct fs)) (h : RdN P w n t cs) :
    ∃ m, n = m + 1 ∧ cs.length = P.cellsOf t ∧ ∀ (i : Nat) (f : Field), fs[i]? = some f → RdN P w m f.type ((cs.drop f.offset).take (P.cellsOf f.type)) := by
  obtain ⟨H, enc, base, x, h⟩ := h
  obtain ⟨xs, m, hn, _, hl, hx, hf⟩ := DataW.trod_struct ht h
  refine ⟨m, hn, hl, fun i f hi => ?_⟩
  have hlt : i < fs.size := (Array.getElem?_eq_some_iff.1 hi).1
  exact ⟨H, enc, base, _, (hf i f hi).trans (List.getElem?_eq_getElem (by omega))⟩
theorem RdN.array {k : Nat} {e : TypeId} (ht : P.underlying t = some (.array k e)) (h : RdN P w n t cs) :
    ∃ m, n = m + 1 ∧ cs.length = P.cellsOf t ∧ ∀ i, i < k → RdN P w m e ((cs.drop (i * P.cellsOf e)).take (P.cellsOf e)) := by
  obtain ⟨H, enc, base, x, h⟩ := h
  obtain ⟨xs, m, hn, _, hl, hx, hf⟩ := DataW.trod_array ht h
  exact ⟨m, hn, hl, fun i hi => ⟨H, enc, base, _, (hf i hi).trans (List.getElem?_eq_getElem (by omega))⟩⟩
end

theorem ArgIs.rd {P : Program} {w : World} {t : TypeId} {v : Value} (h : ArgIs P w t v) : ∃ n, RdN P w n t v.cells.toList := by
  obtain ⟨H, enc, d, ps, ⟨n, h⟩, _⟩ := h
  exact ⟨n, H, enc, 0, _, h⟩
theorem ArgIs.agg {P : Program} {w : World} {t : TypeId} {v : Value} (h : ArgIs P w t v) (ht : (match P.underlying t with | some (.struct _) | some (.array _ _) => true | _ => false) = true) : ∃ cs n, v = .agg cs ∧ RdN P w n t cs.toList := by
  obtain ⟨n, hr⟩ := h.rd
  obtain ⟨H, enc, d, ps, _, base, hok⟩ := h
  unfold Value.okWide at hok
  split at hok
  · obtain ⟨cs, rfl, _⟩ := hok
    exact ⟨cs, n, rfl, hr⟩
  · obtain ⟨cs, rfl, _⟩ := hok
    exact ⟨cs, n, rfl, hr⟩
  · simp_all
theorem ArgIs.slice {P : Program} {w : World} {t e : TypeId} {v : Value} (h : ArgIs P w t v) (ht : P.underlying t = some (.slice e)) : ∃ a len cap n, v = .slice a len cap ∧ RdN P w n t [v] := by
  obtain ⟨n, hr⟩ := h.rd
  obtain ⟨H, enc, d, ps, _, base, hok⟩ := h
  obtain ⟨a, len, cap, rfl⟩ := okWide_slice ht hok
  exact ⟨a, len, cap, n, rfl, hr⟩

/-- A slice of whole numbers. -/
theorem RdN.ints {P : Program} {w : World} {n : Nat} {t e : TypeId} {k : IntKind} {a : Option Addr} {len cap : Nat} (ht : P.underlying t = some (.slice e)) (he : P.underlying e = some (.int k)) (hc : P.cellsOf e = 1)
    (h : RdN P w n t [.slice a len cap]) : ∃ xs : List Int, xs.length = len ∧ SlI w k a xs ∧ (∀ x ∈ xs, (Lit.int k x).wf = true) ∧ len ≤ maxLen := by
  rcases h.slice ht (by omega) with h | ⟨a', len', cap', m, _, h1, h2, h3, h4⟩
  · injection h with h _
    injection h with h1 h2 h3
    subst h1
    subst h2
    exact ⟨[], rfl, fun i hi => absurd hi (by simp), by simp, by unfold maxLen; omega⟩
  · injection h1 with h1 _
    injection h1 with e1 e2 e3
    subst e1
    subst e2
    subst e3
    have hx : ∀ i, i < len → ∃ z : Int, (Lit.int k z).wf = true ∧ ∃ b o, a' = ⟨b, o, none⟩ ∧ w.cell? ⟨b, o + i, none⟩ = some (.int k z) := by
      intro i hi
      obtain ⟨b, o, cs', e, l, g, r⟩ := h4 i (by omega)
      obtain ⟨z, rfl, hw⟩ := r.int he
      have := g 0 (by omega)
      rw [hc] at this
      exact ⟨z, hw, b, o, e, by simpa using this⟩
    obtain ⟨f, hf⟩ := Deep.choose_lt hx
    refine ⟨(List.range len).map f, by simp, fun i hi => ?_, fun x hx => ?_, by omega⟩
    · have hi' : i < len := by simpa using hi
      obtain ⟨_, b, o, e, g⟩ := hf i hi'
      refine ⟨b, o, by rw [e], ?_⟩
      rw [g]
      simp [List.getD_eq_getElem?_getD, hi']
    · obtain ⟨i, hi, rfl⟩ := List.mem_map.1 hx
      exact (hf i (by simpa using hi)).1
theorem SlI.lt {w : World} {k : IntKind} {a : Option Addr} {xs : List Int} (h : SlI w k a xs) (hx : 0 < xs.length) : ∃ b o, a = some ⟨b, o, none⟩ ∧ b < w.heap.size := by
  obtain ⟨b, o, e, hc⟩ := h 0 hx
  exact ⟨b, o, e, World.block_lt_of_cell? w _ hc⟩
end Go.Proofs.YtknbgbeepachgaaDoor

/-
  What an argument reads as, with the bounds on what it takes: small lemmas over any program.
-/
namespace Go.Proofs.YtknbgbeepachgaaDoor
open Go.RowKit Go.ChangeShapes Go.WideShapes

/-- These cells read as a value of type t, in so many levels; no string or slice of it takes more than there may be. -/
def RdS (P : Program) (w : World) (n : Nat) (t : TypeId) (cs : List Value) : Prop :=
  ∃ (H : Type) (enc : TypeId × Value → H) (base : Nat) (x : DataW H × List MemPlace), DataW.trod enc P w base (fun _ => true) true n t cs = some x ∧ ∀ k, k ∈ x.1.weights P t → k ≤ 140737488351232
def ArgS (P : Program) (w : World) (t : TypeId) (v : Value) : Prop := ∃ n, RdS P w n t v.cells.toList ∧ ∃ base, Value.okWide P w .any base t v

section
variable {P : Program} {w : World} {n : Nat} {t : TypeId} {cs : List Value}
theorem RdS.rd (h : RdS P w n t cs) : RdN P w n t cs := by
  obtain ⟨H, enc, base, x, h, _⟩ := h
  exact ⟨H, enc, base, x, h⟩
theorem RdS.int {k : IntKind} (ht : P.underlying t = some (.int k)) (h : RdS P w n t cs) : ∃ z, cs = [.int k z] ∧ (Lit.int k z).wf = true := h.rd.int ht
theorem RdS.bool (ht : P.underlying t = some .bool) (h : RdS P w n t cs) : ∃ b, cs = [.bool b] := h.rd.bool ht
theorem RdS.str (ht : P.underlying t = some .string) (h : RdS P w n t cs) : ∃ s : ByteArray, cs = [.string s] ∧ s.size ≤ 140737488351232 := by
  obtain ⟨H, enc, base, x, h, hx⟩ := h
  obtain ⟨z, h1, rfl, _⟩ := DataW.trod_string ht h
  exact ⟨z, h1, hx _ (by simp [DataW.weights])⟩
theorem weightsAll_get {H : Type} {P : Program} {e : TypeId} : ∀ {l : List (DataW H)} {i : Nat} {d : DataW H}, l[i]? = some d → ∀ k, k ∈ d.weights P e → k ∈ DataW.weightsAll P e l
  | d0 :: r, 0, d, hi, k, hk => by
    simp at hi
    subst hi
    simp only [DataW.weightsAll, List.mem_append]
    exact .inl hk
  | d0 :: r, i + 1, d, hi, k, hk => by
    simp at hi
    simp only [DataW.weightsAll, List.mem_append]
    exact .inr (weightsAll_get hi k hk)
  | [], _, _, hi, _, _ => by simp at hi
/-- A slice: nil, or so many elements, each read. -/
theorem RdS.slice {e : TypeId} (ht : P.underlying t = some (.slice e)) (hsz : 0 < P.cellsOf e) (h : RdS P w n t cs) :
    cs = [.slice none 0 0] ∨ ∃ (a : Addr) (len cap m : Nat), n = m + 1 ∧ cs = [.slice (some a) len cap] ∧ len ≤ cap ∧ cap ≤ maxLen ∧ cap * P.bytesOf e ≤ 140737488351232 ∧
      ∀ i, i < cap → ∃ b o cs', a = ⟨b, o, none⟩ ∧ cs'.length = P.cellsOf e ∧ (∀ j, j < P.cellsOf e → w.cell? ⟨b, o + i * P.cellsOf e + j, none⟩ = cs'[j]?) ∧ RdS P w m e cs' := by
  obtain ⟨H, enc, base, x, h, hx⟩ := h
  rcases DataW.trod_slice ht h with ⟨h, _⟩ | ⟨a, len, cap, elems, rest, m, hn, hcs, rfl, hb, hl, hm, hlen, hel, hsp, _⟩
  · exact .inl h
  · obtain ⟨hr1, hr2⟩ := hsp rfl
    have hw : (DataW.slice (elems.map (·.1)) (rest.map (·.1))).weights P t = ((elems.map (·.1)).length + (rest.map (·.1)).length) * P.bytesOf e :: (DataW.weightsAll P e (elems.map (·.1)) ++ DataW.weightsAll P e (rest.map (·.1))) := by
      simp [DataW.weights, ht]
    rw [hw] at hx
    have hcap := hx _ (List.mem_cons_self ..)
    simp only [List.length_map] at hcap
    rw [show elems.length + rest.length = cap by omega] at hcap
    refine .inr ⟨a, len, cap, m, hn, hcs, hl, hm, hcap, fun i hi => ?_⟩
    have hgot : ∀ i, i < cap → ∃ cs' y, w.cells? base (a.add (i * P.cellsOf e)) (P.cellsOf e) = some cs' ∧ DataW.trod enc P w base (fun _ => true) true m e cs' = some y ∧ ∀ k, k ∈ y.1.weights P e → k ≤ 140737488351232 := by
      intro i hi
      have hgot : ∃ y, (w.cells? base (a.add (i * P.cellsOf e)) (P.cellsOf e)).bind (DataW.trod enc P w base (fun _ => true) true m e) = some y ∧ ∀ k, k ∈ y.1.weights P e → k ≤ 140737488351232 := by
        rcases Nat.lt_or_ge i len with hlt | hge
        · have he : elems[i]? = some (elems[i]'(by omega)) := List.getElem?_eq_getElem (by omega)
          refine ⟨_, (hel i hlt).trans he, fun k hk => hx k (List.mem_cons_of_mem _ (List.mem_append_left _ (weightsAll_get (i := i) (by rw [List.getElem?_map, he]; rfl) k hk)))⟩
        · have h2 := hr2 (i - len) (by omega)
          rw [show len + (i - len) = i by omega] at h2
          have he : rest[i - len]? = some (rest[i - len]'(by omega)) := List.getElem?_eq_getElem (by omega)
          refine ⟨_, h2.trans he, fun k hk => hx k (List.mem_cons_of_mem _ (List.mem_append_right _ (weightsAll_get (i := i - len) (by rw [List.getElem?_map, he]; rfl) k hk)))⟩
      obtain ⟨y, hy, hk⟩ := hgot
      obtain ⟨cs', h1, h2⟩ := Option.bind_eq_some_iff.1 hy
      exact ⟨cs', y, h1, h2, hk⟩
    obtain ⟨b, o, rfl⟩ : ∃ b o, a = ⟨b, o, none⟩ := by
      obtain ⟨cs', y, h1, h2, _⟩ := hgot 0 (by omega)
      obtain ⟨_, h4, h5⟩ := World.cells?_some h1
      have h0 := h5 0 hsz
      rw [List.getElem?_eq_getElem (by omega), Nat.zero_mul] at h0
      have : (a.add 0).add 0 = a.add 0 := by
        unfold Addr.add
        split <;> simp_all
      rw [this] at h0
      exact spot_zero h0
    obtain ⟨cs', y, h1, h2, hk⟩ := hgot i hi
    obtain ⟨_, h4, h5⟩ := World.cells?_some h1
    refine ⟨b, o, cs', rfl, h4, fun j hj => ?_, ⟨H, enc, base, y, h2, hk⟩⟩
    have := h5 j hj
    rw [add_none, add_none] at this
    exact this
theorem RdS.struct {fs : Array Field} (ht : P.underlying t = some (.struct fs)) (h : RdS P w n t cs) :
    ∃ m, n = m + 1 ∧ cs.length = P.cellsOf t ∧ ∀ (i : Nat) (f : Field), fs[i]? = some f → RdS P w m f.type ((cs.drop f.offset).take (P.cellsOf f.type)) := by
  obtain ⟨H, enc, base, x, h, hw⟩ := h
  obtain ⟨xs, m, hn, rfl, hl, hx, hf⟩ := DataW.trod_struct ht h
  refine ⟨m, hn, hl, fun i f hi => ?_⟩
  have hlt : i < fs.size := (Array.getElem?_eq_some_iff.1 hi).1
  have he : xs[i]? = some (xs[i]'(by omega)) := List.getElem?_eq_getElem (by omega)
  refine ⟨H, enc, base, _, (hf i f hi).trans he, fun k hk => hw k ?_⟩
  have e : (DataW.agg (xs.map (·.1))).weights P t = DataW.weightsEach P (fs.toList.map (·.type)) (xs.map (·.1)) := by simp [DataW.weights, ht]
  rw [e]
  exact DataW.weights_mem_each (j := i) (by rw [List.getElem?_map, Array.getElem?_toList, hi]; rfl) (by rw [List.getElem?_map, he]; rfl) k hk
theorem RdS.array {k : Nat} {e : TypeId} (ht : P.underlying t = some (.array k e)) (h : RdS P w n t cs) :
    ∃ m, n = m + 1 ∧ cs.length = P.cellsOf t ∧ ∀ i, i < k → RdS P w m e ((cs.drop (i * P.cellsOf e)).take (P.cellsOf e)) := by
  obtain ⟨H, enc, base, x, h, hw⟩ := h
  obtain ⟨xs, m, hn, rfl, hl, hx, hf⟩ := DataW.trod_array ht h
  refine ⟨m, hn, hl, fun i hi => ?_⟩
  have he : xs[i]? = some (xs[i]'(by omega)) := List.getElem?_eq_getElem (by omega)
  refine ⟨H, enc, base, _, (hf i hi).trans he, fun k hk => hw k ?_⟩
  have e : (DataW.agg (xs.map (·.1))).weights P t = DataW.weightsAll P e (xs.map (·.1)) := by simp [DataW.weights, ht]
  rw [e]
  exact weightsAll_get (i := i) (by rw [List.getElem?_map, he]; rfl) k hk
end
theorem argS_mk {H : Type} {enc : TypeId × Value → H} {P : Program} {W : World} {t : TypeId} {v : Value} {d : DataW H} {p : List MemPlace} {ts : List TypeId} {ds : List (DataW H)} (h : DataW.Trod enc P W 0 (fun _ => true) true t v d p)
    (hsz : (DataW.weightsEach P ts ds).all (· ≤ reachBytes) = true) {j : Nat} (ht : ts[j]? = some t) (hd : ds[j]? = some d) {base : Nat} (hok : Value.okWide P W .any base t v) : ArgS P W t v := by
  obtain ⟨n, hn⟩ := h
  refine ⟨n, ⟨H, enc, 0, (d, p), hn, fun k hk => ?_⟩, base, hok⟩
  have := List.all_eq_true.1 hsz _ (DataW.weights_mem_each ht hd k hk)
  exact of_decide_eq_true this
theorem ArgS.arg {P : Program} {w : World} {t : TypeId} {v : Value} (h : ArgS P w t v) : ∃ n, RdS P w n t v.cells.toList := by
  obtain ⟨n, h, _⟩ := h
  exact ⟨n, h⟩
theorem ArgS.agg {P : Program} {w : World} {t : TypeId} {v : Value} (h : ArgS P w t v) (ht : (match P.underlying t with | some (.struct _) | some (.array _ _) => true | _ => false) = true) : ∃ cs n, v = .agg cs ∧ RdS P w n t cs.toList := by
  obtain ⟨n, hr, base, hok⟩ := h
  unfold Value.okWide at hok
  split at hok
  · obtain ⟨cs, rfl, _⟩ := hok
    exact ⟨cs, n, rfl, hr⟩
  · obtain ⟨cs, rfl, _⟩ := hok
    exact ⟨cs, n, rfl, hr⟩
  · simp_all
theorem ArgS.slice {P : Program} {w : World} {t e : TypeId} {v : Value} (h : ArgS P w t v) (ht : P.underlying t = some (.slice e)) : ∃ a len cap n, v = .slice a len cap ∧ RdS P w n t [v] := by
  obtain ⟨n, hr, base, hok⟩ := h
  obtain ⟨a, len, cap, rfl⟩ := okWide_slice ht hok
  exact ⟨a, len, cap, n, rfl, hr⟩
end Go.Proofs.YtknbgbeepachgaaDoor
