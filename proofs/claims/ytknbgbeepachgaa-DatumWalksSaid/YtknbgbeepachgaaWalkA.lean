/-
  All that is in a datum: the plain part; what a round of the iterator keeps; datum.parts in new memory.
-/
import Derived.Test.YtknbgbeepachgaaDatO
import Derived.Test.YtknbgbeepachgaaDat1
namespace Go.Proofs.Ytknbgbeepachgaa
open Go.RowKit

/-! ### The plain part -/
def walkD : Nat → Dat → List Dat
  | 0, _ => []
  | n + 1, d => d :: (d.items ++ d.tail).flatMap (walkD n)
theorem flatMap_len {f : Dat → List Dat} {g : Dat → Nat} (h : ∀ d, g d ≤ 1000000 → (f d).length = g d) : ∀ ds : List Dat, szL g ds ≤ 1000000 → (ds.flatMap f).length = szL g ds
  | [], _ => rfl
  | d :: ds, hs => by
    rw [szL] at hs
    rw [List.flatMap_cons, List.length_append, h d (by omega), flatMap_len h ds (by omega), szL]
theorem walkD_len : ∀ (n : Nat) (d : Dat), szN n d ≤ 1000000 → (walkD n d).length = szN n d
  | 0, _, h => by rw [szN] at h; omega
  | n + 1, d, h => by
    rw [szN] at h
    have h1 := flatMap_len (walkD_len n) (d.items ++ d.tail) (by rw [szL_append]; omega)
    rw [szL_append] at h1
    rw [walkD, List.length_cons, h1, szN]
    omega
theorem flatMap_next {f : Dat → List Dat} {ds : List Dat} {i : Nat} (hi : i < ds.length) : (ds.take (i + 1)).flatMap f = (ds.take i).flatMap f ++ f (ds.getD i default) := by
  rw [take_next hi, List.flatMap_append]
  simp
theorem flatMap_pre {f : Dat → List Dat} {ds : List Dat} {i : Nat} (hi : i < ds.length) {q : List Dat} (hq : q <+: f (ds.getD i default)) : (ds.take i).flatMap f ++ q <+: ds.flatMap f := by
  have h1 : ds.flatMap f = (ds.take i).flatMap f ++ (f (ds.getD i default) ++ (ds.drop (i + 1)).flatMap f) := by
    rw [← List.append_assoc, ← flatMap_next hi, ← List.flatMap_append, List.take_append_drop]
  rw [h1]
  exact (List.prefix_append_right_inj _).2 (hq.trans (List.prefix_append _ _))

/-! ### What a round keeps -/
/-- The block of the row that lies in the box lb. -/
def rowAt (lb : Nat) (W : World) : Option Nat := match W.cell? ⟨lb, 0, none⟩ with | some v => v.ownBlock | none => none
structure RowOk (n₀ lb : Nat) (W : World) : Prop where
  box : n₀ ≤ lb ∧ lb < W.heap.size
  row : ∀ r, rowAt lb W = some r → n₀ ≤ r ∧ r < W.heap.size
/-- All but the box lb and the row in it. -/
structure KW (n₀ lb : Nat) (W W' : World) : Prop where
  below : Below n₀ W W'
  blk : ∀ k o, k ≠ lb → rowAt lb W ≠ some k → W.heap[k]? = some o → o.isCells = true → W'.heap[k]? = some o
  row : rowAt lb W' = rowAt lb W ∨ ∃ r, rowAt lb W' = some r ∧ n₀ ≤ r ∧ W.heap.size ≤ r ∧ r < W'.heap.size
theorem KW.refl (n₀ lb : Nat) (W : World) : KW n₀ lb W W := ⟨Below.refl _ _, fun _ _ _ _ h _ => h, .inl rfl⟩
theorem KW.trans {n₀ lb : Nat} {A B C : World} (h : KW n₀ lb A B) (k : KW n₀ lb B C) : KW n₀ lb A C := by
  refine ⟨h.below.trans k.below, fun j o hj hr ho hc => ?_, ?_⟩
  · refine k.blk j o hj (fun e => ?_) (h.blk j o hj hr ho hc) hc
    rcases h.row with h1 | ⟨r, h1, _, h2, _⟩
    · exact hr (h1 ▸ e)
    · rw [h1] at e
      injection e with e
      subst e
      have := (Array.getElem?_eq_some_iff.1 ho).1
      omega
  · rcases k.row with k1 | ⟨r, k1, k2, k3, k4⟩
    · rcases h.row with h1 | ⟨r, h1, h2, h3, h4⟩
      · exact .inl (k1.trans h1)
      · exact .inr ⟨r, k1.trans h1, h2, h3, Nat.lt_of_lt_of_le h4 k.below.size⟩
    · exact .inr ⟨r, k1, k2, Nat.le_trans h.below.size k3, k4⟩
theorem rowAt_same {lb : Nat} {W W' : World} (h : W'.heap[lb]? = W.heap[lb]?) : rowAt lb W' = rowAt lb W := by
  unfold rowAt
  rw [World.cell?_of_block (a := ⟨lb, 0, none⟩) h]
theorem KW.upd {n₀ lb : Nat} {W W' : World} (h : RowOk n₀ lb W) (hu : Upd [] W W') : KW n₀ lb W W' := by
  have hz := h.box
  refine ⟨Below.mk hu.os hu.tape hu.output hu.size (fun k hk => hu.block k (by omega) (by simp)), fun k o _ _ ho _ => (hu.block k (Array.getElem?_eq_some_iff.1 ho).1 (by simp)).trans ho, .inl (rowAt_same (hu.block lb hz.2 (by simp)))⟩
theorem RowOk.kw {n₀ lb : Nat} {W W' : World} (h : RowOk n₀ lb W) (k : KW n₀ lb W W') : RowOk n₀ lb W' := by
  refine ⟨⟨h.box.1, Nat.lt_of_lt_of_le h.box.2 k.below.size⟩, fun r hr => ?_⟩
  rcases k.row with k1 | ⟨r', k1, k2, k3, k4⟩
  · have := h.row r (k1 ▸ hr)
    exact ⟨this.1, Nat.lt_of_lt_of_le this.2 k.below.size⟩
  · rw [k1] at hr
    injection hr with hr
    subst hr
    exact ⟨k2, k4⟩
/-- A block of one's own lies on. -/
theorem KW.keeps {n₀ lb b : Nat} {W W' : World} {cs : List Value} {t : TypeId} (k : KW n₀ lb W W') (h : Blk W b cs t) (h1 : b ≠ lb) (h2 : rowAt lb W ≠ some b) : Blk W' b cs t := h.of_eq (by
  have := k.blk b _ h1 h2 h rfl
  rw [this, h])
/-- Of one's own: not the box, nor the row in it. -/
structure Mine (lb : Nat) (W : World) (b : Nat) : Prop where
  box : b ≠ lb
  row : rowAt lb W ≠ some b
  lt : b < W.heap.size
theorem Mine.kw {n₀ lb b : Nat} {W W' : World} (h : Mine lb W b) (k : KW n₀ lb W W') : Mine lb W' b := by
  refine ⟨h.box, fun e => ?_, Nat.lt_of_lt_of_le h.lt k.below.size⟩
  rcases k.row with k1 | ⟨r, k1, _, k3, _⟩
  · exact h.row (k1 ▸ e)
  · rw [k1] at e
    injection e with e
    have := h.lt
    omega
theorem Mine.new {n₀ lb b : Nat} {W W' : World} (h : RowOk n₀ lb W) (hu : Upd [] W W') (h1 : W.heap.size ≤ b) (h2 : b < W'.heap.size) : Mine lb W' b := by
  have hz := h.box
  refine ⟨by omega, fun e => ?_, h2⟩
  rw [rowAt_same (hu.block lb hz.2 (by simp))] at e
  have := (h.row b e).2
  omega
theorem KW.at7 {n₀ lb b o : Nat} {W W' : World} {cs : List Value} (k : KW n₀ lb W W') (h : At7 W b o cs) (hm : Mine lb W b) : At7 W' b o cs := by
  refine ⟨h.1, fun j hj => ?_⟩
  have hc := h.2 j hj
  rw [List.getElem?_eq_getElem (by rw [h.1]; exact hj)] at hc ⊢
  obtain ⟨ob, ho, hoc⟩ := cells_of_cell hc
  exact (World.cell?_of_block ((k.blk b ob hm.box hm.row ho hoc).trans ho.symm)).trans hc

/-! ### datum.parts -/
theorem OwnD.rowN {R : List Value → Dat → Prop} (hsh : ∀ cs d, R cs d → Shaped cs) {w0 w : World} {v : Value} {ds : List Dat} (h : OwnD R w0 w v ds) : ∃ a c, v = .slice a ds.length c ∧ RowOf w (fun b => w0.heap.size ≤ b) R a ds := by
  obtain ⟨css, h1, h2, h3⟩ := h
  have h4 := h3
  rcases h3.2 with ⟨rfl, h0⟩ | ⟨g, c, _, rfl, hb, _⟩
  · exact ⟨none, 0, by rw [h0], fun i hi => absurd hi (by omega)⟩
  · refine ⟨_, c, rfl, fun i hi => ⟨g, 0, css.getD i [], rfl, hb, ?_, h2 i hi⟩⟩
    have hlen : ∀ cs ∈ css, cs.length = 7 := by
      intro cs hc
      obtain ⟨k, hk, rfl⟩ := List.getElem_of_mem hc
      have := (hsh _ _ (h2 k (by omega))).len
      simpa [List.getD_eq_getElem?_getD, hk] using this
    refine ⟨(hsh _ _ (h2 i hi)).len, fun j hj => ?_⟩
    rw [show 0 + i * 7 + j = i * 7 + j by omega, h4.cellAt (i * 7 + j) (by omega)]
    exact flatten_get hlen (by omega) hj
set_option maxRecDepth 100000 in
set_option maxHeartbeats 1500000 in
theorem partsN_calls {w0 : World} {P : Nat → Prop} {n : Nat} {d : Dat} {cs : List Value} {w : World} (h : IsD w0 P (n + 1) cs d) (hk : ∀ b o v, P b → w0.cell? ⟨b, o, none⟩ = some v → w.cell? ⟨b, o, none⟩ = some v) (hs : d.items.length + d.tail.length ≤ 100000) :
    Calls Try.prog 39 #[.agg cs.toArray] w fun e w' => (∃ a c, e = .returned (.slice a (d.items ++ d.tail).length c) ∧ RowOf w' (fun b => w.heap.size ≤ b) (IsD w0 P n) a (d.items ++ d.tail)) ∧ Upd [] w w' := by
  obtain ⟨aL, cL, aI, cI, aT, cT, rfl, h1, h2, h3, h4⟩ := h
  unfold datCells
  have hu1 : Upd [] w ((w.alloc (.cells #[.int .i64 d.kind, .bool d.neg, .slice aL d.limbs.length cL, .bool d.b, .string d.s, .slice aI d.items.length cI, .slice aT d.tail.length cT] 27)).alloc (.cells #[.slice aI d.items.length cI, .slice aT d.tail.length cT] 25)) := ((Upd.refl [] w).alloc _).alloc _
  have HI := Lib.hid (fun W (hu : Upd [] w W) => h2.map (R' := IsD w0 P n) (Q := fun _ => True) (w' := W) (fun _ _ _ => trivial) (fun b o v hp hc => hu.cell (hk b o v hp hc) (by simp)) (fun _ _ h => h))
  have HT := Lib.hid (fun W (hu : Upd [] w W) => h3.map (R' := IsD w0 P n) (Q := fun _ => True) (w' := W) (fun _ _ _ => trivial) (fun b o v hp hc => hu.cell (hk b o v hp hc) (by simp)) (fun _ _ h => h))
  have hU := Lib.hid hu1
  have hsz : w.heap.size ≤ ((w.alloc (.cells #[.int .i64 d.kind, .bool d.neg, .slice aL d.limbs.length cL, .bool d.b, .string d.s, .slice aI d.items.length cI, .slice aT d.tail.length cT] 27)).alloc (.cells #[.slice aI d.items.length cI, .slice aT d.tail.length cT] 25)).heap.size := hu1.size
  have HZ := Lib.hid hsz
  clear h1 h2 h3 h4 hu1 hk hsz
  go_enter Try.func39, Try.ntmps39
  go_wp2_with fail
  refine (concat_calls (P := fun _ => True) (R := IsD w0 P n) (fun _ _ h => h.shaped) (is := d.items) (ts := d.tail) (Blk.newAt (by simp)) (HI.out _ hU.out) (HT.out _ hU.out) rfl rfl hs).mono ?_
  rintro e w2 ⟨⟨v, rfl, hO⟩, hu2⟩
  have hU2 := Lib.hid (hU.out.then hu2)
  obtain ⟨a, c, rfl, hR⟩ := hO.rowN (fun _ _ h => h.shaped)
  have HR := Lib.hid (hR.map (Q := fun b => w.heap.size ≤ b) (fun _ _ hb => Nat.le_trans HZ.out hb) (fun _ _ _ _ hc => hc) (fun _ _ h => h))
  clear hO hR hu2 hU HI HT HZ
  go_wp2
  go_ret
  exact ⟨⟨a, c, by rw [List.length_append]; rfl, HR.out⟩, hU2.out⟩
end Go.Proofs.Ytknbgbeepachgaa
