/-
  Texts of this claim, merged: WalkA, WalkB, WalkC. Lemmas and contracts; no conditions of our own.
-/
import Derived.Test.YtknbgbeepachgaaDoorG6
import Derived.RangeFuncBox
import Derived.Shelf.Abstract
import Derived.OwnWalkIn
import Derived.TacticsInMore
import Derived.LoopNIn
import Derived.LoopIn

/-
  All that is in a datum: the plain part; what a round of the iterator keeps; datum.parts in new memory.
-/
namespace Go.Proofs.YtknbgbeepachgaaDoor
open Go.RowKit

/-! ### The plain part -/
def walkD : Nat → Dat → List Dat
  | 0, _ => []
  | n + 1, d => d :: (d.items ++ d.tail).flatMap (walkD n)
theorem flatMap_len {f : Dat → List Dat} {g : Dat → Nat} (h : ∀ d, g d ≤ 1000000 → (f d).length = g d) : ∀ ds : List Dat, szL g ds ≤ 1000000 → (ds.flatMap f).length = szL g ds
  | [], _ => rfl
  | d :: ds, hs => by
    rw [szL] at hs
    rw [List.flatMap_cons, List.length_append, h d (by omega), flatMap_len h ds (by omega), szL]
theorem walkD_len : ∀ (n : Nat) (d : Dat), szN n d ≤ 1000000 → (walkD n d).length = szN n d
  | 0, _, h => by rw [szN] at h; omega
  | n + 1, d, h => by
    rw [szN] at h
    have h1 := flatMap_len (walkD_len n) (d.items ++ d.tail) (by rw [szL_append]; omega)
    rw [szL_append] at h1
    rw [walkD, List.length_cons, h1, szN]
    omega
theorem flatMap_next {f : Dat → List Dat} {ds : List Dat} {i : Nat} (hi : i < ds.length) : (ds.take (i + 1)).flatMap f = (ds.take i).flatMap f ++ f (ds.getD i default) := by
  rw [take_next hi, List.flatMap_append]
  simp
theorem flatMap_pre {f : Dat → List Dat} {ds : List Dat} {i : Nat} (hi : i < ds.length) {q : List Dat} (hq : q <+: f (ds.getD i default)) : (ds.take i).flatMap f ++ q <+: ds.flatMap f := by
  have h1 : ds.flatMap f = (ds.take i).flatMap f ++ (f (ds.getD i default) ++ (ds.drop (i + 1)).flatMap f) := by
    rw [← List.append_assoc, ← flatMap_next hi, ← List.flatMap_append, List.take_append_drop]
  rw [h1]
  exact (List.prefix_append_right_inj _).2 (hq.trans (List.prefix_append _ _))

/-! ### What a round keeps -/
/-- The block of the row that lies in the box lb. -/
def rowAt (lb : Nat) (W : World) : Option Nat := match W.cell? ⟨lb, 0, none⟩ with | some v => v.ownBlock | none => none
structure RowOk (n₀ lb : Nat) (W : World) : Prop where
  box : n₀ ≤ lb ∧ lb < W.heap.size
  row : ∀ r, rowAt lb W = some r → n₀ ≤ r ∧ r < W.heap.size
/-- All but the box lb and the row in it. -/
structure KW (n₀ lb : Nat) (W W' : World) : Prop where
  below : Below n₀ W W'
  blk : ∀ k o, k ≠ lb → rowAt lb W ≠ some k → W.heap[k]? = some o → o.isCells = true → W'.heap[k]? = some o
  row : rowAt lb W' = rowAt lb W ∨ ∃ r, rowAt lb W' = some r ∧ n₀ ≤ r ∧ W.heap.size ≤ r ∧ r < W'.heap.size
theorem KW.refl (n₀ lb : Nat) (W : World) : KW n₀ lb W W := ⟨Below.refl _ _, fun _ _ _ _ h _ => h, .inl rfl⟩
theorem KW.trans {n₀ lb : Nat} {A B C : World} (h : KW n₀ lb A B) (k : KW n₀ lb B C) : KW n₀ lb A C := by
  refine ⟨h.below.trans k.below, fun j o hj hr ho hc => ?_, ?_⟩
  · refine k.blk j o hj (fun e => ?_) (h.blk j o hj hr ho hc) hc
    rcases h.row with h1 | ⟨r, h1, _, h2, _⟩
    · exact hr (h1 ▸ e)
    · rw [h1] at e
      injection e with e
      subst e
      have := (Array.getElem?_eq_some_iff.1 ho).1
      omega
  · rcases k.row with k1 | ⟨r, k1, k2, k3, k4⟩
    · rcases h.row with h1 | ⟨r, h1, h2, h3, h4⟩
      · exact .inl (k1.trans h1)
      · exact .inr ⟨r, k1.trans h1, h2, h3, Nat.lt_of_lt_of_le h4 k.below.size⟩
    · exact .inr ⟨r, k1, k2, Nat.le_trans h.below.size k3, k4⟩
theorem rowAt_same {lb : Nat} {W W' : World} (h : W'.heap[lb]? = W.heap[lb]?) : rowAt lb W' = rowAt lb W := by
  unfold rowAt
  rw [World.cell?_of_block (a := ⟨lb, 0, none⟩) h]
theorem KW.upd {n₀ lb : Nat} {W W' : World} (h : RowOk n₀ lb W) (hu : Upd [] W W') : KW n₀ lb W W' := by
  have hz := h.box
  refine ⟨Below.mk hu.os hu.tape hu.output hu.size (fun k hk => hu.block k (by omega) (by simp)), fun k o _ _ ho _ => (hu.block k (Array.getElem?_eq_some_iff.1 ho).1 (by simp)).trans ho, .inl (rowAt_same (hu.block lb hz.2 (by simp)))⟩
theorem RowOk.kw {n₀ lb : Nat} {W W' : World} (h : RowOk n₀ lb W) (k : KW n₀ lb W W') : RowOk n₀ lb W' := by
  refine ⟨⟨h.box.1, Nat.lt_of_lt_of_le h.box.2 k.below.size⟩, fun r hr => ?_⟩
  rcases k.row with k1 | ⟨r', k1, k2, k3, k4⟩
  · have := h.row r (k1 ▸ hr)
    exact ⟨this.1, Nat.lt_of_lt_of_le this.2 k.below.size⟩
  · rw [k1] at hr
    injection hr with hr
    subst hr
    exact ⟨k2, k4⟩
/-- A block of one's own lies on. -/
theorem KW.keeps {n₀ lb b : Nat} {W W' : World} {cs : List Value} {t : TypeId} (k : KW n₀ lb W W') (h : Blk W b cs t) (h1 : b ≠ lb) (h2 : rowAt lb W ≠ some b) : Blk W' b cs t := h.of_eq (by
  have := k.blk b _ h1 h2 h rfl
  rw [this, h])
/-- Of one's own: not the box, nor the row in it. -/
structure Mine (lb : Nat) (W : World) (b : Nat) : Prop where
  box : b ≠ lb
  row : rowAt lb W ≠ some b
  lt : b < W.heap.size
theorem Mine.kw {n₀ lb b : Nat} {W W' : World} (h : Mine lb W b) (k : KW n₀ lb W W') : Mine lb W' b := by
  refine ⟨h.box, fun e => ?_, Nat.lt_of_lt_of_le h.lt k.below.size⟩
  rcases k.row with k1 | ⟨r, k1, _, k3, _⟩
  · exact h.row (k1 ▸ e)
  · rw [k1] at e
    injection e with e
    have := h.lt
    omega
theorem Mine.new {n₀ lb b : Nat} {W W' : World} (h : RowOk n₀ lb W) (hu : Upd [] W W') (h1 : W.heap.size ≤ b) (h2 : b < W'.heap.size) : Mine lb W' b := by
  have hz := h.box
  refine ⟨by omega, fun e => ?_, h2⟩
  rw [rowAt_same (hu.block lb hz.2 (by simp))] at e
  have := (h.row b e).2
  omega
theorem KW.at7 {n₀ lb b o : Nat} {W W' : World} {cs : List Value} (k : KW n₀ lb W W') (h : At7 W b o cs) (hm : Mine lb W b) : At7 W' b o cs := by
  refine ⟨h.1, fun j hj => ?_⟩
  have hc := h.2 j hj
  rw [List.getElem?_eq_getElem (by rw [h.1]; exact hj)] at hc ⊢
  obtain ⟨ob, ho, hoc⟩ := cells_of_cell hc
  exact (World.cell?_of_block ((k.blk b ob hm.box hm.row ho hoc).trans ho.symm)).trans hc

/-! ### datum.parts -/
theorem OwnD.rowN {R : List Value → Dat → Prop} (hsh : ∀ cs d, R cs d → Shaped cs) {w0 w : World} {v : Value} {ds : List Dat} (h : OwnD R w0 w v ds) : ∃ a c, v = .slice a ds.length c ∧ RowOf w (fun b => w0.heap.size ≤ b) R a ds := by
  obtain ⟨css, h1, h2, h3⟩ := h
  have h4 := h3
  rcases h3.2 with ⟨rfl, h0⟩ | ⟨g, c, _, rfl, hb, _⟩
  · exact ⟨none, 0, by rw [h0], fun i hi => absurd hi (by omega)⟩
  · refine ⟨_, c, rfl, fun i hi => ⟨g, 0, css.getD i [], rfl, hb, ?_, h2 i hi⟩⟩
    have hlen : ∀ cs ∈ css, cs.length = 7 := by
      intro cs hc
      obtain ⟨k, hk, rfl⟩ := List.getElem_of_mem hc
      have := (hsh _ _ (h2 k (by omega))).len
      simpa [List.getD_eq_getElem?_getD, hk] using this
    refine ⟨(hsh _ _ (h2 i hi)).len, fun j hj => ?_⟩
    rw [show 0 + i * 7 + j = i * 7 + j by omega, h4.cellAt (i * 7 + j) (by omega)]
    exact flatten_get hlen (by omega) hj
set_option maxRecDepth 100000 in
set_option maxHeartbeats 1500000 in
theorem partsN_calls {w0 : World} {P : Nat → Prop} {n : Nat} {d : Dat} {cs : List Value} {w : World} (h : IsD w0 P (n + 1) cs d) (hk : ∀ b o v, P b → w0.cell? ⟨b, o, none⟩ = some v → w.cell? ⟨b, o, none⟩ = some v) (hs : d.items.length + d.tail.length ≤ 100000) :
    Calls Tryd.prog 66 #[.agg cs.toArray] w fun e w' => (∃ a c, e = .returned (.slice a (d.items ++ d.tail).length c) ∧ RowOf w' (fun b => w.heap.size ≤ b) (IsD w0 P n) a (d.items ++ d.tail)) ∧ Upd [] w w' := by
  obtain ⟨aL, cL, aI, cI, aT, cT, rfl, h1, h2, h3, h4⟩ := h
  unfold datCells
  have hu1 : Upd [] w ((w.alloc (.cells #[.int .i64 d.kind, .bool d.neg, .slice aL d.limbs.length cL, .bool d.b, .string d.s, .slice aI d.items.length cI, .slice aT d.tail.length cT] 56)).alloc (.cells #[.slice aI d.items.length cI, .slice aT d.tail.length cT] 24)) := ((Upd.refl [] w).alloc _).alloc _
  have HI := Lib.hid (fun W (hu : Upd [] w W) => h2.map (R' := IsD w0 P n) (Q := fun _ => True) (w' := W) (fun _ _ _ => trivial) (fun b o v hp hc => hu.cell (hk b o v hp hc) (by simp)) (fun _ _ h => h))
  have HT := Lib.hid (fun W (hu : Upd [] w W) => h3.map (R' := IsD w0 P n) (Q := fun _ => True) (w' := W) (fun _ _ _ => trivial) (fun b o v hp hc => hu.cell (hk b o v hp hc) (by simp)) (fun _ _ h => h))
  have hU := Lib.hid hu1
  have hsz : w.heap.size ≤ ((w.alloc (.cells #[.int .i64 d.kind, .bool d.neg, .slice aL d.limbs.length cL, .bool d.b, .string d.s, .slice aI d.items.length cI, .slice aT d.tail.length cT] 56)).alloc (.cells #[.slice aI d.items.length cI, .slice aT d.tail.length cT] 24)).heap.size := hu1.size
  have HZ := Lib.hid hsz
  clear h1 h2 h3 h4 hu1 hk hsz
  go_enter Tryd.func66, Tryd.ntmps66
  go_wp2_with fail
  refine (concat_calls (P := fun _ => True) (R := IsD w0 P n) (fun _ _ h => h.shaped) (is := d.items) (ts := d.tail) (Blk.newAt (by simp)) (HI.out _ hU.out) (HT.out _ hU.out) rfl rfl hs).mono ?_
  rintro e w2 ⟨⟨v, rfl, hO⟩, hu2⟩
  have hU2 := Lib.hid (hU.out.then hu2)
  obtain ⟨a, c, rfl, hR⟩ := hO.rowN (fun _ _ h => h.shaped)
  have HR := Lib.hid (hR.map (Q := fun b => w.heap.size ≤ b) (fun _ _ hb => Nat.le_trans HZ.out hb) (fun _ _ _ _ hc => hc) (fun _ _ h => h))
  clear hO hR hu2 hU HI HT HZ
  go_wp2
  go_ret
  exact ⟨⟨a, c, by rw [List.length_append]; rfl, HR.out⟩, hU2.out⟩
end Go.Proofs.YtknbgbeepachgaaDoor

/-
  datum.walk: it tells all that is in a datum, itself first.
-/
namespace Go.Proofs.YtknbgbeepachgaaDoor
open Go.RowKit Go.Shelf
attribute [local go_sem] Oper.semAt_some

/-- A datum in cells, in old blocks. -/
abbrev Cd (w : World) (n₀ N : Nat) : Type := { p : List Value × Dat // IsD w (fun b => b < n₀) N p.1 p.2 }
def datsOf {w : World} {n₀ N : Nat} (ys : List (Cd w n₀ N)) : List Dat := ys.map (fun y => y.1.2)
/-- What walk answers. -/
def WalkPost {w : World} {n₀ N : Nat} (lb : Nat) (J Jx : List (Cd w n₀ N) → World → Prop) (pre : List (Cd w n₀ N)) (W : World) (ds : List Dat) (e : Ending) (W' : World) : Prop :=
  (e = .returned (.bool true) ∧ ∃ ys, datsOf ys = ds ∧ J (pre ++ ys) W' ∧ KW n₀ lb W W') ∨ (e = .returned (.bool false) ∧ ∃ ys, datsOf ys <+: ds ∧ Jx (pre ++ ys) W')
set_option maxRecDepth 100000 in
set_option maxHeartbeats 2000000 in
theorem walk_in (w : World) (n₀ N M l lb : Nat) (J Jx : List (Cd w n₀ N) → World → Prop) (hJ : ∀ pre W W', J pre W → Upd [] W W' → J pre W')
    (hY : ∀ m pre x W, J pre W → pre.length < M → YieldAt Fence.wide m Tryd.prog l #[.agg x.1.1.toArray] W fun e W' =>
      (e = .returned (.bool true) ∧ J (pre ++ [x]) W' ∧ KW n₀ lb W W') ∨ (e = .returned (.bool false) ∧ Jx (pre ++ [x]) W')) :
    ∀ (n k m : Nat) (d : Dat) (cs : List Value) (pre : List (Cd w n₀ N)) (W : World), n + k = N → IsD w (fun b => b < n₀) n cs d → Below n₀ w W → RowOk n₀ lb W → szN n d ≤ 100000 → J pre W → pre.length + (walkD n d).length ≤ M →
      CallsIn Fence.wide m Tryd.prog 61 #[.agg cs.toArray, .func (.yield l) #[] #[]] W (WalkPost lb J Jx pre W (walkD n d)) := by
  intro n
  induction n with
  | zero => intro k m d cs pre W _ h; exact h.elim
  | succ n ih =>
    intro k m d cs pre W hk h hb hr hs hj hM
    have IH := Lib.hid ih
    clear ih
    have hN := h.more k
    rw [hk] at hN
    obtain ⟨x, hx⟩ : ∃ x : Cd w n₀ N, x.1 = (cs, d) := ⟨⟨(cs, d), hN⟩, rfl⟩
    obtain ⟨k9, n9, a9, l9, c9, b9, s9, i9, m9, d9, t9, o9, p9, rfl⟩ := h.shaped
    unfold datCells at *
    refine callsIn_of_wp Tryd.func61 rfl trivial ?_ rfl
    simp only [Tryd.ntmps61, List.size_toArray, List.length_cons, List.length_nil, Nat.reduceAdd, Nat.reduceSub, Array.replicate_succ, Array.replicate_zero, List.push_toArray, List.append_toArray, List.nil_append, List.cons_append]
    have hu1 : Upd [] W (W.alloc (.cells #[.int .i64 k9, .bool n9, .slice a9 l9 c9, .bool b9, .string s9, .slice i9 m9 d9, .slice t9 o9 p9] 56)) := (Upd.refl [] W).alloc _
    have hy := hY (m - 1) pre x _ (hJ _ _ _ hj hu1) (by rw [walkD, List.length_cons] at hM; omega)
    rw [hx] at hy
    obtain ⟨fn, tmps, assign, body, hy, hR⟩ := hy
    have HR := Lib.hid hR
    clear hR
    have hkw1 : KW n₀ lb W (W.alloc (.cells #[.int .i64 k9, .bool n9, .slice a9 l9 c9, .bool b9, .string s9, .slice i9 m9 d9, .slice t9 o9 p9] 56)) := KW.upd hr hu1
    have hm1 : Mine lb (W.alloc (.cells #[.int .i64 k9, .bool n9, .slice a9 l9 c9, .bool b9, .string s9, .slice i9 m9 d9, .slice t9 o9 p9] 56)) W.heap.size := Mine.new hr hu1 (Nat.le_refl _) (by simp)
    have hbx : Blk (W.alloc (.cells #[.int .i64 k9, .bool n9, .slice a9 l9 c9, .bool b9, .string s9, .slice i9 m9 d9, .slice t9 o9 p9] 56)) W.heap.size [.int .i64 k9, .bool n9, .slice a9 l9 c9, .bool b9, .string s9, .slice i9 m9 d9, .slice t9 o9 p9] 56 := Blk.newAt rfl
    have hds : datsOf [x] = [d] := by
      unfold datsOf
      rw [List.map_cons, hx]
      rfl
    have hlen : d.items.length + d.tail.length ≤ 100000 := by
      have h1 := len_le_szL (szN_pos n) d.items
      have h2 := len_le_szL (szN_pos n) d.tail
      rw [szN] at hs
      omega
    have hszL : szL (szN n) (d.items ++ d.tail) ≤ 100000 := by
      rw [szN] at hs
      rw [szL_append]
      omega
    have HPT := Lib.hid (fun (W' : World) (hu : Below n₀ w W') => partsN_calls (w0 := w) (w := W') h (fun b o v hp hc => (hu.cell (p := ⟨b, o, none⟩) hp).trans hc) hlen)
    have HSZ := Lib.hid (And.intro hszL (And.intro hlen hM))
    have HDS := Lib.hid hds
    have HK1 := Lib.hid (And.intro hkw1 (And.intro hm1 hbx))
    have HR0 := Lib.hid hr
    have HB0 := Lib.hid hb
    have HJ := Lib.hid hJ
    have hwD : walkD (n + 1) d = d :: (d.items ++ d.tail).flatMap (walkD n) := rfl
    rw [hwD] at HSZ ⊢
    obtain ⟨ds, hdd⟩ : ∃ ds, ds = d.items ++ d.tail := ⟨_, rfl⟩
    rw [← hdd] at HPT HSZ ⊢
    clear hwD hkw1 hm1 hbx hds hlen hszL hu1 hj hY hN hs hM hr hb hJ hdd
    gi_wp2_with fail
    refine ⟨fun h => by simp [Fence.wide] at h, HR.out.mono ?_⟩
    clear HR hy
    rintro e W2 (⟨rfl, hJ2, hk2⟩ | ⟨rfl, hJx⟩)
    · have hx2 := hk2.keeps HK1.out.2.2 HK1.out.2.1.box HK1.out.2.1.row
      obtain ⟨x0, x1, x2, x3, x4, x5, x6⟩ := Blk.seven hx2
      have HK2 := Lib.hid (HK1.out.1.trans hk2)
      have HJ2 := Lib.hid hJ2
      clear hJ2 hk2 hx2 HK1
      gi_wp2_with fail
      refine ⟨trivial, fun h => by simp [Fence.wide] at h, CallsIn.mono (callsIn_wide.2 (HPT.out W2 (HB0.out.trans HK2.out.below))) ?_⟩
      rintro e W3 ⟨⟨a3, c3, rfl, hrow⟩, hu3⟩
      have HR2 := Lib.hid (HR0.out.kw HK2.out)
      have HK3 := Lib.hid (HK2.out.trans (KW.upd HR2.out hu3))
      have HJ3 := Lib.hid (HJ.out _ _ _ HJ2.out hu3)
      have HRow := Lib.hid hrow
      have HU3 := Lib.hid hu3
      clear hrow hu3 HJ2 HPT HK2 x0 x1 x2 x3 x4 x5 x6
      have hB3 : Below n₀ w W3 := HB0.out.trans HK3.out.below
      have hR3 : RowOk n₀ lb W3 := HR0.out.kw HK3.out
      have hel : ∀ i, i < ds.length → ∃ b o cs, a3 = some ⟨b, o, none⟩ ∧ Mine lb W3 b ∧ At7 W3 b (o + i * 7) cs ∧ IsD w (fun b => b < n₀) n cs (ds.getD i default) := by
        intro i hi
        obtain ⟨b, o, cs, e, hb, hat, hd⟩ := HRow.out i hi
        exact ⟨b, o, cs, e, Mine.new HR2.out HU3.out hb hat.lt, hat, hd⟩
      have HB3 := Lib.hid hB3
      have HR3 := Lib.hid hR3
      have HEL := Lib.hid hel
      obtain ⟨q, hq⟩ : ∃ q, q = ds.length := ⟨_, rfl⟩
      have hq5 : q ≤ 100000 := by
        have h1 := len_le_szL (szN_pos n) ds
        have h2 := HSZ.out.1
        omega
      rw [← hq] at HEL ⊢
      have HQ := Lib.hid hq
      clear hB3 hR3 hel HRow HU3 HR2 hq
      gi_wp2_with fail
      gi_loopw [14] (fun i wr => ∃ j : Nat, j ≤ q ∧ i = .int .i64 j ∧ Hid (∃ ys, datsOf ys = (ds.take j).flatMap (walkD n) ∧ J (pre ++ [x] ++ ys) wr) ∧ Hid (KW n₀ lb W3 wr))
        (fun i _ => q - (intOf i).toNat)
      case atStart => exact ⟨0, Nat.zero_le _, rfl, Lib.hid ⟨[], rfl, by rw [List.append_nil]; exact HJ3.out⟩, Lib.hid (KW.refl _ _ _)⟩
      case round =>
        obtain ⟨j, hj, rfl, hys, hkw⟩ := hrel
        obtain ⟨ys, hyd, hyj⟩ := hys.out
        have HYD := Lib.hid hyd
        clear hys hyd
        by_cases hlt : j < q
        · obtain ⟨b, o, cs, rfl, hmb, hat, hd⟩ := HEL.out j hlt
          have hat' := hkw.out.at7 hat hmb
          obtain ⟨y, hy⟩ : ∃ y, y = ds.getD j default := ⟨_, rfl⟩
          have hjl : j < ds.length := by rw [← HQ.out]; exact hlt
          have hsy := szL_get (szN n) hjl
          have hnx := flatMap_next (f := walkD n) hjl
          have hpx := fun (q : List Dat) (hq : q <+: walkD n (ds.getD j default)) => flatMap_pre hjl hq
          have hall : ((ds.take j).flatMap (walkD n)).length + (walkD n y).length ≤ (ds.flatMap (walkD n)).length := by
            have h1 := (hpx _ (List.prefix_refl _)).length_le
            rw [List.length_append, ← hy] at h1
            exact h1
          rw [← hy] at hd hsy hnx hpx
          obtain ⟨k1, n1, a1, l1, c1, b1, s1, i1, m1, d1, t1, o1, p1, rfl⟩ := hd.shaped
          unfold datCells at *
          obtain ⟨q0, q1, q2, q3, q4, q5, q6⟩ := hat'.cells
          have hR4 := HR3.out.kw hkw.out
          have hu4 : Upd [] wr (wr.alloc (.cells #[.int .i64 k1, .bool n1, .slice a1 l1 c1, .bool b1, .string s1, .slice i1 m1 d1, .slice t1 o1 p1] 56)) := (Upd.refl [] wr).alloc _
          have hk4 := hkw.out.trans (KW.upd hR4 hu4)
          have hyl : ys.length = ((ds.take j).flatMap (walkD n)).length := by
            rw [← HYD.out]
            unfold datsOf
            rw [List.length_map]
          have hih := IH.out (k + 1) (m - 1) y _ (pre ++ [x] ++ ys) _ (by omega) hd (HB3.out.trans hk4.below) (HR3.out.kw hk4) (Nat.le_trans hsy HSZ.out.1) (HJ.out _ _ _ hyj hu4) (by
            have h1 := HSZ.out.2.2
            rw [List.length_cons] at h1
            rw [List.length_append, List.length_append, List.length_singleton, hyl]
            omega)
          have HIH := Lib.hid hih
          have HK4 := Lib.hid hk4
          have HNX := Lib.hid (And.intro hnx hpx)
          clear hat hat' hd hsy hnx hpx hall hR4 hu4 hk4 hyl hih hmb hyj hy hjl
          gi_wp2_with fail
          refine ⟨trivial, fun h => by simp [Fence.wide] at h, CallsIn.mono HIH.out ?_⟩
          rintro e W5 (⟨rfl, zs, hz1, hz2, hz3⟩ | ⟨rfl, zs, hz1, hz2⟩)
          · have HZ := Lib.hid (And.intro hz1 (And.intro hz2 hz3))
            clear hz1 hz2 hz3 HIH
            gi_wp2
            go_roundw
            case rel =>
              refine ⟨j + 1, by omega, by go_num, Lib.hid ⟨ys ++ zs, ?_, by rw [← List.append_assoc]; exact HZ.out.2.1⟩, Lib.hid (HK4.out.trans HZ.out.2.2)⟩
              unfold datsOf at *
              rw [List.map_append, HYD.out, HZ.out.1, HNX.out.1]
            case measure => simp [intOf]; omega
          · have HZ := Lib.hid (And.intro hz1 hz2)
            clear hz1 hz2 HIH
            gi_wp2
            go_ret
            refine .inr ⟨rfl, [x] ++ (ys ++ zs), ?_, by rw [← List.append_assoc, ← List.append_assoc]; exact HZ.out.2⟩
            have h1 := HDS.out
            have h2 := HYD.out
            have h3 := HNX.out.2 _ HZ.out.1
            unfold datsOf at *
            rw [List.map_append, List.map_append, h1, h2]
            exact (List.prefix_append_right_inj [d]).2 h3
        · obtain rfl : j = q := by omega
          have HJJ := Lib.hid hyj
          clear hyj
          gi_wp2
          go_ret
          refine .inl ⟨rfl, [x] ++ ys, ?_, by rw [← List.append_assoc]; exact HJJ.out, HK3.out.trans hkw.out⟩
          have h1 := HDS.out
          have h2 := HYD.out
          rw [HQ.out, List.take_length] at h2
          unfold datsOf at *
          rw [List.map_append, h1, h2]
          rfl
    · gi_wp2
      go_ret
      exact .inr ⟨rfl, [x], by rw [HDS.out]; exact List.prefix_append [d] _, hJx⟩
end Go.Proofs.YtknbgbeepachgaaDoor

/-
  datum.Walk: its iterator's contract.
-/
namespace Go.Proofs.YtknbgbeepachgaaDoor
open Go.RowKit Go.Shelf
attribute [local go_sem] Oper.semAt_some

theorem room_wide (k : Nat) : Fence.wide.room k := fun d h => by simp [Fence.wide] at h
theorem yield_any {m : Nat} (m' : Nat) {P : Program} {l : Nat} {args : Array Value} {W : World} {R : Ending → World → Prop} (h : YieldAt Fence.wide m P l args W R) : YieldAt Fence.wide m' P l args W R := by
  obtain ⟨fn, tmps, assign, body, hy, hR⟩ := h
  exact ⟨fn, tmps, assign, body, hy, hR.1, fun c cs _ => hR.2 c cs (room_wide _)⟩
set_option maxHeartbeats 1000000 in
theorem Walk_calls {k0 : Int} {ng : Bool} {aL : Option Addr} {nL cL : Nat} {bb : Bool} {s0 : ByteArray} {aI : Option Addr} {nI cI : Nat} {aT : Option Addr} {nT cT : Nat} (w : World) :
    Calls Tryd.prog 53 #[.agg #[.int .i64 k0, .bool ng, .slice aL nL cL, .bool bb, .string s0, .slice aI nI cI, .slice aT nT cT]] w fun e w' => e = .returned (.func (.func 59) #[] #[.pointer (some ⟨w.heap.size, 0, none⟩)]) ∧ w' = w.alloc (.cells #[.int .i64 k0, .bool ng, .slice aL nL cL, .bool bb, .string s0, .slice aI nI cI, .slice aT nT cT] 56) := by
  go_enter Tryd.func53, Tryd.ntmps53
  go_wp2
  go_ret
  exact ⟨rfl, rfl⟩
set_option maxRecDepth 100000 in
set_option maxHeartbeats 2000000 in
theorem walk1_in (w : World) (n₀ n m l lb Bt : Nat) (J Jx : List (Cd w n₀ n) → World → Prop) (hJ : ∀ pre W W', J pre W → Upd [] W W' → J pre W') {d : Dat} {cs : List Value} {W : World}
    (hY : ∀ m pre x W, J pre W → pre.length < (walkD n d).length → YieldAt Fence.wide m Tryd.prog l #[.agg x.1.1.toArray] W fun e W' =>
      (e = .returned (.bool true) ∧ J (pre ++ [x]) W' ∧ KW n₀ lb W W') ∨ (e = .returned (.bool false) ∧ Jx (pre ++ [x]) W'))
    (h : IsD w (fun b => b < n₀) n cs d) (hb : Below n₀ w W) (hr : RowOk n₀ lb W) (hs : szN n d ≤ 100000) (hd : dpN n d ≤ 10000) (hB : Blk W Bt cs 56) (h0 : J [] W) :
    CallsIn Fence.wide m Tryd.prog 59 #[.func (.yield l) #[] #[], .pointer (some ⟨Bt, 0, none⟩)] W fun e W' => (∃ v, e = .returned v) ∧
      ((∃ ys, datsOf ys = walkD n d ∧ J ys W') ∨ (∃ pre, datsOf pre <+: walkD n d ∧ Jx pre W')) := by
  have hdW : IsD W (fun b => b < n₀) n cs d := IsD.map (m := 0) (fun _ _ hp => hp) (fun b o v hp hc => (hb.cell (p := ⟨b, o, none⟩) hp).trans hc) h
  obtain ⟨k9, n9, a9, l9, c9, b9, s9, i9, m9, d9, t9, o9, p9, rfl⟩ := h.shaped
  unfold datCells at *
  have HF := Lib.hid (few_calls hdW hs hd)
  have HW := Lib.hid (fun (W2 : World) (hu : Upd [] W W2) => walk_in w n₀ n (walkD n d).length l lb J Jx hJ hY n 0 (m - 1) d _ [] W2 rfl h (hb.trans (KW.upd hr hu).below) (hr.kw (KW.upd hr hu)) hs (hJ _ _ _ h0 hu) (by simp))
  have HB := Lib.hid hB
  obtain ⟨x0, x1, x2, x3, x4, x5, x6⟩ := Blk.seven hB
  obtain ⟨D, hD⟩ : ∃ D, D = walkD n d := ⟨_, rfl⟩
  rw [← hD] at HW ⊢
  clear hdW hY h hb hr hs hd hB h0 hJ hD
  refine callsIn_of_wp Tryd.func59 rfl trivial ?_ rfl
  simp only [Tryd.ntmps59, List.size_toArray, List.length_cons, List.length_nil, Nat.reduceAdd, Nat.reduceSub, Array.replicate_succ, Array.replicate_zero, List.push_toArray, List.append_toArray, List.nil_append, List.cons_append]
  gi_wp2_with fail
  refine ⟨trivial, fun h => by simp [Fence.wide] at h, CallsIn.mono (callsIn_wide.2 HF.out) ?_⟩
  rintro e W2 ⟨rfl, hu2⟩
  obtain ⟨x0, x1, x2, x3, x4, x5, x6⟩ := Blk.seven (hu2.blk HB.out (by simp))
  have HU2 := Lib.hid hu2
  clear hu2 HF
  gi_wp2_with fail
  refine ⟨trivial, fun h => by simp [Fence.wide] at h, CallsIn.mono (HW.out W2 HU2.out) ?_⟩
  rintro e W3 (⟨rfl, ys, hy1, hy2, _⟩ | ⟨rfl, ys, hy1, hy2⟩)
  · have HY := Lib.hid (And.intro hy1 hy2)
    clear hy1 hy2 HW
    gi_wp2
    go_end0
    exact ⟨⟨_, rfl⟩, .inl ⟨ys, HY.out.1, HY.out.2⟩⟩
  · have HY := Lib.hid (And.intro hy1 hy2)
    clear hy1 hy2 HW
    gi_wp2
    go_end0
    exact ⟨⟨_, rfl⟩, .inr ⟨ys, HY.out.1, HY.out.2⟩⟩
end Go.Proofs.YtknbgbeepachgaaDoor
