/-
  Texts of this claim, merged: DatD, DatE. Lemmas and contracts; no conditions of our own.
-/
import Derived.Test.YthmpaepdbjldfaaG10
import Derived.Deep.RegionLaw

/-
  datum.copied: data in new memory.
-/
namespace Go.Proofs.Ythmpaepdbjldfaa
set_option linter.unusedVariables false
set_option linter.unusedSimpArgs false
open Go.RowKit

/-- A row of one's own of these data, all that they have in other new blocks. -/
def OutRow (w0 w : World) (n : Nat) (v : Value) (ds : List Dat) : Prop :=
  ∃ css : List (List Value), css.length = ds.length ∧ (∀ i, i < ds.length → IsD w (fun b => w0.heap.size ≤ b ∧ v.ownBlock ≠ some b) n (css.getD i []) (ds.getD i default)) ∧ w.ownsRow w0.heap.size 27 7 v ds.length css.flatten
theorem OutRow.nil (w0 w : World) (n : Nat) : OutRow w0 w n (.slice none 0 0) [] := ⟨[], rfl, fun i hi => absurd hi (by simp), World.ownsRow_nil _ _ _ _⟩
theorem OutRow.step {w0 w w' : World} {n : Nat} {v : Value} {ds : List Dat} (h : OutRow w0 w n v ds) {S : List Nat} (hu : Upd S w w') (hS : ∀ b, b ∈ S → b < w0.heap.size ∨ w.heap.size ≤ b) : OutRow w0 w' n v ds := by
  obtain ⟨css, h1, h2, h3⟩ := h
  refine ⟨css, h1, fun i hi => ?_, own_upd h3 hu (fun g hg hx => ?_)⟩
  · refine IsD.map (m := 0) (fun _ _ hp => hp) (fun b o v hp hc => hu.cell hc (fun hx => ?_)) (h2 i hi)
    have := World.block_lt_of_cell? w _ hc
    have hh := hS b hx
    have := hp.1
    simp at *
    omega
  · have := h3.lt g hg
    have := hS g hx
    omega
theorem IsD.shaped {w : World} {P : Nat → Prop} {n : Nat} {cs : List Value} {d : Dat} (h : IsD w P n cs d) : Shaped cs := by
  obtain ⟨aL, cL, aI, cI, aT, cT, rfl⟩ := cells_agg h
  exact ⟨_, _, _, _, _, _, _, _, _, _, _, _, _, rfl⟩
/-- One more. -/
theorem OutRow.add {w0 w w' : World} {n : Nat} {v v' : Value} {ds : List Dat} {x : Dat} {cs : List Value} {S : List Nat} {css : List (List Value)}
    (h1 : css.length = ds.length) (h2 : ∀ i, i < ds.length → IsD w (fun b => w0.heap.size ≤ b ∧ v.ownBlock ≠ some b) n (css.getD i []) (ds.getD i default))
    (hx : IsD w (fun b => w0.heap.size ≤ b ∧ v.ownBlock ≠ some b) n cs x) (hu : Upd S w w') (hS : ∀ k, k ∈ S → v.ownBlock = some k) (hv : v'.ownBlock = v.ownBlock ∨ ∃ g, v'.ownBlock = some g ∧ w.heap.size ≤ g)
    (hO : w'.ownsRow w0.heap.size 27 7 v' (ds.length + 1) (css.flatten ++ cs)) : OutRow w0 w' n v' (ds ++ [x]) := by
  have hm : ∀ {cs : List Value} {d : Dat}, IsD w (fun b => w0.heap.size ≤ b ∧ v.ownBlock ≠ some b) n cs d → IsD w' (fun b => w0.heap.size ≤ b ∧ v'.ownBlock ≠ some b) n cs d := by
    intro cs d h
    refine IsD.map (m := 0) (fun b hb hp => ⟨hp.1, fun e => ?_⟩) (fun b o u hp hc => hu.cell hc (fun hx => hp.2 (hS b hx))) h
    rcases hv with hv | ⟨g, hv, hg⟩
    · exact hp.2 (hv.symm.trans e)
    · rw [hv] at e
      injection e with e
      omega
  refine ⟨css ++ [cs], by simp [h1], fun i hi => ?_, by simpa using hO⟩
  rw [List.length_append, List.length_singleton] at hi
  by_cases hl : i < ds.length
  · rw [List.getD_eq_getElem?_getD, List.getElem?_append_left (by omega), ← List.getD_eq_getElem?_getD, List.getD_eq_getElem?_getD (l := ds ++ [x]), List.getElem?_append_left hl, ← List.getD_eq_getElem?_getD]
    exact hm (h2 i hl)
  · have e : i = ds.length := by omega
    subst e
    have e1 : (css ++ [cs]).getD ds.length [] = cs := by rw [← h1]; simp
    have e2 : (ds ++ [x]).getD ds.length default = x := by simp
    rw [e1, e2]
    exact hm hx
/-- At the end. -/
theorem OutRow.row {w0 w : World} {n : Nat} {v : Value} {ds : List Dat} (h : OutRow w0 w n v ds) : ∃ a c, v = .slice a ds.length c ∧ RowOf w (fun b => w0.heap.size ≤ b) (IsD w (fun b => w0.heap.size ≤ b) n) a ds ∧ ds.length ≤ c := by
  obtain ⟨css, h1, h2, h3⟩ := h
  have h4 := h3
  rcases h3.2 with ⟨rfl, h0⟩ | ⟨g, c, _, rfl, hb, _, hcap, _⟩
  · exact ⟨none, 0, by rw [h0], fun i hi => absurd hi (by omega), by omega⟩
  · refine ⟨_, c, rfl, fun i hi => ⟨g, 0, css.getD i [], rfl, hb, ?_, (h2 i hi).mono fun b _ hp => hp.1⟩, hcap⟩
    have hlen : ∀ cs ∈ css, cs.length = 7 := by
      intro cs hc
      obtain ⟨k, hk, rfl⟩ := List.getElem_of_mem hc
      have := (h2 k (by omega)).shaped.len
      simpa [List.getD_eq_getElem?_getD, hk] using this
    refine ⟨(h2 i hi).shaped.len, fun j hj => ?_⟩
    rw [show 0 + i * 7 + j = i * 7 + j by omega, h4.cellAt (i * 7 + j) (by omega)]
    exact flatten_get hlen (by omega) hj
theorem LimbsOf.upd {w w' : World} {P : Nat → Prop} {a : Option Addr} {xs : List Int} (h : LimbsOf w P a xs) (hu : Upd [] w w') : LimbsOf w' P a xs := by
  intro i hi
  obtain ⟨b, o, e, hp, hc⟩ := h i hi
  exact ⟨b, o, e, hp, hu.cell hc (by simp)⟩
theorem RowOf.updD {w w' : World} {P : Nat → Prop} {n : Nat} {a : Option Addr} {ds : List Dat} (h : RowOf w P (IsD w P n) a ds) (hu : Upd [] w w') : RowOf w' P (IsD w' P n) a ds :=
  h.map (fun _ _ hp => hp) (fun _ _ _ _ hc => hu.cell hc (by simp)) (fun _ _ h => h.upd hu)
/-- Behind the two calls: the new datum. -/
theorem cop_join {wr W6 w7 w8 W9 : World} {n' : Nat} {x : Dat} {aL aI aT yI yT : Option Addr} {cL cI cT zI zT : Nat}
    (hW : W9 = (w8.setCell ⟨wr.heap.size, 5, none⟩ (.slice aI x.items.length cI)).setCell ⟨wr.heap.size, 6, none⟩ (.slice aT x.tail.length cT))
    (hB8 : Blk w8 wr.heap.size [.int .i64 x.kind, .bool x.neg, .slice aL x.limbs.length cL, .bool x.b, .string x.s, .slice yI x.items.length zI, .slice yT x.tail.length zT] 27)
    (hL : LimbsOf W6 (fun b => wr.heap.size + 1 ≤ b) aL x.limbs) (hUr : Upd [] wr W6) (hlt : wr.heap.size < W6.heap.size) (hu7 : Upd [] W6 w7) (hu8 : Upd [] w7 w8)
    (hI : RowOf w7 (fun b => W6.heap.size ≤ b) (IsD w7 (fun b => W6.heap.size ≤ b) n') aI x.items) (hT : RowOf w8 (fun b => w7.heap.size ≤ b) (IsD w8 (fun b => w7.heap.size ≤ b) n') aT x.tail)
    (hcap : x.limbs.length ≤ cL ∧ x.items.length ≤ cI ∧ x.tail.length ≤ cT)
    (hb : (-9223372036854775808 ≤ x.kind ∧ x.kind ≤ 9223372036854775807) ∧ (∀ y ∈ x.limbs, 0 ≤ y ∧ y < 4294967296) ∧ x.limbs.length ≤ 35184372088832 ∧ x.s.size ≤ 140737488351232 ∧ x.items.length ≤ 35184372088832 ∧ x.tail.length ≤ 35184372088832) :
    Blk W9 wr.heap.size [.int .i64 x.kind, .bool x.neg, .slice aL x.limbs.length cL, .bool x.b, .string x.s, .slice aI x.items.length cI, .slice aT x.tail.length cT] 27 ∧ Upd [] wr W9 ∧
      IsD W9 (fun b => wr.heap.size + 1 ≤ b) (n' + 1) [.int .i64 x.kind, .bool x.neg, .slice aL x.limbs.length cL, .bool x.b, .string x.s, .slice aI x.items.length cI, .slice aT x.tail.length cT] x := by
  have hs7 := hu7.size
  have hs8 := hu8.size
  have h8 : ∀ b o v, wr.heap.size + 1 ≤ b → w8.cell? ⟨b, o, none⟩ = some v → W9.cell? ⟨b, o, none⟩ = some v := by
    intro b o v hb hc
    rw [hW, World.cell?_of_block (Below.heap_setCell _ _ _ _ (by simp; omega)), World.cell?_of_block (Below.heap_setCell _ _ _ _ (by simp; omega))]
    exact hc
  have h7 : ∀ b o v, wr.heap.size + 1 ≤ b → w7.cell? ⟨b, o, none⟩ = some v → W9.cell? ⟨b, o, none⟩ = some v := fun b o v hb hc => h8 b o v hb (hu8.cell hc (by simp))
  refine ⟨?_, ?_, aL, cL, aI, cI, aT, cT, rfl, fun i hi => ?_, ?_, ?_, hcap, hb⟩
  · rw [hW]
    exact (hB8.set 5 _).set 6 _
  · rw [hW]
    exact (((hUr.then hu7).then hu8).setCell _ (.inr (Nat.le_refl _))).setCell _ (.inr (Nat.le_refl _))
  · obtain ⟨b, o, e, hp, hc⟩ := hL i hi
    exact ⟨b, o, e, hp, h7 _ _ _ hp (hu7.cell hc (by simp))⟩
  · exact hI.map (fun b _ hp => by omega) (fun b o v hp hc => h7 b o v (by omega) hc) (fun cs d h => IsD.map (m := 0) (fun b _ hp => by omega) (fun b o v hp hc => h7 b o v (by omega) hc) h)
  · exact hT.map (fun b _ hp => by omega) (fun b o v hp hc => h8 b o v (by omega) hc) (fun cs d h => IsD.map (m := 0) (fun b _ hp => by omega) (fun b o v hp hc => h8 b o v (by omega) hc) h)
/-- What copied answers. -/
def CopPost (w : World) (n : Nat) (ds : List Dat) (e : Ending) (w' : World) : Prop :=
  (∃ a c, e = .returned (.slice a ds.length c) ∧ RowOf w' (fun b => w.heap.size ≤ b) (IsD w' (fun b => w.heap.size ≤ b) n) a ds ∧ ds.length ≤ c) ∧ Upd [] w w'
def CopSaid (P : Nat → Prop) (n : Nat) : Prop := ∀ (ds : List Dat) (w : World) (a : Option Addr) (m c : Nat), m = ds.length → RowOf w P (IsD w P n) a ds → szL (szN n) ds ≤ 100000 →
    Calls Try.prog 42 #[.slice a m c] w (CopPost w n ds)
set_option maxRecDepth 100000 in
set_option maxHeartbeats 2000000 in
theorem copied_step (P : Nat → Prop) (n : Nat) (ih : ∀ n', n = n' + 1 → CopSaid P n') : CopSaid P n := by
  intro ds w a m c hm hr hs
  have IH := Lib.hid ih
  have HR := Lib.hid hr
  have HS := Lib.hid hs
  have HM := Lib.hid hm
  have hml : m ≤ 100000 := by
    have := len_le_szL (szN_pos n) ds
    omega
  clear ih hr hs hm
  go_enter Try.func42, Try.ntmps42
  go_wp2_with fail
  go_loopw [3, 8] (fun lv i wr => ∃ j : Nat, j ≤ m ∧ i = .int .i64 j ∧ Hid (OutRow w wr n lv (ds.take j)) ∧ Hid (Upd [] w wr)) (fun _ i _ => m - (intOf i).toNat)
  case atStart => exact ⟨0, by omega, rfl, OutRow.nil _ _ _, Upd.refl _ _⟩
  case round =>
    obtain ⟨j, hj, rfl, hO, hU⟩ := hrel
    by_cases hlt : j < m
    · have hjl : j < ds.length := by rw [← HM.out]; exact hlt
      obtain ⟨b, o, cs, rfl, _, hat, hd0⟩ := HR.out j hjl
      obtain ⟨n', hn'⟩ : ∃ n', n = n' + 1 := by
        cases n with
        | zero => exact hd0.elim
        | succ k => exact ⟨k, rfl⟩
      subst hn'
      have hsx := szL_get (szN (n' + 1)) hjl
      have htk := take_next hjl
      obtain ⟨x, hx⟩ : ∃ x, x = ds.getD j default := ⟨_, rfl⟩
      rw [← hx] at hd0 hsx htk
      clear hx
      obtain ⟨yL, zL, yI, zI, yT, zT, rfl, l1, r1, r2, _, l4, l5, l6, l7, l8, l9⟩ := hd0
      obtain ⟨q0, q1, q2, q3, q4, q5, q6⟩ := (hat.upd hU.out (by simp)).cells
      have hs0 := HS.out
      rw [szN] at hsx
      have hCI : ∀ W, Upd [] w W → Calls Try.prog 42 #[.slice yI x.items.length zI] W (CopPost W n' x.items) := fun W hu => IH.out n' rfl x.items W yI _ zI rfl (r1.updD hu) (by omega)
      have hCT : ∀ W, Upd [] w W → Calls Try.prog 42 #[.slice yT x.tail.length zT] W (CopPost W n' x.tail) := fun W hu => IH.out n' rfl x.tail W yT _ zT rfl (r2.updD hu) (by omega)
      have hu4 : Upd [] wr (wr.alloc (.cells #[.int .i64 x.kind, .bool x.neg, .slice yL x.limbs.length zL, .bool x.b, .string x.s, .slice yI x.items.length zI, .slice yT x.tail.length zT] 27)) := (Upd.refl [] wr).alloc _
      have hC := Lib.hid (clone_calls x.limbs.length zL rfl (l1.upd (hU.out.then hu4)) l6)
      have hB4 : Blk (wr.alloc (.cells #[.int .i64 x.kind, .bool x.neg, .slice yL x.limbs.length zL, .bool x.b, .string x.s, .slice yI x.items.length zI, .slice yT x.tail.length zT] 27)) wr.heap.size [.int .i64 x.kind, .bool x.neg, .slice yL x.limbs.length zL, .bool x.b, .string x.s, .slice yI x.items.length zI, .slice yT x.tail.length zT] 27 := Blk.newAt rfl
      have HB4 := Lib.hid hB4
      have HCI := Lib.hid hCI
      have HCT := Lib.hid hCT
      have HU4 := Lib.hid hu4
      have HTK := Lib.hid htk
      have HB := Lib.hid (And.intro l4 (And.intro l5 (And.intro l6 (And.intro l7 (And.intro l8 l9)))))
      clear hat hs0 hCI hCT hu4 hB4 htk l1 r1 r2 l4 l5 l6 l7 l8 l9
      go_wp2_with fail
      refine hC.out.mono ?_
      rintro e w5 ⟨⟨aL, cL, rfl, hL, hLc⟩, hu5⟩
      have hB5 := hu5.blk HB4.out (by simp)
      clear hC
      have c2 : w5.cell? ⟨wr.heap.size, 2, none⟩ = some (.slice yL x.limbs.length zL) := hB5.cell_some rfl
      have f2 := hB5.free 2
      have HB5 := Lib.hid hB5
      have HL := Lib.hid hL
      have HU5 := Lib.hid hu5
      clear hB5 hL hu5 q0 q1 q2 q3 q4 q5 q6
      go_wp2_with fail
      obtain ⟨W6, hW6⟩ : ∃ W6, W6 = w5.setCell ⟨wr.heap.size, 2, none⟩ (.slice aL x.limbs.length cL) := ⟨_, rfl⟩
      have hB6 : Blk W6 wr.heap.size [.int .i64 x.kind, .bool x.neg, .slice aL x.limbs.length cL, .bool x.b, .string x.s, .slice yI x.items.length zI, .slice yT x.tail.length zT] 27 := by
        rw [hW6]
        exact HB5.out.set 2 _
      have hU6 : Upd [] wr W6 := by
        rw [hW6]
        exact (HU4.out.then HU5.out).setCell _ (.inr (Nat.le_refl _))
      have hL6 : LimbsOf W6 (fun b => wr.heap.size + 1 ≤ b) aL x.limbs := by
        rw [hW6]
        intro i hi
        obtain ⟨b, o, e, hp, hc⟩ := HL.out i hi
        simp at hp
        refine ⟨b, o, e, hp, ?_⟩
        rw [World.cell?_of_block (Below.heap_setCell _ _ _ _ (by simp; omega))]
        exact hc
      rw [← hW6]
      clear hW6 c2 f2 HL HB5 HB4 HU4 HU5
      have HL6 := Lib.hid hL6
      have HU6 := Lib.hid (hU.out.then hU6)
      have HUr6 := Lib.hid hU6
      have c5 : W6.cell? ⟨wr.heap.size, 5, none⟩ = some (.slice yI x.items.length zI) := hB6.cell_some rfl
      have c6 : W6.cell? ⟨wr.heap.size, 6, none⟩ = some (.slice yT x.tail.length zT) := hB6.cell_some rfl
      have HB6 := Lib.hid hB6
      clear hB6 hL6 hU6
      go_region_with (first
        | (go_at_call_of 42 (Value.slice yI x.items.length zI); refine (HCI.out _ HU6.out.drew).mono ?_; rintro e w7 ⟨⟨aI, cI, rfl, hI, hIc⟩, hu7⟩; have c67 : w7.cell? ⟨wr.heap.size, 6, none⟩ = some (.slice yT x.tail.length zT) := Upd.cell hu7 c6 (by simp))
        | (go_at_call_of 42 (Value.slice yT x.tail.length zT); refine (HCT.out _ (HU6.out.drew.then hu7)).mono ?_; rintro e w8 ⟨⟨aT, cT, rfl, hT, hTc⟩, hu8⟩; have hB8 := hu8.blk (hu7.blk HB6.out (by simp)) (by simp); have c58 := hB8.cell_some (i := 5) rfl; have c68 := hB8.cell_some (i := 6) rfl; have f58 := hB8.free 5; have f68 := hB8.free 6))
      all_goals
        have hlt6 : wr.heap.size < W6.heap.size := HB6.out.lt
        obtain ⟨W9, hW9⟩ : ∃ W9, W9 = (w8.setCell ⟨wr.heap.size, 5, none⟩ (.slice aI x.items.length cI)).setCell ⟨wr.heap.size, 6, none⟩ (.slice aT x.tail.length cT) := ⟨_, rfl⟩
        obtain ⟨hB9, hU9, hD9⟩ := cop_join hW9 hB8 HL6.out HUr6.out hlt6 (((Upd.refl [] W6).drew).then hu7) hu8 hI hT ⟨hLc, hIc, hTc⟩ HB.out
        rw [← hW9]
        have htl : (ds.take j).length = j := by rw [List.length_take]; omega
        have hsw := hU.out.size
        obtain ⟨css0, z1, z2, k30⟩ := hO.out
        have hlo := k30.lt
        obtain ⟨css, k1, k2, k3⟩ := hO.out.step hU9 (by simp)
        rw [htl] at k3
        have hsh : ∀ u ∈ [Value.int .i64 x.kind, .bool x.neg, .slice aL x.limbs.length cL, .bool x.b, .string x.s, .slice aI x.items.length cI, .slice aT x.tail.length cT], u.oneCell' = true := hD9.shaped.one
        have hD10 : IsD W9 (fun b => w.heap.size ≤ b ∧ u3.ownBlock ≠ some b) (n' + 1) [.int .i64 x.kind, .bool x.neg, .slice aL x.limbs.length cL, .bool x.b, .string x.s, .slice aI x.items.length cI, .slice aT x.tail.length cT] x :=
          hD9.mono fun b _ hp => ⟨by omega, fun e => by have := (hlo b e).2; omega⟩
        have q0 := hB9.cell_some (i := 0) rfl
        have q1 := hB9.cell_some (i := 1) rfl
        have q2 := hB9.cell_some (i := 2) rfl
        have q3 := hB9.cell_some (i := 3) rfl
        have q4 := hB9.cell_some (i := 4) rfl
        have q5 := hB9.cell_some (i := 5) rfl
        have q6 := hB9.cell_some (i := 6) rfl
        have HK3 := Lib.hid k3
        have HK := Lib.hid (And.intro k1 k2)
        have HD10 := Lib.hid hD10
        have HSH := Lib.hid hsh
        have hU10 := Lib.hid (hU.out.then hU9)
        have hb10 : w.heap.size ≤ W9.heap.size := hU10.out.size
        clear hW9 hB8 hu7 hu8 hI hT c58 c68 f58 f68 c67 c5 c6 hB9 hU9 hD9 htl hlo z1 z2 k30 css0 k1 k2 k3 hD10 hsh hlt6 HB6 HL6 HUr6 HU6
        go_wp2_with (at_builtin; refine wpList_app rfl _ _ 25 rfl w.heap.size 27 _ 7 112 Try.underlying25 info_dat rfl (by decide) _ _ _ rfl HK3.out [Value.int .i64 x.kind, .bool x.neg, .slice aL x.limbs.length cL, .bool x.b, .string x.s, .slice aI x.items.length cI, .slice aT x.tail.length cT] 1 rfl rfl HSH.out (by unfold maxLen; omega) (by omega) hb10 ?_; intro g cap w10 S hO10 hu10 hS10 hg10)
        have htl2 : (ds.take j).length = j := by rw [List.length_take]; omega
        have hadd : OutRow w w10 (n' + 1) (.slice (some ⟨g, 0, none⟩) (j + 1) cap) (ds.take (j + 1)) := by
          rw [HTK.out]
          refine OutRow.add (w := W9) (v := u3) HK.out.1 HK.out.2 HD10.out hu10 hS10 ?_ (by rw [htl2]; exact hO10)
          rcases hg10 with h | h
          · exact .inl h.symm
          · exact .inr ⟨g, rfl, by omega⟩
        have HADD := Lib.hid hadd
        have HU11 := Lib.hid (hU10.out.onto hu10 (fun k hk => (HK3.out.lt k (hS10 k hk)).1))
        clear hadd htl2 hO10 hu10 hS10 hg10 HK3 HK HD10 HSH hU10 q0 q1 q2 q3 q4 q5 q6
        go_wp2
        go_roundw
        case rel => exact ⟨j + 1, by omega, by go_num, HADD, HU11⟩
        case measure => simp [intOf]; omega
    · have hjm : j = m := by omega
      subst hjm
      have hO1 := hO.out
      rw [HM.out, List.take_length] at hO1
      obtain ⟨a', c', rfl, hR, hRc⟩ := hO1.row
      have HR9 := Lib.hid hR
      clear hO hR hO1
      go_wp2
      go_ret
      exact ⟨⟨a', c', rfl, HR9.out, hRc⟩, hU.out⟩
theorem copied_calls (P : Nat → Prop) : ∀ n, CopSaid P n
  | 0 => copied_step P 0 (fun n' h => by omega)
  | n + 1 => copied_step P (n + 1) (fun n' h => by
      have e : n = n' := by omega
      rw [← e]
      exact copied_calls P n)
end Go.Proofs.Ythmpaepdbjldfaa

/-
  datum.Copy.
-/
namespace Go.Proofs.Ythmpaepdbjldfaa
set_option linter.unusedVariables false
set_option linter.unusedSimpArgs false
open Go.RowKit

theorem IsD.set_other {w : World} {P : Nat → Prop} {n : Nat} {cs : List Value} {d : Dat} (h : IsD w P n cs d) (a : Addr) (v : Value) (hP : ∀ b, P b → b ≠ a.block) : IsD (w.setCell a v) P n cs d :=
  IsD.map (m := 0) (fun _ _ hp => hp) (fun b o u hp hc => (World.cell?_of_block (w := w) (Below.heap_setCell _ _ _ _ (by have := hP b hp; simpa [eq_comm] using this))).trans hc) h
set_option maxRecDepth 100000 in
set_option maxHeartbeats 1500000 in
theorem copy_calls {P : Nat → Prop} {n : Nat} {d : Dat} {cs : List Value} {w : World} (h : IsD w P n cs d) (hs : szN n d ≤ 100000) (hd : dpN n d ≤ 10000) :
    Calls Try.prog 12 #[.agg cs.toArray] w fun e w' => (∃ cs', e = .returned (.agg cs'.toArray) ∧ IsD w' (fun b => w.heap.size ≤ b) n cs' d) ∧ Upd [] w w' := by
  obtain ⟨yL, zL, yI, zI, yT, zT, rfl⟩ := cells_agg h
  have hu1 := ((Upd.refl [] w).alloc (.cells (datCells d.kind d.neg yL d.limbs.length zL d.b d.s yI d.items.length zI yT d.tail.length zT).toArray 27)).alloc (.cells (datCells 0 false none 0 0 false ByteArray.empty none 0 0 none 0 0).toArray 27)
  have hF := Lib.hid (few_calls (h.upd hu1) hs hd)
  have hU := Lib.hid hu1
  have hB0 := Lib.hid (((Blk.new w (datCells d.kind d.neg yL d.limbs.length zL d.b d.s yI d.items.length zI yT d.tail.length zT) 27).alloc (.cells (datCells 0 false none 0 0 false ByteArray.empty none 0 0 none 0 0).toArray 27)))
  have hC := Lib.hid (fun (W : World) (hu : Upd [] w W) (b : Nat) (hb : Blk W b (datCells d.kind d.neg yL d.limbs.length zL d.b d.s yI d.items.length zI yT d.tail.length zT) 27) =>
    copied_calls (fun _ => True) n [d] W (some ⟨b, 0, none⟩) 1 1 rfl (fun i hi => by
      have hi0 : i = 0 := by simpa using hi
      subst hi0
      exact ⟨b, 0, _, rfl, trivial, ⟨rfl, fun j _ => by rw [show 0 + 0 * 7 + j = j by omega, hb.cell]⟩, (h.upd hu).mono fun _ _ _ => trivial⟩) (by simp only [szL]; omega))
  have hKS := Lib.hid (And.intro hs hd)
  clear h hu1 hs hd
  unfold datCells at hF hU hB0 hC ⊢
  generalize d.kind = kd9 at *
  generalize d.neg = ng9 at *
  generalize d.limbs.length = nl9 at *
  generalize d.b = bb9 at *
  generalize d.s = ss9 at *
  generalize d.items.length = ni9 at *
  generalize d.tail.length = nt9 at *
  go_enter Try.func12, Try.ntmps12
  go_wp2_with fail
  refine hF.out.mono ?_
  rintro e w2 ⟨rfl, hu2⟩
  have hU2 := Lib.hid (hU.out.then hu2)
  have hB2 := hu2.blk hB0.out (by simp)
  have q0 := hB2.cell_some (i := 0) rfl
  have q1 := hB2.cell_some (i := 1) rfl
  have q2 := hB2.cell_some (i := 2) rfl
  have q3 := hB2.cell_some (i := 3) rfl
  have q4 := hB2.cell_some (i := 4) rfl
  have q5 := hB2.cell_some (i := 5) rfl
  have q6 := hB2.cell_some (i := 6) rfl
  have hR2 := Lib.hid (hu2.blk (Blk.new (w.alloc (.cells #[.int .i64 kd9, .bool ng9, .slice yL nl9 zL, .bool bb9, .string ss9, .slice yI ni9 zI, .slice yT nt9 zT] 27)) (datCells 0 false none 0 0 false ByteArray.empty none 0 0 none 0 0) 27) (by simp))
  have HB2 := Lib.hid hB2
  clear hF hB0 hB2 hu2 hU
  go_wp2_with fail
  refine (hC.out (w2.alloc (.cells #[.int .i64 kd9, .bool ng9, .slice yL nl9 zL, .bool bb9, .string ss9, .slice yI ni9 zI, .slice yT nt9 zT] 27)) (hU2.out.alloc _) w2.heap.size (Blk.newAt rfl)).mono ?_
  rintro e w3 ⟨⟨a, c, rfl, hRow, _⟩, hu3⟩
  obtain ⟨b3, o3, cs, rfl, hb3, hat, hD⟩ := hRow 0 (by simp)
  obtain ⟨k, neg, aL, nL, cL, bb, ss, aI, nI, cI, aT, nT, cT, rfl⟩ := hD.shaped
  have hR3 := hu3.blk (hR2.out.alloc (.cells #[.int .i64 kd9, .bool ng9, .slice yL nl9 zL, .bool bb9, .string ss9, .slice yI ni9 zI, .slice yT nt9 zT] 27)) (by simp)
  have hU3 := Lib.hid ((hU2.out.alloc (.cells #[.int .i64 kd9, .bool ng9, .slice yL nl9 zL, .bool bb9, .string ss9, .slice yI ni9 zI, .slice yT nt9 zT] 27)).then hu3)
  rw [Nat.zero_mul, Nat.add_zero] at hat
  obtain ⟨p0, p1, p2, p3, p4, p5, p6⟩ := hat.cells
  have hne : w.heap.size + 1 < b3 := by
    have h1 := hR2.out.lt
    simp at h1 hb3
    omega
  have hr : (w.alloc (.cells #[.int .i64 kd9, .bool ng9, .slice yL nl9 zL, .bool bb9, .string ss9, .slice yI ni9 zI, .slice yT nt9 zT] 27)).heap.size = w.heap.size + 1 := by simp
  rw [hr] at hR3
  have e0 := hR3.cell_some (i := 0) rfl
  have e1 := hR3.cell_some (i := 1) rfl
  have e2 := hR3.cell_some (i := 2) rfl
  have e3 := hR3.cell_some (i := 3) rfl
  have e4 := hR3.cell_some (i := 4) rfl
  have e5 := hR3.cell_some (i := 5) rfl
  have e6 := hR3.cell_some (i := 6) rfl
  have f0 := hR3.free 0
  have f1 := hR3.free 1
  have f2 := hR3.free 2
  have f3 := hR3.free 3
  have f4 := hR3.free 4
  have f5 := hR3.free 5
  have f6 := hR3.free 6
  have hRlt := hR3.lt
  have HR3 := Lib.hid hR3
  have HD := Lib.hid hD
  have HB3 := Lib.hid (And.intro hb3 hR2.out.lt)
  clear hC hR3 hD hRow hu3 hat hb3 hr q0 q1 q2 q3 q4 q5 q6 HB2
  go_wp2
  have hBf := (((((((HR3.out.set 0 (.int .i64 k)).set 1 (.bool neg)).set 2 (.slice aL nL cL)).set 3 (.bool bb)).set 4 (.string ss)).set 5 (.slice aI nI cI)).set 6 (.slice aT nT cT))
  have k0 := hBf.cell_some (i := 0) rfl
  have k1 := hBf.cell_some (i := 1) rfl
  have k2 := hBf.cell_some (i := 2) rfl
  have k3 := hBf.cell_some (i := 3) rfl
  have k4 := hBf.cell_some (i := 4) rfl
  have k5 := hBf.cell_some (i := 5) rfl
  have k6 := hBf.cell_some (i := 6) rfl
  have hUf := (((((((hU3.out.setCell (.int .i64 k) (p := ⟨w.heap.size + 1, 0, none⟩) (.inr (Nat.le_succ _))).setCell (.bool neg) (p := ⟨w.heap.size + 1, 1, none⟩) (.inr (Nat.le_succ _))).setCell (.slice aL nL cL) (p := ⟨w.heap.size + 1, 2, none⟩) (.inr (Nat.le_succ _))).setCell (.bool bb) (p := ⟨w.heap.size + 1, 3, none⟩) (.inr (Nat.le_succ _))).setCell (.string ss) (p := ⟨w.heap.size + 1, 4, none⟩) (.inr (Nat.le_succ _))).setCell (.slice aI nI cI) (p := ⟨w.heap.size + 1, 5, none⟩) (.inr (Nat.le_succ _))).setCell (.slice aT nT cT) (p := ⟨w.heap.size + 1, 6, none⟩) (.inr (Nat.le_succ _)))
  have hPn : ∀ b, w.heap.size + 2 ≤ b → b ≠ w.heap.size + 1 := fun b h => by omega
  have hD4 : IsD w3 (fun b => w.heap.size + 2 ≤ b) n _ d := HD.out.mono fun b _ hp => by
    have h1 := HB3.out.2
    simp at h1 hp
    omega
  have hD5 := (((((((hD4.set_other ⟨w.heap.size + 1, 0, none⟩ (.int .i64 k) hPn).set_other ⟨w.heap.size + 1, 1, none⟩ (.bool neg) hPn).set_other ⟨w.heap.size + 1, 2, none⟩ (.slice aL nL cL) hPn).set_other ⟨w.heap.size + 1, 3, none⟩ (.bool bb) hPn).set_other ⟨w.heap.size + 1, 4, none⟩ (.string ss) hPn).set_other ⟨w.heap.size + 1, 5, none⟩ (.slice aI nI cI) hPn).set_other ⟨w.heap.size + 1, 6, none⟩ (.slice aT nT cT) hPn)
  refine bodyPost_ret (v := .agg #[.int .i64 k, .bool neg, .slice aL nL cL, .bool bb, .string ss, .slice aI nI cI, .slice aT nT cT]) ?_ rfl ⟨⟨[.int .i64 k, .bool neg, .slice aL nL cL, .bool bb, .string ss, .slice aI nI cI, .slice aT nT cT], rfl, hD5.mono fun b _ hp => by omega⟩, hUf⟩
  simp [results, Try.results12, go_sem, k0, k1, k2, k3, k4, k5, k6]
end Go.Proofs.Ythmpaepdbjldfaa
