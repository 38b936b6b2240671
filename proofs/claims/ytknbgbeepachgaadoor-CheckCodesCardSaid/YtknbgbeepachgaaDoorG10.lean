/-
  Texts of this claim, merged: ChS, RcG. Lemmas and contracts; no conditions of our own.
-/
import Derived.Test.YtknbgbeepachgaaDoorG3
import Derived.Test.YtknbgbeepachgaaDoorG7
import Derived.Test.YtknbgbeepachgaaDoorG9

/-
  code.goodConst.
-/
namespace Go.Proofs.YtknbgbeepachgaaDoor
open Go.RowKit Go.Shelf
attribute [local go_sem] Oper.semAt_some

/-- May a constant be? -/
def constN (n : Nat) (d : Dat) : Bool := (decide (0 ≤ budN n d 5000 200) && goodN n d) && (d.kind == 0 || (walkD n d).all (fun x => x.kind != 0))
/-- As long as the loop goes on; and where it was left. -/
def GRel (w : World) (n R m : Nat) (ys : List (Cd w w.heap.size n)) (W : World) : Prop := Blk W R [.bool false] 4 ∧ Upd [] w W ∧ (∀ y ∈ ys, y.1.2.kind ≠ 0) ∧ m ≤ W.heap.size
def GCut (w : World) (n R : Nat) (ys : List (Cd w w.heap.size n)) (W : World) : Prop := Blk W R [.bool false] 4 ∧ Upd [] w W ∧ ∃ y ∈ ys, y.1.2.kind = 0
theorem GRel.noCell' {w W W' : World} {R : Nat} {row : Option Nat} (hb : Blk W R [.bool false] 4) (hu : Upd [] w W) (hg : W.grownBy W' row) (hr : ∀ r, row = some r → w.heap.size ≤ r ∧ ∃ o : Obj, W.heap[r]? = some o ∧ o.isCells = false) : Blk W' R [.bool false] 4 ∧ Upd [] w W' :=
  ⟨hb.noCell hg (fun r e => (hr r e).2), hu.onto (Upd.of_grown hg (fun k hk => by simp [hk]) : Upd row.toList W W') (fun x hx => (hr x (by simpa using hx)).1)⟩
theorem GRel.noCell2 {w W W' : World} {R : Nat} {b : Bool} {row : Option Nat} (hb : Blk W R [.bool b] 4) (hu : Upd [] w W) (hg : W.grownBy W' row) (hr : ∀ r, row = some r → w.heap.size ≤ r ∧ ∃ o : Obj, W.heap[r]? = some o ∧ o.isCells = false) : Blk W' R [.bool b] 4 ∧ Upd [] w W' :=
  ⟨hb.noCell hg (fun r e => (hr r e).2), hu.onto (Upd.of_grown hg (fun k hk => by simp [hk]) : Upd row.toList W W') (fun x hx => (hr x (by simpa using hx)).1)⟩
theorem res_cell {tmps : Array Value} {W : World} {R : Nat} {b : Bool} (hp : tmps.getD 2 undef = .pointer (some ⟨R, 0, none⟩)) (hc : W.cell? ⟨R, 0, none⟩ = some (.bool b)) : (results Tryd.f42 tmps).run Tryd.prog W = .ok (.bool b) W := by
  have hp' : tmps[2]?.getD undef = .pointer (some ⟨R, 0, none⟩) := by simpa using hp
  simp [results, Tryd.results42, go_sem, hp', hc]
set_option maxRecDepth 100000 in
set_option maxHeartbeats 4000000 in
theorem goodConst_calls {n : Nat} {d : Dat} {cs : List Value} {w : World} (h : IsD w (fun b => b < w.heap.size) n cs d) (hs : szN n d ≤ 100000) (hd : dpN n d ≤ 10000) :
    Calls Tryd.prog 42 #[.agg cs.toArray] w fun e w' => e = .returned (.bool (constN n d)) ∧ Upd [] w w' := by
  obtain ⟨k9, n9, a9, l9, c9, b9, s9, i9, m9, d9, t9, o9, p9, rfl⟩ := h.shaped
  have hk9 : d.kind = k9 := by
    obtain ⟨aL, cL, aI, cI, aT, cT, e⟩ := cells_agg h
    unfold datCells at e
    injection e with e _
    injection e with _ e
    exact e.symm
  unfold datCells at *
  have hM : (walkD n d).length ≤ 100000 := by
    rw [walkD_len n d (by omega)]
    exact hs
  obtain ⟨W1, hW1⟩ : ∃ W1, W1 = (w.alloc (.cells #[.int .i64 k9, .bool n9, .slice a9 l9 c9, .bool b9, .string s9, .slice i9 m9 d9, .slice t9 o9 p9] 56)).alloc (.cells #[.bool false] 4) := ⟨_, rfl⟩
  have hu1 : Upd [] w W1 := by
    rw [hW1]
    exact ((Upd.refl [] w).alloc _).alloc _
  have hB1 : Blk W1 w.heap.size [.int .i64 k9, .bool n9, .slice a9 l9 c9, .bool b9, .string s9, .slice i9 m9 d9, .slice t9 o9 p9] 56 := by
    rw [hW1]
    exact (Blk.newAt rfl).alloc _
  have hR1 : Blk W1 (w.heap.size + 1) [.bool false] 4 := by
    rw [hW1]
    exact Blk.newAt (by simp)
  have hG := Good_calls (h.upd hu1) hs
  obtain ⟨gd, hgd⟩ : ∃ gd, gd = (decide (0 ≤ budN n d 5000 200) && goodN n d) := ⟨_, rfl⟩
  have hCN : constN n d = (gd && (k9 == 0 || (walkD n d).all (fun x => x.kind != 0))) := by
    unfold constN
    rw [hgd, hk9]
  rw [← hgd] at hG
  have HCN := Lib.hid hCN
  have HG := Lib.hid hG
  have HB1 := Lib.hid hB1
  have HR1 := Lib.hid hR1
  have HU1 := Lib.hid hu1
  have HW1 := Lib.hid hW1
  have H := Lib.hid h
  clear hCN hG hB1 hR1 hu1 hW1 hgd h hk9
  refine callsIn_wide.1 (callsIn_of_wp_marks (n := 5) Tryd.func42 rfl trivial (wpIn_wide.2 ?_) rfl)
  simp only [Tryd.ntmps42, List.size_toArray, List.length_cons, List.length_nil, Nat.reduceAdd, Nat.reduceSub, Array.replicate_succ, Array.replicate_zero, List.push_toArray, List.append_toArray, List.nil_append, List.cons_append]
  go_wp2_with fail
  rw [← HW1.out]
  refine HG.out.mono ?_
  rintro e w2 ⟨rfl, hu2⟩
  have HU2 := Lib.hid (HU1.out.then hu2)
  have HB2 := Lib.hid (hu2.blk HB1.out (by simp))
  have HR2 := Lib.hid (hu2.blk HR1.out (by simp))
  clear hu2 HG HB1 HR1 HW1 HU1
  obtain ⟨x0, x1, x2, x3, x4, x5, x6⟩ := Blk.seven HB2.out
  have r0 := HR2.out.cell_some (i := 0) rfl
  have f0 := HR2.out.free 0
  cases gd with
  | false =>
    have E9 : Hid (constN n d = false) := Lib.hid (by rw [HCN.out]; rfl)
    have hUz := HU2.out.setCell (p := ⟨w.heap.size + 1, 0, none⟩) (.bool false) (.inr (by simp))
    have HUz := Lib.hid hUz
    have HCz := Lib.hid ((HR2.out.set 0 (.bool false)).cell_some (i := 0) rfl)
    clear HCN hUz
    go_wp2_with fail
    refine ⟨_, res_cell rfl HCz.out, by rw [E9.out], HUz.out⟩
  | true =>
    by_cases hk0 : k9 = 0
    · have E9 : Hid (constN n d = true) := Lib.hid (by rw [HCN.out, hk0]; rfl)
      have hUz := HU2.out.setCell (p := ⟨w.heap.size + 1, 0, none⟩) (.bool true) (.inr (by simp))
      have HUz := Lib.hid hUz
      have HCz := Lib.hid ((HR2.out.set 0 (.bool true)).cell_some (i := 0) rfl)
      clear HCN hUz
      go_wp2_with fail
      refine ⟨_, res_cell rfl HCz.out, by rw [E9.out], HUz.out⟩
    · have E9 : Hid (constN n d = (walkD n d).all (fun x => x.kind != 0)) := Lib.hid (by
        rw [HCN.out, show (k9 == 0) = false by simpa using hk0]
        rfl)
      have b0 : (k9 == 0) = false := by simpa using hk0
      clear HCN hk0
      go_wp2_with fail
      refine (Walk_calls _).mono ?_
      rintro e w4 ⟨rfl, rfl⟩
      go_wp2_with fail
      obtain ⟨W4, hW4⟩ : ∃ W4, W4 = w2.alloc (.cells #[.int .i64 k9, .bool n9, .slice a9 l9 c9, .bool b9, .string s9, .slice i9 m9 d9, .slice t9 o9 p9] 56) := ⟨_, rfl⟩
      have hz4 : W4.heap.size = w2.heap.size + 1 := by
        rw [hW4]
        simp
      have hz2 : w.heap.size + 2 ≤ w2.heap.size := by
        have := HR2.out.lt
        omega
      have hu4 : Upd [] w W4 := by
        rw [hW4]
        exact HU2.out.alloc _
      have hw4 : Blk W4 w2.heap.size [.int .i64 k9, .bool n9, .slice a9 l9 c9, .bool b9, .string s9, .slice i9 m9 d9, .slice t9 o9 p9] 56 := by
        rw [hW4]
        exact Blk.newAt rfl
      have hR4 : Blk W4 (w.heap.size + 1) [.bool false] 4 := by
        rw [hW4]
        exact HR2.out.alloc _
      rw [← hW4]
      clear hW4 x0 x1 x2 x3 x4 x5 x6 r0 f0
      obtain ⟨Bt, hBt⟩ : ∃ Bt, Bt = w2.heap.size := ⟨_, rfl⟩
      rw [← hBt] at hw4 hz4 hz2 ⊢
      have hz5 : Bt + 1 ≤ W4.heap.size := by omega
      have hz6 : W4.heap.size ≤ Bt + 1 := by omega
      clear hBt hz4
      have hrow : ∀ W, Blk W (w.heap.size + 1) [.bool false] 4 → rowAt (w.heap.size + 1) W = none := fun W hb => by
        unfold rowAt
        rw [hb.cell_some (i := 0) rfl]
        rfl
      have hok : ∀ W, Blk W (w.heap.size + 1) [.bool false] 4 → RowOk w.heap.size (w.heap.size + 1) W := fun W hb => ⟨⟨by omega, hb.lt⟩, fun r hr => by rw [hrow W hb] at hr; cases hr⟩
      have hseq : SeqStopsK Fence.wide (5 - 1) Tryd.prog 59 #[.pointer (some ⟨Bt, 0, none⟩)] (fun x : Cd w w.heap.size n => #[Value.agg x.1.1.toArray]) (KW w.heap.size (w.heap.size + 1)) (fun ys => datsOf ys = walkD n d) (fun pre => datsOf pre <+: walkD n d) (walkD n d).length W4 := by
        intro l J Jx W hW hJ hJx hY h0
        have hBW : Below w.heap.size w W := (Below.mk hu4.os hu4.tape hu4.output hu4.size (fun k hk => hu4.block k hk (by simp))).trans (hW.mono (by omega))
        exact walk1_in w w.heap.size n (5 - 1) l (w.heap.size + 1) Bt J Jx (fun pre W W' hj hu => hJ pre W W' none hj ⟨hu.os, hu.tape, hu.output, hu.size, fun k hk _ => hu.block k hk (by simp)⟩ (fun r e => by cases e)) (fun m pre x W hj hl => yield_any m (hY pre x W hj hl)) H.out hBW (hok W (hR4.of_eq (hW.block _ hR4.lt))) hs hd (hw4.of_eq (hW.block _ hw4.lt)) h0
      have HSEQ := Lib.hid hseq
      refine (wpIn_wide (n := 5)).1 ?_
      refine wpIn_rangeFunc_ownH (F := Fence.wide) rfl (by decide) (gf := 59) (lb := #[.pointer (some ⟨Bt, 0, none⟩)]) rfl trivial (enters_of Tryd.func59 (by kernel_rfl) rfl)
        hseq KW.trans (fun W l o o' hl ho hc _ => KW.putObj (by omega) (by omega) ho hc) (Below.refl _ _) (fun _ => rfl)
        (fun pre W => GRel w n (w.heap.size + 1) W4.heap.size pre W)
        (fun c ys W => c = .ret ∧ GCut w n (w.heap.size + 1) ys W)
        (fun pre A B row hs hg hr => by
          obtain ⟨h1, h2, h3, h4⟩ := hs
          obtain ⟨k1, k2⟩ := GRel.noCell' h1 h2 hg (fun r e => ⟨by have := (hr r e).1; omega, (hr r e).2⟩)
          exact ⟨k1, k2, h3, Nat.le_trans h4 hg.size⟩)
        (fun _ pre A B row hs hg hr => by
          obtain ⟨e, h1, h2, h3⟩ := hs
          obtain ⟨k1, k2⟩ := GRel.noCell' h1 h2 hg (fun r e => ⟨by have := (hr r e).1; omega, (hr r e).2⟩)
          exact ⟨e, k1, k2, h3⟩)
        ⟨hR4, hu4, by simp, Nat.le_refl _⟩
        (fun x a' W => ∃ Bx, W4.heap.size ≤ Bx ∧ Blk W Bx x.1.1 56 ∧ a' = { tmps := #[.agg #[.int .i64 k9, .bool n9, .slice a9 l9 c9, .bool b9, .string s9, .slice i9 m9 d9, .slice t9 o9 p9], .pointer (some ⟨w.heap.size, 0, none⟩), .pointer (some ⟨w.heap.size + 1, 0, none⟩), .pointer (some ⟨Bx, 0, none⟩), .agg #[.int .i64 k9, .bool n9, .slice a9 l9 c9, .bool b9, .string s9, .slice i9 m9 d9, .slice t9 o9 p9], .bool true, .bool false, .pointer (some ⟨w.heap.size, 0, none⟩), .int .i64 k9, .bool false, .agg #[.int .i64 k9, .bool n9, .slice a9 l9 c9, .bool b9, .string s9, .slice i9 m9 d9, .slice t9 o9 p9], .func (.func 59) #[] #[.pointer (some ⟨Bt, 0, none⟩)], .agg x.1.1.toArray, undef, undef, undef], defers := [] })
        (fun x a' _ X Y row hs hg hr => by obtain ⟨Bx, h1, h2, h3⟩ := hs; exact ⟨Bx, h1, h2.noCell hg (fun r e => (hr r e).2), h3⟩)
        ?assign ?body ?done ?stop
      case assign =>
        rintro l pre ⟨⟨cs, d⟩, hd⟩ W K ⟨h1, h2, h3, h4⟩ hK
        obtain ⟨k1, n1, a1, l1, c1, b1, s1, i1, m1, d1, t1, o1, p1, rfl⟩ := IsD.shaped hd
        unfold datCells at *
        have hu : Upd [] W (W.alloc (.cells #[.int .i64 k1, .bool n1, .slice a1 l1 c1, .bool b1, .string s1, .slice i1 m1 d1, .slice t1 o1 p1] 56)) := (Upd.refl [] W).alloc _
        gi_wp2
        exact hK _ _ (KeepsFrom.of_upd hu) (KW.upd (hok W h1) hu) ⟨hu.blk h1 (by simp), h2.then hu, h3, Nat.le_trans h4 hu.size⟩ ⟨W.heap.size, h4, Blk.newAt rfl, rfl⟩
      case body =>
        rintro l pre ⟨⟨cs, dd⟩, hd⟩ a' W hl ⟨r, hr⟩ ⟨h1, h2, h3, h4⟩ ⟨Bx, hBx, hbx, rfl⟩ hlt
        obtain ⟨k1, n1, a1, l1, c1, b1, s1, i1, m1, d1, t1, o1, p1, rfl⟩ := IsD.shaped hd
        have hk1 : dd.kind = k1 := by
          obtain ⟨aL, cL, aI, cI, aT, cT, e⟩ := cells_agg hd
          unfold datCells at e
          injection e with e _
          injection e with _ e
          exact e.symm
        unfold datCells at *
        obtain ⟨x, hx⟩ : ∃ x : Cd w w.heap.size n, x = ⟨([.int .i64 k1, .bool n1, .slice a1 l1 c1, .bool b1, .string s1, .slice i1 m1 d1, .slice t1 o1 p1], dd), hd⟩ := ⟨_, rfl⟩
        have hxk : x.1.2.kind = k1 := by rw [hx]; exact hk1
        rw [← hx]
        clear hx hk1
        obtain ⟨q0, q1, q2, q3, q4, q5, q6⟩ := Blk.seven hbx
        have r0 := h1.cell_some (i := 0) rfl
        have f0 := h1.free 0
        have hbl2 := Blk.lt hbx
        have H1 := Lib.hid h1
        have H2 := Lib.hid h2
        have H3 := Lib.hid h3
        have HXK := Lib.hid hxk
        clear h1 h2 h3 hbx hxk
        by_cases hz : k1 = 0
        · have hcut : GCut w n (w.heap.size + 1) (pre ++ [x]) (W.setCell ⟨w.heap.size + 1, 0, none⟩ (.bool false)) :=
            ⟨H1.out.set 0 (.bool false), H2.out.setCell (p := ⟨w.heap.size + 1, 0, none⟩) (.bool false) (.inr (by simp)), x, by simp, by rw [HXK.out, hz]⟩
          have hkf : KeepsFrom W4.heap.size W (W.setCell ⟨w.heap.size + 1, 0, none⟩ (.bool false)) := by
            refine ⟨by simp [World.setCell], fun k o hk ho hc => ?_⟩
            rw [Below.heap_setCell _ _ _ _ (by simp; omega)]
            exact ho
          have HC := Lib.hid (And.intro hcut hkf)
          clear hcut hkf
          subst hz
          gi_wp2
          exact ⟨HC.out.2, rfl, HC.out.1⟩
        · have hb1 : (k1 == 0) = false := by simpa using hz
          have hrel : GRel w n (w.heap.size + 1) W4.heap.size (pre ++ [x]) W := ⟨H1.out, H2.out, fun y hy => by
            rcases List.mem_append.1 hy with hy | hy
            · exact H3.out y hy
            · rw [List.mem_singleton] at hy
              rw [hy, HXK.out]
              exact hz, h4⟩
          have HR := Lib.hid hrel
          clear hrel hz
          gi_wp2
          exact ⟨KeepsFrom.refl _ _, KW.refl _ _ _, HR.out⟩
      case done =>
        rintro D ys W hD hys ⟨h1, h2, h3, h4⟩ hK
        have r0 := h1.cell_some (i := 0) rfl
        have f0 := h1.free 0
        have hall : constN n d = true := by
          rw [E9.out, ← hys, List.all_eq_true]
          intro z hz
          obtain ⟨y, hy, rfl⟩ := List.mem_map.1 hz
          simpa using h3 y hy
        have HALL := Lib.hid hall
        clear hall
        have hK2 : (W.setCell ⟨w.heap.size + 1, 0, none⟩ (.bool true)).heap[D]? = some (.deferred (some [])) := by
          rw [Below.heap_setCell _ _ _ _ (by simp; omega)]
          exact hK
        obtain ⟨k1, k2⟩ := GRel.noCell2 (b := true) (h1.set 0 (.bool true)) (h2.setCell (p := ⟨w.heap.size + 1, 0, none⟩) (.bool true) (.inr (by simp))) (grownBy_putObj' (W.setCell ⟨w.heap.size + 1, 0, none⟩ (.bool true)) D (.deferred none)) (fun r e => by
          injection e with e
          subst e
          exact ⟨by omega, _, hK2, rfl⟩)
        have HK := Lib.hid (And.intro (k1.cell_some (i := 0) rfl) k2)
        have HK2 := Lib.hid hK2
        clear k1 k2 hK2
        go_wp2
        refine ⟨by simp, .inl ⟨_, _, rfl, run_takeDeferred HK2.out, ?_⟩⟩
        exact ⟨_, res_cell rfl HK.out.1, by rw [HALL.out], HK.out.2⟩
      case stop =>
        rintro D c pre W hD hpre ⟨rfl, h1, h2, h3⟩ hK
        have r0 := h1.cell_some (i := 0) rfl
        have hall : constN n d = false := by
          rw [E9.out, List.all_eq_false]
          obtain ⟨y, hy, hk⟩ := h3
          obtain ⟨t, ht⟩ := hpre
          refine ⟨y.1.2, ?_, by simp [hk]⟩
          rw [← ht]
          exact List.mem_append_left _ (List.mem_map.2 ⟨y, hy, rfl⟩)
        have HALL := Lib.hid hall
        clear hall
        obtain ⟨k1, k2⟩ := GRel.noCell2 (b := false) h1 h2 (grownBy_putObj' W D (.deferred none)) (fun r e => by
          injection e with e
          subst e
          exact ⟨by omega, _, hK, rfl⟩)
        have HK := Lib.hid (And.intro (k1.cell_some (i := 0) rfl) k2)
        clear k1 k2
        gi_wp2_with fail
        refine ⟨by simp, .inl ⟨_, _, rfl, run_takeDeferred hK, ?_⟩⟩
        exact ⟨_, res_cell rfl HK.out.1, by rw [HALL.out], HK.out.2⟩
end Go.Proofs.YtknbgbeepachgaaDoor

/-
  All data in one, with their kinds.
-/
namespace Go.Proofs.YtknbgbeepachgaaDoor
open Go.RowKit Go.Shelf

def kdOf (cs : List Value) : Int := intOf (cs.getD 0 undef)
/-- The kinds of all that is in a datum, itself first. -/
def ksN (n : Nat) (d : Dat) : List Int := (walkD n d).map Dat.kind
theorem map_flatMap_kind (f : Dat → List Dat) : ∀ ds : List Dat, (ds.flatMap f).map Dat.kind = ds.flatMap (fun x => (f x).map Dat.kind)
  | [] => rfl
  | d :: ds => by rw [List.flatMap_cons, List.map_append, map_flatMap_kind f ds, List.flatMap_cons]
theorem ksN_succ (n : Nat) (d : Dat) : ksN (n + 1) d = (d.kind :: d.items.flatMap (ksN n)) ++ d.tail.flatMap (ksN n) := by
  unfold ksN
  rw [walkD, List.map_cons, map_flatMap_kind, List.flatMap_append]
  rfl
theorem ksN_len (n : Nat) (d : Dat) (h : szN n d ≤ 1000000) : (ksN n d).length = szN n d := by
  unfold ksN
  rw [List.length_map, walkD_len n d h]
theorem ksL_len (n : Nat) (ds : List Dat) (h : szL (szN n) ds ≤ 1000000) : (ds.flatMap (ksN n)).length = szL (szN n) ds := by
  have := flatMap_len (walkD_len n) ds h
  rw [← this]
  clear this h
  induction ds with
  | nil => rfl
  | cons d ds ih => simp only [List.flatMap_cons, List.length_append, ih]; simp [ksN]
theorem ksL_next {n : Nat} {ds : List Dat} {i : Nat} (hi : i < ds.length) : (ds.take (i + 1)).flatMap (ksN n) = (ds.take i).flatMap (ksN n) ++ ksN n (ds.getD i default) := by
  rw [take_next hi, List.flatMap_append]
  simp
def AllK (w0 w : World) (v : Value) (ks : List Int) : Prop := ∃ css : List (List Value), css.map kdOf = ks ∧ (∀ cs ∈ css, Shaped cs) ∧ w.ownsRow w0.heap.size 56 7 v ks.length css.flatten
theorem AllK.row {w0 w : World} {v : Value} {ks : List Int} (h : AllK w0 w v ks) : AllRow w0 w v ks.length := by
  obtain ⟨css, h1, h2, h3⟩ := h
  exact ⟨css, by rw [← h1, List.length_map], h2, h3⟩
theorem AllK.step {w0 w w' : World} {v : Value} {ks : List Int} (h : AllK w0 w v ks) (hu : Upd [] w w') : AllK w0 w' v ks := by
  obtain ⟨css, h1, h2, h3⟩ := h
  exact ⟨css, h1, h2, own_upd0 h3 hu⟩
theorem AllK.lit {w0 : World} (w : World) (cs : List Value) (hs : Shaped cs) (h : w0.heap.size ≤ w.heap.size) : AllK w0 (w.alloc (.cells cs.toArray 56)) (.slice (some ⟨w.heap.size, 0, none⟩) 1 1) [kdOf cs] :=
  ⟨[cs], rfl, fun c hc => by rw [List.mem_singleton] at hc; rw [hc]; exact hs, by
    have := World.ownsRow_lit (e := 56) (size := 7) w cs.toArray 1 h (by decide) (by simpa using hs.len)
    simpa using this⟩
theorem AllK.news {w0 w : World} {g m c : Nat} {ks : List Int} (h : AllK w0 w (.slice (some ⟨g, 0, none⟩) m c) ks) : ∃ css : List (List Value), css.map kdOf = ks ∧ (∀ cs ∈ css, Shaped cs) ∧ css.flatten.length = ks.length * 7 ∧ (∀ j u, css.flatten[j]? = some u → w.cell? ⟨g, 0 + j, none⟩ = some u) ∧ (∀ u ∈ css.flatten, u.oneCell' = true) := by
  obtain ⟨css, h1, h2, h3⟩ := h
  have hm : m = ks.length := by
    rcases h3.2 with ⟨e, _⟩ | ⟨_, _, _, e, _⟩
    · cases e
    · injection e
  subst hm
  refine ⟨css, h1, h2, h3.1, fun j u hj => ?_, fun u hu => ?_⟩
  · rw [Nat.zero_add, h3.cellAt j, hj]
    have := (List.getElem?_eq_some_iff.1 hj).1
    rw [h3.1] at this
    exact this
  · obtain ⟨cs, hc, hu⟩ := List.mem_flatten.1 hu
    exact (h2 cs hc).one u hu
def ksAt (n : Nat) (d : Dat) : Nat → List Int
  | 0 => [d.kind]
  | 1 => d.kind :: d.items.flatMap (ksN n)
  | _ => (d.kind :: d.items.flatMap (ksN n)) ++ d.tail.flatMap (ksN n)
set_option maxRecDepth 100000 in
set_option maxHeartbeats 2000000 in
theorem allK_calls (P : Nat → Prop) : ∀ (n : Nat) (d : Dat) (cs : List Value) (w : World), IsD w P n cs d → szN n d ≤ 100000 →
    Calls Tryd.prog 33 #[.agg cs.toArray] w fun e w' => (∃ v, e = .returned v ∧ AllK w w' v (ksN n d)) ∧ Upd [] w w' := by
  intro n
  induction n with
  | zero => intro d cs w h; exact h.elim
  | succ n ih =>
    intro d cs w h hk
    have IH := Lib.hid ih
    clear ih
    obtain ⟨aL, cL, aI, cI, aT, cT, rfl, h1, h2, h3, _, h4, h5, h6, h7, h8, h9⟩ := h
    have hrow : ∀ j, j < 2 → ∃ av ds cv, ((j = 0 ∧ Value.slice av ds.length cv = .slice aI d.items.length cI) ∨ (j = 1 ∧ Value.slice av ds.length cv = .slice aT d.tail.length cT)) ∧ RowOf w P (IsD w P n) av ds ∧ ds.length ≤ 35184372088832 ∧
        ksAt n d (j + 1) = ksAt n d j ++ ds.flatMap (ksN n) ∧ (ksAt n d (j + 1)).length ≤ 100000 ∧ szL (szN n) ds ≤ 100000 := by
      intro j hj
      have hk0 := hk
      rw [szN] at hk
      have e1 := ksL_len n d.items (by omega)
      have e2 := ksL_len n d.tail (by omega)
      obtain rfl | rfl : j = 0 ∨ j = 1 := by omega
      · exact ⟨_, _, _, .inl ⟨rfl, rfl⟩, h2, h8, rfl, by simp only [ksAt, List.length_cons, e1]; omega, by omega⟩
      · exact ⟨_, _, _, .inr ⟨rfl, rfl⟩, h3, h9, rfl, by simp only [ksAt, List.length_append, List.length_cons, e1, e2]; omega, by omega⟩
    have he : ksN (n + 1) d = ksAt n d 2 := ksN_succ n d
    rw [he]
    have h00 : ksAt n d 0 = [d.kind] := rfl
    have HB := Lib.hid hrow
    clear hrow he h1 h2 h3 h4 h5 h6 h7 h8 h9
    obtain ⟨bA, hbA⟩ : ∃ bA, bA = ksAt n d := ⟨_, rfl⟩
    rw [← hbA] at HB h00 ⊢
    clear hbA hk
    have hsh : Shaped (datCells d.kind d.neg aL d.limbs.length cL d.b d.s aI d.items.length cI aT d.tail.length cT) := ⟨_, _, _, _, _, _, _, _, _, _, _, _, _, rfl⟩
    have HSH := Lib.hid hsh
    clear hsh
    unfold datCells at HSH ⊢
    generalize d.kind = kd at *
    generalize d.neg = ng at *
    generalize d.limbs.length = nl at *
    generalize d.b = bb at *
    generalize d.s = ss at *
    generalize d.items.length = ni at *
    generalize d.tail.length = nt at *
    have hU := Lib.hid (((Upd.refl [] w).alloc (.cells #[.int .i64 kd, .bool ng, .slice aL nl cL, .bool bb, .string ss, .slice aI ni cI, .slice aT nt cT] 56)).alloc (.cells #[.int .i64 kd, .bool ng, .slice aL nl cL, .bool bb, .string ss, .slice aI ni cI, .slice aT nt cT] 56))
    have hO := Lib.hid (AllK.lit (w0 := w) (w.alloc (.cells #[.int .i64 kd, .bool ng, .slice aL nl cL, .bool bb, .string ss, .slice aI ni cI, .slice aT nt cT] 56)) _ HSH.out (by simp))
    go_enter Tryd.func33, Tryd.ntmps33
    go_wp2_with fail
    obtain ⟨W1, hW1⟩ : ∃ W1, W1 = (w.alloc (.cells #[.int .i64 kd, .bool ng, .slice aL nl cL, .bool bb, .string ss, .slice aI ni cI, .slice aT nt cT] 56)).alloc (.cells #[.int .i64 kd, .bool ng, .slice aL nl cL, .bool bb, .string ss, .slice aI ni cI, .slice aT nt cT] 56) := ⟨_, rfl⟩
    rw [← hW1] at hU
    have hO' : Hid (AllK w W1 (.slice (some ⟨w.heap.size + 1, 0, none⟩) 1 1) [kd]) := by
      rw [hW1]
      have := hO
      simpa [kdOf, intOf] using this
    clear hO
    rw [← hW1]
    clear hW1 HSH
    have i0 : ∀ w, (Instr.index 78 (.agg #[.slice aI ni cI, .slice aT nt cT]) (.int .i64 0)).run Tryd.prog w = .ok (.slice aI ni cI) w := fun _ => by kernel_rfl
    have i1 : ∀ w, (Instr.index 78 (.agg #[.slice aI ni cI, .slice aT nt cT]) (.int .i64 1)).run Tryd.prog w = .ok (.slice aT nt cT) w := fun _ => by kernel_rfl
    go_loopw [3, 15] (fun l i wr => ∃ j : Nat, j ≤ 2 ∧ i = .int .i64 j ∧ Hid (AllK w wr l (bA j)) ∧ Hid (Upd [] w wr)) (fun _ i _ => 2 - (intOf i).toNat)
    case atStart => exact ⟨0, by omega, rfl, by rw [h00]; exact hO', hU⟩
    case round =>
      obtain ⟨j, hj, rfl, hO, hUr⟩ := hrel
      by_cases hj2 : j < 2
      · obtain ⟨av, ds, cv, hcase, hds, hdl, hs1, hs2, hs3⟩ := HB.out j hj2
        have hix : ∀ w, (Instr.index 78 (.agg #[.slice aI ni cI, .slice aT nt cT]) (.int .i64 j)).run Tryd.prog w = .ok (.slice av ds.length cv) w := by
          rcases hcase with ⟨rfl, e⟩ | ⟨rfl, e⟩
          · rw [e]; exact i0
          · rw [e]; exact i1
        obtain ⟨m, hm⟩ : ∃ m, m = ds.length := ⟨_, rfl⟩
        rw [← hm] at hix hdl
        have hj2' : (j : Int) < 2 := by omega
        have hj3' : decide ((j : Int) < 2) = true := decide_eq_true hj2'
        have HDS := Lib.hid hds
        have HS1 := Lib.hid hs1
        have HS2 := Lib.hid hs2
        have HS3 := Lib.hid hs3
        clear hcase hs1 hs2 hs3 hds i0 i1
        go_wp2_with fail
        go_loopw [3, 20] (fun l i wr => ∃ i0 : Nat, i0 ≤ m ∧ i = .int .i64 i0 ∧ Hid (AllK w wr l (bA j ++ (ds.take i0).flatMap (ksN n))) ∧ Hid (Upd [] w wr)) (fun _ i _ => m - (intOf i).toNat)
        case atStart => exact ⟨0, by omega, rfl, by simpa using hO, hUr⟩
        case round =>
          obtain ⟨i0, hi0, rfl, hO1, hUk⟩ := hrel
          by_cases hlt : i0 < m
          · have hkl : i0 < ds.length := by rw [← hm]; exact hlt
            have hnx := ksL_next (n := n) hkl
            have hle3 : (bA j ++ (ds.take (i0 + 1)).flatMap (ksN n)).length ≤ 100000 := by
              have h1 := HS2.out
              rw [HS1.out] at h1
              conv at h1 => lhs; rw [← List.take_append_drop (i0 + 1) ds]
              rw [List.flatMap_append, List.length_append, List.length_append] at h1
              rw [List.length_append]
              omega
            have hsz9 := Nat.le_trans (szL_get (szN n) hkl) HS3.out
            obtain ⟨b, o, cs, rfl, _, hat, hd0⟩ := HDS.out i0 hkl
            have hd1 := hd0.upd hUk.out
            obtain ⟨yL, zL, yI, zI, yT, zT, rfl⟩ := cells_agg hd1
            obtain ⟨q0, q1, q2, q3, q4, q5, q6⟩ := (hat.upd hUk.out (by simp)).cells
            obtain ⟨x, hx⟩ : ∃ x, x = ds.getD i0 default := ⟨_, rfl⟩
            rw [← hx] at hnx hsz9 hd1 q0 q1 q2 q3 q4 q5 q6
            obtain ⟨lk, hlk⟩ : ∃ lk, lk = bA j ++ (ds.take i0).flatMap (ksN n) := ⟨_, rfl⟩
            have hu7 : Upd [] wr (wr.alloc (.cells #[.int .i64 x.kind, .bool x.neg, .slice yL x.limbs.length zL, .bool x.b, .string x.s, .slice yI x.items.length zI, .slice yT x.tail.length zT] 56)) := (Upd.refl [] wr).alloc _
            have hC := Lib.hid (IH.out x _ (wr.alloc (.cells #[.int .i64 x.kind, .bool x.neg, .slice yL x.limbs.length zL, .bool x.b, .string x.s, .slice yI x.items.length zI, .slice yT x.tail.length zT] 56)) (hd1.upd hu7) (by omega))
            have hU2 := Lib.hid (hUk.out.then hu7)
            have hnx2 : bA j ++ (ds.take (i0 + 1)).flatMap (ksN n) = lk ++ ksN n x := by rw [hnx, ← List.append_assoc, hlk]
            have HX := Lib.hid hnx2
            have hb3 : lk.length + (ksN n x).length ≤ 100000 := by rw [← List.length_append, ← hnx2]; exact hle3
            have hpos := szN_pos n x
            rw [← ksN_len n x (by omega)] at hpos
            rw [← hlk] at hO1
            have hO2 := Lib.hid (hO1.out.step hu7)
            unfold datCells at hC
            clear hnx hd0 hat hd1 hlk hnx2 hle3 hsz9 hx hu7 hO1
            generalize ksN n x = rs at *
            generalize x.kind = kd9 at *
            generalize x.neg = ng9 at *
            generalize x.limbs.length = nl9 at *
            generalize x.b = bb9 at *
            generalize x.s = ss9 at *
            generalize x.items.length = ni9 at *
            generalize x.tail.length = nt9 at *
            go_wp2_with fail
            refine hC.out.mono ?_
            rintro e w2 ⟨⟨v2, rfl, hA2⟩, hu2⟩
            have hU3 := Lib.hid (hU2.out.then hu2)
            have hO3 := Lib.hid (hO2.out.step hu2)
            obtain ⟨css, c1, c2, c3⟩ := hO3.out
            have C3 := Lib.hid c3
            obtain ⟨g2, cc2, rfl, -⟩ := hA2.row.at hpos
            obtain ⟨ns, n1, n2, n3, n4, n5⟩ := hA2.news
            have hsz3 := hU3.out.size
            clear hC hUk hU2 hu2 q0 q1 q2 q3 q4 q5 q6 hO2 hO3 c3 hA2
            go_wp2_with (at_builtin; refine wpList_apps rfl _ _ 24 rfl w.heap.size 56 _ 7 112 Tryd.underlying24 info_dat rfl (by decide) _ _ _ rfl C3.out g2 0 rs.length cc2 ns.flatten rfl n3 n4 n5 (by unfold maxLen; omega) (by omega) hsz3 ?_; intro v9 w9 S hO9 hu9 hS9 hg9)
            have hU9 := Lib.hid (hU3.out.onto hu9 (fun k hk => (C3.out.lt k (hS9 k hk)).1))
            have HO9 : Hid (AllK w w9 v9 (lk ++ rs)) := Lib.hid ⟨css ++ ns, by rw [List.map_append, c1, n1], fun cs hcs => by rcases List.mem_append.1 hcs with h | h; exact c2 cs h; exact n2 cs h, by rw [List.flatten_append, List.length_append]; exact hO9⟩
            clear hO9 hu9 hS9 hg9 hU3 C3 n1 n2 n3 n4 n5 c1 c2
            go_wp2
            go_roundw
            case rel => exact ⟨i0 + 1, by omega, by go_num, by rw [HX.out]; exact HO9, hU9⟩
            case measure => simp [intOf]; omega
          · have hkm : i0 = m := by omega
            subst hkm
            have hsx : bA j ++ (ds.take i0).flatMap (ksN n) = bA (j + 1) := by rw [hm, List.take_length]; exact HS1.out.symm
            rw [hsx] at hO1
            clear hsx
            go_wp2
            go_roundw
            case rel => exact ⟨j + 1, by omega, by go_num, hO1, hUk⟩
            case measure => simp [intOf]; omega
      · have hj3 : j = 2 := by omega
        subst hj3
        go_wp2
        go_ret
        exact ⟨⟨_, rfl, hO.out⟩, hUr.out⟩
end Go.Proofs.YtknbgbeepachgaaDoor
