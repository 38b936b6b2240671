/-
  Texts of this claim, merged: ChS. Lemmas and contracts; no conditions of our own.
-/
import Derived.Test.YtknbgbeepachgaaDoorG7
import Derived.Test.YtknbgbeepachgaaDoorG9

/-
  code.goodConst.
-/
namespace Go.Proofs.YtknbgbeepachgaaDoor
open Go.RowKit Go.Shelf
attribute [local go_sem] Oper.semAt_some

/-- May a constant be? -/
def constN (n : Nat) (d : Dat) : Bool := (decide (0 ≤ budN n d 5000 200) && goodN n d) && (d.kind == 0 || (walkD n d).all (fun x => x.kind != 0))
/-- As long as the loop goes on; and where it was left. -/
def GRel (w : World) (n R m : Nat) (ys : List (Cd w w.heap.size n)) (W : World) : Prop := Blk W R [.bool false] 4 ∧ Upd [] w W ∧ (∀ y ∈ ys, y.1.2.kind ≠ 0) ∧ m ≤ W.heap.size
def GCut (w : World) (n R : Nat) (ys : List (Cd w w.heap.size n)) (W : World) : Prop := Blk W R [.bool false] 4 ∧ Upd [] w W ∧ ∃ y ∈ ys, y.1.2.kind = 0
theorem GRel.noCell' {w W W' : World} {R : Nat} {row : Option Nat} (hb : Blk W R [.bool false] 4) (hu : Upd [] w W) (hg : W.grownBy W' row) (hr : ∀ r, row = some r → w.heap.size ≤ r ∧ ∃ o : Obj, W.heap[r]? = some o ∧ o.isCells = false) : Blk W' R [.bool false] 4 ∧ Upd [] w W' :=
  ⟨hb.noCell hg (fun r e => (hr r e).2), hu.onto (Upd.of_grown hg (fun k hk => by simp [hk]) : Upd row.toList W W') (fun x hx => (hr x (by simpa using hx)).1)⟩
theorem GRel.noCell2 {w W W' : World} {R : Nat} {b : Bool} {row : Option Nat} (hb : Blk W R [.bool b] 4) (hu : Upd [] w W) (hg : W.grownBy W' row) (hr : ∀ r, row = some r → w.heap.size ≤ r ∧ ∃ o : Obj, W.heap[r]? = some o ∧ o.isCells = false) : Blk W' R [.bool b] 4 ∧ Upd [] w W' :=
  ⟨hb.noCell hg (fun r e => (hr r e).2), hu.onto (Upd.of_grown hg (fun k hk => by simp [hk]) : Upd row.toList W W') (fun x hx => (hr x (by simpa using hx)).1)⟩
theorem res_cell {tmps : Array Value} {W : World} {R : Nat} {b : Bool} (hp : tmps.getD 2 undef = .pointer (some ⟨R, 0, none⟩)) (hc : W.cell? ⟨R, 0, none⟩ = some (.bool b)) : (results Tryd.f42 tmps).run Tryd.prog W = .ok (.bool b) W := by
  have hp' : tmps[2]?.getD undef = .pointer (some ⟨R, 0, none⟩) := by simpa using hp
  simp [results, Tryd.results42, go_sem, hp', hc]
set_option maxRecDepth 100000 in
set_option maxHeartbeats 4000000 in
theorem goodConst_calls {n : Nat} {d : Dat} {cs : List Value} {w : World} (h : IsD w (fun b => b < w.heap.size) n cs d) (hs : szN n d ≤ 100000) (hd : dpN n d ≤ 10000) :
    Calls Tryd.prog 42 #[.agg cs.toArray] w fun e w' => e = .returned (.bool (constN n d)) ∧ Upd [] w w' := by
  obtain ⟨k9, n9, a9, l9, c9, b9, s9, i9, m9, d9, t9, o9, p9, rfl⟩ := h.shaped
  have hk9 : d.kind = k9 := by
    obtain ⟨aL, cL, aI, cI, aT, cT, e⟩ := cells_agg h
    unfold datCells at e
    injection e with e _
    injection e with _ e
    exact e.symm
  unfold datCells at *
  have hM : (walkD n d).length ≤ 100000 := by
    rw [walkD_len n d (by omega)]
    exact hs
  obtain ⟨W1, hW1⟩ : ∃ W1, W1 = (w.alloc (.cells #[.int .i64 k9, .bool n9, .slice a9 l9 c9, .bool b9, .string s9, .slice i9 m9 d9, .slice t9 o9 p9] 56)).alloc (.cells #[.bool false] 4) := ⟨_, rfl⟩
  have hu1 : Upd [] w W1 := by
    rw [hW1]
    exact ((Upd.refl [] w).alloc _).alloc _
  have hB1 : Blk W1 w.heap.size [.int .i64 k9, .bool n9, .slice a9 l9 c9, .bool b9, .string s9, .slice i9 m9 d9, .slice t9 o9 p9] 56 := by
    rw [hW1]
    exact (Blk.newAt rfl).alloc _
  have hR1 : Blk W1 (w.heap.size + 1) [.bool false] 4 := by
    rw [hW1]
    exact Blk.newAt (by simp)
  have hG := Good_calls (h.upd hu1) hs
  obtain ⟨gd, hgd⟩ : ∃ gd, gd = (decide (0 ≤ budN n d 5000 200) && goodN n d) := ⟨_, rfl⟩
  have hCN : constN n d = (gd && (k9 == 0 || (walkD n d).all (fun x => x.kind != 0))) := by
    unfold constN
    rw [hgd, hk9]
  rw [← hgd] at hG
  have HCN := Lib.hid hCN
  have HG := Lib.hid hG
  have HB1 := Lib.hid hB1
  have HR1 := Lib.hid hR1
  have HU1 := Lib.hid hu1
  have HW1 := Lib.hid hW1
  have H := Lib.hid h
  clear hCN hG hB1 hR1 hu1 hW1 hgd h hk9
  refine callsIn_wide.1 (callsIn_of_wp_marks (n := 5) Tryd.func42 rfl trivial (wpIn_wide.2 ?_) rfl)
  simp only [Tryd.ntmps42, List.size_toArray, List.length_cons, List.length_nil, Nat.reduceAdd, Nat.reduceSub, Array.replicate_succ, Array.replicate_zero, List.push_toArray, List.append_toArray, List.nil_append, List.cons_append]
  go_wp2_with fail
  rw [← HW1.out]
  refine HG.out.mono ?_
  rintro e w2 ⟨rfl, hu2⟩
  have HU2 := Lib.hid (HU1.out.then hu2)
  have HB2 := Lib.hid (hu2.blk HB1.out (by simp))
  have HR2 := Lib.hid (hu2.blk HR1.out (by simp))
  clear hu2 HG HB1 HR1 HW1 HU1
  obtain ⟨x0, x1, x2, x3, x4, x5, x6⟩ := Blk.seven HB2.out
  have r0 := HR2.out.cell_some (i := 0) rfl
  have f0 := HR2.out.free 0
  cases gd with
  | false =>
    have E9 : Hid (constN n d = false) := Lib.hid (by rw [HCN.out]; rfl)
    have hUz := HU2.out.setCell (p := ⟨w.heap.size + 1, 0, none⟩) (.bool false) (.inr (by simp))
    have HUz := Lib.hid hUz
    have HCz := Lib.hid ((HR2.out.set 0 (.bool false)).cell_some (i := 0) rfl)
    clear HCN hUz
    go_wp2_with fail
    refine ⟨_, res_cell rfl HCz.out, by rw [E9.out], HUz.out⟩
  | true =>
    by_cases hk0 : k9 = 0
    · have E9 : Hid (constN n d = true) := Lib.hid (by rw [HCN.out, hk0]; rfl)
      have hUz := HU2.out.setCell (p := ⟨w.heap.size + 1, 0, none⟩) (.bool true) (.inr (by simp))
      have HUz := Lib.hid hUz
      have HCz := Lib.hid ((HR2.out.set 0 (.bool true)).cell_some (i := 0) rfl)
      clear HCN hUz
      go_wp2_with fail
      refine ⟨_, res_cell rfl HCz.out, by rw [E9.out], HUz.out⟩
    · have E9 : Hid (constN n d = (walkD n d).all (fun x => x.kind != 0)) := Lib.hid (by
        rw [HCN.out, show (k9 == 0) = false by simpa using hk0]
        rfl)
      have b0 : (k9 == 0) = false := by simpa using hk0
      clear HCN hk0
      go_wp2_with fail
      refine (Walk_calls _).mono ?_
      rintro e w4 ⟨rfl, rfl⟩
      go_wp2_with fail
      obtain ⟨W4, hW4⟩ : ∃ W4, W4 = w2.alloc (.cells #[.int .i64 k9, .bool n9, .slice a9 l9 c9, .bool b9, .string s9, .slice i9 m9 d9, .slice t9 o9 p9] 56) := ⟨_, rfl⟩
      have hz4 : W4.heap.size = w2.heap.size + 1 := by
        rw [hW4]
        simp
      have hz2 : w.heap.size + 2 ≤ w2.heap.size := by
        have := HR2.out.lt
        omega
      have hu4 : Upd [] w W4 := by
        rw [hW4]
        exact HU2.out.alloc _
      have hw4 : Blk W4 w2.heap.size [.int .i64 k9, .bool n9, .slice a9 l9 c9, .bool b9, .string s9, .slice i9 m9 d9, .slice t9 o9 p9] 56 := by
        rw [hW4]
        exact Blk.newAt rfl
      have hR4 : Blk W4 (w.heap.size + 1) [.bool false] 4 := by
        rw [hW4]
        exact HR2.out.alloc _
      rw [← hW4]
      clear hW4 x0 x1 x2 x3 x4 x5 x6 r0 f0
      obtain ⟨Bt, hBt⟩ : ∃ Bt, Bt = w2.heap.size := ⟨_, rfl⟩
      rw [← hBt] at hw4 hz4 hz2 ⊢
      have hz5 : Bt + 1 ≤ W4.heap.size := by omega
      have hz6 : W4.heap.size ≤ Bt + 1 := by omega
      clear hBt hz4
      have hrow : ∀ W, Blk W (w.heap.size + 1) [.bool false] 4 → rowAt (w.heap.size + 1) W = none := fun W hb => by
        unfold rowAt
        rw [hb.cell_some (i := 0) rfl]
        rfl
      have hok : ∀ W, Blk W (w.heap.size + 1) [.bool false] 4 → RowOk w.heap.size (w.heap.size + 1) W := fun W hb => ⟨⟨by omega, hb.lt⟩, fun r hr => by rw [hrow W hb] at hr; cases hr⟩
      have hseq : SeqStopsK Fence.wide (5 - 1) Tryd.prog 59 #[.pointer (some ⟨Bt, 0, none⟩)] (fun x : Cd w w.heap.size n => #[Value.agg x.1.1.toArray]) (KW w.heap.size (w.heap.size + 1)) (fun ys => datsOf ys = walkD n d) (fun pre => datsOf pre <+: walkD n d) (walkD n d).length W4 := by
        intro l J Jx W hW hJ hJx hY h0
        have hBW : Below w.heap.size w W := (Below.mk hu4.os hu4.tape hu4.output hu4.size (fun k hk => hu4.block k hk (by simp))).trans (hW.mono (by omega))
        exact walk1_in w w.heap.size n (5 - 1) l (w.heap.size + 1) Bt J Jx (fun pre W W' hj hu => hJ pre W W' none hj ⟨hu.os, hu.tape, hu.output, hu.size, fun k hk _ => hu.block k hk (by simp)⟩ (fun r e => by cases e)) (fun m pre x W hj hl => yield_any m (hY pre x W hj hl)) H.out hBW (hok W (hR4.of_eq (hW.block _ hR4.lt))) hs hd (hw4.of_eq (hW.block _ hw4.lt)) h0
      have HSEQ := Lib.hid hseq
      refine (wpIn_wide (n := 5)).1 ?_
      refine wpIn_rangeFunc_ownH (F := Fence.wide) rfl (by decide) (gf := 59) (lb := #[.pointer (some ⟨Bt, 0, none⟩)]) rfl trivial (enters_of Tryd.func59 (by kernel_rfl) rfl)
        hseq KW.trans (fun W l o o' hl ho hc _ => KW.putObj (by omega) (by omega) ho hc) (Below.refl _ _) (fun _ => rfl)
        (fun pre W => GRel w n (w.heap.size + 1) W4.heap.size pre W)
        (fun c ys W => c = .ret ∧ GCut w n (w.heap.size + 1) ys W)
        (fun pre A B row hs hg hr => by
          obtain ⟨h1, h2, h3, h4⟩ := hs
          obtain ⟨k1, k2⟩ := GRel.noCell' h1 h2 hg (fun r e => ⟨by have := (hr r e).1; omega, (hr r e).2⟩)
          exact ⟨k1, k2, h3, Nat.le_trans h4 hg.size⟩)
        (fun _ pre A B row hs hg hr => by
          obtain ⟨e, h1, h2, h3⟩ := hs
          obtain ⟨k1, k2⟩ := GRel.noCell' h1 h2 hg (fun r e => ⟨by have := (hr r e).1; omega, (hr r e).2⟩)
          exact ⟨e, k1, k2, h3⟩)
        ⟨hR4, hu4, by simp, Nat.le_refl _⟩
        (fun x a' W => ∃ Bx, W4.heap.size ≤ Bx ∧ Blk W Bx x.1.1 56 ∧ a' = { tmps := #[.agg #[.int .i64 k9, .bool n9, .slice a9 l9 c9, .bool b9, .string s9, .slice i9 m9 d9, .slice t9 o9 p9], .pointer (some ⟨w.heap.size, 0, none⟩), .pointer (some ⟨w.heap.size + 1, 0, none⟩), .pointer (some ⟨Bx, 0, none⟩), .agg #[.int .i64 k9, .bool n9, .slice a9 l9 c9, .bool b9, .string s9, .slice i9 m9 d9, .slice t9 o9 p9], .bool true, .bool false, .pointer (some ⟨w.heap.size, 0, none⟩), .int .i64 k9, .bool false, .agg #[.int .i64 k9, .bool n9, .slice a9 l9 c9, .bool b9, .string s9, .slice i9 m9 d9, .slice t9 o9 p9], .func (.func 59) #[] #[.pointer (some ⟨Bt, 0, none⟩)], .agg x.1.1.toArray, undef, undef, undef], defers := [] })
        (fun x a' _ X Y row hs hg hr => by obtain ⟨Bx, h1, h2, h3⟩ := hs; exact ⟨Bx, h1, h2.noCell hg (fun r e => (hr r e).2), h3⟩)
        ?assign ?body ?done ?stop
      case assign =>
        rintro l pre ⟨⟨cs, d⟩, hd⟩ W K ⟨h1, h2, h3, h4⟩ hK
        obtain ⟨k1, n1, a1, l1, c1, b1, s1, i1, m1, d1, t1, o1, p1, rfl⟩ := IsD.shaped hd
        unfold datCells at *
        have hu : Upd [] W (W.alloc (.cells #[.int .i64 k1, .bool n1, .slice a1 l1 c1, .bool b1, .string s1, .slice i1 m1 d1, .slice t1 o1 p1] 56)) := (Upd.refl [] W).alloc _
        gi_wp2
        exact hK _ _ (KeepsFrom.of_upd hu) (KW.upd (hok W h1) hu) ⟨hu.blk h1 (by simp), h2.then hu, h3, Nat.le_trans h4 hu.size⟩ ⟨W.heap.size, h4, Blk.newAt rfl, rfl⟩
      case body =>
        rintro l pre ⟨⟨cs, dd⟩, hd⟩ a' W hl ⟨r, hr⟩ ⟨h1, h2, h3, h4⟩ ⟨Bx, hBx, hbx, rfl⟩ hlt
        obtain ⟨k1, n1, a1, l1, c1, b1, s1, i1, m1, d1, t1, o1, p1, rfl⟩ := IsD.shaped hd
        have hk1 : dd.kind = k1 := by
          obtain ⟨aL, cL, aI, cI, aT, cT, e⟩ := cells_agg hd
          unfold datCells at e
          injection e with e _
          injection e with _ e
          exact e.symm
        unfold datCells at *
        obtain ⟨x, hx⟩ : ∃ x : Cd w w.heap.size n, x = ⟨([.int .i64 k1, .bool n1, .slice a1 l1 c1, .bool b1, .string s1, .slice i1 m1 d1, .slice t1 o1 p1], dd), hd⟩ := ⟨_, rfl⟩
        have hxk : x.1.2.kind = k1 := by rw [hx]; exact hk1
        rw [← hx]
        clear hx hk1
        obtain ⟨q0, q1, q2, q3, q4, q5, q6⟩ := Blk.seven hbx
        have r0 := h1.cell_some (i := 0) rfl
        have f0 := h1.free 0
        have hbl2 := Blk.lt hbx
        have H1 := Lib.hid h1
        have H2 := Lib.hid h2
        have H3 := Lib.hid h3
        have HXK := Lib.hid hxk
        clear h1 h2 h3 hbx hxk
        by_cases hz : k1 = 0
        · have hcut : GCut w n (w.heap.size + 1) (pre ++ [x]) (W.setCell ⟨w.heap.size + 1, 0, none⟩ (.bool false)) :=
            ⟨H1.out.set 0 (.bool false), H2.out.setCell (p := ⟨w.heap.size + 1, 0, none⟩) (.bool false) (.inr (by simp)), x, by simp, by rw [HXK.out, hz]⟩
          have hkf : KeepsFrom W4.heap.size W (W.setCell ⟨w.heap.size + 1, 0, none⟩ (.bool false)) := by
            refine ⟨by simp [World.setCell], fun k o hk ho hc => ?_⟩
            rw [Below.heap_setCell _ _ _ _ (by simp; omega)]
            exact ho
          have HC := Lib.hid (And.intro hcut hkf)
          clear hcut hkf
          subst hz
          gi_wp2
          exact ⟨HC.out.2, rfl, HC.out.1⟩
        · have hb1 : (k1 == 0) = false := by simpa using hz
          have hrel : GRel w n (w.heap.size + 1) W4.heap.size (pre ++ [x]) W := ⟨H1.out, H2.out, fun y hy => by
            rcases List.mem_append.1 hy with hy | hy
            · exact H3.out y hy
            · rw [List.mem_singleton] at hy
              rw [hy, HXK.out]
              exact hz, h4⟩
          have HR := Lib.hid hrel
          clear hrel hz
          gi_wp2
          exact ⟨KeepsFrom.refl _ _, KW.refl _ _ _, HR.out⟩
      case done =>
        rintro D ys W hD hys ⟨h1, h2, h3, h4⟩ hK
        have r0 := h1.cell_some (i := 0) rfl
        have f0 := h1.free 0
        have hall : constN n d = true := by
          rw [E9.out, ← hys, List.all_eq_true]
          intro z hz
          obtain ⟨y, hy, rfl⟩ := List.mem_map.1 hz
          simpa using h3 y hy
        have HALL := Lib.hid hall
        clear hall
        have hK2 : (W.setCell ⟨w.heap.size + 1, 0, none⟩ (.bool true)).heap[D]? = some (.deferred (some [])) := by
          rw [Below.heap_setCell _ _ _ _ (by simp; omega)]
          exact hK
        obtain ⟨k1, k2⟩ := GRel.noCell2 (b := true) (h1.set 0 (.bool true)) (h2.setCell (p := ⟨w.heap.size + 1, 0, none⟩) (.bool true) (.inr (by simp))) (grownBy_putObj' (W.setCell ⟨w.heap.size + 1, 0, none⟩ (.bool true)) D (.deferred none)) (fun r e => by
          injection e with e
          subst e
          exact ⟨by omega, _, hK2, rfl⟩)
        have HK := Lib.hid (And.intro (k1.cell_some (i := 0) rfl) k2)
        have HK2 := Lib.hid hK2
        clear k1 k2 hK2
        go_wp2
        refine ⟨by simp, .inl ⟨_, _, rfl, run_takeDeferred HK2.out, ?_⟩⟩
        exact ⟨_, res_cell rfl HK.out.1, by rw [HALL.out], HK.out.2⟩
      case stop =>
        rintro D c pre W hD hpre ⟨rfl, h1, h2, h3⟩ hK
        have r0 := h1.cell_some (i := 0) rfl
        have hall : constN n d = false := by
          rw [E9.out, List.all_eq_false]
          obtain ⟨y, hy, hk⟩ := h3
          obtain ⟨t, ht⟩ := hpre
          refine ⟨y.1.2, ?_, by simp [hk]⟩
          rw [← ht]
          exact List.mem_append_left _ (List.mem_map.2 ⟨y, hy, rfl⟩)
        have HALL := Lib.hid hall
        clear hall
        obtain ⟨k1, k2⟩ := GRel.noCell2 (b := false) h1 h2 (grownBy_putObj' W D (.deferred none)) (fun r e => by
          injection e with e
          subst e
          exact ⟨by omega, _, hK, rfl⟩)
        have HK := Lib.hid (And.intro (k1.cell_some (i := 0) rfl) k2)
        clear k1 k2
        gi_wp2_with fail
        refine ⟨by simp, .inl ⟨_, _, rfl, run_takeDeferred hK, ?_⟩⟩
        exact ⟨_, res_cell rfl HK.out.1, by rw [HALL.out], HK.out.2⟩
end Go.Proofs.YtknbgbeepachgaaDoor
