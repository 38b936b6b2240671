/-
  pavanelaw03.all.
-/
import Derived.Test.YtknbgbeepachgaaWalkF
namespace Go.Proofs.Ytknbgbeepachgaa
open Go.RowKit Go.Shelf
attribute [local go_sem] Oper.semAt_some

/-- As long as the loop goes on; and where it was left. -/
def InRel (w W4 : World) (most : Int) (n : Nat) (ys : List (Cd w w.heap.size n)) (W : World) : Prop := (most < 0 ∨ (ys.length : Int) ≤ most) ∧ ∃ lv, ARel w W4 most n lv ys W
def CutRel (w W4 : World) (most : Int) (n : Nat) (ys : List (Cd w w.heap.size n)) (W : World) : Prop := ∃ lv pre x, ys = pre ++ [x] ∧ (pre.length : Int) = most ∧ ARel w W4 most n lv pre W
/-- What all answers. -/
def AllPost (w : World) (most : Int) (n : Nat) (d : Dat) (e : Ending) (w' : World) : Prop :=
  (∃ a c ds, e = .returned (.slice a ds.length c) ∧ (ds = if most < 0 then walkD n d else (walkD n d).take most.toNat) ∧ RowOf w' (fun b => w.heap.size ≤ b) (IsD w (fun b => b < w.heap.size) n) a ds) ∧ Upd [] w w'
theorem all_end {w W4 W : World} {most : Int} {n : Nat} {d : Dat} {lv : Value} {ys : List (Cd w w.heap.size n)} (h : ARel w W4 most n lv ys W) (hz : w.heap.size ≤ W4.heap.size) (hd : datsOf ys = if most < 0 then walkD n d else (walkD n d).take most.toNat) : AllPost w most n d (.returned lv) W := by
  have hO : OwnD (IsD w (fun b => b < w.heap.size) n) W4 W lv (datsOf ys) := by
    refine ⟨ys.map (fun y => y.1.1), by simp [datsOf], fun i hi => ?_, ?_⟩
    · have hi' : i < ys.length := by simpa [datsOf] using hi
      have e1 : (ys.map (fun y => y.1.1)).getD i [] = ys[i].1.1 := by simp [List.getD_eq_getElem?_getD, hi']
      have e2 : (datsOf ys).getD i default = ys[i].1.2 := by simp [datsOf, List.getD_eq_getElem?_getD, hi']
      rw [e1, e2]
      exact ys[i].2
    · have := h.own
      simpa [datsOf] using this
  obtain ⟨a, c, rfl, hr⟩ := hO.rowN (fun _ _ h => h.shaped)
  exact ⟨⟨a, c, _, rfl, hd, hr.map (fun _ _ hb => Nat.le_trans hz hb) (fun _ _ _ _ hc => hc) (fun _ _ h => h)⟩, h.upd⟩
set_option maxRecDepth 100000 in
set_option maxHeartbeats 4000000 in
theorem all_calls' {n : Nat} {d : Dat} {cs : List Value} {w : World} (most : Int) (h : IsD w (fun b => b < w.heap.size) n cs d) (hs : szN n d ≤ 100000) (hd : dpN n d ≤ 10000) :
    Calls Try.prog 7 #[.agg cs.toArray, .int .i64 most] w (AllPost w most n d) := by
  obtain ⟨k9, n9, a9, l9, c9, b9, s9, i9, m9, d9, t9, o9, p9, rfl⟩ := h.shaped
  unfold datCells at *
  have hM : (walkD n d).length ≤ 100000 := by
    rw [walkD_len n d (by omega)]
    exact hs
  refine callsIn_wide.1 (callsIn_of_wp_marks (n := 5) Try.func7 rfl trivial (wpIn_wide.2 ?_) rfl)
  simp only [Try.ntmps7, List.size_toArray, List.length_cons, List.length_nil, Nat.reduceAdd, Nat.reduceSub, Array.replicate_succ, Array.replicate_zero, List.push_toArray, List.append_toArray, List.nil_append, List.cons_append]
  go_wp2_with fail
  refine (Walk_calls _).mono ?_
  rintro e w4 ⟨rfl, rfl⟩
  have hnil := seq_nil
  go_wp2_with fail
  clear hnil
  obtain ⟨W4, hW4⟩ : ∃ W4, W4 = (((w.alloc (.cells #[.int .i64 k9, .bool n9, .slice a9 l9 c9, .bool b9, .string s9, .slice i9 m9 d9, .slice t9 o9 p9] 27)).alloc (.cells #[.int .i64 most] 3)).alloc (.cells #[.int .i64 k9, .bool n9, .slice a9 l9 c9, .bool b9, .string s9, .slice i9 m9 d9, .slice t9 o9 p9] 27)).alloc (.cells #[.slice none 0 0] 25) := ⟨_, rfl⟩
  have hz4 : W4.heap.size = w.heap.size + 4 := by
    rw [hW4]
    simp
  have hu4 : Upd [] w W4 := by
    rw [hW4]
    exact ((((Upd.refl [] w).alloc _).alloc _).alloc _).alloc _
  have hm4 : Blk W4 (w.heap.size + 1) [.int .i64 most] 3 := by
    rw [hW4]
    exact ((Blk.newAt (by simp)).alloc _).alloc _
  have hw4 : Blk W4 (w.heap.size + 1 + 1) [.int .i64 k9, .bool n9, .slice a9 l9 c9, .bool b9, .string s9, .slice i9 m9 d9, .slice t9 o9 p9] 27 := by
    rw [hW4]
    exact (Blk.newAt (by simp)).alloc _
  have hl4 : Blk W4 (w.heap.size + 1 + 1 + 1) [.slice none 0 0] 25 := by
    rw [hW4]
    exact Blk.newAt (by simp)
  rw [← hW4]
  clear hW4
  have hr4 : ARel w W4 most n (.slice none 0 0) ([] : List (Cd w w.heap.size n)) W4 := ⟨hm4, hl4, World.ownsRow_nil _ _ _ _, hu4, Nat.le_refl _⟩
  have hok := hr4.ok (by omega)
  have hseq : SeqStopsK Fence.wide (5 - 1) Try.prog 28 #[.pointer (some ⟨w.heap.size + 1 + 1, 0, none⟩)] (fun x : Cd w w.heap.size n => #[Value.agg x.1.1.toArray]) (KW w.heap.size (w.heap.size + 1 + 1 + 1)) (fun ys => datsOf ys = walkD n d) (fun pre => datsOf pre <+: walkD n d) (walkD n d).length W4 := by
    intro l J Jx W hW hJ hJx hY h0
    have hBW : Below w.heap.size w W := (Below.mk hu4.os hu4.tape hu4.output hu4.size (fun k hk => hu4.block k hk (by simp))).trans (hW.mono (by omega))
    refine walk1_in w w.heap.size n (5 - 1) l (w.heap.size + 1 + 1 + 1) (w.heap.size + 1 + 1) J Jx (fun pre W W' hj hu => hJ pre W W' none hj ⟨hu.os, hu.tape, hu.output, hu.size, fun k hk _ => hu.block k hk (by simp)⟩ (fun r e => by cases e)) (fun m pre x W hj hl => yield_any m (hY pre x W hj hl)) h hBW ?_ hs hd (hw4.of_eq (hW.block _ hw4.lt)) h0
    have hsz := hW.size
    refine ⟨⟨by omega, by omega⟩, fun r hr => ?_⟩
    rw [rowAt_same (hW.block _ hl4.lt), hr4.row] at hr
    cases hr
  -- ALL
  refine (wpIn_wide (n := 5)).1 ?_
  refine wpIn_rangeFunc_ownH (F := Fence.wide) rfl (by decide) (gf := 28) (lb := #[.pointer (some ⟨w.heap.size + 1 + 1, 0, none⟩)]) rfl trivial (enters_of Try.func28 (by kernel_rfl) rfl)
    hseq KW.trans (fun W l o o' hl ho hc _ => KW.putObj (by omega) (by omega) ho hc) (Below.refl _ _) (fun _ => rfl)
    (fun pre W => InRel w W4 most n pre W)
    (fun c ys W => c = .exit 0 ∧ CutRel w W4 most n ys W)
    (fun pre A B row hs hg hr => by obtain ⟨hm, lv, hs⟩ := hs; exact ⟨hm, lv, hs.noCell (by omega) hg (fun r e => hr r e)⟩)
    (fun _ pre A B row hs hg hr => by obtain ⟨e, lv, p, x, e1, e2, hs⟩ := hs; exact ⟨e, lv, p, x, e1, e2, hs.noCell (by omega) hg (fun r e => hr r e)⟩)
    ⟨by simp; omega, _, hr4⟩
    (fun x a' W => ∃ Bx, w.heap.size + 4 ≤ Bx ∧ Blk W Bx x.1.1 27 ∧ a' = { tmps := #[.agg #[.int .i64 k9, .bool n9, .slice a9 l9 c9, .bool b9, .string s9, .slice i9 m9 d9, .slice t9 o9 p9], .int .i64 most, .pointer (some ⟨w.heap.size, 0, none⟩), .pointer (some ⟨w.heap.size + 1, 0, none⟩), .slice none 0 0, .func (.func 28) #[] #[.pointer (some ⟨w.heap.size + 1 + 1, 0, none⟩)], .pointer (some ⟨w.heap.size + 1 + 1 + 1, 0, none⟩), .pointer (some ⟨Bx, 0, none⟩), .agg #[.int .i64 k9, .bool n9, .slice a9 l9 c9, .bool b9, .string s9, .slice i9 m9 d9, .slice t9 o9 p9], .func (.func 28) #[] #[.pointer (some ⟨w.heap.size + 1 + 1, 0, none⟩)], .func (.func 28) #[] #[.pointer (some ⟨w.heap.size + 1 + 1, 0, none⟩)], .bool false, .func (.func 28) #[] #[.pointer (some ⟨w.heap.size + 1 + 1, 0, none⟩)], .agg x.1.1.toArray, undef, undef, undef, undef, undef, undef, undef, undef, undef, undef, undef], defers := [] })
    (fun x a' _ X Y row hs hg hr => by obtain ⟨Bx, h1, h2, h3⟩ := hs; exact ⟨Bx, h1, h2.noCell hg (fun r e => (hr r e).2), h3⟩)
    ?assign ?body ?done ?stop
  case assign =>
    rintro l pre ⟨⟨cs, d⟩, hd⟩ W K ⟨hm, lv, hR⟩ hK
    obtain ⟨k1, n1, a1, l1, c1, b1, s1, i1, m1, d1, t1, o1, p1, rfl⟩ := IsD.shaped hd
    unfold datCells at *
    have hu : Upd [] W (W.alloc (.cells #[.int .i64 k1, .bool n1, .slice a1 l1 c1, .bool b1, .string s1, .slice i1 m1 d1, .slice t1 o1 p1] 27)) := (Upd.refl [] W).alloc _
    have hlt := hR.lt
    gi_wp2
    exact hK _ _ (KeepsFrom.of_upd hu) (KW.upd (hR.ok (by omega)) hu) ⟨hm, lv, hR.step hu⟩ ⟨W.heap.size, by omega, Blk.newAt rfl, rfl⟩
  case body =>
    rintro l pre ⟨⟨cs, dd⟩, hd⟩ a' W hl ⟨r, hr⟩ ⟨hm, lv, hR⟩ ⟨Bx, hBx, hbx, rfl⟩ hlt
    obtain ⟨k1, n1, a1, l1, c1, b1, s1, i1, m1, d1, t1, o1, p1, rfl⟩ := IsD.shaped hd
    unfold datCells at *
    obtain ⟨a0, c0, hlv⟩ : ∃ a0 c0, lv = .slice a0 pre.length c0 := by
      rcases hR.own.2 with ⟨rfl, e⟩ | ⟨g, c, _, rfl, _⟩
      · exact ⟨none, 0, by rw [e]⟩
      · exact ⟨_, _, rfl⟩
    subst hlv
    obtain ⟨x, hx⟩ : ∃ x : Cd w w.heap.size n, x = ⟨([.int .i64 k1, .bool n1, .slice a1 l1 c1, .bool b1, .string s1, .slice i1 m1 d1, .slice t1 o1 p1], dd), hd⟩ := ⟨_, rfl⟩
    have hxc : x.1.1 = [.int .i64 k1, .bool n1, .slice a1 l1 c1, .bool b1, .string s1, .slice i1 m1 d1, .slice t1 o1 p1] := by rw [hx]
    rw [← hx]
    clear hx
    obtain ⟨j, hj⟩ : ∃ j, j = pre.length := ⟨_, rfl⟩
    have HJ := Lib.hid hj
    have c5 := hR.box.cell_some (i := 0) rfl
    have cm := hR.mst.cell_some (i := 0) rfl
    obtain ⟨q0, q1, q2, q3, q4, q5, q6⟩ := Blk.seven hbx
    have hbl := Blk.lt hR.box
    have hbl2 := Blk.lt hbx
    have hjl : j ≤ 100000 := by omega
    rw [← hj] at c5
    have hms := hR.lt
    have HR := Lib.hid hR
    have HBX := Lib.hid hbx
    have HXC := Lib.hid hxc
    have HM := Lib.hid hm
    rw [← hj] at HM
    clear hR hbx hxc hm hj
    by_cases hmost : (j : Int) = most
    · have hwt : IntKind.i64.wrap (most : Int) = most := by
        rw [← hmost]
        exact IntWalk.i64_in _ (by omega)
      subst hmost
      gi_wp2
      exact ⟨KeepsFrom.refl _ _, rfl, _, pre, x, rfl, by rw [HJ.out], HR.out⟩
    · gi_wp2_with fail
      refine region_round (by kernel_rfl) (by kernel_rfl) (fun _ _ h => h) ?_
      refine wpAny_part #[true, true, true, true, false, false, false, false] 4 3 (fun d a W' => ∃ z0 z1 z2 z3 : Value, a = { tmps := #[.agg #[.int .i64 k9, .bool n9, .slice a9 l9 c9, .bool b9, .string s9, .slice i9 m9 d9, .slice t9 o9 p9], .int .i64 most, .pointer (some ⟨w.heap.size, 0, none⟩), .pointer (some ⟨w.heap.size + 1, 0, none⟩), .slice none 0 0, .func (.func 28) #[] #[.pointer (some ⟨w.heap.size + 1 + 1, 0, none⟩)], .pointer (some ⟨w.heap.size + 1 + 1 + 1, 0, none⟩), .pointer (some ⟨Bx, 0, none⟩), .agg #[.int .i64 k9, .bool n9, .slice a9 l9 c9, .bool b9, .string s9, .slice i9 m9 d9, .slice t9 o9 p9], .func (.func 28) #[] #[.pointer (some ⟨w.heap.size + 1 + 1, 0, none⟩)], .func (.func 28) #[] #[.pointer (some ⟨w.heap.size + 1 + 1, 0, none⟩)], .bool false, .func (.func 28) #[] #[.pointer (some ⟨w.heap.size + 1 + 1, 0, none⟩)], .agg x.1.1.toArray, .slice a0 j c0, .int .i64 j, .int .i64 most, .bool false, z0, z1, z2, z3, undef, undef, undef], defers := [] } ∧ PInv W [isVal (.slice a0 j c0), isVal (.agg #[.int .i64 k1, .bool n1, .slice a1 l1 c1, .bool b1, .string s1, .slice i1 m1 d1, .slice t1 o1 p1]), isVal (.int .i64 j), isOne W.heap.size [.int .i64 0, .bool false, .slice none 0 0, .bool false, .string ⟨#[]⟩, .slice none 0 0, .slice none 0 0] 27] d W' [z0, z1, z2, z3]) (by kernel_rfl) ⟨_, _, _, _, rfl, PInv.new⟩ ?steps ?rest
      case steps =>
        have hla : ∀ r ∈ [isVal (.slice a0 j c0), isVal (.agg #[.int .i64 k1, .bool n1, .slice a1 l1 c1, .bool b1, .string s1, .slice i1 m1 d1, .slice t1 o1 p1]), isVal (.int .i64 j), isOne W.heap.size [.int .i64 0, .bool false, .slice none 0 0, .bool false, .string ⟨#[]⟩, .slice none 0 0, .slice none 0 0] 27], Lasts r := by
          intro r hr
          simp only [List.mem_cons, List.not_mem_nil, or_false] at hr
          rcases hr with rfl | rfl | rfl | rfl
          · exact isVal_lasts _
          · exact isVal_lasts _
          · exact isVal_lasts _
          · exact isOne_lasts _ _ _
        have HLA := Lib.hid hla
        clear hla
        show StepsOk _ _ _ _ [0, 1, 2, 3]
        refine StepsOk.cons (js := []) rfl (by kernel_rfl) ?_ ?_
        · rintro d a W' ⟨z0, z1, z2, z3, rfl, h⟩ hd hdeps K hK
          have c5' := h.upd.cell c5 (by simp)
          have H := Lib.hid h
          clear h hdeps hd c5
          go_simp
          exact hK _ _ ⟨_, _, _, _, rfl, H.out.put HLA.out 0 rfl (show 0 < 4 by decide) (Upd.refl [] _) rfl⟩
        refine StepsOk.cons (js := []) rfl (by kernel_rfl) ?_ ?_
        · rintro d a W' ⟨z0, z1, z2, z3, rfl, h⟩ hd hdeps K hK
          obtain ⟨q0, q1, q2, q3, q4, q5, q6⟩ := Blk.seven (h.upd.blk HBX.out (by simp))
          have H := Lib.hid h
          clear h hdeps hd c5
          go_simp
          exact hK _ _ ⟨_, _, _, _, rfl, H.out.put HLA.out 1 rfl (show 1 < 4 by decide) (Upd.refl [] _) rfl⟩
        refine StepsOk.cons (js := [0]) rfl (by kernel_rfl) ?_ ?_
        · rintro d a W' ⟨z0, z1, z2, z3, rfl, h⟩ hd hdeps K hK
          have r0 : z0 = .slice a0 j c0 := h.res 0 _ rfl (hdeps 0 (by simp))
          subst r0
          have H := Lib.hid h
          clear h hdeps hd c5
          go_simp
          exact hK _ _ ⟨_, _, _, _, rfl, H.out.put HLA.out 2 rfl (show 2 < 4 by decide) (Upd.refl [] _) rfl⟩
        refine StepsOk.cons (js := []) rfl (by kernel_rfl) ?_ StepsOk.nil
        · rintro d a W' ⟨z0, z1, z2, z3, rfl, h⟩ hd hdeps K hK
          have hu : Upd [] W' (W'.alloc (.cells #[.int .i64 0, .bool false, .slice none 0 0, .bool false, .string ⟨#[]⟩, .slice none 0 0, .slice none 0 0] 27)) := (Upd.refl [] W').alloc _
          have H := Lib.hid h
          clear h hdeps hd c5
          go_simp
          exact hK _ _ ⟨_, _, _, _, rfl, H.out.put HLA.out 3 rfl (show 3 < 4 by decide) hu ⟨W'.heap.size, rfl, H.out.upd.size, Blk.newAt rfl⟩⟩
      case rest =>
        rintro d a W' ⟨z0, z1, z2, z3, rfl, h⟩ hd
        have r0 : z0 = .slice a0 j c0 := h.res 0 _ rfl (hd 0 (by omega))
        have r1 : z1 = .agg #[.int .i64 k1, .bool n1, .slice a1 l1 c1, .bool b1, .string s1, .slice i1 m1 d1, .slice t1 o1 p1] := h.res 1 _ rfl (hd 1 (by omega))
        have r2 : z2 = .int .i64 j := h.res 2 _ rfl (hd 2 (by omega))
        obtain ⟨g0, r3, hg0, hbz⟩ : isOne W.heap.size [.int .i64 0, .bool false, .slice none 0 0, .bool false, .string ⟨#[]⟩, .slice none 0 0, .slice none 0 0] 27 W' z3 := h.res 3 _ rfl (hd 3 (by omega))
        subst r0; subst r1; subst r2; subst r3
        have hu := h.upd
        clear h hd
        refine wpAny_ready (rs := [4]) (by kernel_rfl) (by simp) ?_
        refine AllReady.cons rfl (fun K hK => ?_) AllReady.nil
        have hown : W'.ownsRow W4.heap.size 27 7 (.slice a0 j c0) j (pre.map (fun y => y.1.1)).flatten := by
          rw [HJ.out]
          exact own_upd0 HR.out.own hu
        have hfl : (pre.map (fun y => y.1.1)).flatten.length = j * 7 := hown.1
        have hwz : W4.heap.size ≤ W'.heap.size := Nat.le_trans hms hu.size
        refine' step_zero (W4 := W4) (X := W') (j := j) (g0 := g0) (lv := .slice a0 j c0) (xs := (pre.map (fun y => y.1.1)).flatten) rfl (.tmp 18) (.tmp 21) rfl rfl rfl hown hbz (by simp [Value.oneCell']) hjl hwz ?_
        intro g cap w10 hO10 hgr10 hg10
        have hgb : w.heap.size + 4 ≤ g := by
          rcases hg10 with h | h
          · have := (hown.lt g h).1
            omega
          · omega
        have hgn : ¬ g = w.heap.size + 1 + 1 + 1 := by omega
        have hng : ¬ w.heap.size + 1 + 1 + 1 = g := by omega
        have hB10 : Blk w10 (w.heap.size + 1 + 1 + 1) [.slice a0 j c0] 25 := by
          have hbb := hu.blk HR.out.box (by simp)
          rw [← HJ.out] at hbb
          exact hbb.of_eq (hgr10.block _ hbb.lt (fun e => by
            have := (hown.lt _ e.symm).1
            omega))
        have c10 := hB10.cell_some (i := 0) rfl
        have f10 := hB10.free 0
        obtain ⟨z0, z1, z2, z3, z4, z5, z6⟩ := own_last hO10 (k := j * 7) hfl
        have y0 := hO10.frozenAt (j * 7)
        have y1 := hO10.frozenAt (j * 7 + 1)
        have y2 := hO10.frozenAt (j * 7 + 2)
        have y3 := hO10.frozenAt (j * 7 + 3)
        have y4 := hO10.frozenAt (j * 7 + 4)
        have y5 := hO10.frozenAt (j * 7 + 5)
        have y6 := hO10.frozenAt (j * 7 + 6)
        have hjj : (j : Int) < (j : Int) + 1 := by omega
        have hleafA : KeepsFrom W4.heap.size W _ ∧ KW w.heap.size (w.heap.size + 1 + 1 + 1) W _ ∧ ARel w W4 most n _ (pre ++ [x]) _ := all_leafA (x := x) HR.out (by omega) HJ.out.symm hu (by rw [← HJ.out]; exact hgr10) (by rw [← HJ.out]; exact hg10) hO10 hfl HXC.out
        have hleafB : KeepsFrom W4.heap.size W _ ∧ KW w.heap.size (w.heap.size + 1 + 1 + 1) W _ ∧ ARel w W4 most n _ (pre ++ [x]) _ := all_leafB (x := x) HR.out (by omega) HJ.out.symm hu (by rw [← HJ.out]; exact hgr10) (by rw [← HJ.out]; exact hg10) hO10 hfl HXC.out
        have HLA := Lib.hid hleafA
        have HLB := Lib.hid hleafB
        have hm' : most < 0 ∨ ((pre ++ [x]).length : Int) ≤ most := by
          have h1 := HM.out
          have h2 := HJ.out
          rw [List.length_append, List.length_singleton, ← h2]
          omega
        have HMM := Lib.hid hm'
        have HZ := Lib.hid (And.intro hO10 (And.intro hgr10 hg10))
        clear hleafA hleafB hm' hO10 hgr10 hg10 hB10 hown hwz hbz hg0 c5 cm q0 q1 q2 q3 q4 q5 q6
        refine hK _ _ ?_
        clear hK K
        refine wpAny_take (i := 5) (v := ?_) rfl (by kernel_rfl) (by kernel_rfl) (by kernel_rfl) (fun _ _ _ h => h) (Or.inl ⟨by rfl, ?_⟩) ?_
        rotate_left
        · intro wq
          go_simp
          try rw [if_pos hjj]
          try with_reducible rfl
        refine wpAny_ready (rs := [6, 7]) (by kernel_rfl) (by simp) ?_
        refine AllReady.cons rfl (fun K hK => ?_) ?_
        · go_simp
          refine hK _ _ ?_
          clear hK K
          refine wpAny_ready (rs := [7]) (by kernel_rfl) (by simp) ?_
          refine AllReady.cons rfl (fun K hK => ?_) AllReady.nil
          go_simp
          refine hK _ _ ?_
          clear hK K
          refine wpAny_done (by kernel_rfl) ?_ _
          exact ⟨HLA.out.1, HLA.out.2.1, HMM.out, _, HLA.out.2.2⟩
        refine AllReady.cons rfl (fun K hK => ?_) AllReady.nil
        go_simp
        refine hK _ _ ?_
        clear hK K
        refine wpAny_ready (rs := [6]) (by kernel_rfl) (by simp) ?_
        refine AllReady.cons rfl (fun K hK => ?_) AllReady.nil
        go_simp
        refine hK _ _ ?_
        clear hK K
        refine wpAny_done (by kernel_rfl) ?_ _
        exact ⟨HLB.out.1, HLB.out.2.1, HMM.out, _, HLB.out.2.2⟩
  case done =>
    rintro D ys W hD hys ⟨hm, lv, hR⟩ hK
    have c5 := hR.box.cell_some (i := 0) rfl
    have hfin : datsOf ys = if most < 0 then walkD n d else (walkD n d).take most.toNat := by
      split
      · exact hys
      · rw [hys, List.take_of_length_le]
        have e : ys.length = (walkD n d).length := by
          rw [← hys]
          unfold datsOf
          rw [List.length_map]
        omega
    have HF := Lib.hid (all_end (hR.noCell (by omega) (grownBy_putObj' W D (.deferred none)) (fun r e => by injection e with e; subst e; exact ⟨hD, _, hK, rfl⟩)) (by omega) hfin)
    clear hR hfin
    go_wp2
    refine ⟨by simp, .inl ⟨_, _, rfl, run_takeDeferred hK, ?_⟩⟩
    refine ⟨_, results_tmp rfl _ _ _, ?_⟩
    exact HF.out
  case stop =>
    rintro D c pre W hD hpre ⟨rfl, lv, ys, x, rfl, hlen, hR⟩ hK
    have c5 := hR.box.cell_some (i := 0) rfl
    have hfin : datsOf ys = if most < 0 then walkD n d else (walkD n d).take most.toNat := by
      rw [if_neg (by omega), ← hlen, Int.toNat_natCast]
      obtain ⟨t, ht⟩ := hpre
      rw [← ht]
      have e : datsOf (ys ++ [x]) = datsOf ys ++ datsOf [x] := List.map_append
      have e2 : (datsOf ys).length = ys.length := List.length_map _
      rw [e, List.append_assoc, ← e2, List.take_left']
      rfl
    have HF := Lib.hid (all_end (hR.noCell (by omega) (grownBy_putObj' W D (.deferred none)) (fun r e => by injection e with e; subst e; exact ⟨hD, _, hK, rfl⟩)) (by omega) hfin)
    clear hR hfin
    gi_wp2_with fail
    go_wp2
    refine ⟨by simp, .inl ⟨_, _, rfl, run_takeDeferred hK, ?_⟩⟩
    refine ⟨_, results_tmp rfl _ _ _, ?_⟩
    exact HF.out
end Go.Proofs.Ytknbgbeepachgaa
