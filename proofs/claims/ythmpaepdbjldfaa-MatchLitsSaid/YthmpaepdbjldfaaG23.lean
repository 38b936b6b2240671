/-
  Texts of this claim, merged: DatO. Lemmas and contracts; no conditions of our own.
-/
import Derived.Test.YthmpaepdbjldfaaG22

/-
  datum.norm of lists.
-/
namespace Go.Proofs.Ythmpaepdbjldfaa
set_option linter.unusedVariables false
set_option linter.unusedSimpArgs false
open Go.RowKit
attribute [local go_sem] Oper.semAt_some

/-- A datum in cells. -/
abbrev Cel (w : World) (P : Nat → Prop) (n : Nat) : Type := { p : List Value × Dat // IsD w P n p.1 p.2 ∧ szN n p.2 ≤ 100000 }
theorem RowOf.pick {w : World} {P : Nat → Prop} {n : Nat} {a : Option Addr} {ds : List Dat} (h : RowOf w P (IsD w P n) a ds) (hs : szL (szN n) ds ≤ 100000) :
    ∃ zs : List (Cel w P n), zs.map (fun x => x.1.2) = ds ∧ ∀ i (hi : i < zs.length), ∃ b o, a = some ⟨b, o, none⟩ ∧ b < w.heap.size ∧ At7 w b (o + i * 7) zs[i].1.1 := by
  have hx : ∀ i : Fin ds.length, ∃ x : Cel w P n, x.1.2 = ds[i.1] ∧ ∃ b o, a = some ⟨b, o, none⟩ ∧ b < w.heap.size ∧ At7 w b (o + i.1 * 7) x.1.1 := by
    intro i
    obtain ⟨b, o, cs, e, _, h1, h2⟩ := h i.1 i.2
    have e2 : ds.getD i.1 default = ds[i.1] := by simp [List.getD_eq_getElem?_getD]
    have hz := szL_get (szN n) i.2
    rw [e2] at h2 hz
    exact ⟨⟨(cs, ds[i.1]), h2, Nat.le_trans hz hs⟩, rfl, b, o, e, h1.lt, h1⟩
  refine ⟨List.ofFn (fun i => Classical.choose (hx i)), ?_, fun i hi => ?_⟩
  · apply List.ext_getElem
    · simp
    · intro i h1 h2
      simp only [List.getElem_map, List.getElem_ofFn]
      exact (Classical.choose_spec (hx ⟨i, h2⟩)).1
  · have hi' : i < ds.length := by simpa using hi
    obtain ⟨_, b, o, e, h1, h2⟩ := Classical.choose_spec (hx ⟨i, hi'⟩)
    exact ⟨b, o, e, h1, by rw [List.getElem_ofFn]; exact h2⟩
set_option maxRecDepth 100000 in
set_option maxHeartbeats 1500000 in
theorem norm_list (n : Nat) (ih : NormSaid n) (P : Nat → Prop) (d : Dat) (cs : List Value) (w : World) (h : IsD w P (n + 1) cs d) (hs : szN (n + 1) d ≤ 100000) (hk5 : d.kind = 5) :
    Calls Try.prog 43 #[.agg cs.toArray] w (NormPost w (n + 1) (normD (n + 1) d)) := by
  have IH := Lib.hid ih
  clear ih
  obtain ⟨aL, cL, aI, cI, aT, cT, rfl, l1, r1, r2, hcap, hbd⟩ := h
  obtain ⟨kd, ng, ls, bb, ss, is, ts⟩ := d
  simp only [Dat.kind, Dat.neg, Dat.limbs, Dat.b, Dat.s, Dat.items, Dat.tail] at *
  subst hk5
  have hs1 : 1 + szL (szN n) is + szL (szN n) ts ≤ 100000 := by rw [szN_mk] at hs; exact hs
  have HI := Lib.hid r1
  have HT := Lib.hid r2
  have HC := Lib.hid hcap
  have HB := Lib.hid hbd
  have HS := Lib.hid hs1
  obtain ⟨D, hD⟩ : ∃ D, D = normD (n + 1) (.mk 5 ng ls bb ss is ts) := ⟨_, rfl⟩
  rw [← hD]
  rw [normD_list] at hD
  have hND := Lib.hid hD
  clear l1 r1 r2 hcap hbd hs hs1 hD
  have hb := NBeg.new w 5 [.int .i64 5, .bool ng, .slice aL ls.length cL, .bool bb, .string ss, .slice aI is.length cI, .slice aT ts.length cT]
  have HBG := Lib.hid hb
  clear hb
  unfold datCells
  refine callsIn_wide.1 (callsIn_of_wp_marks (n := 5) Try.func43 rfl trivial (wpIn_wide.2 ?_) rfl)
  simp only [Try.ntmps43, List.size_toArray, List.length_cons, List.length_nil, Nat.reduceAdd, Nat.reduceSub, Array.replicate_succ, Array.replicate_zero, List.push_toArray, List.append_toArray, List.nil_append, List.cons_append]
  go_wp2_with (go_at_call 64; refine (values_calls aI is.length cI _).mono ?_; rintro e w4 ⟨rfl, rfl⟩)
  obtain ⟨W4, hW4⟩ : ∃ W4, W4 = (((w.alloc (.cells #[.int .i64 5, .bool ng, .slice aL ls.length cL, .bool bb, .string ss, .slice aI is.length cI, .slice aT ts.length cT] 27)).alloc (.cells #[.int .i64 0, .bool false, .slice none 0 0, .bool false, .string ⟨#[]⟩, .slice none 0 0, .slice none 0 0] 27)).alloc (.cells #[.int .i64 5, .bool false, .slice none 0 0, .bool false, .string ⟨#[]⟩, .slice none 0 0, .slice none 0 0] 27)).alloc (.cells #[.slice aI is.length cI] 25) := ⟨_, rfl⟩
  have hr4 : NRel w W4 W4 [.int .i64 5, .bool ng, .slice aL ls.length cL, .bool bb, .string ss, .slice aI is.length cI, .slice aT ts.length cT] n (.slice none 0 0) [] := by
    have hb4 := HBG.out.step ((Upd.refl [] _).alloc (.cells #[.slice aI is.length cI] 25))
    change NBeg w _ _ _ at hb4
    rw [← hW4] at hb4
    exact ⟨hb4.box, hb4.res, hb4.out, OutRow.nil _ _ _, hb4.upd, Nat.le_refl _⟩
  have hS4 : Blk W4 (w.heap.size + 1 + 1 + 1) [.slice aI is.length cI] 25 := by
    rw [hW4]
    exact Blk.newAt (by simp)
  have hz4 : W4.heap.size = w.heap.size + 1 + 1 + 1 + 1 := by
    rw [hW4]
    simp
  rw [← hW4]
  clear hW4 HBG
  obtain ⟨zs, hzs, hzr⟩ := HI.out.pick (by have := HS.out; omega)
  have hzl : zs.length = is.length := by rw [← hzs, List.length_map]
  have hsz := HS.out
  have hlen : is.length ≤ 100000 := by
    have := len_le_szL (szN_pos n) is
    omega
  have hseq : SeqStopsK Fence.wide (5 - 1) Try.prog 91 #[.pointer (some ⟨w.heap.size + 1 + 1 + 1, 0, none⟩)] (fun x : Cel w P n => #[Value.agg x.1.1.toArray]) (Below w.heap.size) (fun ys => ys = zs) (fun pre => pre <+: zs) is.length W4 := by
    intro l J Jx W hW hJ hJx hY h0
    have hBs := (hW.cell (p := ⟨w.heap.size + 1 + 1 + 1, 0, none⟩) hS4.lt).trans (hS4.cell_some rfl)
    have hsW := hW.size
    refine vals_in (fun x : Cel w P n => x.1.1) (fun x => x.2.1.shaped) (5 - 1) l w.heap.size _ aI is.length cI zs J Jx W hzl (by omega) (fun i hi => ?_) (by omega) (fun pre W1 o hj => hJ pre W1 (W1.alloc o) none hj (World.grownBy_alloc W1 o none) (by intro r e; cases e)) hY hBs h0
    obtain ⟨b, o, e, hb, hat⟩ := hzr i hi
    exact ⟨b, o, e, hb, (hat.upd hr4.upd (by simp)).1, fun j hj => (hW.cell (p := ⟨b, o + i * 7 + j, none⟩) (by simp; omega)).trans ((hat.upd hr4.upd (by simp)).2 j hj)⟩
  refine (wpIn_wide (n := 5)).1 ?_
  refine wpIn_rangeFunc_ownH (F := Fence.wide) rfl (by decide) (gf := 91) (lb := #[.pointer (some ⟨w.heap.size + 1 + 1 + 1, 0, none⟩)]) rfl trivial (enters_of Try.func91 (by kernel_rfl) rfl)
    hseq belowK_t (belowK_b (by omega)) (Below.refl _ _) (fun _ => rfl)
    (fun pre W => ∃ lv, NRel w W4 W [.int .i64 5, .bool ng, .slice aL ls.length cL, .bool bb, .string ss, .slice aI is.length cI, .slice aT ts.length cT] n lv (pre.map (fun x => normD n x.1.2)))
    (fun _ _ _ => False)
    (fun pre A B row hs hg hr => by obtain ⟨lv, hs⟩ := hs; exact ⟨lv, hs.noCell hg (fun r e => ⟨by have := (hr r e).1; omega, (hr r e).2⟩)⟩)
    (fun _ _ _ _ _ hs _ _ => hs)
    ⟨_, hr4⟩
    (fun x a' W => ∃ Bx, w.heap.size + 1 + 1 + 1 < Bx ∧ Blk W Bx x.1.1 27 ∧ a' = { tmps := #[.agg #[.int .i64 5, .bool ng, .slice aL ls.length cL, .bool bb, .string ss, .slice aI is.length cI, .slice aT ts.length cT], .pointer (some ⟨w.heap.size, 0, none⟩), .pointer (some ⟨w.heap.size + 1, 0, none⟩), .pointer (some ⟨w.heap.size + 1 + 1, 0, none⟩), .pointer (some ⟨Bx, 0, none⟩), .pointer (some ⟨w.heap.size, 0, none⟩), .int .i64 5, .agg #[.int .i64 5, .bool false, .slice none 0 0, .bool false, .string ⟨#[]⟩, .slice none 0 0, .slice none 0 0], .pointer (some ⟨w.heap.size, 0, none⟩), .int .i64 5, .bool false, .bool false, undef, undef, undef, undef, .bool false, .bool false, undef, undef, undef, .bool false, .bool false, .bool false, undef, undef, undef, .bool true, .bool true, .pointer (some ⟨w.heap.size, 5, none⟩), .slice aI is.length cI, .func (.func 91) #[] #[.pointer (some ⟨w.heap.size + 1 + 1 + 1, 0, none⟩)], .agg x.1.1.toArray, undef, undef, undef, undef, undef, undef, undef, undef, undef, undef, undef, undef, undef, undef, undef, undef, undef, undef, undef, undef, undef, undef], defers := [] })
    (fun x a' _ X Y row hs hg hr => by obtain ⟨Bx, h1, h2, h3⟩ := hs; exact ⟨Bx, h1, h2.noCell hg (fun r e => (hr r e).2), h3⟩)
    ?assign ?body ?done ?stop
  case assign =>
    rintro l pre ⟨⟨cs, d⟩, hd, hz⟩ W K ⟨lv, hR⟩ hK
    obtain ⟨k9, n9, a9, l9, c9, b9, s9, i9, m9, d9, t9, o9, p9, rfl⟩ := hd.shaped
    unfold datCells at *
    have hu : Upd [] W (W.alloc (.cells #[.int .i64 k9, .bool n9, .slice a9 l9 c9, .bool b9, .string s9, .slice i9 m9 d9, .slice t9 o9 p9] 27)) := (Upd.refl [] W).alloc _
    have hsW := hR.upd.size
    have hout := hR.out.lt
    gi_wp2
    refine hK _ _ (KeepsFrom.of_upd hu) ((Below.refl _ W).alloc hsW _) ⟨lv, hR.step hu⟩ ⟨W.heap.size, ?_, Blk.newAt rfl, rfl⟩
    have := hR.lt
    omega
  case body =>
    rintro l pre ⟨⟨cs, d⟩, hd, hz⟩ a' W hl ⟨r, hr⟩ ⟨lv, hR⟩ ⟨Bx, hBx, hbx, rfl⟩ hlt
    obtain ⟨k9, n9, a9, l9, c9, b9, s9, i9, m9, d9, t9, o9, p9, rfl⟩ := hd.shaped
    unfold datCells at *
    have HN := Lib.hid (fun (X : World) (hu : Upd [] W X) => IH.out P d _ X (hd.upd (hR.upd.then hu)) hz)
    obtain ⟨a0, c0, hlv⟩ : ∃ a0 c0, lv = .slice a0 pre.length c0 := by
      obtain ⟨css, _, _, h3⟩ := hR.row
      rw [List.length_map] at h3
      rcases h3.2 with ⟨rfl, e⟩ | ⟨g, c, _, rfl, _⟩
      · exact ⟨none, 0, by rw [e]⟩
      · exact ⟨_, _, rfl⟩
    subst hlv
    obtain ⟨css, k1, k2, k3⟩ := hR.row
    have hlo := k3.lt
    have hdl : (pre.map (fun x => normD n x.1.2)).length = pre.length := List.length_map _
    rw [hdl] at k3
    have hfl : css.flatten.length = pre.length * 7 := k3.1
    obtain ⟨j, hj⟩ : ∃ j, j = pre.length := ⟨_, rfl⟩
    rw [← hj] at hlo k3 hfl hlt hR hdl k2
    clear hj
    have c5 := hR.out.cell_some (i := 5) rfl
    obtain ⟨q0, q1, q2, q3, q4, q5, q6⟩ := Blk.seven hbx
    have ho := hR.out.lt
    have hbl := Blk.lt hbx
    have hz5 := hR.lt
    have hqn : (Value.slice a0 j c0).ownBlock ≠ some (w.heap.size + 1 + 1) := fun e => by have := (hlo _ e).1; omega
    have hzz : w.heap.size + 1 + 1 < W4.heap.size := by omega
    have hjj : (j : Int) < (j : Int) + 1 := by omega
    have HK3 := Lib.hid k3
    have HK := Lib.hid (And.intro k1 k2)
    have HR := Lib.hid hR
    clear k1 k2 k3 hR hbx
    refine wpIn_block (region_round (by kernel_rfl) (by kernel_rfl) (fun _ _ h => h) ?_)
-- ORDERS
    refine wpAny_take (i := 0) (v := ?_) rfl (by kernel_rfl) (by kernel_rfl) (by kernel_rfl) (fun _ _ _ h => h) (Or.inl ⟨by rfl, ?_⟩) ?_
    rotate_left
    · intro wq
      go_simp
      try rw [if_pos hjj]
      try with_reducible rfl
    refine wpAny_ready (rs := [1, 2, 5]) (by kernel_rfl) (by simp) ?_
    refine AllReady.cons rfl (fun K hK => ?_) ?_
    · go_simp
      refine hK _ _ ?_
      try clear hK K
      refine wpAny_take (i := 4) (v := ?_) rfl (by kernel_rfl) (by kernel_rfl) (by kernel_rfl) (fun _ _ _ h => h) (Or.inl ⟨by rfl, ?_⟩) ?_
      rotate_left
      · intro wq
        go_simp
        try rw [if_pos hjj]
        try with_reducible rfl
      refine wpAny_ready (rs := [2, 5]) (by kernel_rfl) (by simp) ?_
      refine AllReady.cons rfl (fun K hK => ?_) ?_
      · go_simp
        refine hK _ _ ?_
        try clear hK K
        refine wpAny_ready (rs := [3, 5]) (by kernel_rfl) (by simp) ?_
        refine AllReady.cons rfl (fun K hK => ?_) ?_
        · go_simp
          go_wp2_with (go_at_call 43; refine (HN.out _ (Upd.refl [] W).drew).mono ?_; rintro e w7 ⟨⟨cs7, rfl, hD7⟩, hu7⟩; obtain ⟨k7, n7, a7, l7, c7, b7, s7, i7, m7, d7, t7, o7, p7, rfl⟩ := hD7.shaped; unfold datCells at *)
          have hW7 : Upd [] W w7 := Upd.then (Upd.refl [] W).drew hu7
          have c57 := hW7.cell c5 (by simp)
          have ho7 : w.heap.size + 1 + 1 < w7.heap.size := Nat.lt_of_lt_of_le ho hW7.size
          have HD7 : Hid (IsD w7 (fun b => W.heap.size ≤ b) n _ _) := Lib.hid (hD7.mono fun b _ hb => by simp at hb; omega)
          have HW7 := Lib.hid hW7
          clear hD7 hu7 hW7
          first | refine hK _ _ ?_ | skip
          try clear hK K
          refine wpAny_ready (rs := [5]) (by kernel_rfl) (by simp) ?_
          refine AllReady.cons rfl (fun K hK => ?_) ?_
          · go_simp
            refine hK _ _ ?_
            try clear hK K
            refine wpAny_ready (rs := [6]) (by kernel_rfl) (by simp) ?_
            refine AllReady.cons rfl (fun K hK => ?_) ?_
            · refine' step_zero (W4 := W4) (X := (w7.alloc (.cells #[.int .i64 0, .bool false, .slice none 0 0, .bool false, .string ⟨#[]⟩, .slice none 0 0, .slice none 0 0] 27))) (j := j) (g0 := w7.heap.size) (lv := .slice a0 j c0) (xs := css.flatten) rfl (.tmp 34) (.tmp 38) rfl rfl rfl (own_upd0 HK3.out (HW7.out.alloc (.cells #[.int .i64 0, .bool false, .slice none 0 0, .bool false, .string ⟨#[]⟩, .slice none 0 0, .slice none 0 0] 27))) (Blk.newAt rfl) (by simp [Value.oneCell']) (by omega) (Nat.le_trans hz5 (Upd.size (HW7.out.alloc (.cells #[.int .i64 0, .bool false, .slice none 0 0, .bool false, .string ⟨#[]⟩, .slice none 0 0, .slice none 0 0] 27)))) ?_
              intro g cap w10 hO10 hgr10 hg10
              have hsX := Upd.size (HW7.out.alloc (.cells #[.int .i64 0, .bool false, .slice none 0 0, .bool false, .string ⟨#[]⟩, .slice none 0 0, .slice none 0 0] 27))
              have hB10 := (Upd.blk (HW7.out.alloc (.cells #[.int .i64 0, .bool false, .slice none 0 0, .bool false, .string ⟨#[]⟩, .slice none 0 0, .slice none 0 0] 27)) HR.out.out (by simp)).of_eq (hgr10.block _ (Upd.blk (HW7.out.alloc (.cells #[.int .i64 0, .bool false, .slice none 0 0, .bool false, .string ⟨#[]⟩, .slice none 0 0, .slice none 0 0] 27)) HR.out.out (by simp)).lt (fun e => hqn e.symm))
              have c10 := hB10.cell_some (i := 5) rfl
              have f10 := hB10.free 5
              obtain ⟨z0, z1, z2, z3, z4, z5, z6⟩ := own_last hO10 (k := j * 7) hfl
              have y0 := hO10.frozenAt (j * 7)
              have y1 := hO10.frozenAt (j * 7 + 1)
              have y2 := hO10.frozenAt (j * 7 + 2)
              have y3 := hO10.frozenAt (j * 7 + 3)
              have y4 := hO10.frozenAt (j * 7 + 4)
              have y5 := hO10.frozenAt (j * 7 + 5)
              have y6 := hO10.frozenAt (j * 7 + 6)
              have hgo : w.heap.size + 1 + 1 < g := by
                rcases hg10 with h | h
                · have := (hlo g h).1
                  omega
                · omega
              have hgn : ¬ g = w.heap.size + 1 + 1 := by omega
              have hng : ¬ w.heap.size + 1 + 1 = g := by omega
              have HO10 := Lib.hid hO10
              have HB10 := Lib.hid hB10
              have HG10 := Lib.hid hgr10
              clear hO10 hB10 hgr10
              refine hK _ _ ?_
              try clear hK K
              refine wpAny_take (i := 9) (v := ?_) rfl (by kernel_rfl) (by kernel_rfl) (by kernel_rfl) (fun _ _ _ h => h) (Or.inl ⟨by rfl, ?_⟩) ?_
              rotate_left
              · intro wq
                go_simp
                try rw [if_pos hjj]
                try with_reducible rfl
              refine wpAny_take (i := 7) (v := ?_) rfl (by kernel_rfl) (by kernel_rfl) (by kernel_rfl) (fun _ _ _ h => h) (Or.inl ⟨by rfl, ?_⟩) ?_
              rotate_left
              · intro wq
                go_simp
                try rw [if_pos hjj]
                try with_reducible rfl
              refine wpAny_ready (rs := [8, 10]) (by kernel_rfl) (by simp) ?_
              refine AllReady.cons rfl (fun K hK => ?_) ?_
              · go_simp
                refine hK _ _ ?_
                try clear hK K
                refine wpAny_ready (rs := [10]) (by kernel_rfl) (by simp) ?_
                refine AllReady.cons rfl (fun K hK => ?_) ?_
                · go_simp
                  refine hK _ _ ?_
                  try clear hK K
                  refine wpAny_done (by kernel_rfl) ?_ _
                  show KeepsFrom _ _ _ ∧ Below _ _ _ ∧ ∃ lv, _
                  obtain ⟨⟨hkf, hbl⟩, hrel⟩ := leafA HR.out hdl hzz HK.out.1 HK.out.2 hlo (HW7.out.alloc (.cells #[.int .i64 0, .bool false, .slice none 0 0, .bool false, .string ⟨#[]⟩, .slice none 0 0, .slice none 0 0] 27)) (HD7.out.upd ((Upd.refl [] w7).alloc (.cells #[.int .i64 0, .bool false, .slice none 0 0, .bool false, .string ⟨#[]⟩, .slice none 0 0, .slice none 0 0] 27))) HG10.out hg10 HO10.out hfl HB10.out
                  exact ⟨hkf, hbl, _, by rw [List.map_append]; exact hrel⟩
                exact AllReady.nil
              refine AllReady.cons rfl (fun K hK => ?_) ?_
              · go_simp
                refine hK _ _ ?_
                try clear hK K
                refine wpAny_ready (rs := [8]) (by kernel_rfl) (by simp) ?_
                refine AllReady.cons rfl (fun K hK => ?_) ?_
                · go_simp
                  refine hK _ _ ?_
                  try clear hK K
                  refine wpAny_done (by kernel_rfl) ?_ _
                  show KeepsFrom _ _ _ ∧ Below _ _ _ ∧ ∃ lv, _
                  obtain ⟨⟨hkf, hbl⟩, hrel⟩ := leafB HR.out hdl hzz HK.out.1 HK.out.2 hlo (HW7.out.alloc (.cells #[.int .i64 0, .bool false, .slice none 0 0, .bool false, .string ⟨#[]⟩, .slice none 0 0, .slice none 0 0] 27)) (HD7.out.upd ((Upd.refl [] w7).alloc (.cells #[.int .i64 0, .bool false, .slice none 0 0, .bool false, .string ⟨#[]⟩, .slice none 0 0, .slice none 0 0] 27))) HG10.out hg10 HO10.out hfl HB10.out
                  exact ⟨hkf, hbl, _, by rw [List.map_append]; exact hrel⟩
                exact AllReady.nil
              exact AllReady.nil
            exact AllReady.nil
          exact AllReady.nil
        refine AllReady.cons rfl (fun K hK => ?_) ?_
        · go_simp
          refine hK _ _ ?_
          try clear hK K
          refine wpAny_ready (rs := [3]) (by kernel_rfl) (by simp) ?_
          refine AllReady.cons rfl (fun K hK => ?_) ?_
          · go_simp
            go_wp2_with (go_at_call 43; refine (HN.out _ ((Upd.refl [] W).drew.alloc (.cells #[.int .i64 0, .bool false, .slice none 0 0, .bool false, .string ⟨#[]⟩, .slice none 0 0, .slice none 0 0] 27))).mono ?_; rintro e w7 ⟨⟨cs7, rfl, hD7⟩, hu7⟩; obtain ⟨k7, n7, a7, l7, c7, b7, s7, i7, m7, d7, t7, o7, p7, rfl⟩ := hD7.shaped; unfold datCells at *)
            have hW7 : Upd [] W w7 := Upd.then ((Upd.refl [] W).drew.alloc (.cells #[.int .i64 0, .bool false, .slice none 0 0, .bool false, .string ⟨#[]⟩, .slice none 0 0, .slice none 0 0] 27)) hu7
            have c57 := hW7.cell c5 (by simp)
            have ho7 : w.heap.size + 1 + 1 < w7.heap.size := Nat.lt_of_lt_of_le ho hW7.size
            have HD7 : Hid (IsD w7 (fun b => W.heap.size ≤ b) n _ _) := Lib.hid (hD7.mono fun b _ hb => by simp at hb; omega)
            have hBz := hu7.blk (Blk.newAt (w := W.drew) (b := W.heap.size) (c := #[.int .i64 0, .bool false, .slice none 0 0, .bool false, .string ⟨#[]⟩, .slice none 0 0, .slice none 0 0]) (t := 27) rfl) (by simp)
            have HBz := Lib.hid hBz
            clear hBz
            have HW7 := Lib.hid hW7
            clear hD7 hu7 hW7
            first | refine hK _ _ ?_ | skip
            try clear hK K
            refine wpAny_ready (rs := [6]) (by kernel_rfl) (by simp) ?_
            refine AllReady.cons rfl (fun K hK => ?_) ?_
            · refine' step_zero (W4 := W4) (X := w7) (j := j) (g0 := W.heap.size) (lv := .slice a0 j c0) (xs := css.flatten) rfl (.tmp 34) (.tmp 38) rfl rfl rfl (own_upd0 HK3.out HW7.out) HBz.out (by simp [Value.oneCell']) (by omega) (Nat.le_trans hz5 (Upd.size HW7.out)) ?_
              intro g cap w10 hO10 hgr10 hg10
              have hsX := Upd.size HW7.out
              have hB10 := (Upd.blk HW7.out HR.out.out (by simp)).of_eq (hgr10.block _ (Upd.blk HW7.out HR.out.out (by simp)).lt (fun e => hqn e.symm))
              have c10 := hB10.cell_some (i := 5) rfl
              have f10 := hB10.free 5
              obtain ⟨z0, z1, z2, z3, z4, z5, z6⟩ := own_last hO10 (k := j * 7) hfl
              have y0 := hO10.frozenAt (j * 7)
              have y1 := hO10.frozenAt (j * 7 + 1)
              have y2 := hO10.frozenAt (j * 7 + 2)
              have y3 := hO10.frozenAt (j * 7 + 3)
              have y4 := hO10.frozenAt (j * 7 + 4)
              have y5 := hO10.frozenAt (j * 7 + 5)
              have y6 := hO10.frozenAt (j * 7 + 6)
              have hgo : w.heap.size + 1 + 1 < g := by
                rcases hg10 with h | h
                · have := (hlo g h).1
                  omega
                · omega
              have hgn : ¬ g = w.heap.size + 1 + 1 := by omega
              have hng : ¬ w.heap.size + 1 + 1 = g := by omega
              have HO10 := Lib.hid hO10
              have HB10 := Lib.hid hB10
              have HG10 := Lib.hid hgr10
              clear hO10 hB10 hgr10
              refine hK _ _ ?_
              try clear hK K
              refine wpAny_take (i := 9) (v := ?_) rfl (by kernel_rfl) (by kernel_rfl) (by kernel_rfl) (fun _ _ _ h => h) (Or.inl ⟨by rfl, ?_⟩) ?_
              rotate_left
              · intro wq
                go_simp
                try rw [if_pos hjj]
                try with_reducible rfl
              refine wpAny_take (i := 7) (v := ?_) rfl (by kernel_rfl) (by kernel_rfl) (by kernel_rfl) (fun _ _ _ h => h) (Or.inl ⟨by rfl, ?_⟩) ?_
              rotate_left
              · intro wq
                go_simp
                try rw [if_pos hjj]
                try with_reducible rfl
              refine wpAny_ready (rs := [8, 10]) (by kernel_rfl) (by simp) ?_
              refine AllReady.cons rfl (fun K hK => ?_) ?_
              · go_simp
                refine hK _ _ ?_
                try clear hK K
                refine wpAny_ready (rs := [10]) (by kernel_rfl) (by simp) ?_
                refine AllReady.cons rfl (fun K hK => ?_) ?_
                · go_simp
                  refine hK _ _ ?_
                  try clear hK K
                  refine wpAny_done (by kernel_rfl) ?_ _
                  show KeepsFrom _ _ _ ∧ Below _ _ _ ∧ ∃ lv, _
                  obtain ⟨⟨hkf, hbl⟩, hrel⟩ := leafA HR.out hdl hzz HK.out.1 HK.out.2 hlo HW7.out HD7.out HG10.out hg10 HO10.out hfl HB10.out
                  exact ⟨hkf, hbl, _, by rw [List.map_append]; exact hrel⟩
                exact AllReady.nil
              refine AllReady.cons rfl (fun K hK => ?_) ?_
              · go_simp
                refine hK _ _ ?_
                try clear hK K
                refine wpAny_ready (rs := [8]) (by kernel_rfl) (by simp) ?_
                refine AllReady.cons rfl (fun K hK => ?_) ?_
                · go_simp
                  refine hK _ _ ?_
                  try clear hK K
                  refine wpAny_done (by kernel_rfl) ?_ _
                  show KeepsFrom _ _ _ ∧ Below _ _ _ ∧ ∃ lv, _
                  obtain ⟨⟨hkf, hbl⟩, hrel⟩ := leafB HR.out hdl hzz HK.out.1 HK.out.2 hlo HW7.out HD7.out HG10.out hg10 HO10.out hfl HB10.out
                  exact ⟨hkf, hbl, _, by rw [List.map_append]; exact hrel⟩
                exact AllReady.nil
              exact AllReady.nil
            exact AllReady.nil
          exact AllReady.nil
        exact AllReady.nil
      refine AllReady.cons rfl (fun K hK => ?_) ?_
      · go_simp
        refine hK _ _ ?_
        try clear hK K
        refine wpAny_ready (rs := [2]) (by kernel_rfl) (by simp) ?_
        refine AllReady.cons rfl (fun K hK => ?_) ?_
        · go_simp
          refine hK _ _ ?_
          try clear hK K
          refine wpAny_ready (rs := [3]) (by kernel_rfl) (by simp) ?_
          refine AllReady.cons rfl (fun K hK => ?_) ?_
          · go_simp
            go_wp2_with (go_at_call 43; refine (HN.out _ ((Upd.refl [] W).drew.alloc (.cells #[.int .i64 0, .bool false, .slice none 0 0, .bool false, .string ⟨#[]⟩, .slice none 0 0, .slice none 0 0] 27))).mono ?_; rintro e w7 ⟨⟨cs7, rfl, hD7⟩, hu7⟩; obtain ⟨k7, n7, a7, l7, c7, b7, s7, i7, m7, d7, t7, o7, p7, rfl⟩ := hD7.shaped; unfold datCells at *)
            have hW7 : Upd [] W w7 := Upd.then ((Upd.refl [] W).drew.alloc (.cells #[.int .i64 0, .bool false, .slice none 0 0, .bool false, .string ⟨#[]⟩, .slice none 0 0, .slice none 0 0] 27)) hu7
            have c57 := hW7.cell c5 (by simp)
            have ho7 : w.heap.size + 1 + 1 < w7.heap.size := Nat.lt_of_lt_of_le ho hW7.size
            have HD7 : Hid (IsD w7 (fun b => W.heap.size ≤ b) n _ _) := Lib.hid (hD7.mono fun b _ hb => by simp at hb; omega)
            have hBz := hu7.blk (Blk.newAt (w := W.drew) (b := W.heap.size) (c := #[.int .i64 0, .bool false, .slice none 0 0, .bool false, .string ⟨#[]⟩, .slice none 0 0, .slice none 0 0]) (t := 27) rfl) (by simp)
            have HBz := Lib.hid hBz
            clear hBz
            have HW7 := Lib.hid hW7
            clear hD7 hu7 hW7
            first | refine hK _ _ ?_ | skip
            try clear hK K
            refine wpAny_ready (rs := [6]) (by kernel_rfl) (by simp) ?_
            refine AllReady.cons rfl (fun K hK => ?_) ?_
            · refine' step_zero (W4 := W4) (X := w7) (j := j) (g0 := W.heap.size) (lv := .slice a0 j c0) (xs := css.flatten) rfl (.tmp 34) (.tmp 38) rfl rfl rfl (own_upd0 HK3.out HW7.out) HBz.out (by simp [Value.oneCell']) (by omega) (Nat.le_trans hz5 (Upd.size HW7.out)) ?_
              intro g cap w10 hO10 hgr10 hg10
              have hsX := Upd.size HW7.out
              have hB10 := (Upd.blk HW7.out HR.out.out (by simp)).of_eq (hgr10.block _ (Upd.blk HW7.out HR.out.out (by simp)).lt (fun e => hqn e.symm))
              have c10 := hB10.cell_some (i := 5) rfl
              have f10 := hB10.free 5
              obtain ⟨z0, z1, z2, z3, z4, z5, z6⟩ := own_last hO10 (k := j * 7) hfl
              have y0 := hO10.frozenAt (j * 7)
              have y1 := hO10.frozenAt (j * 7 + 1)
              have y2 := hO10.frozenAt (j * 7 + 2)
              have y3 := hO10.frozenAt (j * 7 + 3)
              have y4 := hO10.frozenAt (j * 7 + 4)
              have y5 := hO10.frozenAt (j * 7 + 5)
              have y6 := hO10.frozenAt (j * 7 + 6)
              have hgo : w.heap.size + 1 + 1 < g := by
                rcases hg10 with h | h
                · have := (hlo g h).1
                  omega
                · omega
              have hgn : ¬ g = w.heap.size + 1 + 1 := by omega
              have hng : ¬ w.heap.size + 1 + 1 = g := by omega
              have HO10 := Lib.hid hO10
              have HB10 := Lib.hid hB10
              have HG10 := Lib.hid hgr10
              clear hO10 hB10 hgr10
              refine hK _ _ ?_
              try clear hK K
              refine wpAny_take (i := 9) (v := ?_) rfl (by kernel_rfl) (by kernel_rfl) (by kernel_rfl) (fun _ _ _ h => h) (Or.inl ⟨by rfl, ?_⟩) ?_
              rotate_left
              · intro wq
                go_simp
                try rw [if_pos hjj]
                try with_reducible rfl
              refine wpAny_take (i := 7) (v := ?_) rfl (by kernel_rfl) (by kernel_rfl) (by kernel_rfl) (fun _ _ _ h => h) (Or.inl ⟨by rfl, ?_⟩) ?_
              rotate_left
              · intro wq
                go_simp
                try rw [if_pos hjj]
                try with_reducible rfl
              refine wpAny_ready (rs := [8, 10]) (by kernel_rfl) (by simp) ?_
              refine AllReady.cons rfl (fun K hK => ?_) ?_
              · go_simp
                refine hK _ _ ?_
                try clear hK K
                refine wpAny_ready (rs := [10]) (by kernel_rfl) (by simp) ?_
                refine AllReady.cons rfl (fun K hK => ?_) ?_
                · go_simp
                  refine hK _ _ ?_
                  try clear hK K
                  refine wpAny_done (by kernel_rfl) ?_ _
                  show KeepsFrom _ _ _ ∧ Below _ _ _ ∧ ∃ lv, _
                  obtain ⟨⟨hkf, hbl⟩, hrel⟩ := leafA HR.out hdl hzz HK.out.1 HK.out.2 hlo HW7.out HD7.out HG10.out hg10 HO10.out hfl HB10.out
                  exact ⟨hkf, hbl, _, by rw [List.map_append]; exact hrel⟩
                exact AllReady.nil
              refine AllReady.cons rfl (fun K hK => ?_) ?_
              · go_simp
                refine hK _ _ ?_
                try clear hK K
                refine wpAny_ready (rs := [8]) (by kernel_rfl) (by simp) ?_
                refine AllReady.cons rfl (fun K hK => ?_) ?_
                · go_simp
                  refine hK _ _ ?_
                  try clear hK K
                  refine wpAny_done (by kernel_rfl) ?_ _
                  show KeepsFrom _ _ _ ∧ Below _ _ _ ∧ ∃ lv, _
                  obtain ⟨⟨hkf, hbl⟩, hrel⟩ := leafB HR.out hdl hzz HK.out.1 HK.out.2 hlo HW7.out HD7.out HG10.out hg10 HO10.out hfl HB10.out
                  exact ⟨hkf, hbl, _, by rw [List.map_append]; exact hrel⟩
                exact AllReady.nil
              exact AllReady.nil
            exact AllReady.nil
          exact AllReady.nil
        exact AllReady.nil
      exact AllReady.nil
    refine AllReady.cons rfl (fun K hK => ?_) ?_
    · go_simp
      refine hK _ _ ?_
      try clear hK K
      refine wpAny_ready (rs := [1, 3, 5]) (by kernel_rfl) (by simp) ?_
      refine AllReady.cons rfl (fun K hK => ?_) ?_
      · go_simp
        refine hK _ _ ?_
        try clear hK K
        refine wpAny_take (i := 4) (v := ?_) rfl (by kernel_rfl) (by kernel_rfl) (by kernel_rfl) (fun _ _ _ h => h) (Or.inl ⟨by rfl, ?_⟩) ?_
        rotate_left
        · intro wq
          go_simp
          try rw [if_pos hjj]
          try with_reducible rfl
        refine wpAny_ready (rs := [3, 5]) (by kernel_rfl) (by simp) ?_
        refine AllReady.cons rfl (fun K hK => ?_) ?_
        · go_simp
          go_wp2_with (go_at_call 43; refine (HN.out _ (Upd.refl [] W).drew).mono ?_; rintro e w7 ⟨⟨cs7, rfl, hD7⟩, hu7⟩; obtain ⟨k7, n7, a7, l7, c7, b7, s7, i7, m7, d7, t7, o7, p7, rfl⟩ := hD7.shaped; unfold datCells at *)
          have hW7 : Upd [] W w7 := Upd.then (Upd.refl [] W).drew hu7
          have c57 := hW7.cell c5 (by simp)
          have ho7 : w.heap.size + 1 + 1 < w7.heap.size := Nat.lt_of_lt_of_le ho hW7.size
          have HD7 : Hid (IsD w7 (fun b => W.heap.size ≤ b) n _ _) := Lib.hid (hD7.mono fun b _ hb => by simp at hb; omega)
          have HW7 := Lib.hid hW7
          clear hD7 hu7 hW7
          first | refine hK _ _ ?_ | skip
          try clear hK K
          refine wpAny_ready (rs := [5]) (by kernel_rfl) (by simp) ?_
          refine AllReady.cons rfl (fun K hK => ?_) ?_
          · go_simp
            refine hK _ _ ?_
            try clear hK K
            refine wpAny_ready (rs := [6]) (by kernel_rfl) (by simp) ?_
            refine AllReady.cons rfl (fun K hK => ?_) ?_
            · refine' step_zero (W4 := W4) (X := (w7.alloc (.cells #[.int .i64 0, .bool false, .slice none 0 0, .bool false, .string ⟨#[]⟩, .slice none 0 0, .slice none 0 0] 27))) (j := j) (g0 := w7.heap.size) (lv := .slice a0 j c0) (xs := css.flatten) rfl (.tmp 34) (.tmp 38) rfl rfl rfl (own_upd0 HK3.out (HW7.out.alloc (.cells #[.int .i64 0, .bool false, .slice none 0 0, .bool false, .string ⟨#[]⟩, .slice none 0 0, .slice none 0 0] 27))) (Blk.newAt rfl) (by simp [Value.oneCell']) (by omega) (Nat.le_trans hz5 (Upd.size (HW7.out.alloc (.cells #[.int .i64 0, .bool false, .slice none 0 0, .bool false, .string ⟨#[]⟩, .slice none 0 0, .slice none 0 0] 27)))) ?_
              intro g cap w10 hO10 hgr10 hg10
              have hsX := Upd.size (HW7.out.alloc (.cells #[.int .i64 0, .bool false, .slice none 0 0, .bool false, .string ⟨#[]⟩, .slice none 0 0, .slice none 0 0] 27))
              have hB10 := (Upd.blk (HW7.out.alloc (.cells #[.int .i64 0, .bool false, .slice none 0 0, .bool false, .string ⟨#[]⟩, .slice none 0 0, .slice none 0 0] 27)) HR.out.out (by simp)).of_eq (hgr10.block _ (Upd.blk (HW7.out.alloc (.cells #[.int .i64 0, .bool false, .slice none 0 0, .bool false, .string ⟨#[]⟩, .slice none 0 0, .slice none 0 0] 27)) HR.out.out (by simp)).lt (fun e => hqn e.symm))
              have c10 := hB10.cell_some (i := 5) rfl
              have f10 := hB10.free 5
              obtain ⟨z0, z1, z2, z3, z4, z5, z6⟩ := own_last hO10 (k := j * 7) hfl
              have y0 := hO10.frozenAt (j * 7)
              have y1 := hO10.frozenAt (j * 7 + 1)
              have y2 := hO10.frozenAt (j * 7 + 2)
              have y3 := hO10.frozenAt (j * 7 + 3)
              have y4 := hO10.frozenAt (j * 7 + 4)
              have y5 := hO10.frozenAt (j * 7 + 5)
              have y6 := hO10.frozenAt (j * 7 + 6)
              have hgo : w.heap.size + 1 + 1 < g := by
                rcases hg10 with h | h
                · have := (hlo g h).1
                  omega
                · omega
              have hgn : ¬ g = w.heap.size + 1 + 1 := by omega
              have hng : ¬ w.heap.size + 1 + 1 = g := by omega
              have HO10 := Lib.hid hO10
              have HB10 := Lib.hid hB10
              have HG10 := Lib.hid hgr10
              clear hO10 hB10 hgr10
              refine hK _ _ ?_
              try clear hK K
              refine wpAny_take (i := 9) (v := ?_) rfl (by kernel_rfl) (by kernel_rfl) (by kernel_rfl) (fun _ _ _ h => h) (Or.inl ⟨by rfl, ?_⟩) ?_
              rotate_left
              · intro wq
                go_simp
                try rw [if_pos hjj]
                try with_reducible rfl
              refine wpAny_take (i := 7) (v := ?_) rfl (by kernel_rfl) (by kernel_rfl) (by kernel_rfl) (fun _ _ _ h => h) (Or.inl ⟨by rfl, ?_⟩) ?_
              rotate_left
              · intro wq
                go_simp
                try rw [if_pos hjj]
                try with_reducible rfl
              refine wpAny_ready (rs := [8, 10]) (by kernel_rfl) (by simp) ?_
              refine AllReady.cons rfl (fun K hK => ?_) ?_
              · go_simp
                refine hK _ _ ?_
                try clear hK K
                refine wpAny_ready (rs := [10]) (by kernel_rfl) (by simp) ?_
                refine AllReady.cons rfl (fun K hK => ?_) ?_
                · go_simp
                  refine hK _ _ ?_
                  try clear hK K
                  refine wpAny_done (by kernel_rfl) ?_ _
                  show KeepsFrom _ _ _ ∧ Below _ _ _ ∧ ∃ lv, _
                  obtain ⟨⟨hkf, hbl⟩, hrel⟩ := leafA HR.out hdl hzz HK.out.1 HK.out.2 hlo (HW7.out.alloc (.cells #[.int .i64 0, .bool false, .slice none 0 0, .bool false, .string ⟨#[]⟩, .slice none 0 0, .slice none 0 0] 27)) (HD7.out.upd ((Upd.refl [] w7).alloc (.cells #[.int .i64 0, .bool false, .slice none 0 0, .bool false, .string ⟨#[]⟩, .slice none 0 0, .slice none 0 0] 27))) HG10.out hg10 HO10.out hfl HB10.out
                  exact ⟨hkf, hbl, _, by rw [List.map_append]; exact hrel⟩
                exact AllReady.nil
              refine AllReady.cons rfl (fun K hK => ?_) ?_
              · go_simp
                refine hK _ _ ?_
                try clear hK K
                refine wpAny_ready (rs := [8]) (by kernel_rfl) (by simp) ?_
                refine AllReady.cons rfl (fun K hK => ?_) ?_
                · go_simp
                  refine hK _ _ ?_
                  try clear hK K
                  refine wpAny_done (by kernel_rfl) ?_ _
                  show KeepsFrom _ _ _ ∧ Below _ _ _ ∧ ∃ lv, _
                  obtain ⟨⟨hkf, hbl⟩, hrel⟩ := leafB HR.out hdl hzz HK.out.1 HK.out.2 hlo (HW7.out.alloc (.cells #[.int .i64 0, .bool false, .slice none 0 0, .bool false, .string ⟨#[]⟩, .slice none 0 0, .slice none 0 0] 27)) (HD7.out.upd ((Upd.refl [] w7).alloc (.cells #[.int .i64 0, .bool false, .slice none 0 0, .bool false, .string ⟨#[]⟩, .slice none 0 0, .slice none 0 0] 27))) HG10.out hg10 HO10.out hfl HB10.out
                  exact ⟨hkf, hbl, _, by rw [List.map_append]; exact hrel⟩
                exact AllReady.nil
              exact AllReady.nil
            exact AllReady.nil
          exact AllReady.nil
        refine AllReady.cons rfl (fun K hK => ?_) ?_
        · go_simp
          refine hK _ _ ?_
          try clear hK K
          refine wpAny_ready (rs := [3]) (by kernel_rfl) (by simp) ?_
          refine AllReady.cons rfl (fun K hK => ?_) ?_
          · go_simp
            go_wp2_with (go_at_call 43; refine (HN.out _ ((Upd.refl [] W).drew.alloc (.cells #[.int .i64 0, .bool false, .slice none 0 0, .bool false, .string ⟨#[]⟩, .slice none 0 0, .slice none 0 0] 27))).mono ?_; rintro e w7 ⟨⟨cs7, rfl, hD7⟩, hu7⟩; obtain ⟨k7, n7, a7, l7, c7, b7, s7, i7, m7, d7, t7, o7, p7, rfl⟩ := hD7.shaped; unfold datCells at *)
            have hW7 : Upd [] W w7 := Upd.then ((Upd.refl [] W).drew.alloc (.cells #[.int .i64 0, .bool false, .slice none 0 0, .bool false, .string ⟨#[]⟩, .slice none 0 0, .slice none 0 0] 27)) hu7
            have c57 := hW7.cell c5 (by simp)
            have ho7 : w.heap.size + 1 + 1 < w7.heap.size := Nat.lt_of_lt_of_le ho hW7.size
            have HD7 : Hid (IsD w7 (fun b => W.heap.size ≤ b) n _ _) := Lib.hid (hD7.mono fun b _ hb => by simp at hb; omega)
            have hBz := hu7.blk (Blk.newAt (w := W.drew) (b := W.heap.size) (c := #[.int .i64 0, .bool false, .slice none 0 0, .bool false, .string ⟨#[]⟩, .slice none 0 0, .slice none 0 0]) (t := 27) rfl) (by simp)
            have HBz := Lib.hid hBz
            clear hBz
            have HW7 := Lib.hid hW7
            clear hD7 hu7 hW7
            first | refine hK _ _ ?_ | skip
            try clear hK K
            refine wpAny_ready (rs := [6]) (by kernel_rfl) (by simp) ?_
            refine AllReady.cons rfl (fun K hK => ?_) ?_
            · refine' step_zero (W4 := W4) (X := w7) (j := j) (g0 := W.heap.size) (lv := .slice a0 j c0) (xs := css.flatten) rfl (.tmp 34) (.tmp 38) rfl rfl rfl (own_upd0 HK3.out HW7.out) HBz.out (by simp [Value.oneCell']) (by omega) (Nat.le_trans hz5 (Upd.size HW7.out)) ?_
              intro g cap w10 hO10 hgr10 hg10
              have hsX := Upd.size HW7.out
              have hB10 := (Upd.blk HW7.out HR.out.out (by simp)).of_eq (hgr10.block _ (Upd.blk HW7.out HR.out.out (by simp)).lt (fun e => hqn e.symm))
              have c10 := hB10.cell_some (i := 5) rfl
              have f10 := hB10.free 5
              obtain ⟨z0, z1, z2, z3, z4, z5, z6⟩ := own_last hO10 (k := j * 7) hfl
              have y0 := hO10.frozenAt (j * 7)
              have y1 := hO10.frozenAt (j * 7 + 1)
              have y2 := hO10.frozenAt (j * 7 + 2)
              have y3 := hO10.frozenAt (j * 7 + 3)
              have y4 := hO10.frozenAt (j * 7 + 4)
              have y5 := hO10.frozenAt (j * 7 + 5)
              have y6 := hO10.frozenAt (j * 7 + 6)
              have hgo : w.heap.size + 1 + 1 < g := by
                rcases hg10 with h | h
                · have := (hlo g h).1
                  omega
                · omega
              have hgn : ¬ g = w.heap.size + 1 + 1 := by omega
              have hng : ¬ w.heap.size + 1 + 1 = g := by omega
              have HO10 := Lib.hid hO10
              have HB10 := Lib.hid hB10
              have HG10 := Lib.hid hgr10
              clear hO10 hB10 hgr10
              refine hK _ _ ?_
              try clear hK K
              refine wpAny_take (i := 9) (v := ?_) rfl (by kernel_rfl) (by kernel_rfl) (by kernel_rfl) (fun _ _ _ h => h) (Or.inl ⟨by rfl, ?_⟩) ?_
              rotate_left
              · intro wq
                go_simp
                try rw [if_pos hjj]
                try with_reducible rfl
              refine wpAny_take (i := 7) (v := ?_) rfl (by kernel_rfl) (by kernel_rfl) (by kernel_rfl) (fun _ _ _ h => h) (Or.inl ⟨by rfl, ?_⟩) ?_
              rotate_left
              · intro wq
                go_simp
                try rw [if_pos hjj]
                try with_reducible rfl
              refine wpAny_ready (rs := [8, 10]) (by kernel_rfl) (by simp) ?_
              refine AllReady.cons rfl (fun K hK => ?_) ?_
              · go_simp
                refine hK _ _ ?_
                try clear hK K
                refine wpAny_ready (rs := [10]) (by kernel_rfl) (by simp) ?_
                refine AllReady.cons rfl (fun K hK => ?_) ?_
                · go_simp
                  refine hK _ _ ?_
                  try clear hK K
                  refine wpAny_done (by kernel_rfl) ?_ _
                  show KeepsFrom _ _ _ ∧ Below _ _ _ ∧ ∃ lv, _
                  obtain ⟨⟨hkf, hbl⟩, hrel⟩ := leafA HR.out hdl hzz HK.out.1 HK.out.2 hlo HW7.out HD7.out HG10.out hg10 HO10.out hfl HB10.out
                  exact ⟨hkf, hbl, _, by rw [List.map_append]; exact hrel⟩
                exact AllReady.nil
              refine AllReady.cons rfl (fun K hK => ?_) ?_
              · go_simp
                refine hK _ _ ?_
                try clear hK K
                refine wpAny_ready (rs := [8]) (by kernel_rfl) (by simp) ?_
                refine AllReady.cons rfl (fun K hK => ?_) ?_
                · go_simp
                  refine hK _ _ ?_
                  try clear hK K
                  refine wpAny_done (by kernel_rfl) ?_ _
                  show KeepsFrom _ _ _ ∧ Below _ _ _ ∧ ∃ lv, _
                  obtain ⟨⟨hkf, hbl⟩, hrel⟩ := leafB HR.out hdl hzz HK.out.1 HK.out.2 hlo HW7.out HD7.out HG10.out hg10 HO10.out hfl HB10.out
                  exact ⟨hkf, hbl, _, by rw [List.map_append]; exact hrel⟩
                exact AllReady.nil
              exact AllReady.nil
            exact AllReady.nil
          exact AllReady.nil
        exact AllReady.nil
      refine AllReady.cons rfl (fun K hK => ?_) ?_
      · go_simp
        go_wp2_with (go_at_call 43; refine (HN.out _ (Upd.refl [] W).drew).mono ?_; rintro e w7 ⟨⟨cs7, rfl, hD7⟩, hu7⟩; obtain ⟨k7, n7, a7, l7, c7, b7, s7, i7, m7, d7, t7, o7, p7, rfl⟩ := hD7.shaped; unfold datCells at *)
        have hW7 : Upd [] W w7 := Upd.then (Upd.refl [] W).drew hu7
        have c57 := hW7.cell c5 (by simp)
        have ho7 : w.heap.size + 1 + 1 < w7.heap.size := Nat.lt_of_lt_of_le ho hW7.size
        have HD7 : Hid (IsD w7 (fun b => W.heap.size ≤ b) n _ _) := Lib.hid (hD7.mono fun b _ hb => by simp at hb; omega)
        have HW7 := Lib.hid hW7
        clear hD7 hu7 hW7
        first | refine hK _ _ ?_ | skip
        try clear hK K
        refine wpAny_ready (rs := [1, 5]) (by kernel_rfl) (by simp) ?_
        refine AllReady.cons rfl (fun K hK => ?_) ?_
        · go_simp
          refine hK _ _ ?_
          try clear hK K
          refine wpAny_take (i := 4) (v := ?_) rfl (by kernel_rfl) (by kernel_rfl) (by kernel_rfl) (fun _ _ _ h => h) (Or.inl ⟨by rfl, ?_⟩) ?_
          rotate_left
          · intro wq
            go_simp
            try rw [if_pos hjj]
            try with_reducible rfl
          refine wpAny_ready (rs := [5]) (by kernel_rfl) (by simp) ?_
          refine AllReady.cons rfl (fun K hK => ?_) ?_
          · go_simp
            refine hK _ _ ?_
            try clear hK K
            refine wpAny_ready (rs := [6]) (by kernel_rfl) (by simp) ?_
            refine AllReady.cons rfl (fun K hK => ?_) ?_
            · refine' step_zero (W4 := W4) (X := (w7.alloc (.cells #[.int .i64 0, .bool false, .slice none 0 0, .bool false, .string ⟨#[]⟩, .slice none 0 0, .slice none 0 0] 27))) (j := j) (g0 := w7.heap.size) (lv := .slice a0 j c0) (xs := css.flatten) rfl (.tmp 34) (.tmp 38) rfl rfl rfl (own_upd0 HK3.out (HW7.out.alloc (.cells #[.int .i64 0, .bool false, .slice none 0 0, .bool false, .string ⟨#[]⟩, .slice none 0 0, .slice none 0 0] 27))) (Blk.newAt rfl) (by simp [Value.oneCell']) (by omega) (Nat.le_trans hz5 (Upd.size (HW7.out.alloc (.cells #[.int .i64 0, .bool false, .slice none 0 0, .bool false, .string ⟨#[]⟩, .slice none 0 0, .slice none 0 0] 27)))) ?_
              intro g cap w10 hO10 hgr10 hg10
              have hsX := Upd.size (HW7.out.alloc (.cells #[.int .i64 0, .bool false, .slice none 0 0, .bool false, .string ⟨#[]⟩, .slice none 0 0, .slice none 0 0] 27))
              have hB10 := (Upd.blk (HW7.out.alloc (.cells #[.int .i64 0, .bool false, .slice none 0 0, .bool false, .string ⟨#[]⟩, .slice none 0 0, .slice none 0 0] 27)) HR.out.out (by simp)).of_eq (hgr10.block _ (Upd.blk (HW7.out.alloc (.cells #[.int .i64 0, .bool false, .slice none 0 0, .bool false, .string ⟨#[]⟩, .slice none 0 0, .slice none 0 0] 27)) HR.out.out (by simp)).lt (fun e => hqn e.symm))
              have c10 := hB10.cell_some (i := 5) rfl
              have f10 := hB10.free 5
              obtain ⟨z0, z1, z2, z3, z4, z5, z6⟩ := own_last hO10 (k := j * 7) hfl
              have y0 := hO10.frozenAt (j * 7)
              have y1 := hO10.frozenAt (j * 7 + 1)
              have y2 := hO10.frozenAt (j * 7 + 2)
              have y3 := hO10.frozenAt (j * 7 + 3)
              have y4 := hO10.frozenAt (j * 7 + 4)
              have y5 := hO10.frozenAt (j * 7 + 5)
              have y6 := hO10.frozenAt (j * 7 + 6)
              have hgo : w.heap.size + 1 + 1 < g := by
                rcases hg10 with h | h
                · have := (hlo g h).1
                  omega
                · omega
              have hgn : ¬ g = w.heap.size + 1 + 1 := by omega
              have hng : ¬ w.heap.size + 1 + 1 = g := by omega
              have HO10 := Lib.hid hO10
              have HB10 := Lib.hid hB10
              have HG10 := Lib.hid hgr10
              clear hO10 hB10 hgr10
              refine hK _ _ ?_
              try clear hK K
              refine wpAny_take (i := 9) (v := ?_) rfl (by kernel_rfl) (by kernel_rfl) (by kernel_rfl) (fun _ _ _ h => h) (Or.inl ⟨by rfl, ?_⟩) ?_
              rotate_left
              · intro wq
                go_simp
                try rw [if_pos hjj]
                try with_reducible rfl
              refine wpAny_take (i := 7) (v := ?_) rfl (by kernel_rfl) (by kernel_rfl) (by kernel_rfl) (fun _ _ _ h => h) (Or.inl ⟨by rfl, ?_⟩) ?_
              rotate_left
              · intro wq
                go_simp
                try rw [if_pos hjj]
                try with_reducible rfl
              refine wpAny_ready (rs := [8, 10]) (by kernel_rfl) (by simp) ?_
              refine AllReady.cons rfl (fun K hK => ?_) ?_
              · go_simp
                refine hK _ _ ?_
                try clear hK K
                refine wpAny_ready (rs := [10]) (by kernel_rfl) (by simp) ?_
                refine AllReady.cons rfl (fun K hK => ?_) ?_
                · go_simp
                  refine hK _ _ ?_
                  try clear hK K
                  refine wpAny_done (by kernel_rfl) ?_ _
                  show KeepsFrom _ _ _ ∧ Below _ _ _ ∧ ∃ lv, _
                  obtain ⟨⟨hkf, hbl⟩, hrel⟩ := leafA HR.out hdl hzz HK.out.1 HK.out.2 hlo (HW7.out.alloc (.cells #[.int .i64 0, .bool false, .slice none 0 0, .bool false, .string ⟨#[]⟩, .slice none 0 0, .slice none 0 0] 27)) (HD7.out.upd ((Upd.refl [] w7).alloc (.cells #[.int .i64 0, .bool false, .slice none 0 0, .bool false, .string ⟨#[]⟩, .slice none 0 0, .slice none 0 0] 27))) HG10.out hg10 HO10.out hfl HB10.out
                  exact ⟨hkf, hbl, _, by rw [List.map_append]; exact hrel⟩
                exact AllReady.nil
              refine AllReady.cons rfl (fun K hK => ?_) ?_
              · go_simp
                refine hK _ _ ?_
                try clear hK K
                refine wpAny_ready (rs := [8]) (by kernel_rfl) (by simp) ?_
                refine AllReady.cons rfl (fun K hK => ?_) ?_
                · go_simp
                  refine hK _ _ ?_
                  try clear hK K
                  refine wpAny_done (by kernel_rfl) ?_ _
                  show KeepsFrom _ _ _ ∧ Below _ _ _ ∧ ∃ lv, _
                  obtain ⟨⟨hkf, hbl⟩, hrel⟩ := leafB HR.out hdl hzz HK.out.1 HK.out.2 hlo (HW7.out.alloc (.cells #[.int .i64 0, .bool false, .slice none 0 0, .bool false, .string ⟨#[]⟩, .slice none 0 0, .slice none 0 0] 27)) (HD7.out.upd ((Upd.refl [] w7).alloc (.cells #[.int .i64 0, .bool false, .slice none 0 0, .bool false, .string ⟨#[]⟩, .slice none 0 0, .slice none 0 0] 27))) HG10.out hg10 HO10.out hfl HB10.out
                  exact ⟨hkf, hbl, _, by rw [List.map_append]; exact hrel⟩
                exact AllReady.nil
              exact AllReady.nil
            exact AllReady.nil
          exact AllReady.nil
        refine AllReady.cons rfl (fun K hK => ?_) ?_
        · go_simp
          refine hK _ _ ?_
          try clear hK K
          refine wpAny_ready (rs := [1]) (by kernel_rfl) (by simp) ?_
          refine AllReady.cons rfl (fun K hK => ?_) ?_
          · go_simp
            refine hK _ _ ?_
            try clear hK K
            refine wpAny_take (i := 4) (v := ?_) rfl (by kernel_rfl) (by kernel_rfl) (by kernel_rfl) (fun _ _ _ h => h) (Or.inl ⟨by rfl, ?_⟩) ?_
            rotate_left
            · intro wq
              go_simp
              try rw [if_pos hjj]
              try with_reducible rfl
            refine wpAny_ready (rs := [6]) (by kernel_rfl) (by simp) ?_
            refine AllReady.cons rfl (fun K hK => ?_) ?_
            · refine' step_zero (W4 := W4) (X := (w7.alloc (.cells #[.int .i64 0, .bool false, .slice none 0 0, .bool false, .string ⟨#[]⟩, .slice none 0 0, .slice none 0 0] 27))) (j := j) (g0 := w7.heap.size) (lv := .slice a0 j c0) (xs := css.flatten) rfl (.tmp 34) (.tmp 38) rfl rfl rfl (own_upd0 HK3.out (HW7.out.alloc (.cells #[.int .i64 0, .bool false, .slice none 0 0, .bool false, .string ⟨#[]⟩, .slice none 0 0, .slice none 0 0] 27))) (Blk.newAt rfl) (by simp [Value.oneCell']) (by omega) (Nat.le_trans hz5 (Upd.size (HW7.out.alloc (.cells #[.int .i64 0, .bool false, .slice none 0 0, .bool false, .string ⟨#[]⟩, .slice none 0 0, .slice none 0 0] 27)))) ?_
              intro g cap w10 hO10 hgr10 hg10
              have hsX := Upd.size (HW7.out.alloc (.cells #[.int .i64 0, .bool false, .slice none 0 0, .bool false, .string ⟨#[]⟩, .slice none 0 0, .slice none 0 0] 27))
              have hB10 := (Upd.blk (HW7.out.alloc (.cells #[.int .i64 0, .bool false, .slice none 0 0, .bool false, .string ⟨#[]⟩, .slice none 0 0, .slice none 0 0] 27)) HR.out.out (by simp)).of_eq (hgr10.block _ (Upd.blk (HW7.out.alloc (.cells #[.int .i64 0, .bool false, .slice none 0 0, .bool false, .string ⟨#[]⟩, .slice none 0 0, .slice none 0 0] 27)) HR.out.out (by simp)).lt (fun e => hqn e.symm))
              have c10 := hB10.cell_some (i := 5) rfl
              have f10 := hB10.free 5
              obtain ⟨z0, z1, z2, z3, z4, z5, z6⟩ := own_last hO10 (k := j * 7) hfl
              have y0 := hO10.frozenAt (j * 7)
              have y1 := hO10.frozenAt (j * 7 + 1)
              have y2 := hO10.frozenAt (j * 7 + 2)
              have y3 := hO10.frozenAt (j * 7 + 3)
              have y4 := hO10.frozenAt (j * 7 + 4)
              have y5 := hO10.frozenAt (j * 7 + 5)
              have y6 := hO10.frozenAt (j * 7 + 6)
              have hgo : w.heap.size + 1 + 1 < g := by
                rcases hg10 with h | h
                · have := (hlo g h).1
                  omega
                · omega
              have hgn : ¬ g = w.heap.size + 1 + 1 := by omega
              have hng : ¬ w.heap.size + 1 + 1 = g := by omega
              have HO10 := Lib.hid hO10
              have HB10 := Lib.hid hB10
              have HG10 := Lib.hid hgr10
              clear hO10 hB10 hgr10
              refine hK _ _ ?_
              try clear hK K
              refine wpAny_take (i := 9) (v := ?_) rfl (by kernel_rfl) (by kernel_rfl) (by kernel_rfl) (fun _ _ _ h => h) (Or.inl ⟨by rfl, ?_⟩) ?_
              rotate_left
              · intro wq
                go_simp
                try rw [if_pos hjj]
                try with_reducible rfl
              refine wpAny_take (i := 7) (v := ?_) rfl (by kernel_rfl) (by kernel_rfl) (by kernel_rfl) (fun _ _ _ h => h) (Or.inl ⟨by rfl, ?_⟩) ?_
              rotate_left
              · intro wq
                go_simp
                try rw [if_pos hjj]
                try with_reducible rfl
              refine wpAny_ready (rs := [8, 10]) (by kernel_rfl) (by simp) ?_
              refine AllReady.cons rfl (fun K hK => ?_) ?_
              · go_simp
                refine hK _ _ ?_
                try clear hK K
                refine wpAny_ready (rs := [10]) (by kernel_rfl) (by simp) ?_
                refine AllReady.cons rfl (fun K hK => ?_) ?_
                · go_simp
                  refine hK _ _ ?_
                  try clear hK K
                  refine wpAny_done (by kernel_rfl) ?_ _
                  show KeepsFrom _ _ _ ∧ Below _ _ _ ∧ ∃ lv, _
                  obtain ⟨⟨hkf, hbl⟩, hrel⟩ := leafA HR.out hdl hzz HK.out.1 HK.out.2 hlo (HW7.out.alloc (.cells #[.int .i64 0, .bool false, .slice none 0 0, .bool false, .string ⟨#[]⟩, .slice none 0 0, .slice none 0 0] 27)) (HD7.out.upd ((Upd.refl [] w7).alloc (.cells #[.int .i64 0, .bool false, .slice none 0 0, .bool false, .string ⟨#[]⟩, .slice none 0 0, .slice none 0 0] 27))) HG10.out hg10 HO10.out hfl HB10.out
                  exact ⟨hkf, hbl, _, by rw [List.map_append]; exact hrel⟩
                exact AllReady.nil
              refine AllReady.cons rfl (fun K hK => ?_) ?_
              · go_simp
                refine hK _ _ ?_
                try clear hK K
                refine wpAny_ready (rs := [8]) (by kernel_rfl) (by simp) ?_
                refine AllReady.cons rfl (fun K hK => ?_) ?_
                · go_simp
                  refine hK _ _ ?_
                  try clear hK K
                  refine wpAny_done (by kernel_rfl) ?_ _
                  show KeepsFrom _ _ _ ∧ Below _ _ _ ∧ ∃ lv, _
                  obtain ⟨⟨hkf, hbl⟩, hrel⟩ := leafB HR.out hdl hzz HK.out.1 HK.out.2 hlo (HW7.out.alloc (.cells #[.int .i64 0, .bool false, .slice none 0 0, .bool false, .string ⟨#[]⟩, .slice none 0 0, .slice none 0 0] 27)) (HD7.out.upd ((Upd.refl [] w7).alloc (.cells #[.int .i64 0, .bool false, .slice none 0 0, .bool false, .string ⟨#[]⟩, .slice none 0 0, .slice none 0 0] 27))) HG10.out hg10 HO10.out hfl HB10.out
                  exact ⟨hkf, hbl, _, by rw [List.map_append]; exact hrel⟩
                exact AllReady.nil
              exact AllReady.nil
            exact AllReady.nil
          exact AllReady.nil
        exact AllReady.nil
      refine AllReady.cons rfl (fun K hK => ?_) ?_
      · go_simp
        refine hK _ _ ?_
        try clear hK K
        refine wpAny_ready (rs := [1, 3]) (by kernel_rfl) (by simp) ?_
        refine AllReady.cons rfl (fun K hK => ?_) ?_
        · go_simp
          refine hK _ _ ?_
          try clear hK K
          refine wpAny_take (i := 4) (v := ?_) rfl (by kernel_rfl) (by kernel_rfl) (by kernel_rfl) (fun _ _ _ h => h) (Or.inl ⟨by rfl, ?_⟩) ?_
          rotate_left
          · intro wq
            go_simp
            try rw [if_pos hjj]
            try with_reducible rfl
          refine wpAny_ready (rs := [3]) (by kernel_rfl) (by simp) ?_
          refine AllReady.cons rfl (fun K hK => ?_) ?_
          · go_simp
            go_wp2_with (go_at_call 43; refine (HN.out _ ((Upd.refl [] W).drew.alloc (.cells #[.int .i64 0, .bool false, .slice none 0 0, .bool false, .string ⟨#[]⟩, .slice none 0 0, .slice none 0 0] 27))).mono ?_; rintro e w7 ⟨⟨cs7, rfl, hD7⟩, hu7⟩; obtain ⟨k7, n7, a7, l7, c7, b7, s7, i7, m7, d7, t7, o7, p7, rfl⟩ := hD7.shaped; unfold datCells at *)
            have hW7 : Upd [] W w7 := Upd.then ((Upd.refl [] W).drew.alloc (.cells #[.int .i64 0, .bool false, .slice none 0 0, .bool false, .string ⟨#[]⟩, .slice none 0 0, .slice none 0 0] 27)) hu7
            have c57 := hW7.cell c5 (by simp)
            have ho7 : w.heap.size + 1 + 1 < w7.heap.size := Nat.lt_of_lt_of_le ho hW7.size
            have HD7 : Hid (IsD w7 (fun b => W.heap.size ≤ b) n _ _) := Lib.hid (hD7.mono fun b _ hb => by simp at hb; omega)
            have hBz := hu7.blk (Blk.newAt (w := W.drew) (b := W.heap.size) (c := #[.int .i64 0, .bool false, .slice none 0 0, .bool false, .string ⟨#[]⟩, .slice none 0 0, .slice none 0 0]) (t := 27) rfl) (by simp)
            have HBz := Lib.hid hBz
            clear hBz
            have HW7 := Lib.hid hW7
            clear hD7 hu7 hW7
            first | refine hK _ _ ?_ | skip
            try clear hK K
            refine wpAny_ready (rs := [6]) (by kernel_rfl) (by simp) ?_
            refine AllReady.cons rfl (fun K hK => ?_) ?_
            · refine' step_zero (W4 := W4) (X := w7) (j := j) (g0 := W.heap.size) (lv := .slice a0 j c0) (xs := css.flatten) rfl (.tmp 34) (.tmp 38) rfl rfl rfl (own_upd0 HK3.out HW7.out) HBz.out (by simp [Value.oneCell']) (by omega) (Nat.le_trans hz5 (Upd.size HW7.out)) ?_
              intro g cap w10 hO10 hgr10 hg10
              have hsX := Upd.size HW7.out
              have hB10 := (Upd.blk HW7.out HR.out.out (by simp)).of_eq (hgr10.block _ (Upd.blk HW7.out HR.out.out (by simp)).lt (fun e => hqn e.symm))
              have c10 := hB10.cell_some (i := 5) rfl
              have f10 := hB10.free 5
              obtain ⟨z0, z1, z2, z3, z4, z5, z6⟩ := own_last hO10 (k := j * 7) hfl
              have y0 := hO10.frozenAt (j * 7)
              have y1 := hO10.frozenAt (j * 7 + 1)
              have y2 := hO10.frozenAt (j * 7 + 2)
              have y3 := hO10.frozenAt (j * 7 + 3)
              have y4 := hO10.frozenAt (j * 7 + 4)
              have y5 := hO10.frozenAt (j * 7 + 5)
              have y6 := hO10.frozenAt (j * 7 + 6)
              have hgo : w.heap.size + 1 + 1 < g := by
                rcases hg10 with h | h
                · have := (hlo g h).1
                  omega
                · omega
              have hgn : ¬ g = w.heap.size + 1 + 1 := by omega
              have hng : ¬ w.heap.size + 1 + 1 = g := by omega
              have HO10 := Lib.hid hO10
              have HB10 := Lib.hid hB10
              have HG10 := Lib.hid hgr10
              clear hO10 hB10 hgr10
              refine hK _ _ ?_
              try clear hK K
              refine wpAny_take (i := 9) (v := ?_) rfl (by kernel_rfl) (by kernel_rfl) (by kernel_rfl) (fun _ _ _ h => h) (Or.inl ⟨by rfl, ?_⟩) ?_
              rotate_left
              · intro wq
                go_simp
                try rw [if_pos hjj]
                try with_reducible rfl
              refine wpAny_take (i := 7) (v := ?_) rfl (by kernel_rfl) (by kernel_rfl) (by kernel_rfl) (fun _ _ _ h => h) (Or.inl ⟨by rfl, ?_⟩) ?_
              rotate_left
              · intro wq
                go_simp
                try rw [if_pos hjj]
                try with_reducible rfl
              refine wpAny_ready (rs := [8, 10]) (by kernel_rfl) (by simp) ?_
              refine AllReady.cons rfl (fun K hK => ?_) ?_
              · go_simp
                refine hK _ _ ?_
                try clear hK K
                refine wpAny_ready (rs := [10]) (by kernel_rfl) (by simp) ?_
                refine AllReady.cons rfl (fun K hK => ?_) ?_
                · go_simp
                  refine hK _ _ ?_
                  try clear hK K
                  refine wpAny_done (by kernel_rfl) ?_ _
                  show KeepsFrom _ _ _ ∧ Below _ _ _ ∧ ∃ lv, _
                  obtain ⟨⟨hkf, hbl⟩, hrel⟩ := leafA HR.out hdl hzz HK.out.1 HK.out.2 hlo HW7.out HD7.out HG10.out hg10 HO10.out hfl HB10.out
                  exact ⟨hkf, hbl, _, by rw [List.map_append]; exact hrel⟩
                exact AllReady.nil
              refine AllReady.cons rfl (fun K hK => ?_) ?_
              · go_simp
                refine hK _ _ ?_
                try clear hK K
                refine wpAny_ready (rs := [8]) (by kernel_rfl) (by simp) ?_
                refine AllReady.cons rfl (fun K hK => ?_) ?_
                · go_simp
                  refine hK _ _ ?_
                  try clear hK K
                  refine wpAny_done (by kernel_rfl) ?_ _
                  show KeepsFrom _ _ _ ∧ Below _ _ _ ∧ ∃ lv, _
                  obtain ⟨⟨hkf, hbl⟩, hrel⟩ := leafB HR.out hdl hzz HK.out.1 HK.out.2 hlo HW7.out HD7.out HG10.out hg10 HO10.out hfl HB10.out
                  exact ⟨hkf, hbl, _, by rw [List.map_append]; exact hrel⟩
                exact AllReady.nil
              exact AllReady.nil
            exact AllReady.nil
          exact AllReady.nil
        refine AllReady.cons rfl (fun K hK => ?_) ?_
        · go_simp
          go_wp2_with (go_at_call 43; refine (HN.out _ ((Upd.refl [] W).drew.alloc (.cells #[.int .i64 0, .bool false, .slice none 0 0, .bool false, .string ⟨#[]⟩, .slice none 0 0, .slice none 0 0] 27))).mono ?_; rintro e w7 ⟨⟨cs7, rfl, hD7⟩, hu7⟩; obtain ⟨k7, n7, a7, l7, c7, b7, s7, i7, m7, d7, t7, o7, p7, rfl⟩ := hD7.shaped; unfold datCells at *)
          have hW7 : Upd [] W w7 := Upd.then ((Upd.refl [] W).drew.alloc (.cells #[.int .i64 0, .bool false, .slice none 0 0, .bool false, .string ⟨#[]⟩, .slice none 0 0, .slice none 0 0] 27)) hu7
          have c57 := hW7.cell c5 (by simp)
          have ho7 : w.heap.size + 1 + 1 < w7.heap.size := Nat.lt_of_lt_of_le ho hW7.size
          have HD7 : Hid (IsD w7 (fun b => W.heap.size ≤ b) n _ _) := Lib.hid (hD7.mono fun b _ hb => by simp at hb; omega)
          have hBz := hu7.blk (Blk.newAt (w := W.drew) (b := W.heap.size) (c := #[.int .i64 0, .bool false, .slice none 0 0, .bool false, .string ⟨#[]⟩, .slice none 0 0, .slice none 0 0]) (t := 27) rfl) (by simp)
          have HBz := Lib.hid hBz
          clear hBz
          have HW7 := Lib.hid hW7
          clear hD7 hu7 hW7
          first | refine hK _ _ ?_ | skip
          try clear hK K
          refine wpAny_ready (rs := [1]) (by kernel_rfl) (by simp) ?_
          refine AllReady.cons rfl (fun K hK => ?_) ?_
          · go_simp
            refine hK _ _ ?_
            try clear hK K
            refine wpAny_take (i := 4) (v := ?_) rfl (by kernel_rfl) (by kernel_rfl) (by kernel_rfl) (fun _ _ _ h => h) (Or.inl ⟨by rfl, ?_⟩) ?_
            rotate_left
            · intro wq
              go_simp
              try rw [if_pos hjj]
              try with_reducible rfl
            refine wpAny_ready (rs := [6]) (by kernel_rfl) (by simp) ?_
            refine AllReady.cons rfl (fun K hK => ?_) ?_
            · refine' step_zero (W4 := W4) (X := w7) (j := j) (g0 := W.heap.size) (lv := .slice a0 j c0) (xs := css.flatten) rfl (.tmp 34) (.tmp 38) rfl rfl rfl (own_upd0 HK3.out HW7.out) HBz.out (by simp [Value.oneCell']) (by omega) (Nat.le_trans hz5 (Upd.size HW7.out)) ?_
              intro g cap w10 hO10 hgr10 hg10
              have hsX := Upd.size HW7.out
              have hB10 := (Upd.blk HW7.out HR.out.out (by simp)).of_eq (hgr10.block _ (Upd.blk HW7.out HR.out.out (by simp)).lt (fun e => hqn e.symm))
              have c10 := hB10.cell_some (i := 5) rfl
              have f10 := hB10.free 5
              obtain ⟨z0, z1, z2, z3, z4, z5, z6⟩ := own_last hO10 (k := j * 7) hfl
              have y0 := hO10.frozenAt (j * 7)
              have y1 := hO10.frozenAt (j * 7 + 1)
              have y2 := hO10.frozenAt (j * 7 + 2)
              have y3 := hO10.frozenAt (j * 7 + 3)
              have y4 := hO10.frozenAt (j * 7 + 4)
              have y5 := hO10.frozenAt (j * 7 + 5)
              have y6 := hO10.frozenAt (j * 7 + 6)
              have hgo : w.heap.size + 1 + 1 < g := by
                rcases hg10 with h | h
                · have := (hlo g h).1
                  omega
                · omega
              have hgn : ¬ g = w.heap.size + 1 + 1 := by omega
              have hng : ¬ w.heap.size + 1 + 1 = g := by omega
              have HO10 := Lib.hid hO10
              have HB10 := Lib.hid hB10
              have HG10 := Lib.hid hgr10
              clear hO10 hB10 hgr10
              refine hK _ _ ?_
              try clear hK K
              refine wpAny_take (i := 9) (v := ?_) rfl (by kernel_rfl) (by kernel_rfl) (by kernel_rfl) (fun _ _ _ h => h) (Or.inl ⟨by rfl, ?_⟩) ?_
              rotate_left
              · intro wq
                go_simp
                try rw [if_pos hjj]
                try with_reducible rfl
              refine wpAny_take (i := 7) (v := ?_) rfl (by kernel_rfl) (by kernel_rfl) (by kernel_rfl) (fun _ _ _ h => h) (Or.inl ⟨by rfl, ?_⟩) ?_
              rotate_left
              · intro wq
                go_simp
                try rw [if_pos hjj]
                try with_reducible rfl
              refine wpAny_ready (rs := [8, 10]) (by kernel_rfl) (by simp) ?_
              refine AllReady.cons rfl (fun K hK => ?_) ?_
              · go_simp
                refine hK _ _ ?_
                try clear hK K
                refine wpAny_ready (rs := [10]) (by kernel_rfl) (by simp) ?_
                refine AllReady.cons rfl (fun K hK => ?_) ?_
                · go_simp
                  refine hK _ _ ?_
                  try clear hK K
                  refine wpAny_done (by kernel_rfl) ?_ _
                  show KeepsFrom _ _ _ ∧ Below _ _ _ ∧ ∃ lv, _
                  obtain ⟨⟨hkf, hbl⟩, hrel⟩ := leafA HR.out hdl hzz HK.out.1 HK.out.2 hlo HW7.out HD7.out HG10.out hg10 HO10.out hfl HB10.out
                  exact ⟨hkf, hbl, _, by rw [List.map_append]; exact hrel⟩
                exact AllReady.nil
              refine AllReady.cons rfl (fun K hK => ?_) ?_
              · go_simp
                refine hK _ _ ?_
                try clear hK K
                refine wpAny_ready (rs := [8]) (by kernel_rfl) (by simp) ?_
                refine AllReady.cons rfl (fun K hK => ?_) ?_
                · go_simp
                  refine hK _ _ ?_
                  try clear hK K
                  refine wpAny_done (by kernel_rfl) ?_ _
                  show KeepsFrom _ _ _ ∧ Below _ _ _ ∧ ∃ lv, _
                  obtain ⟨⟨hkf, hbl⟩, hrel⟩ := leafB HR.out hdl hzz HK.out.1 HK.out.2 hlo HW7.out HD7.out HG10.out hg10 HO10.out hfl HB10.out
                  exact ⟨hkf, hbl, _, by rw [List.map_append]; exact hrel⟩
                exact AllReady.nil
              exact AllReady.nil
            exact AllReady.nil
          exact AllReady.nil
        exact AllReady.nil
      exact AllReady.nil
    refine AllReady.cons rfl (fun K hK => ?_) ?_
    · go_simp
      refine hK _ _ ?_
      try clear hK K
      refine wpAny_ready (rs := [1, 2]) (by kernel_rfl) (by simp) ?_
      refine AllReady.cons rfl (fun K hK => ?_) ?_
      · go_simp
        refine hK _ _ ?_
        try clear hK K
        refine wpAny_take (i := 4) (v := ?_) rfl (by kernel_rfl) (by kernel_rfl) (by kernel_rfl) (fun _ _ _ h => h) (Or.inl ⟨by rfl, ?_⟩) ?_
        rotate_left
        · intro wq
          go_simp
          try rw [if_pos hjj]
          try with_reducible rfl
        refine wpAny_ready (rs := [2]) (by kernel_rfl) (by simp) ?_
        refine AllReady.cons rfl (fun K hK => ?_) ?_
        · go_simp
          refine hK _ _ ?_
          try clear hK K
          refine wpAny_ready (rs := [3]) (by kernel_rfl) (by simp) ?_
          refine AllReady.cons rfl (fun K hK => ?_) ?_
          · go_simp
            go_wp2_with (go_at_call 43; refine (HN.out _ ((Upd.refl [] W).drew.alloc (.cells #[.int .i64 0, .bool false, .slice none 0 0, .bool false, .string ⟨#[]⟩, .slice none 0 0, .slice none 0 0] 27))).mono ?_; rintro e w7 ⟨⟨cs7, rfl, hD7⟩, hu7⟩; obtain ⟨k7, n7, a7, l7, c7, b7, s7, i7, m7, d7, t7, o7, p7, rfl⟩ := hD7.shaped; unfold datCells at *)
            have hW7 : Upd [] W w7 := Upd.then ((Upd.refl [] W).drew.alloc (.cells #[.int .i64 0, .bool false, .slice none 0 0, .bool false, .string ⟨#[]⟩, .slice none 0 0, .slice none 0 0] 27)) hu7
            have c57 := hW7.cell c5 (by simp)
            have ho7 : w.heap.size + 1 + 1 < w7.heap.size := Nat.lt_of_lt_of_le ho hW7.size
            have HD7 : Hid (IsD w7 (fun b => W.heap.size ≤ b) n _ _) := Lib.hid (hD7.mono fun b _ hb => by simp at hb; omega)
            have hBz := hu7.blk (Blk.newAt (w := W.drew) (b := W.heap.size) (c := #[.int .i64 0, .bool false, .slice none 0 0, .bool false, .string ⟨#[]⟩, .slice none 0 0, .slice none 0 0]) (t := 27) rfl) (by simp)
            have HBz := Lib.hid hBz
            clear hBz
            have HW7 := Lib.hid hW7
            clear hD7 hu7 hW7
            first | refine hK _ _ ?_ | skip
            try clear hK K
            refine wpAny_ready (rs := [6]) (by kernel_rfl) (by simp) ?_
            refine AllReady.cons rfl (fun K hK => ?_) ?_
            · refine' step_zero (W4 := W4) (X := w7) (j := j) (g0 := W.heap.size) (lv := .slice a0 j c0) (xs := css.flatten) rfl (.tmp 34) (.tmp 38) rfl rfl rfl (own_upd0 HK3.out HW7.out) HBz.out (by simp [Value.oneCell']) (by omega) (Nat.le_trans hz5 (Upd.size HW7.out)) ?_
              intro g cap w10 hO10 hgr10 hg10
              have hsX := Upd.size HW7.out
              have hB10 := (Upd.blk HW7.out HR.out.out (by simp)).of_eq (hgr10.block _ (Upd.blk HW7.out HR.out.out (by simp)).lt (fun e => hqn e.symm))
              have c10 := hB10.cell_some (i := 5) rfl
              have f10 := hB10.free 5
              obtain ⟨z0, z1, z2, z3, z4, z5, z6⟩ := own_last hO10 (k := j * 7) hfl
              have y0 := hO10.frozenAt (j * 7)
              have y1 := hO10.frozenAt (j * 7 + 1)
              have y2 := hO10.frozenAt (j * 7 + 2)
              have y3 := hO10.frozenAt (j * 7 + 3)
              have y4 := hO10.frozenAt (j * 7 + 4)
              have y5 := hO10.frozenAt (j * 7 + 5)
              have y6 := hO10.frozenAt (j * 7 + 6)
              have hgo : w.heap.size + 1 + 1 < g := by
                rcases hg10 with h | h
                · have := (hlo g h).1
                  omega
                · omega
              have hgn : ¬ g = w.heap.size + 1 + 1 := by omega
              have hng : ¬ w.heap.size + 1 + 1 = g := by omega
              have HO10 := Lib.hid hO10
              have HB10 := Lib.hid hB10
              have HG10 := Lib.hid hgr10
              clear hO10 hB10 hgr10
              refine hK _ _ ?_
              try clear hK K
              refine wpAny_take (i := 9) (v := ?_) rfl (by kernel_rfl) (by kernel_rfl) (by kernel_rfl) (fun _ _ _ h => h) (Or.inl ⟨by rfl, ?_⟩) ?_
              rotate_left
              · intro wq
                go_simp
                try rw [if_pos hjj]
                try with_reducible rfl
              refine wpAny_take (i := 7) (v := ?_) rfl (by kernel_rfl) (by kernel_rfl) (by kernel_rfl) (fun _ _ _ h => h) (Or.inl ⟨by rfl, ?_⟩) ?_
              rotate_left
              · intro wq
                go_simp
                try rw [if_pos hjj]
                try with_reducible rfl
              refine wpAny_ready (rs := [8, 10]) (by kernel_rfl) (by simp) ?_
              refine AllReady.cons rfl (fun K hK => ?_) ?_
              · go_simp
                refine hK _ _ ?_
                try clear hK K
                refine wpAny_ready (rs := [10]) (by kernel_rfl) (by simp) ?_
                refine AllReady.cons rfl (fun K hK => ?_) ?_
                · go_simp
                  refine hK _ _ ?_
                  try clear hK K
                  refine wpAny_done (by kernel_rfl) ?_ _
                  show KeepsFrom _ _ _ ∧ Below _ _ _ ∧ ∃ lv, _
                  obtain ⟨⟨hkf, hbl⟩, hrel⟩ := leafA HR.out hdl hzz HK.out.1 HK.out.2 hlo HW7.out HD7.out HG10.out hg10 HO10.out hfl HB10.out
                  exact ⟨hkf, hbl, _, by rw [List.map_append]; exact hrel⟩
                exact AllReady.nil
              refine AllReady.cons rfl (fun K hK => ?_) ?_
              · go_simp
                refine hK _ _ ?_
                try clear hK K
                refine wpAny_ready (rs := [8]) (by kernel_rfl) (by simp) ?_
                refine AllReady.cons rfl (fun K hK => ?_) ?_
                · go_simp
                  refine hK _ _ ?_
                  try clear hK K
                  refine wpAny_done (by kernel_rfl) ?_ _
                  show KeepsFrom _ _ _ ∧ Below _ _ _ ∧ ∃ lv, _
                  obtain ⟨⟨hkf, hbl⟩, hrel⟩ := leafB HR.out hdl hzz HK.out.1 HK.out.2 hlo HW7.out HD7.out HG10.out hg10 HO10.out hfl HB10.out
                  exact ⟨hkf, hbl, _, by rw [List.map_append]; exact hrel⟩
                exact AllReady.nil
              exact AllReady.nil
            exact AllReady.nil
          exact AllReady.nil
        exact AllReady.nil
      refine AllReady.cons rfl (fun K hK => ?_) ?_
      · go_simp
        refine hK _ _ ?_
        try clear hK K
        refine wpAny_ready (rs := [1, 3]) (by kernel_rfl) (by simp) ?_
        refine AllReady.cons rfl (fun K hK => ?_) ?_
        · go_simp
          refine hK _ _ ?_
          try clear hK K
          refine wpAny_take (i := 4) (v := ?_) rfl (by kernel_rfl) (by kernel_rfl) (by kernel_rfl) (fun _ _ _ h => h) (Or.inl ⟨by rfl, ?_⟩) ?_
          rotate_left
          · intro wq
            go_simp
            try rw [if_pos hjj]
            try with_reducible rfl
          refine wpAny_ready (rs := [3]) (by kernel_rfl) (by simp) ?_
          refine AllReady.cons rfl (fun K hK => ?_) ?_
          · go_simp
            go_wp2_with (go_at_call 43; refine (HN.out _ ((Upd.refl [] W).drew.alloc (.cells #[.int .i64 0, .bool false, .slice none 0 0, .bool false, .string ⟨#[]⟩, .slice none 0 0, .slice none 0 0] 27))).mono ?_; rintro e w7 ⟨⟨cs7, rfl, hD7⟩, hu7⟩; obtain ⟨k7, n7, a7, l7, c7, b7, s7, i7, m7, d7, t7, o7, p7, rfl⟩ := hD7.shaped; unfold datCells at *)
            have hW7 : Upd [] W w7 := Upd.then ((Upd.refl [] W).drew.alloc (.cells #[.int .i64 0, .bool false, .slice none 0 0, .bool false, .string ⟨#[]⟩, .slice none 0 0, .slice none 0 0] 27)) hu7
            have c57 := hW7.cell c5 (by simp)
            have ho7 : w.heap.size + 1 + 1 < w7.heap.size := Nat.lt_of_lt_of_le ho hW7.size
            have HD7 : Hid (IsD w7 (fun b => W.heap.size ≤ b) n _ _) := Lib.hid (hD7.mono fun b _ hb => by simp at hb; omega)
            have hBz := hu7.blk (Blk.newAt (w := W.drew) (b := W.heap.size) (c := #[.int .i64 0, .bool false, .slice none 0 0, .bool false, .string ⟨#[]⟩, .slice none 0 0, .slice none 0 0]) (t := 27) rfl) (by simp)
            have HBz := Lib.hid hBz
            clear hBz
            have HW7 := Lib.hid hW7
            clear hD7 hu7 hW7
            first | refine hK _ _ ?_ | skip
            try clear hK K
            refine wpAny_ready (rs := [6]) (by kernel_rfl) (by simp) ?_
            refine AllReady.cons rfl (fun K hK => ?_) ?_
            · refine' step_zero (W4 := W4) (X := w7) (j := j) (g0 := W.heap.size) (lv := .slice a0 j c0) (xs := css.flatten) rfl (.tmp 34) (.tmp 38) rfl rfl rfl (own_upd0 HK3.out HW7.out) HBz.out (by simp [Value.oneCell']) (by omega) (Nat.le_trans hz5 (Upd.size HW7.out)) ?_
              intro g cap w10 hO10 hgr10 hg10
              have hsX := Upd.size HW7.out
              have hB10 := (Upd.blk HW7.out HR.out.out (by simp)).of_eq (hgr10.block _ (Upd.blk HW7.out HR.out.out (by simp)).lt (fun e => hqn e.symm))
              have c10 := hB10.cell_some (i := 5) rfl
              have f10 := hB10.free 5
              obtain ⟨z0, z1, z2, z3, z4, z5, z6⟩ := own_last hO10 (k := j * 7) hfl
              have y0 := hO10.frozenAt (j * 7)
              have y1 := hO10.frozenAt (j * 7 + 1)
              have y2 := hO10.frozenAt (j * 7 + 2)
              have y3 := hO10.frozenAt (j * 7 + 3)
              have y4 := hO10.frozenAt (j * 7 + 4)
              have y5 := hO10.frozenAt (j * 7 + 5)
              have y6 := hO10.frozenAt (j * 7 + 6)
              have hgo : w.heap.size + 1 + 1 < g := by
                rcases hg10 with h | h
                · have := (hlo g h).1
                  omega
                · omega
              have hgn : ¬ g = w.heap.size + 1 + 1 := by omega
              have hng : ¬ w.heap.size + 1 + 1 = g := by omega
              have HO10 := Lib.hid hO10
              have HB10 := Lib.hid hB10
              have HG10 := Lib.hid hgr10
              clear hO10 hB10 hgr10
              refine hK _ _ ?_
              try clear hK K
              refine wpAny_take (i := 9) (v := ?_) rfl (by kernel_rfl) (by kernel_rfl) (by kernel_rfl) (fun _ _ _ h => h) (Or.inl ⟨by rfl, ?_⟩) ?_
              rotate_left
              · intro wq
                go_simp
                try rw [if_pos hjj]
                try with_reducible rfl
              refine wpAny_take (i := 7) (v := ?_) rfl (by kernel_rfl) (by kernel_rfl) (by kernel_rfl) (fun _ _ _ h => h) (Or.inl ⟨by rfl, ?_⟩) ?_
              rotate_left
              · intro wq
                go_simp
                try rw [if_pos hjj]
                try with_reducible rfl
              refine wpAny_ready (rs := [8, 10]) (by kernel_rfl) (by simp) ?_
              refine AllReady.cons rfl (fun K hK => ?_) ?_
              · go_simp
                refine hK _ _ ?_
                try clear hK K
                refine wpAny_ready (rs := [10]) (by kernel_rfl) (by simp) ?_
                refine AllReady.cons rfl (fun K hK => ?_) ?_
                · go_simp
                  refine hK _ _ ?_
                  try clear hK K
                  refine wpAny_done (by kernel_rfl) ?_ _
                  show KeepsFrom _ _ _ ∧ Below _ _ _ ∧ ∃ lv, _
                  obtain ⟨⟨hkf, hbl⟩, hrel⟩ := leafA HR.out hdl hzz HK.out.1 HK.out.2 hlo HW7.out HD7.out HG10.out hg10 HO10.out hfl HB10.out
                  exact ⟨hkf, hbl, _, by rw [List.map_append]; exact hrel⟩
                exact AllReady.nil
              refine AllReady.cons rfl (fun K hK => ?_) ?_
              · go_simp
                refine hK _ _ ?_
                try clear hK K
                refine wpAny_ready (rs := [8]) (by kernel_rfl) (by simp) ?_
                refine AllReady.cons rfl (fun K hK => ?_) ?_
                · go_simp
                  refine hK _ _ ?_
                  try clear hK K
                  refine wpAny_done (by kernel_rfl) ?_ _
                  show KeepsFrom _ _ _ ∧ Below _ _ _ ∧ ∃ lv, _
                  obtain ⟨⟨hkf, hbl⟩, hrel⟩ := leafB HR.out hdl hzz HK.out.1 HK.out.2 hlo HW7.out HD7.out HG10.out hg10 HO10.out hfl HB10.out
                  exact ⟨hkf, hbl, _, by rw [List.map_append]; exact hrel⟩
                exact AllReady.nil
              exact AllReady.nil
            exact AllReady.nil
          exact AllReady.nil
        refine AllReady.cons rfl (fun K hK => ?_) ?_
        · go_simp
          go_wp2_with (go_at_call 43; refine (HN.out _ ((Upd.refl [] W).drew.alloc (.cells #[.int .i64 0, .bool false, .slice none 0 0, .bool false, .string ⟨#[]⟩, .slice none 0 0, .slice none 0 0] 27))).mono ?_; rintro e w7 ⟨⟨cs7, rfl, hD7⟩, hu7⟩; obtain ⟨k7, n7, a7, l7, c7, b7, s7, i7, m7, d7, t7, o7, p7, rfl⟩ := hD7.shaped; unfold datCells at *)
          have hW7 : Upd [] W w7 := Upd.then ((Upd.refl [] W).drew.alloc (.cells #[.int .i64 0, .bool false, .slice none 0 0, .bool false, .string ⟨#[]⟩, .slice none 0 0, .slice none 0 0] 27)) hu7
          have c57 := hW7.cell c5 (by simp)
          have ho7 : w.heap.size + 1 + 1 < w7.heap.size := Nat.lt_of_lt_of_le ho hW7.size
          have HD7 : Hid (IsD w7 (fun b => W.heap.size ≤ b) n _ _) := Lib.hid (hD7.mono fun b _ hb => by simp at hb; omega)
          have hBz := hu7.blk (Blk.newAt (w := W.drew) (b := W.heap.size) (c := #[.int .i64 0, .bool false, .slice none 0 0, .bool false, .string ⟨#[]⟩, .slice none 0 0, .slice none 0 0]) (t := 27) rfl) (by simp)
          have HBz := Lib.hid hBz
          clear hBz
          have HW7 := Lib.hid hW7
          clear hD7 hu7 hW7
          first | refine hK _ _ ?_ | skip
          try clear hK K
          refine wpAny_ready (rs := [1]) (by kernel_rfl) (by simp) ?_
          refine AllReady.cons rfl (fun K hK => ?_) ?_
          · go_simp
            refine hK _ _ ?_
            try clear hK K
            refine wpAny_take (i := 4) (v := ?_) rfl (by kernel_rfl) (by kernel_rfl) (by kernel_rfl) (fun _ _ _ h => h) (Or.inl ⟨by rfl, ?_⟩) ?_
            rotate_left
            · intro wq
              go_simp
              try rw [if_pos hjj]
              try with_reducible rfl
            refine wpAny_ready (rs := [6]) (by kernel_rfl) (by simp) ?_
            refine AllReady.cons rfl (fun K hK => ?_) ?_
            · refine' step_zero (W4 := W4) (X := w7) (j := j) (g0 := W.heap.size) (lv := .slice a0 j c0) (xs := css.flatten) rfl (.tmp 34) (.tmp 38) rfl rfl rfl (own_upd0 HK3.out HW7.out) HBz.out (by simp [Value.oneCell']) (by omega) (Nat.le_trans hz5 (Upd.size HW7.out)) ?_
              intro g cap w10 hO10 hgr10 hg10
              have hsX := Upd.size HW7.out
              have hB10 := (Upd.blk HW7.out HR.out.out (by simp)).of_eq (hgr10.block _ (Upd.blk HW7.out HR.out.out (by simp)).lt (fun e => hqn e.symm))
              have c10 := hB10.cell_some (i := 5) rfl
              have f10 := hB10.free 5
              obtain ⟨z0, z1, z2, z3, z4, z5, z6⟩ := own_last hO10 (k := j * 7) hfl
              have y0 := hO10.frozenAt (j * 7)
              have y1 := hO10.frozenAt (j * 7 + 1)
              have y2 := hO10.frozenAt (j * 7 + 2)
              have y3 := hO10.frozenAt (j * 7 + 3)
              have y4 := hO10.frozenAt (j * 7 + 4)
              have y5 := hO10.frozenAt (j * 7 + 5)
              have y6 := hO10.frozenAt (j * 7 + 6)
              have hgo : w.heap.size + 1 + 1 < g := by
                rcases hg10 with h | h
                · have := (hlo g h).1
                  omega
                · omega
              have hgn : ¬ g = w.heap.size + 1 + 1 := by omega
              have hng : ¬ w.heap.size + 1 + 1 = g := by omega
              have HO10 := Lib.hid hO10
              have HB10 := Lib.hid hB10
              have HG10 := Lib.hid hgr10
              clear hO10 hB10 hgr10
              refine hK _ _ ?_
              try clear hK K
              refine wpAny_take (i := 9) (v := ?_) rfl (by kernel_rfl) (by kernel_rfl) (by kernel_rfl) (fun _ _ _ h => h) (Or.inl ⟨by rfl, ?_⟩) ?_
              rotate_left
              · intro wq
                go_simp
                try rw [if_pos hjj]
                try with_reducible rfl
              refine wpAny_take (i := 7) (v := ?_) rfl (by kernel_rfl) (by kernel_rfl) (by kernel_rfl) (fun _ _ _ h => h) (Or.inl ⟨by rfl, ?_⟩) ?_
              rotate_left
              · intro wq
                go_simp
                try rw [if_pos hjj]
                try with_reducible rfl
              refine wpAny_ready (rs := [8, 10]) (by kernel_rfl) (by simp) ?_
              refine AllReady.cons rfl (fun K hK => ?_) ?_
              · go_simp
                refine hK _ _ ?_
                try clear hK K
                refine wpAny_ready (rs := [10]) (by kernel_rfl) (by simp) ?_
                refine AllReady.cons rfl (fun K hK => ?_) ?_
                · go_simp
                  refine hK _ _ ?_
                  try clear hK K
                  refine wpAny_done (by kernel_rfl) ?_ _
                  show KeepsFrom _ _ _ ∧ Below _ _ _ ∧ ∃ lv, _
                  obtain ⟨⟨hkf, hbl⟩, hrel⟩ := leafA HR.out hdl hzz HK.out.1 HK.out.2 hlo HW7.out HD7.out HG10.out hg10 HO10.out hfl HB10.out
                  exact ⟨hkf, hbl, _, by rw [List.map_append]; exact hrel⟩
                exact AllReady.nil
              refine AllReady.cons rfl (fun K hK => ?_) ?_
              · go_simp
                refine hK _ _ ?_
                try clear hK K
                refine wpAny_ready (rs := [8]) (by kernel_rfl) (by simp) ?_
                refine AllReady.cons rfl (fun K hK => ?_) ?_
                · go_simp
                  refine hK _ _ ?_
                  try clear hK K
                  refine wpAny_done (by kernel_rfl) ?_ _
                  show KeepsFrom _ _ _ ∧ Below _ _ _ ∧ ∃ lv, _
                  obtain ⟨⟨hkf, hbl⟩, hrel⟩ := leafB HR.out hdl hzz HK.out.1 HK.out.2 hlo HW7.out HD7.out HG10.out hg10 HO10.out hfl HB10.out
                  exact ⟨hkf, hbl, _, by rw [List.map_append]; exact hrel⟩
                exact AllReady.nil
              exact AllReady.nil
            exact AllReady.nil
          exact AllReady.nil
        exact AllReady.nil
      exact AllReady.nil
    exact AllReady.nil
-- END
  case done =>
    rintro D2 ys W hD2 rfl ⟨lv, hR⟩ hK
    rw [show ys.map (fun x => normD n x.1.2) = is.map (normD n) by rw [← hzs, List.map_map]; rfl] at hR
    obtain ⟨a5, c5, rfl⟩ : ∃ a c, lv = .slice a is.length c := by
      obtain ⟨css, _, _, h3⟩ := hR.row
      rw [List.length_map] at h3
      rcases h3.2 with ⟨rfl, e⟩ | ⟨g, c, _, rfl, _⟩
      · exact ⟨none, 0, by rw [e]⟩
      · exact ⟨_, _, rfl⟩
    obtain ⟨o0, o1, o2, o3, o4, o5, o6⟩ := hR.out.seven
    obtain ⟨f0, f1, f2, f3, f4, f5, f6⟩ := hR.res.frees
    obtain ⟨p0, p1, p2, p3, p4, p5, p6⟩ := hR.res.seven
    have b6 := hR.box.cell_some (i := 6) rfl
    have hol := hR.out.lt
    have HR := Lib.hid hR
    have HK := Lib.hid hK
    clear hR hK hseq hr4 hS4 hzr hzs
    by_cases ht : ts = []
    · subst ht
      have hD := hND.out
      rw [if_pos rfl] at hD
      obtain ⟨a6, c6, e, hrow, hcap⟩ := HR.out.row.row
      injection e with e1 e2 e3
      subst e1
      subst e3
      clear e2
      rw [List.length_map] at hcap
      have hisd : IsD W (fun b => w.heap.size + 3 ≤ b) (n + 1) [.int .i64 5, .bool false, .slice none 0 0, .bool false, .string ⟨#[]⟩, .slice a5 is.length c5, .slice none 0 0] D := by
        rw [hD]
        refine ⟨none, 0, a5, c5, none, 0, ?_, fun i hi => absurd hi (by simp [Dat.limbs]), hrow.map (fun b _ hb => by omega) (fun _ _ _ _ hc => hc) (fun _ _ hd => hd.mono fun b _ hb => by omega), fun i hi => absurd hi (by simp [Dat.tail]), ⟨by simp [Dat.limbs], by simp only [Dat.items, List.length_map]; exact hcap, by simp [Dat.tail]⟩, by simp [Dat.kind], by simp [Dat.limbs], by simp [Dat.limbs], by simp [Dat.s, ByteArray.size], by simp only [Dat.items, List.length_map]; omega, by simp [Dat.tail]⟩
        simp only [datCells, Dat.kind, Dat.neg, Dat.limbs, Dat.b, Dat.s, Dat.items, Dat.tail, List.length_map, List.length_nil]
        rfl
      have HC9 := Lib.hid (norm_close HR.out.res HR.out.upd hisd HK.out (by omega))
      clear hD hrow hcap hisd
      go_wp2
      obtain ⟨h1, h2, h3⟩ := HC9.out
      obtain ⟨k0, k1, k2, k3, k4, k5, k6⟩ := h2.seven
      refine ⟨by simp, .inl ⟨_, _, rfl, run_takeDeferred h1, ?_⟩⟩
      refine ⟨_, ?_, h3⟩
      simp [results, Try.results43, go_sem, k0, k1, k2, k3, k4, k5, k6]
    · have hD := hND.out
      rw [if_neg ht] at hD
      have hl0 : 0 < ts.length := List.length_pos_iff.2 ht
      have hl0' : (0 : Int) < ((ts.length : Nat) : Int) := by omega
      obtain ⟨b, o, cs0, e, _, hat, hd0⟩ := HT.out 0 hl0
      subst e
      have ht0 : szN n (ts.getD 0 default) ≤ szL (szN n) ts := tail0_sz ht
      obtain ⟨x, hx⟩ : ∃ x, x = ts.getD 0 default := ⟨_, rfl⟩
      rw [← hx] at hd0 ht0 hD
      clear hx
      have HN := Lib.hid (fun (X : World) (hu : Upd [] w X) => IH.out P x _ X (hd0.upd hu) (by omega))
      obtain ⟨k9, n9, a9, l9, c9, b9, s9, i9, m9, d9, t9, o9, p9, rfl⟩ := hd0.shaped
      have hat2 := hat.upd HR.out.upd (by simp)
      rw [Nat.zero_mul, Nat.add_zero] at hat2
      obtain ⟨q0, q1, q2, q3, q4, q5, q6⟩ := hat2.cells
      unfold datCells at HN
      have HD := Lib.hid hD
      have hxs : szN n x ≤ 1000000 := by omega
      have HX := Lib.hid (normD_sz n x hxs)
      have HLO := Lib.hid (show ∀ k, (Value.slice a5 is.length c5).ownBlock = some k → W4.heap.size ≤ k ∧ k < W.heap.size from by
        obtain ⟨css, _, _, h3⟩ := HR.out.row
        exact h3.lt)
      have hlen2 : is.length + szN n x ≤ 100000 := by
        have := len_le_szL (szN_pos n) is
        omega
      clear hat hat2 hd0 hD
      go_wp2_with fail
      refine wp_mono ?_ (onlyN_imp _)
      go_region_with (first
        | (go_at_call 43; refine (HN.out _ (HR.out.upd.drew)).mono ?_; rintro e w8 ⟨⟨cs8, rfl, hD8⟩, hu8⟩; obtain ⟨k8, n8, a8, l8, c8, b8, s8, i8, m8, d8, t8, x8, y8, rfl⟩ := hD8.shaped; unfold datCells at *; have c58 := Upd.cell hu8 o5 (by simp))
        | (go_at_call 65; refine (joined_calls (w0 := W4) (n := n) (ds := is.map (normD n)) (cs := [.int .i64 k8, .bool n8, .slice a8 l8 c8, .bool b8, .string s8, .slice i8 m8 d8, .slice t8 x8 y8]) (t := normD n x) (HR.out.row.step ((Upd.refl [] W).drew.then hu8) (by simp)) (hD8.mono fun b _ hb => ⟨by have := HR.out.lt; simp at hb; omega, fun e => by have := (HLO.out b e).2; simp at hb; omega⟩) (by have h1 := items_le hD8; have h2 := HX.out; rw [List.length_map]; omega) (Nat.le_trans HR.out.lt (Upd.size ((Upd.refl [] W).drew.then hu8)))).mono ?_; rintro e w9 ⟨⟨cs9, rfl, hD9⟩, hu9⟩; obtain ⟨k7, n7, a7, l7, c7, b7, s7, i7, m7, d7, t7, x7, y7, rfl⟩ := hD9.shaped; unfold datCells at *; have hr9 := hu9.blk (hu8.blk (Blk.drew HR.out.res) (by simp)) (fun hx => by have := (HLO.out _ (by simpa using hx)).1; omega); obtain ⟨p0', p1', p2', p3', p4', p5', p6'⟩ := Blk.seven hr9; obtain ⟨f0', f1', f2', f3', f4', f5', f6'⟩ := Blk.frees hr9))
      all_goals
        have hUW9 : Upd (Value.slice a5 is.length c5).ownBlock.toList W w9 := (((Upd.refl [] W).drew.then hu8).mono (by simp)).then hu9
        have hK9 : w9.heap[D2]? = some (.deferred (some [])) := (hUW9.block D2 (Array.getElem?_eq_some_iff.1 HK.out).1 (fun hx => by
          obtain ⟨css, _, _, h3⟩ := HR.out.row
          have hx' : (Value.slice a5 is.length c5).ownBlock = some D2 := by simpa using hx
          rcases h3.2 with ⟨e, _⟩ | ⟨g', cap', cur, e, _, hgg, _⟩
          · rw [e] at hx'
            cases hx'
          · rw [e] at hx'
            injection hx' with hx'
            subst hx'
            have := HK.out
            rw [hgg] at this
            cases this)).trans HK.out
        have hU9 : Upd [] w w9 := HR.out.upd.onto hUW9 (fun k hk => by have := (HLO.out k (by simpa using hk)).1; omega)
        have HC9 := Lib.hid (norm_close hr9 hU9 (hD9.mono fun b _ hb => by omega) hK9 (by omega))
        have HDD := Lib.hid hD9
        clear hr9 hD9 hK9 hUW9 hu9 hD8 hu8 p0' p1' p2' p3' p4' p5' p6' f0' f1' f2' f3' f4' f5' f6' q0 q1 q2 q3 q4 q5 q6
        unfold onlyN
        go_wp2
        obtain ⟨h1, h2, h3⟩ := HC9.out
        obtain ⟨k0, k1, k2, k3, k4, k5, k6⟩ := h2.seven
        refine ⟨by simp, .inl ⟨_, _, rfl, run_takeDeferred h1, ?_⟩⟩
        refine ⟨_, ?_, by rw [HD.out]; exact h3⟩
        simp [results, Try.results43, go_sem, k0, k1, k2, k3, k4, k5, k6]
  case stop =>
    rintro D c pre W _ _ h _
    exact h.elim
end Go.Proofs.Ythmpaepdbjldfaa
