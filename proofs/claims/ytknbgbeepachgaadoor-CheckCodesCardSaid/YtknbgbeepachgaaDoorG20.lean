/-
  Texts of this claim, merged: ChX, ChY, ChZ. Lemmas and contracts; no conditions of our own.
-/
import Derived.Test.YtknbgbeepachgaaDoorG18

/-
  check.depths, Check, Depths.
-/
namespace Go.Proofs.YtknbgbeepachgaaDoor
open Go.RowKit Go.Shelf

/-- What depths tells. -/
def DepPost (w : World) (R : DepR) (e : Ending) (w' : World) : Prop :=
  (∃ a cap, e = .returned (.tuple #[.slice a R.deep.length cap, .int .i64 R.at', .int .i64 R.e]) ∧ (0 < R.deep.length → ∃ D, a = some ⟨D, 0, none⟩ ∧ Blk w' D (R.deep.map (.int .i64)) 3)) ∧ Upd [] w w'
theorem DepPost.of {w w' : World} {R : DepR} {deep : List Int} {at' er : Int} {e : Ending} (h : R = ⟨deep, at', er⟩) {a : Option Addr} {cap : Nat} (he : e = .returned (.tuple #[.slice a deep.length cap, .int .i64 at', .int .i64 er]))
    (hb : 0 < deep.length → ∃ D, a = some ⟨D, 0, none⟩ ∧ Blk w' D (deep.map (.int .i64)) 3) (hu : Upd [] w w') : DepPost w R e w' := by
  rw [h]
  exact ⟨⟨a, cap, he, hb⟩, hu⟩
/-- What the loop over the blocks leans on. -/
structure BRel (w : World) (nI : Nat) (D : Nat) (cells : List Value) (deep : List Int) (W : World) : Prop where
  box : Blk W w.heap.size cells 26
  row : Blk W D (deep.map (.int .i64)) 3
  len : deep.length = nI
  rng : ∀ i, i < nI → -1 ≤ deep.getD i 0 ∧ deep.getD i 0 ≤ 100000
  upd : Upd [] w W
theorem size_succ (W : World) (o : Obj) : W.heap.size + 1 = (W.alloc o).heap.size := by simp
theorem LS.fresh {W : World} {k : LookK} {deep : List Int} (hB : Blk W k.L (lookCells k (.slice none 0 0) false .nilFunc) 73) (hD : Blk W k.D (deep.map (.int .i64)) 3) (hl : deep.length = k.nD) : LS W W.heap.size k .nilFunc ⟨deep, [], false⟩ :=
  ⟨⟨_, [], hB, World.ownsRow_nil _ _ _ _, List.Perm.refl _, fun i _ hi => absurd hi (by simp)⟩, hD, hl, by simp, hB.lt, hD.lt, Nat.le_refl _⟩
/-- A block that is looked at out of depths' loop. -/
theorem look_new {w wr W : World} {n nI nB nC cI cB cC D j : Nat} {aI aB aC : Option Addr} {c : CodeV} {deep : List Int} {b : BlkV} {L : Nat} (hT : Tabs w) (h : IsC w n aI aB aC c) (hOK : CodeOk c) (hnI : nI = c.ins.length) (hnB : nB = c.blks.length) (hnC : nC = c.cons.length) (hnI2 : nI ≤ 60000) (hrel : BRel w nI D [.slice aI nI cI, .slice aB nB cB, .slice aC nC cC] deep wr) (hwD : w.heap.size < D)
    (hj : j < nB) (hb : b = c.blks.getD j default) (hhi : hiF c j ≤ nI) (hL : wr.heap.size ≤ L) (hu : Upd [] wr W) (hB : Blk W L (lookCells ⟨aI, nI, cI, aB, nB, cB, aC, nC, cC, j, b, hiF c j, D, nI, L⟩ (.slice none 0 0) false .nilFunc) 73) :
    Calls Tryd.prog 21 #[.pointer (some ⟨L, 0, none⟩)] W (fun e w' => e = .returned (.int .i64 (blockF c j b (hiF c j) ⟨deep, [], false⟩).1) ∧ BRel w nI D [.slice aI nI cI, .slice aB nB cB, .slice aC nC cC] (blockF c j b (hiF c j) ⟨deep, [], false⟩).2.deep w') := by
  have hbm : b ∈ c.blks := by
    rw [hb, List.getD_eq_getElem?_getD, List.getElem?_eq_getElem (by omega)]
    exact List.getElem_mem _
  obtain ⟨b1, b2, b3, b4, b5, b6, b7, b8, b9, b10⟩ := hOK.blks b hbm
  have hDl := hrel.row.lt
  have hS := LS.fresh (k := ⟨aI, nI, cI, aB, nB, cB, aC, nC, cC, j, b, hiF c j, D, nI, L⟩) (deep := deep) hB (hu.blk hrel.row (by simp)) hrel.len
  have hwW : Upd [] w W := hrel.upd.then hu
  have hLl := hB.lt
  have hlow : ∀ w', Kb W.heap.size [L, D] W w' → Upd [] w w' := fun w' hk => hk.low hwW (hwW.size) (fun x hx => by
    have hz := hrel.upd.size
    simp at hx
    omega)
  have hF := flat_deep hrel.len hrel.rng b.lo (hiF c j)
  refine (block_calls (m := n) hS ⟨h.upd hwW, hnI, hnB, hnC, hT.upd hwW⟩ hOK hF rfl b1 hhi (show nI ≤ 65536 by omega) b8 rfl (fun w' hk => ⟨h.upd (hlow w' hk), hnI, hnB, hnC, hT.upd (hlow w' hk)⟩) rfl).mono ?_
  rintro e w' ⟨he, hd, hk⟩
  have hI := blockF_inv (c := c) (n := j) hF rfl rfl b1 hhi b8
  refine ⟨he, (hk.blk (hu.blk hrel.box (by simp)) (by have := hwW.size; have := hrel.box.lt; have := hu.size; omega) (by
    have hz := hrel.upd.size
    have := hrel.box.lt
    simp
    omega)), hd, hI.len, fun i hi => hI.deep i (by rw [hI.len]; exact hi), hlow w' hk⟩
set_option maxRecDepth 100000 in
set_option maxHeartbeats 4000000 in
theorem depths_calls {w : World} {n : Nat} {aI aB aC : Option Addr} (cI cB cC : Nat) {c : CodeV} (h : IsC w n aI aB aC c) (hl : Lit' n c) (hT : Tabs w) :
    Calls Tryd.prog 15 #[.agg #[.slice aI c.ins.length cI, .slice aB c.blks.length cB, .slice aC c.cons.length cC]] w (DepPost w (depthsF n c)) := by
  have hBx : Blk (w.alloc (.cells #[.slice aI c.ins.length cI, .slice aB c.blks.length cB, .slice aC c.cons.length cC] 26)) w.heap.size [.slice aI c.ins.length cI, .slice aB c.blks.length cB, .slice aC c.cons.length cC] 26 := Blk.newAt rfl
  have hu1 : Upd [] w (w.alloc (.cells #[.slice aI c.ins.length cI, .slice aB c.blks.length cB, .slice aC c.cons.length cC] 26)) := (Upd.refl [] w).alloc _
  have HSH := Lib.hid (shape_calls cI cB cC (h.upd hu1) hl)
  obtain ⟨RR, hRR⟩ : ∃ RR, RR = depthsF n c := ⟨_, rfl⟩
  rw [← hRR]
  unfold depthsF at hRR
  have hnI := hl.nI
  have hnB := hl.nB
  have hOK : shapeF n c = true → CodeOk c := fun hs => CodeOk.of (n := n) (by unfold shapeF at hs; simp only [Bool.and_eq_true] at hs; exact hs.1.1)
  have hLO : shapeF n c = true → ∀ j, hiF c j ≤ c.ins.length := fun hs j => hiF_range hs j
  have H := Lib.hid h
  have HT := Lib.hid hT
  have HR := Lib.hid hRR
  have HOK := Lib.hid hOK
  have HLO := Lib.hid hLO
  have HBX := Lib.hid hBx
  have HU1 := Lib.hid hu1
  obtain ⟨sh, hsh⟩ : ∃ sh, sh = shapeF n c := ⟨_, rfl⟩
  rw [← hsh] at HSH HR HOK HLO
  clear h hl hT hBx hu1 hRR hOK hLO hsh
  obtain ⟨nI, hI⟩ : ∃ nI, nI = c.ins.length := ⟨_, rfl⟩
  obtain ⟨nB, hB⟩ : ∃ nB, nB = c.blks.length := ⟨_, rfl⟩
  obtain ⟨nC, hC⟩ : ∃ nC, nC = c.cons.length := ⟨_, rfl⟩
  rw [← hI, ← hB, ← hC] at HSH HBX HU1 ⊢
  rw [← hI] at hnI HR HLO
  rw [← hB] at hnB
  have HNI := Lib.hid hI
  have HNB := Lib.hid hB
  have HNC := Lib.hid hC
  clear hI hB hC
  go_enter Tryd.func15, Tryd.ntmps15
  go_wp2_with fail
  refine HSH.out.mono ?_
  rintro e w2 ⟨rfl, hu2⟩
  have HBX2 := Lib.hid (hu2.blk HBX.out (by simp))
  have HU2 := Lib.hid (HU1.out.then hu2)
  have x0 := HBX2.out.cell_some (i := 0) rfl
  have x1 := HBX2.out.cell_some (i := 1) rfl
  clear hu2 HSH HBX HU1
  cases sh with
  | false =>
    have E9 : Hid (RR = ⟨[], -1, 15⟩) := Lib.hid (by rw [HR.out]; rfl)
    clear HR HOK HLO
    go_wp2
    go_ret3
    exact DepPost.of E9.out rfl (by simp) HU2.out
  | true =>
    have HR1 : Hid (RR = if 0 ≤ (runF c 0 c.blks (List.replicate nI (-1))).1 then ⟨[], (runF c 0 c.blks (List.replicate nI (-1))).1, 15⟩ else ⟨(runF c 0 c.blks (List.replicate nI (-1))).2, 0, 0⟩) := Lib.hid (by rw [HR.out]; rfl)
    have HOK1 := Lib.hid (HOK.out rfl)
    have HLO1 := Lib.hid (HLO.out rfl)
    clear HR HOK HLO
    obtain ⟨i0, hi, hz0, hz1, hz2⟩ := info_parts info_int
    go_wp2_with (refine wpList_make_full _ rfl (.tmp 16) (.tmp 16) 39 rfl w2.heap.size 3 i0 _ 1 Tryd.underlying39 hi hz0 hz1 .i64 .i64 (nI : Int) (nI : Int) nI rfl rfl rfl rfl (by rw [hz2]; omega) (by unfold maxLen; omega) (Nat.le_refl _) ?_; intro w3 hO3 hg3)
    have hB3 : Blk w3 w2.heap.size ((List.replicate nI (0 : Int)).map (.int .i64)) 3 := by
      have h := row_blk hO3
      rw [show (Value.int IntKind.i64 0).cells = #[.int .i64 0] from rfl, toList_madeCells_one, Nat.mul_one] at h
      rwa [List.map_replicate]
    have hu3 : Upd [] w2 w3 := Upd.of_grown hg3 (by simp)
    have hwD : w.heap.size < w2.heap.size := HBX2.out.lt
    have HBX3 := Lib.hid (hu3.blk HBX2.out (by simp))
    have HU3 := Lib.hid (HU2.out.then hu3)
    have HB3 := Lib.hid hB3
    obtain ⟨D, hD⟩ : ∃ D, D = w2.heap.size := ⟨_, rfl⟩
    rw [← hD] at HB3 hwD ⊢
    clear hO3 hg3 hB3 hu3 HU2 HBX2 x0 x1 hi hz0 hz1 hz2 hD
    go_loopw [20] (fun i wr => ∃ (j : Nat) (xs : List Int), j ≤ nI ∧ i = .int .i64 j ∧ Hid (Blk wr D (xs.map (.int .i64)) 3) ∧ Hid (xs.length = nI) ∧ Hid (∀ i, i < j → xs.getD i 0 = -1) ∧ Hid (Blk wr w.heap.size [.slice aI nI cI, .slice aB nB cB, .slice aC nC cC] 26) ∧ Hid (Upd [] w wr)) (fun i _ => nI - (intOf i).toNat)
    case atStart => exact ⟨0, List.replicate nI 0, by omega, rfl, HB3, Lib.hid (by simp), Lib.hid (fun i hi => by omega), HBX3, HU3⟩
    case round =>
      obtain ⟨j, xs, hj, rfl, hB, hL, hA, hX, hU⟩ := hrel
      by_cases hlt : j < nI
      · have cD : wr.cell? ⟨D, j, none⟩ = some (.int .i64 (xs.getD j 0)) := hB.out.cell_some (by rw [map_int_get, List.getElem?_eq_getElem (by rw [hL.out]; exact hlt)]; simp [List.getD_eq_getElem?_getD, show j < xs.length by rw [hL.out]; exact hlt])
        have fD := hB.out.free j
        have HB4 : Hid (Blk (wr.setCell ⟨D, j, none⟩ (.int .i64 (-1))) D ((xs.set j (-1)).map (.int .i64)) 3) := Lib.hid (by
          rw [← map_int_set]
          exact hB.out.set j _)
        have HL4 : Hid ((xs.set j (-1)).length = nI) := Lib.hid (by rw [List.length_set]; exact hL.out)
        have HA4 : Hid (∀ i, i < j + 1 → (xs.set j (-1)).getD i 0 = -1) := Lib.hid (fun i hi => by
          rw [List.getD_eq_getElem?_getD, List.getElem?_set]
          by_cases hij : j = i
          · rw [if_pos hij, if_pos (by rw [hL.out]; omega)]
            rfl
          · rw [if_neg hij, ← List.getD_eq_getElem?_getD]
            exact hA.out i (by omega))
        have HX4 := Lib.hid (hX.out.set_other (a := ⟨D, j, none⟩) (.int .i64 (-1)) (by simp; omega))
        have HU4 := Lib.hid (hU.out.setCell (p := ⟨D, j, none⟩) (.int .i64 (-1)) (.inr (by simp; omega)))
        have hlt' : (j : Int) < (nI : Int) := by omega
        clear hB hL hA hX hU
        go_wp2
        go_roundw
        case rel => exact ⟨j + 1, _, by omega, by go_num, HB4, HL4, HA4, HX4, HU4⟩
        case measure => simp [intOf]; omega
      · obtain rfl : j = nI := by omega
        have hxs : xs = List.replicate j (-1) := by
          apply List.ext_getElem
          · rw [hL.out, List.length_replicate]
          · intro i h1 h2
            have := hA.out i (by rw [← hL.out]; exact h1)
            rw [List.getD_eq_getElem?_getD, List.getElem?_eq_getElem h1] at this
            simpa using this
        have hrel : BRel w j D [.slice aI j cI, .slice aB nB cB, .slice aC nC cC] xs wr := ⟨hX.out, hB.out, hL.out, fun i hi => by rw [hA.out i hi]; omega, hU.out⟩
        have x1 := hX.out.cell_some (i := 1) rfl
        have HREL := Lib.hid hrel
        have HRUN : Hid (runF c 0 c.blks (List.replicate j (-1)) = runF c 0 (c.blks.drop 0) xs) := Lib.hid (by rw [hxs, List.drop_zero])
        clear hB hL hA hX hU hrel hxs hlt hj
        obtain ⟨nI, rfl⟩ : ∃ nI, nI = j := ⟨_, rfl⟩
        go_wp2_with fail
        go_loopw [30] (fun i wr => ∃ (j : Nat) (deep : List Int), j ≤ nB ∧ i = .int .i64 j ∧ Hid (BRel w nI D [.slice aI nI cI, .slice aB nB cB, .slice aC nC cC] deep wr) ∧ Hid (runF c 0 c.blks (List.replicate nI (-1)) = runF c j (c.blks.drop j) deep)) (fun i _ => nB - (intOf i).toNat)
        case atStart => exact ⟨0, _, by omega, rfl, HREL, HRUN⟩
        case round =>
          obtain ⟨j, deep, hj, rfl, hB, hRun⟩ := hrel
          by_cases hlt : j < nB
          · have hlt' : (j : Int) < (nB : Int) := by omega
            obtain ⟨bb, o, eB, y0, y1, y2, y3, y4, y5⟩ := blkAt_get (blkAt_upd H.out.blks hB.out.upd) (i := j) (by rw [← HNB.out]; exact hlt)
            subst eB
            have hb9 : ∃ b, b = c.blks.getD j default := ⟨_, rfl⟩
            obtain ⟨b, hb⟩ := hb9
            rw [← hb] at y0 y1 y2 y3 y4 y5
            have hrn : runF c 0 c.blks (List.replicate nI (-1)) = if 0 ≤ (blockF c j b (hiF c j) ⟨deep, [], false⟩).1 then ((blockF c j b (hiF c j) ⟨deep, [], false⟩).1, []) else runF c (j + 1) (c.blks.drop (j + 1)) (blockF c j b (hiF c j) ⟨deep, [], false⟩).2.deep := by
              rw [hRun.out, List.drop_eq_getElem_cons (by rw [← HNB.out]; exact hlt), runF]
              have e : c.blks[j]'(by rw [← HNB.out]; exact hlt) = b := by
                rw [hb]
                simp [List.getD_eq_getElem?_getD, show j < c.blks.length by rw [← HNB.out]; exact hlt]
              rw [e]
            have HLK := Lib.hid (fun (W : World) (L : Nat) (h1 : wr.heap.size ≤ L) (h2 : Upd [] wr W) (h3 : Blk W L (lookCells ⟨aI, nI, cI, some ⟨bb, o, none⟩, nB, cB, aC, nC, cC, j, b, hiF c j, D, nI, L⟩ (.slice none 0 0) false .nilFunc) 73) => look_new HT.out H.out HOK1.out HNI.out HNB.out HNC.out hnI hB.out hwD hlt hb (HLO1.out j) h1 h2 h3)
            obtain ⟨r, hr9⟩ : ∃ r, r = blockF c j b (hiF c j) ⟨deep, [], false⟩ := ⟨_, rfl⟩
            rw [← hr9] at hrn HLK
            have HRN := Lib.hid hrn
            have x0 := hB.out.box.cell_some (i := 0) rfl
            have x1 := hB.out.box.cell_some (i := 1) rfl
            have x2 := hB.out.box.cell_some (i := 2) rfl
            have l0 := hB.out.box.lt
            have l1 := World.block_lt_of_cell? wr _ y0
            simp only at l1
            have l2 : w.heap.size < wr.heap.size + 1 := by omega
            have l3 : bb < wr.heap.size + 1 := by omega
            have hj1 : IntKind.i64.wrap ((j : Int) + 1) = (j : Int) + 1 := IntWalk.i64_in _ (by omega)
            have hjw : (j : Int) + 1 = ((j + 1 : Nat) : Int) := by omega
            have HBB := Lib.hid hB.out.upd
            clear hRun hrn hr9 hb
            obtain ⟨lo, pr, rest, sl, dp, ou⟩ := b
            simp only at y0 y1 y2 y3 y4 y5
            by_cases hn : j + 1 < nB
            · obtain ⟨bb', o', e', z0, _⟩ := blkAt_get (blkAt_upd H.out.blks HBB.out) (i := j + 1) (by rw [← HNB.out]; exact hn)
              injection e' with e'
              injection e' with e1 e2
              subst e1; subst e2
              have hh : hiF c j = (c.blks.getD (j + 1) default).lo := by
                unfold hiF
                rw [if_pos (by rw [← HNB.out]; exact hn)]
              rw [hh] at HLK
              generalize (c.blks.getD (j + 1) default).lo = lo2 at *
              have hn' : (j : Int) + 1 < (nB : Int) := by omega
              clear hh hn hjw
              go_wp2_with fail
              refine Calls.mono (HLK.out _ (wr.heap.size + 1) (by omega) ?_ ?_) ?_
              · exact ((Upd.refl [] wr).alloc _).alloc _
              · exact Blk.newAt (size_succ wr _)
              rintro e w5 ⟨rfl, hB5⟩
              have HB5 := Lib.hid hB5
              clear hB5 HLK
              by_cases hr : 0 ≤ r.1
              · have E9 : Hid (RR = ⟨[], r.1, 15⟩) := Lib.hid (by
                  rw [HR1.out, HRN.out, if_pos hr, if_pos hr])
                have hr' : ¬ r.1 < 0 := by omega
                clear HRN
                go_wp2
                go_ret3
                exact DepPost.of E9.out rfl (by simp) HB5.out.upd
              · have HRN2 : Hid (runF c 0 c.blks (List.replicate nI (-1)) = runF c (j + 1) (c.blks.drop (j + 1)) r.2.deep) := Lib.hid (by rw [HRN.out, if_neg hr])
                clear HRN
                go_wp2
                go_roundw
                case rel => exact ⟨j + 1, _, by omega, by go_num, HB5, HRN2⟩
                case measure => simp [intOf]; omega
            · have hh : hiF c j = (nI : Int) := by
                unfold hiF
                rw [if_neg (by rw [← HNB.out]; exact hn), ← HNI.out]
              rw [hh] at HLK
              have hn' : ¬ (j : Int) + 1 < (nB : Int) := by omega
              clear hh hn hjw
              go_wp2_with fail
              refine Calls.mono (HLK.out _ (wr.heap.size + 1) (by omega) ?_ ?_) ?_
              · exact ((Upd.refl [] wr).alloc _).alloc _
              · exact Blk.newAt (size_succ wr _)
              rintro e w5 ⟨rfl, hB5⟩
              have HB5 := Lib.hid hB5
              clear hB5 HLK
              by_cases hr : 0 ≤ r.1
              · have E9 : Hid (RR = ⟨[], r.1, 15⟩) := Lib.hid (by
                  rw [HR1.out, HRN.out, if_pos hr, if_pos hr])
                have hr' : ¬ r.1 < 0 := by omega
                clear HRN
                go_wp2
                go_ret3
                exact DepPost.of E9.out rfl (by simp) HB5.out.upd
              · have HRN2 : Hid (runF c 0 c.blks (List.replicate nI (-1)) = runF c (j + 1) (c.blks.drop (j + 1)) r.2.deep) := Lib.hid (by rw [HRN.out, if_neg hr])
                clear HRN
                go_wp2
                go_roundw
                case rel => exact ⟨j + 1, _, by omega, by go_num, HB5, HRN2⟩
                case measure => simp [intOf]; omega
          · obtain rfl : j = nB := by omega
            have E9 : Hid (RR = ⟨deep, 0, 0⟩) := Lib.hid (by
              rw [HR1.out, hRun.out, HNB.out, List.drop_length, runF, if_neg (by simp)])
            have HB9 := hB
            have HL9 := Lib.hid hB.out.len
            clear hRun hB
            go_wp2
            go_ret3
            exact DepPost.of E9.out (by rw [HL9.out]; rfl) (fun _ => ⟨D, rfl, HB9.out.row⟩) HB9.out.upd
end Go.Proofs.YtknbgbeepachgaaDoor

/-
  check.Check, check.Depths; the law's light and lives.
-/
namespace Go.Proofs.YtknbgbeepachgaaDoor
open Go.RowKit Go.Shelf

def ChkPost (w : World) (R : DepR) (e : Ending) (w' : World) : Prop := e = .returned (.tuple #[.int .i64 R.at', .int .i64 R.e]) ∧ Upd [] w w'
def Dep2Post (w : World) (R : DepR) (e : Ending) (w' : World) : Prop :=
  (∃ a cap, e = .returned (.tuple #[.slice a R.deep.length cap, .int .i64 R.e]) ∧ (0 < R.deep.length → ∃ D, a = some ⟨D, 0, none⟩ ∧ Blk w' D (R.deep.map (.int .i64)) 3)) ∧ Upd [] w w'
/-- A truth; where it is true, G. -/
def BoolIf (G : Prop) (w : World) (e : Ending) (w' : World) : Prop := (∃ r : Bool, e = .returned (.bool r) ∧ (r = true → G)) ∧ Upd [] w w'
set_option maxRecDepth 100000 in
set_option maxHeartbeats 1500000 in
theorem check_calls {w : World} {n : Nat} {aI aB aC : Option Addr} (cI cB cC : Nat) {c : CodeV} (h : IsC w n aI aB aC c) (hl : Lit' n c) (hT : Tabs w) :
    Calls Tryd.prog 8 #[.agg #[.slice aI c.ins.length cI, .slice aB c.blks.length cB, .slice aC c.cons.length cC]] w (ChkPost w (depthsF n c)) := by
  have hu1 : Upd [] w (w.alloc (.cells #[.slice aI c.ins.length cI, .slice aB c.blks.length cB, .slice aC c.cons.length cC] 26)) := (Upd.refl [] w).alloc _
  have HD := Lib.hid (depths_calls cI cB cC (h.upd hu1) hl (hT.upd hu1))
  have HU1 := Lib.hid hu1
  clear h hl hT hu1
  obtain ⟨RR, hRR⟩ : ∃ RR, RR = depthsF n c := ⟨_, rfl⟩
  rw [← hRR] at HD ⊢
  clear hRR
  generalize c.ins.length = nI at *
  generalize c.blks.length = nB at *
  generalize c.cons.length = nC at *
  go_enter Tryd.func8, Tryd.ntmps8
  go_wp2_with fail
  refine HD.out.mono ?_
  rintro e w2 ⟨⟨a, cap, rfl, _⟩, hu2⟩
  have HU2 := Lib.hid (HU1.out.then hu2)
  clear hu2 HD HU1
  go_wp2
  go_ret2
  exact ⟨rfl, HU2.out⟩
set_option maxRecDepth 100000 in
set_option maxHeartbeats 1500000 in
theorem depths2_calls {w : World} {n : Nat} {aI aB aC : Option Addr} (cI cB cC : Nat) {c : CodeV} (h : IsC w n aI aB aC c) (hl : Lit' n c) (hT : Tabs w) :
    Calls Tryd.prog 11 #[.agg #[.slice aI c.ins.length cI, .slice aB c.blks.length cB, .slice aC c.cons.length cC]] w (Dep2Post w (depthsF n c)) := by
  have hu1 : Upd [] w (w.alloc (.cells #[.slice aI c.ins.length cI, .slice aB c.blks.length cB, .slice aC c.cons.length cC] 26)) := (Upd.refl [] w).alloc _
  have HD := Lib.hid (depths_calls cI cB cC (h.upd hu1) hl (hT.upd hu1))
  have HU1 := Lib.hid hu1
  clear h hl hT hu1
  obtain ⟨RR, hRR⟩ : ∃ RR, RR = depthsF n c := ⟨_, rfl⟩
  rw [← hRR] at HD ⊢
  clear hRR
  generalize c.ins.length = nI at *
  generalize c.blks.length = nB at *
  generalize c.cons.length = nC at *
  go_enter Tryd.func11, Tryd.ntmps11
  go_wp2_with fail
  refine HD.out.mono ?_
  rintro e w2 ⟨⟨a, cap, rfl, hb⟩, hu2⟩
  have HU2 := Lib.hid (HU1.out.then hu2)
  have HB := Lib.hid hb
  clear hu2 HD HU1 hb
  go_wp2
  go_ret2
  exact ⟨⟨a, cap, rfl, HB.out⟩, HU2.out⟩
set_option maxRecDepth 100000 in
set_option maxHeartbeats 1500000 in
theorem light16_calls {w : World} {n : Nat} {aI aB aC : Option Addr} (cI cB cC : Nat) {c : CodeV} (h : IsC w n aI aB aC c) :
    Calls Tryd.prog 6 #[.agg #[.slice aI c.ins.length cI, .slice aB c.blks.length cB, .slice aC c.cons.length cC]] w (BoolIf (c.ins.length ≤ 300 ∧ c.blks.length ≤ 60 ∧ Lit' n c) w) := by
  have hBx : Blk (w.alloc (.cells #[.slice aI c.ins.length cI, .slice aB c.blks.length cB, .slice aC c.cons.length cC] 26)) w.heap.size [.slice aI c.ins.length cI, .slice aB c.blks.length cB, .slice aC c.cons.length cC] 26 := Blk.newAt rfl
  have hu1 : Upd [] w (w.alloc (.cells #[.slice aI c.ins.length cI, .slice aB c.blks.length cB, .slice aC c.cons.length cC] 26)) := (Upd.refl [] w).alloc _
  have HC := Lib.hid h.cons
  have HBX := Lib.hid hBx
  have HU1 := Lib.hid hu1
  obtain ⟨G, hG⟩ : ∃ G : Prop, G = (c.ins.length ≤ 300 ∧ c.blks.length ≤ 60 ∧ Lit' n c) := ⟨_, rfl⟩
  have hG2 : c.ins.length ≤ 300 → c.blks.length ≤ 60 → c.cons.length ≤ 40 → (∀ i, i < c.cons.length → szN n (c.cons.getD i default) ≤ 100000 ∧ dpN n (c.cons.getD i default) ≤ 10000) → G := by
    intro h1 h2 h3 h4
    rw [hG]
    refine ⟨h1, h2, by omega, by omega, by omega, fun d hd => ?_⟩
    obtain ⟨i, hi, rfl⟩ := List.getElem_of_mem hd
    have := h4 i hi
    rwa [List.getD_eq_getElem?_getD, List.getElem?_eq_getElem hi] at this
  rw [← hG]
  have HG := Lib.hid hG2
  obtain ⟨m, hm⟩ : ∃ m, m = c.cons.length := ⟨_, rfl⟩
  have HM := Lib.hid hm
  rw [← hm] at HG HBX HU1 ⊢
  clear h hBx hu1 hG hG2 hm
  generalize c.ins.length = nI at *
  generalize c.blks.length = nB at *
  generalize c.cons = ds at *
  go_enter Tryd.func6, Tryd.ntmps6
  by_cases h1 : (300 : Int) < (nI : Int)
  · clear HG
    go_wp2
    go_ret
    exact ⟨⟨_, rfl, by simp⟩, HU1.out⟩
  by_cases h2 : (60 : Int) < (nB : Int)
  · clear HG
    go_wp2
    go_ret
    exact ⟨⟨_, rfl, by simp⟩, HU1.out⟩
  by_cases h3 : (40 : Int) < (m : Int)
  · clear HG
    go_wp2
    go_ret
    exact ⟨⟨_, rfl, by simp⟩, HU1.out⟩
  have HG3 := Lib.hid (HG.out (by omega) (by omega) (by omega))
  clear HG
  have hm40 : m ≤ 40 := by omega
  go_wp2_with fail
  go_loopw [24] (fun i wr => ∃ j : Nat, j ≤ m ∧ i = .int .i64 j ∧ Hid (∀ i, i < j → szN n (ds.getD i default) ≤ 100000 ∧ dpN n (ds.getD i default) ≤ 10000) ∧ Hid (Upd [] w wr)) (fun i _ => m - (intOf i).toNat)
  case atStart => exact ⟨0, by omega, rfl, Lib.hid (fun i hi => by omega), HU1⟩
  case round =>
    obtain ⟨j, hj, rfl, hA, hU⟩ := hrel
    by_cases hlt : j < m
    · obtain ⟨b, o, cs, rfl, _, hat, hd0⟩ := HC.out j (by rw [← HM.out]; exact hlt)
      obtain ⟨k1, n1, a1, l1, p1, b1, s1, i1, m1, d1, t1, o1, q1, rfl⟩ := hd0.shaped
      obtain ⟨x0, x1, x2, x3, x4, x5, x6⟩ := (hat.upd hU.out (by simp)).cells
      have HA1 : Hid (szN n (ds.getD j default) ≤ 100 ∧ dpN n (ds.getD j default) ≤ 40 → ∀ i, i < j + 1 → szN n (ds.getD i default) ≤ 100000 ∧ dpN n (ds.getD i default) ≤ 10000) := Lib.hid (fun h i hi => by
        by_cases hij : i < j
        · exact hA.out i hij
        · rw [show i = j by omega]
          omega)
      obtain ⟨x, hx⟩ : ∃ x, x = ds.getD j default := ⟨_, rfl⟩
      rw [← hx] at hd0 HA1
      clear hx
      have hlb := World.block_lt_of_cell? wr _ x0
      simp only at hlb
      have hu2 : Upd [] wr (wr.alloc (.cells #[.int .i64 k1, .bool n1, .slice a1 l1 p1, .bool b1, .string s1, .slice i1 m1 d1, .slice t1 o1 q1] 56)) := (Upd.refl [] wr).alloc _
      have hb2 : Blk (wr.alloc (.cells #[.int .i64 k1, .bool n1, .slice a1 l1 p1, .bool b1, .string s1, .slice i1 m1 d1, .slice t1 o1 q1] 56)) wr.heap.size [.int .i64 k1, .bool n1, .slice a1 l1 p1, .bool b1, .string s1, .slice i1 m1 d1, .slice t1 o1 q1] 56 := Blk.newAt rfl
      have hS := small_calls (hd0.upd (hU.out.then hu2)) 100 40 (by omega) (by omega) (by omega) (by omega)
      have hbs := budN_some n x 100 40
      have HS := Lib.hid hS
      have HBS := Lib.hid hbs
      have HB2 := Lib.hid hb2
      have HU2 := Lib.hid (hU.out.then hu2)
      unfold datCells at HS
      clear hS hbs hat hd0 hb2 hu2
      generalize budN n x 100 40 = r at *
      go_wp2_with fail
      refine HS.out.mono ?_
      rintro e w3 ⟨rfl, hu3⟩
      have y2 := (hu3.blk HB2.out (by simp)).cell_some (i := 2) rfl
      have HU3 := Lib.hid (HU2.out.then hu3)
      clear hu3 HS HB2 HU2 x0 x1 x2 x3 x4 x5 x6
      by_cases hr : 0 ≤ r
      · have hr' : decide (0 ≤ r) = true := decide_eq_true hr
        obtain ⟨e1, e2⟩ := HBS.out hr
        have HA2 := Lib.hid (HA1.out ⟨by omega, by omega⟩)
        clear HA1 HBS e1 e2
        by_cases hl : (70 : Int) < (l1 : Int)
        · go_wp2
          go_ret
          exact ⟨⟨_, rfl, by simp⟩, HU3.out⟩
        · go_wp2
          go_roundw
          case rel => exact ⟨j + 1, by omega, by go_num, HA2, HU3⟩
          case measure => simp [intOf]; omega
      · have hr' : decide (0 ≤ r) = false := decide_eq_false hr
        clear HA1 HBS
        go_wp2
        go_ret
        exact ⟨⟨_, rfl, by simp⟩, HU3.out⟩
    · obtain rfl : j = m := by omega
      have HG4 := Lib.hid (HG3.out hA.out)
      go_wp2
      go_ret
      exact ⟨⟨_, rfl, fun _ => HG4.out⟩, hU.out⟩
end Go.Proofs.YtknbgbeepachgaaDoor

/-
  The law's lives.
-/
namespace Go.Proofs.YtknbgbeepachgaaDoor
set_option linter.unusedVariables false
open Go.RowKit Go.Shelf

theorem flat_at {α : Type} {k : Nat} {f : α → List Value} (hf : ∀ x, (f x).length = k) : ∀ (xs : List α) (i j : Nat), i < xs.length → j < k → (xs.flatMap f)[i * k + j]? = (xs[i]?.map f).bind (·[j]?)
  | [], i, j, hi, _ => by simp at hi
  | x :: xs, 0, j, _, hj => by
    rw [List.flatMap_cons, Nat.zero_mul, Nat.zero_add, List.getElem?_append_left (by rw [hf]; exact hj)]
    rfl
  | x :: xs, i + 1, j, hi, hj => by
    rw [List.flatMap_cons, List.getElem?_append_right (by rw [hf, Nat.succ_mul]; omega), hf, show (i + 1) * k + j - k = i * k + j by rw [Nat.succ_mul]; omega]
    rw [flat_at hf xs i j (by simpa using hi) hj]
    rfl
theorem rowK_cells {α : Type} {w : World} {k b : Nat} {f : α → List Value} {xs : List α} (hf : ∀ x, (f x).length = k) (h : ∀ i v, (xs.flatMap f)[i]? = some v → w.cell? ⟨b, i, none⟩ = some v) : RowK w k f (some ⟨b, 0, none⟩) xs := by
  intro i x hi
  refine ⟨b, 0, rfl, fun j hj => ?_⟩
  have hlt := (List.getElem?_eq_some_iff.1 hi).1
  have e := flat_at hf xs i j hlt hj
  rw [hi] at e
  have e2 : (xs.flatMap f)[i * k + j]? = (f x)[j]? := e
  obtain ⟨v, hv⟩ : ∃ v, (f x)[j]? = some v := ⟨_, List.getElem?_eq_getElem (by rw [hf]; exact hj)⟩
  rw [hv] at e2 ⊢
  rw [Nat.zero_add]
  exact h _ _ e2
theorem rowK_blk {α : Type} {w : World} {k b : Nat} {t : TypeId} {f : α → List Value} {xs : List α} (hf : ∀ x, (f x).length = k) (h : Blk w b (xs.flatMap f) t) : RowK w k f (some ⟨b, 0, none⟩) xs :=
  rowK_cells hf fun i v hv => h.cell_some hv
theorem rowK_own {α : Type} {w : World} {k base g n cap : Nat} {t : TypeId} {f : α → List Value} {xs : List α} (hf : ∀ x, (f x).length = k) (h : w.ownsRow base t k (.slice (some ⟨g, 0, none⟩) n cap) n (xs.flatMap f)) : RowK w k f (some ⟨g, 0, none⟩) xs :=
  rowK_cells hf fun i v hv => by
    have := h.cells (g := g) rfl i v hv
    rwa [show (⟨g, 0, none⟩ : Addr).add i = ⟨g, 0 + i, none⟩ by unfold Addr.add; split <;> simp_all, Nat.zero_add] at this
def exD : Dat := .mk 1 false [] false ByteArray.empty [] []
def ex1 : CodeV := ⟨[⟨1, 0, 0⟩, ⟨12, 0, 0⟩, ⟨12, 0, 0⟩], [⟨0, 0, false, 0, 1, 0⟩], [exD]⟩
def ex2 : CodeV := ⟨[⟨1, 0, 0⟩, ⟨12, 0, 0⟩, ⟨1, 0, 0⟩, ⟨11, 0, 0⟩], [⟨0, 0, false, 0, 1, 0⟩], [exD]⟩
theorem ex1_said : (depthsF 1 ex1).at' = 2 ∧ (depthsF 1 ex1).e = 15 := by decide +kernel
theorem ex2_said : (depthsF 1 ex2).at' = 0 ∧ (depthsF 1 ex2).e = 0 := by decide +kernel
theorem ex1_lit : Lit' 1 ex1 := ⟨by decide, by decide, by decide, by decide +kernel⟩
theorem ex2_lit : Lit' 1 ex2 := ⟨by decide, by decide, by decide, by decide +kernel⟩
theorem exD_is {w : World} : IsD w (fun _ => True) 1 [.int .i64 1, .bool false, .slice none 0 0, .bool false, .string ⟨#[]⟩, .slice none 0 0, .slice none 0 0] exD :=
  ⟨none, 0, none, 0, none, 0, rfl, fun i hi => absurd hi (by simp [exD, Dat.limbs]), fun i hi => absurd hi (by simp [exD, Dat.items]), fun i hi => absurd hi (by simp [exD, Dat.tail]), by simp [exD, Dat.limbs, Dat.items, Dat.tail], by simp [exD, Dat.kind], by simp [exD, Dat.limbs], by simp [exD, Dat.limbs], by show ByteArray.empty.size ≤ 140737488351232; decide, by simp [exD, Dat.items], by simp [exD, Dat.tail]⟩
theorem exC {w : World} {g1 g2 : Nat} {aI : Option Addr} {c : CodeV} (hc : c.blks = [⟨0, 0, false, 0, 1, 0⟩] ∧ c.cons = [exD] ∧ (∀ x ∈ c.ins, I64 x.op ∧ I64 x.a ∧ I64 x.b) ∧ c.ins.length ≤ 100) (hI : InsAt w aI c.ins) (hB : Blk w g1 [.int .i64 0, .int .i64 0, .bool false, .int .i64 0, .int .i64 1, .int .i64 0] 45)
    (hD : Blk w g2 [.int .i64 1, .bool false, .slice none 0 0, .bool false, .string ⟨#[]⟩, .slice none 0 0, .slice none 0 0] 56) : IsC w 1 aI (some ⟨g1, 0, none⟩) (some ⟨g2, 0, none⟩) c := by
  obtain ⟨h1, h2, h3, h4⟩ := hc
  refine ⟨hI, ?_, ?_, h3, ?_, by omega, by rw [h1]; simp, by rw [h2]; simp⟩
  · rw [h1]
    exact rowK_blk (fun _ => rfl) hB
  · rw [h2]
    exact row1 exD_is hD
  · rw [h1]
    intro x hx
    rw [List.mem_singleton] at hx
    subst hx
    decide
theorem own_of_blk {w : World} {base g n k : Nat} {t : TypeId} {cs : List Value} (h : Blk w g cs t) (hb : base ≤ g) (hl : cs.length = n * k) (hn : n ≤ 1000000) : w.ownsRow base t k (.slice (some ⟨g, 0, none⟩) n n) n cs :=
  ⟨hl, .inr ⟨g, n, cs.toArray, rfl, hb, h, Nat.le_refl _, by unfold maxLen; omega, by simpa using hl, by rw [← hl]; simp⟩⟩
theorem own_form {w : World} {base k n : Nat} {t : TypeId} {v : Value} {xs : List Value} (h : w.ownsRow base t k v (n + 1) xs) : ∃ g cap, v = .slice (some ⟨g, 0, none⟩) (n + 1) cap := by
  rcases h.2 with ⟨_, h0⟩ | ⟨g, cap, cur, rfl, _⟩
  · omega
  · exact ⟨g, cap, rfl⟩
theorem info_ins : (Tryd.prog.info? 47).map (fun i => (i.zero, i.size, i.bytes)) = some (some (.agg #[.int .i64 0, .int .i64 0, .int .i64 0]), 3, 24) := by kernel_rfl
set_option maxRecDepth 100000 in
set_option maxHeartbeats 3000000 in
theorem lives16_calls {w : World} (hT : Tabs w) : Calls Tryd.prog 7 #[] w fun e w' => e = .returned (.bool true) ∧ Upd [] w w' := by
  have HT := Lib.hid hT
  clear hT
  go_enter Tryd.func7, Tryd.ntmps7
  go_wp2_with fail
  obtain ⟨W1, hW1⟩ : ∃ W1, W1 = ((((w.alloc (.cells #[.int .i64 1, .int .i64 0, .int .i64 0, .int .i64 12, .int .i64 0, .int .i64 0, .int .i64 12, .int .i64 0, .int .i64 0] 47)).alloc (.cells #[.int .i64 0, .int .i64 0, .bool false, .int .i64 0, .int .i64 1, .int .i64 0] 45)).alloc (.cells #[.int .i64 1, .bool false, .slice none 0 0, .bool false, .string ⟨#[]⟩, .slice none 0 0, .slice none 0 0] 56)).alloc (.cells #[.slice (some ⟨w.heap.size, 0, none⟩) 3 3, .slice (some ⟨w.heap.size + 1, 0, none⟩) 1 1, .slice (some ⟨w.heap.size + 1 + 1, 0, none⟩) 1 1] 26)) := ⟨_, rfl⟩
  have hu1 : Upd [] w W1 := by
    rw [hW1]
    exact ((((Upd.refl [] w).alloc _).alloc _).alloc _).alloc _
  have hA1 : Blk W1 w.heap.size [.int .i64 1, .int .i64 0, .int .i64 0, .int .i64 12, .int .i64 0, .int .i64 0, .int .i64 12, .int .i64 0, .int .i64 0] 47 := by
    rw [hW1]
    exact (((Blk.newAt rfl).alloc _).alloc _).alloc _
  have hB1 : Blk W1 (w.heap.size + 1) [.int .i64 0, .int .i64 0, .bool false, .int .i64 0, .int .i64 1, .int .i64 0] 45 := by
    rw [hW1]
    exact ((Blk.newAt (by simp)).alloc _).alloc _
  have hC1 : Blk W1 (w.heap.size + 1 + 1) [.int .i64 1, .bool false, .slice none 0 0, .bool false, .string ⟨#[]⟩, .slice none 0 0, .slice none 0 0] 56 := by
    rw [hW1]
    exact (Blk.newAt (by simp)).alloc _
  have hX1 : Blk W1 (w.heap.size + 1 + 1 + 1) [.slice (some ⟨w.heap.size, 0, none⟩) 3 3, .slice (some ⟨w.heap.size + 1, 0, none⟩) 1 1, .slice (some ⟨w.heap.size + 1 + 1, 0, none⟩) 1 1] 26 := by
    rw [hW1]
    exact Blk.newAt (by simp)
  rw [← hW1]
  have hck := check_calls 3 1 1 (exC (aI := some ⟨w.heap.size, 0, none⟩) (c := ex1) ⟨rfl, rfl, by decide, by decide⟩ (rowK_blk (fun _ => rfl) hA1) hB1 hC1) ex1_lit (HT.out.upd hu1)
  have HCK := Lib.hid hck
  have HU1 := Lib.hid hu1
  have HA1 := Lib.hid hA1
  have HB1 := Lib.hid hB1
  have HC1 := Lib.hid hC1
  have HX1 := Lib.hid hX1
  clear hck hu1 hA1 hB1 hC1 hX1 hW1
  refine HCK.out.mono ?_
  rintro e w2 ⟨rfl, hu2⟩
  rw [ex1_said.1, ex1_said.2]
  have HU2 := Lib.hid (HU1.out.then hu2)
  have HA2 := Lib.hid (hu2.blk HA1.out (by simp))
  have HB2 := Lib.hid (hu2.blk HB1.out (by simp))
  have HC2 := Lib.hid (hu2.blk HC1.out (by simp))
  have HX2 := Lib.hid (hu2.blk HX1.out (by simp))
  clear hu2 HCK HU1 HA1 HB1 HC1 HX1
  have a6 := HA2.out.cell_some (i := 6) rfl
  have a7 := HA2.out.cell_some (i := 7) rfl
  have a8 := HA2.out.cell_some (i := 8) rfl
  have f6 := HA2.out.free 6
  have f7 := HA2.out.free 7
  have f8 := HA2.out.free 8
  have x0 := HX2.out.cell_some (i := 0) rfl
  have x1 := HX2.out.cell_some (i := 1) rfl
  have x2 := HX2.out.cell_some (i := 2) rfl
  have fx := HX2.out.free 0
  have n1 : ¬ w.heap.size + 1 + 1 + 1 = w.heap.size := by omega
  have n2 : ¬ w.heap.size = w.heap.size + 1 + 1 + 1 := by omega
  obtain ⟨W3, hW3⟩ : ∃ W3, W3 = ((w2.setCell ⟨w.heap.size, 6, none⟩ (.int .i64 1)).setCell ⟨w.heap.size, 7, none⟩ (.int .i64 0)).setCell ⟨w.heap.size, 8, none⟩ (.int .i64 0) := ⟨_, rfl⟩
  have hA3 : Blk W3 w.heap.size [.int .i64 1, .int .i64 0, .int .i64 0, .int .i64 12, .int .i64 0, .int .i64 0, .int .i64 1, .int .i64 0, .int .i64 0] 47 := by
    rw [hW3]
    exact ((HA2.out.set 6 (.int .i64 1)).set 7 (.int .i64 0)).set 8 (.int .i64 0)
  have hu3 : Upd [w.heap.size] w2 W3 := by
    rw [hW3]
    exact (((Upd.refl [w.heap.size] w2).setCell _ (.inl (by simp))).setCell _ (.inl (by simp))).setCell _ (.inl (by simp))
  have hW4 : Upd [w.heap.size] w2 (W3.alloc (.cells #[.int .i64 11, .int .i64 0, .int .i64 0] 47)) := hu3.alloc _
  have hO4 := own_of_blk (base := w.heap.size) (n := 3) (k := 3) (hA3.alloc (.cells #[.int .i64 11, .int .i64 0, .int .i64 0] 47)) (Nat.le_refl _) rfl (by omega)
  have hZ4 : Blk (W3.alloc (.cells #[.int .i64 11, .int .i64 0, .int .i64 0] 47)) W3.heap.size [.int .i64 11, .int .i64 0, .int .i64 0] 47 := Blk.newAt rfl
  have hs3 : W3.heap.size = w2.heap.size := by rw [hW3]; simp
  have hw23 : w.heap.size ≤ w2.heap.size := HU2.out.size
  rw [hW3] at hO4 hZ4 hW4
  rw [show (((w2.setCell ⟨w.heap.size, 6, none⟩ (.int .i64 1)).setCell ⟨w.heap.size, 7, none⟩ (.int .i64 0)).setCell ⟨w.heap.size, 8, none⟩ (.int .i64 0)).heap.size = w2.heap.size by simp] at hZ4
  have HX4 := Lib.hid (hW4.blk HX2.out (fun h => by have := List.mem_singleton.1 h; omega))
  have HB4 := Lib.hid (hW4.blk HB2.out (fun h => by have := List.mem_singleton.1 h; omega))
  have HC4 := Lib.hid (hW4.blk HC2.out (fun h => by have := List.mem_singleton.1 h; omega))
  have HO4 := Lib.hid hO4
  have HZ4 := Lib.hid hZ4
  have HW4 := Lib.hid hW4
  clear hA3 hu3 hW4 hO4 hZ4 hs3 hW3
  obtain ⟨i0, hi, hz0, hz1, hz2⟩ := info_parts info_ins
  go_wp2_with (at_builtin; refine wpList_append_own_at _ rfl _ _ 22 rfl w.heap.size 47 i0 _ 3 24 Tryd.underlying22 hi hz0 hz1 hz2 rfl (by decide) _ 3 _ rfl HO4.out ⟨w2.heap.size, 0, none⟩ 1 1 [.int .i64 11, .int .i64 0, .int .i64 0] rfl rfl (World.news_of_block HZ4.out) (by simp [Value.oneCell']) (by unfold maxLen; omega) (by omega) (by simp; omega) ?_; intro v9 w9 hO9 hg9 _ hb9; obtain ⟨g9, cap9, rfl⟩ := own_form (n := 3) hO9; have hX9 := HX4.out.of_eq (hg9.block _ HX4.out.lt (fun e => by have e2 : w.heap.size + 1 + 1 + 1 = w.heap.size := Option.some.inj e; omega)); have y0 := hX9.cell_some (i := 0) rfl; have y1 := hX9.cell_some (i := 1) rfl; have y2 := hX9.cell_some (i := 2) rfl; have fy := hX9.free 0)
  have hW9 : Upd [] w w9 := by
    have h1 : Upd [] w w2 := HU2.out
    have h2 := HW4.out
    have hg8 : World.grownBy _ w9 (some w.heap.size) := hg9
    have h3 : Upd [w.heap.size] _ w9 := Upd.of_grown hg8 (fun k hk => by rw [Option.some.inj hk]; simp)
    exact (h1.onto h2 (fun x hx => by rw [List.mem_singleton.1 hx]; exact Nat.le_refl _)).onto h3 (fun x hx => by rw [List.mem_singleton.1 hx]; exact Nat.le_refl _)
  have hB9 := HB4.out.of_eq (hg9.block _ HB4.out.lt (fun e => by have e2 : w.heap.size + 1 = w.heap.size := Option.some.inj e; omega))
  have hC9 := HC4.out.of_eq (hg9.block _ HC4.out.lt (fun e => by have e2 : w.heap.size + 1 + 1 = w.heap.size := Option.some.inj e; omega))
  have hsz4 := HX4.out.lt
  have hu10 : Upd [w.heap.size + 1 + 1 + 1] w9 (w9.setCell ⟨w.heap.size + 1 + 1 + 1, 0, none⟩ (.slice (some ⟨g9, 0, none⟩) 4 cap9)) := (Upd.refl _ w9).setCell _ (.inl (by simp))
  have hgn : g9 ≠ w.heap.size + 1 + 1 + 1 := by
    rcases hb9 with h | h
    · have e : g9 = w.heap.size := Option.some.inj h
      omega
    · have e : g9 = _ := Option.some.inj h
      omega
  have hO10 := own_upd hO9 hu10 (fun g hg => by
    have e : g9 = g := by simpa [Value.ownBlock] using hg
    subst e
    simpa using hgn)
  have hck := check_calls cap9 1 1 (exC (aI := some ⟨g9, 0, none⟩) (c := ex2) ⟨rfl, rfl, by decide, by decide⟩ (rowK_own (fun _ => rfl) hO10) (hu10.blk hB9 (fun h => by have := List.mem_singleton.1 h; omega)) (hu10.blk hC9 (fun h => by have := List.mem_singleton.1 h; omega))) ex2_lit (HT.out.upd (hW9.onto hu10 (fun x hx => by rw [List.mem_singleton.1 hx]; omega)))
  have HCK := Lib.hid hck
  have HW10 := Lib.hid (hW9.onto hu10 (fun x hx => by rw [List.mem_singleton.1 hx]; omega))
  clear hck hO9 hg9 hb9 hX9 y0 y1 y2 fy hW9 hB9 hC9 hu10 hO10
  refine HCK.out.mono ?_
  rintro e w11 ⟨rfl, hu11⟩
  rw [ex2_said.1, ex2_said.2]
  have HU11 := Lib.hid (HW10.out.then hu11)
  clear hu11 HCK HW10
  go_wp2
  go_ret
  exact ⟨rfl, HU11.out⟩
end Go.Proofs.YtknbgbeepachgaaDoor
