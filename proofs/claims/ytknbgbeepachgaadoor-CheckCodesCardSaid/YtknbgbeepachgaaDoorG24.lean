/-
  Texts of this claim, merged: RcK, RcL. Lemmas and contracts; no conditions of our own.
-/
import Derived.Test.YtknbgbeepachgaaDoorG18
import Derived.Test.YtknbgbeepachgaaDoorG20
import Derived.Test.YtknbgbeepachgaaDoorG23

/-
  CheckCodes, the document's side: Depths, Check.
-/
namespace Go.Proofs.YtknbgbeepachgaaDoor
open Go.RowKit Go.Shelf

/-- How the document's Depths stands ahead of the j-th block. -/
structure RRel (w W0 : World) (base F D nD X : Nat) (cells : List Value) (c : CodeV) (j : Nat) (deep : List Int) (W : World) : Prop where
  S : RS W base F D nD ⟨deep, [], false⟩
  rng : ∀ i, i < nD → -1 ≤ deep.getD i 0 ∧ deep.getD i 0 ≤ 100000
  neg : ∀ i : Nat, j < c.blks.length → (c.blks.getD j default).lo ≤ i → i < nD → deep.getD i 0 < 0
  box : Blk W X cells 37
  upd : Upd [F, D] W0 W
  upd0 : Upd [] w W
set_option maxRecDepth 100000 in
set_option maxHeartbeats 4000000 in
theorem rdepths_calls {w : World} {n : Nat} {aI aB aC : Option Addr} (cI cB cC : Nat) {c : CodeV} (h : IsC w n aI aB aC c) (hl : Lit' n c) :
    Calls Tryd.prog 12 #[.agg #[.slice aI c.ins.length cI, .slice aB c.blks.length cB, .slice aC c.cons.length cC]] w (DepPost w (depthsF n c)) := by
  have hBx : Blk (w.alloc (.cells #[.slice aI c.ins.length cI, .slice aB c.blks.length cB, .slice aC c.cons.length cC] 37)) w.heap.size [.slice aI c.ins.length cI, .slice aB c.blks.length cB, .slice aC c.cons.length cC] 37 := Blk.newAt rfl
  have hu1 : Upd [] w (w.alloc (.cells #[.slice aI c.ins.length cI, .slice aB c.blks.length cB, .slice aC c.cons.length cC] 37)) := (Upd.refl [] w).alloc _
  have HSH := Lib.hid (rshape_calls cI cB cC (h.upd hu1) hl)
  obtain ⟨RR, hRR⟩ : ∃ RR, RR = depthsF n c := ⟨_, rfl⟩
  rw [← hRR]
  unfold depthsF at hRR
  have hnI := hl.nI
  have hnB := hl.nB
  have hOK : shapeF n c = true → CodeOk c ∧ BlksIn c ∧ ∀ j, j < c.blks.length → (c.blks.getD j default).lo < hiF c j := fun hs => ⟨CodeOk.of (n := n) (by unfold shapeF at hs; simp only [Bool.and_eq_true] at hs; exact hs.1.1), shape_blks hs, fun j hj => hi_above hs hj⟩
  have H := Lib.hid h
  have HR := Lib.hid hRR
  have HOK := Lib.hid hOK
  have HBX := Lib.hid hBx
  have HU1 := Lib.hid hu1
  obtain ⟨sh, hsh⟩ : ∃ sh, sh = shapeF n c := ⟨_, rfl⟩
  rw [← hsh] at HSH HR HOK
  clear h hl hBx hu1 hRR hOK hsh
  obtain ⟨nI, hI⟩ : ∃ nI, nI = c.ins.length := ⟨_, rfl⟩
  obtain ⟨nB, hB⟩ : ∃ nB, nB = c.blks.length := ⟨_, rfl⟩
  obtain ⟨nC, hC⟩ : ∃ nC, nC = c.cons.length := ⟨_, rfl⟩
  rw [← hI, ← hB, ← hC] at HSH HBX HU1 ⊢
  rw [← hI] at hnI HR
  rw [← hB] at hnB HOK
  have HNI := Lib.hid hI
  have HNB := Lib.hid hB
  have HNC := Lib.hid hC
  clear hI hB hC
  go_enter Tryd.func12, Tryd.ntmps12
  go_wp2_with fail
  refine HSH.out.mono ?_
  rintro e w2 ⟨rfl, hu2⟩
  have HBX2 := Lib.hid (hu2.blk HBX.out (by simp))
  have HU2 := Lib.hid (HU1.out.then hu2)
  have x0 := HBX2.out.cell_some (i := 0) rfl
  have x1 := HBX2.out.cell_some (i := 1) rfl
  clear hu2 HSH HBX HU1
  cases sh with
  | false =>
    have E9 : Hid (RR = ⟨[], -1, 15⟩) := Lib.hid (by rw [HR.out]; rfl)
    clear HR HOK
    go_wp2
    go_ret3
    exact DepPost.of E9.out rfl (by simp) HU2.out
  | true =>
    have HR1 : Hid (RR = if 0 ≤ (runF c 0 c.blks (List.replicate nI (-1))).1 then ⟨[], (runF c 0 c.blks (List.replicate nI (-1))).1, 15⟩ else ⟨(runF c 0 c.blks (List.replicate nI (-1))).2, 0, 0⟩) := Lib.hid (by rw [HR.out]; rfl)
    have HOK1 := Lib.hid (HOK.out rfl)
    clear HR HOK
    obtain ⟨i0, hi, hz0, hz1, hz2⟩ := info_parts info_int
    go_wp2_with (refine wpList_make_full _ rfl (.tmp 14) (.tmp 14) 39 rfl w2.heap.size 3 i0 _ 1 Tryd.underlying39 hi hz0 hz1 .i64 .i64 (nI : Int) (nI : Int) nI rfl rfl rfl rfl (by rw [hz2]; omega) (by unfold maxLen; omega) (Nat.le_refl _) ?_; intro w3 hO3 hg3)
    have hB3 : Blk w3 w2.heap.size ((List.replicate nI (0 : Int)).map (.int .i64)) 3 := by
      have h := row_blk hO3
      rw [show (Value.int IntKind.i64 0).cells = #[.int .i64 0] from rfl, toList_madeCells_one, Nat.mul_one] at h
      rwa [List.map_replicate]
    have hu3 : Upd [] w2 w3 := Upd.of_grown hg3 (by simp)
    have hwD : w.heap.size < w2.heap.size := HBX2.out.lt
    have hDF : w2.heap.size < w3.heap.size := hB3.lt
    have hu4 : Upd [] w3 (w3.alloc (.cells #[.slice (some ⟨w2.heap.size, 0, none⟩) nI nI, .slice none 0 0, .bool false] 65)) := (Upd.refl [] w3).alloc _
    have HB4 := Lib.hid (hu4.blk hB3 (by simp))
    have HX4 := Lib.hid (hu4.blk (hu3.blk HBX2.out (by simp)) (by simp))
    have HF4 : Hid (Blk (w3.alloc (.cells #[.slice (some ⟨w2.heap.size, 0, none⟩) nI nI, .slice none 0 0, .bool false] 65)) w3.heap.size [.slice (some ⟨w2.heap.size, 0, none⟩) nI nI, .slice none 0 0, .bool false] 65) := Lib.hid (Blk.newAt rfl)
    have HU4 := Lib.hid ((HU2.out.then hu3).then hu4)
    have hsz : (w3.alloc (.cells #[.slice (some ⟨w2.heap.size, 0, none⟩) nI nI, .slice none 0 0, .bool false] 65)).heap.size = w3.heap.size + 1 := by simp
    obtain ⟨D, hD⟩ : ∃ D, D = w2.heap.size := ⟨_, rfl⟩
    obtain ⟨F, hF⟩ : ∃ F, F = w3.heap.size := ⟨_, rfl⟩
    rw [← hD] at HB4 HX4 HF4 HU4 hsz hwD hDF ⊢
    rw [← hF] at HF4 hDF hsz
    clear hO3 hg3 hB3 hu3 hu4 HU2 HBX2 x0 x1 hi hz0 hz1 hz2 hD
    go_upto_region 4 with (fail)
    rw [← hF]
    clear hF
    generalize (w3.alloc (.cells #[.slice (some ⟨D, 0, none⟩) nI nI, .slice none 0 0, .bool false] 65)) = W0 at *
    obtain ⟨X, hX⟩ : ∃ X, X = w.heap.size := ⟨_, rfl⟩
    rw [← hX] at HX4 hwD ⊢
    have HXW := Lib.hid hX
    clear hX
    have f0 := HF4.out.cell_some (i := 0) rfl
    go_upto_block 0 with (fail)
    go_wp2_with fail
    go_loopw [23] (fun i wr => ∃ (j : Nat) (xs : List Int), j ≤ nI ∧ i = .int .i64 j ∧ Hid (Blk wr D (xs.map (.int .i64)) 3) ∧ Hid (xs.length = nI) ∧ Hid (∀ i, i < j → xs.getD i 0 = -1) ∧ Hid (Blk wr X [.slice aI nI cI, .slice aB nB cB, .slice aC nC cC] 37) ∧ Hid (Blk wr F [.slice (some ⟨D, 0, none⟩) nI nI, .slice none 0 0, .bool false] 65) ∧ Hid (Upd [] w wr) ∧ Hid (F + 1 ≤ wr.heap.size)) (fun i _ => nI - (intOf i).toNat)
    case atStart => exact ⟨0, List.replicate nI 0, by omega, rfl, HB4, Lib.hid (by simp), Lib.hid (fun i hi => by omega), HX4, HF4, HU4, Lib.hid (by omega)⟩
    case round =>
      obtain ⟨j, xs, hj, rfl, hB, hL, hA, hX, hF, hU, hZ⟩ := hrel
      by_cases hlt : j < nI
      · have cD : wr.cell? ⟨D, j, none⟩ = some (.int .i64 (xs.getD j 0)) := hB.out.cell_some (by rw [map_int_get, List.getElem?_eq_getElem (by rw [hL.out]; exact hlt)]; simp [List.getD_eq_getElem?_getD, show j < xs.length by rw [hL.out]; exact hlt])
        have fD := hB.out.free j
        have f0 := hF.out.cell_some (i := 0) rfl
        have hXW := HXW.out
        have HB4 : Hid (Blk (wr.setCell ⟨D, j, none⟩ (.int .i64 (-1))) D ((xs.set j (-1)).map (.int .i64)) 3) := Lib.hid (by
          rw [← map_int_set]
          exact hB.out.set j _)
        have HL4 : Hid ((xs.set j (-1)).length = nI) := Lib.hid (by rw [List.length_set]; exact hL.out)
        have HA4 : Hid (∀ i, i < j + 1 → (xs.set j (-1)).getD i 0 = -1) := Lib.hid (fun i hi => by
          rw [List.getD_eq_getElem?_getD, List.getElem?_set]
          by_cases hij : j = i
          · rw [if_pos hij, if_pos (by rw [hL.out]; omega)]
            rfl
          · rw [if_neg hij, ← List.getD_eq_getElem?_getD]
            exact hA.out i (by omega))
        have HX4 := Lib.hid (hX.out.set_other (a := ⟨D, j, none⟩) (.int .i64 (-1)) (by simp; omega))
        have HF4 := Lib.hid (hF.out.set_other (a := ⟨D, j, none⟩) (.int .i64 (-1)) (by simp; omega))
        have HU4 := Lib.hid (hU.out.setCell (p := ⟨D, j, none⟩) (.int .i64 (-1)) (.inr (by simp; omega)))
        have HZ4 : Hid (F + 1 ≤ (wr.setCell ⟨D, j, none⟩ (.int .i64 (-1))).heap.size) := Lib.hid (by simp [World.setCell]; exact hZ.out)
        have hlt' : (j : Int) < (nI : Int) := by omega
        clear hB hL hA hX hU hF hXW hZ
        go_wp2
        go_roundw
        case rel => exact ⟨j + 1, _, by omega, by go_num, HB4, HL4, HA4, HX4, HF4, HU4, HZ4⟩
        case measure => simp [intOf]; omega
      · obtain rfl : j = nI := by omega
        have hxs : xs = List.replicate j (-1) := by
          apply List.ext_getElem
          · rw [hL.out, List.length_replicate]
          · intro i h1 h2
            have := hA.out i (by rw [← hL.out]; exact h1)
            rw [List.getD_eq_getElem?_getD, List.getElem?_eq_getElem h1] at this
            simpa using this
        have hrel : RRel w wr (F + 1) F D j X [.slice aI j cI, .slice aB nB cB, .slice aC nC cC] c 0 xs wr := ⟨⟨⟨_, hF.out, SO.nil _ _⟩, hB.out, hL.out, by simp, by omega, by omega, hZ.out⟩, fun i hi => by rw [hA.out i hi]; omega, fun i _ _ hi => by rw [hA.out i hi]; omega, hX.out, Upd.refl _ _, hU.out⟩
        have x1 := hX.out.cell_some (i := 1) rfl
        have HREL := Lib.hid hrel
        have HRUN : Hid (runF c 0 c.blks (List.replicate j (-1)) = runF c 0 (c.blks.drop 0) xs) := Lib.hid (by rw [hxs, List.drop_zero])
        clear hB hL hA hX hU hF hZ hrel hxs hlt hj f0 HB4 HX4 HF4 HU4
        obtain ⟨nI, rfl⟩ : ∃ nI, nI = j := ⟨_, rfl⟩
        obtain ⟨W5, hW5⟩ : ∃ W5, W5 = wr := ⟨_, rfl⟩
        rw [← hW5] at HREL x1 ⊢
        clear hW5
        go_wp2_with fail
        go_loopw [36] (fun i wr => ∃ (j : Nat) (deep : List Int), j ≤ nB ∧ i = .int .i64 j ∧ Hid (RRel w W5 (F + 1) F D nI X [.slice aI nI cI, .slice aB nB cB, .slice aC nC cC] c j deep wr) ∧ Hid (runF c 0 c.blks (List.replicate nI (-1)) = runF c j (c.blks.drop j) deep)) (fun i _ => nB - (intOf i).toNat)
        case atStart => exact ⟨0, xs, by omega, rfl, HREL, HRUN⟩
        case round =>
          obtain ⟨j, deep, hj, rfl, hB, hRun⟩ := hrel
          by_cases hlt : j < nB
          · have hlt' : (j : Int) < (nB : Int) := by omega
            have hjl : j < c.blks.length := by rw [← HNB.out]; exact hlt
            obtain ⟨hok, hblk, hab⟩ := HOK1.out
            have hbi := hblk.blk j hjl
            have hab1 := hab j (by rw [← HNB.out] at hjl; exact hjl)
            have hfl := flat_deep hB.out.S.len hB.out.rng (c.blks.getD j default).lo (hiF c j)
            have hIs : ∀ w', Upd [F, D] wr w' → IsC w' n aI aB aC c := fun w' hu => H.out.upd (hB.out.upd0.trans hu (fun x hx hlt => by have := HXW.out; simp at hx; omega))
            have hi0 : 0 < c.ins.length := by have h1 := hbi.hi; have h2 := hbi.lo; omega
            have hIF : ∀ bI o, aI = some ⟨bI, o, none⟩ → bI ≠ F ∧ bI ≠ D := fun bI o e => by
              obtain ⟨b1, o1, e1, z0, _⟩ := insAt_get H.out.ins hi0
              rw [e] at e1
              injection e1 with e1
              injection e1 with e1 e2
              subst e1
              have := World.block_lt_of_cell? w _ z0
              have h9 := HXW.out
              simp only at this
              omega
            have hneg := hB.out.neg (c.blks.getD j default).lo.toNat hjl (by omega) (by have := hbi.hi; have := HNI.out; omega)
            have hbc := rblock_calls (m := n) cI cB cC (b := c.blks.getD j default) (hi := hiF c j) rfl rfl hB.out.S hIs hok hjl (by rw [← HNB.out]; omega) hfl rfl rfl hneg hab1 hbi.lo (by rw [HNI.out]; exact hbi.hi) (by omega) hbi.dp HNI.out.symm hIF
            rw [← HNI.out, ← HNB.out, ← HNC.out] at hbc
            have hinv := blockF_inv (c := c) (n := j) hfl rfl rfl hbi.lo (by rw [HNI.out]; exact hbi.hi) hbi.dp
            have hout : ∀ i : Nat, hiF c j ≤ i → (blockF c j (c.blks.getD j default) (hiF c j) ⟨deep, [], false⟩).2.deep.getD i 0 = deep.getD i 0 := fun i hi => (Twin.block_out (Twin.self c i) hbi (by rw [← HNI.out]; exact hfl) (.inr hi)).2
            have hrn : runF c j (c.blks.drop j) deep = if 0 ≤ (blockF c j (c.blks.getD j default) (hiF c j) ⟨deep, [], false⟩).1 then ((blockF c j (c.blks.getD j default) (hiF c j) ⟨deep, [], false⟩).1, []) else runF c (j + 1) (c.blks.drop (j + 1)) (blockF c j (c.blks.getD j default) (hiF c j) ⟨deep, [], false⟩).2.deep := by
              rw [List.drop_eq_getElem_cons hjl, show c.blks[j] = c.blks.getD j default by simp [List.getD_eq_getElem?_getD, hjl]]
              rfl
            obtain ⟨r, hr9⟩ : ∃ r, r = blockF c j (c.blks.getD j default) (hiF c j) ⟨deep, [], false⟩ := ⟨_, rfl⟩
            rw [← hr9] at hbc hinv hout hrn
            rw [← hRun.out] at hrn
            have hnext : ∀ W, RS W (F + 1) F D nI r.2 → r.2.opn = [] → r.2.bad = false → Upd [F, D] wr W → RRel w W5 (F + 1) F D nI X [.slice aI nI cI, .slice aB nB cB, .slice aC nC cC] c (j + 1) r.2.deep W := fun W h1 h2 h3 h4 => by
              refine ⟨?_, fun i hi => ?_, fun i q1 q2 q3 => ?_, h4.blk hB.out.box (by have := HXW.out; simp; omega), hB.out.upd.then h4, hB.out.upd0.trans h4 (fun x hx hlt => by have := HXW.out; simp at hx; omega)⟩
              · have e : r.2 = ⟨r.2.deep, [], false⟩ := by
                  rw [← h2, ← h3]
                rw [e] at h1
                exact h1
              · exact hinv.deep i (by rw [hinv.len]; exact hi)
              · rw [hout i (by unfold hiF; rw [if_pos q1]; exact q2)]
                have := hblk.next j q1
                exact hB.out.neg i hjl (by omega) q3
            have HBC := Lib.hid hbc
            have HRN := Lib.hid hrn
            have HNX := Lib.hid hnext
            have HU0 := Lib.hid hB.out.upd0
            have HDF : Hid (F ≥ w.heap.size ∧ D ≥ w.heap.size) := Lib.hid (by have := HXW.out; omega)
            have x0 := hB.out.box.cell_some (i := 0) rfl
            have x1 := hB.out.box.cell_some (i := 1) rfl
            have x2 := hB.out.box.cell_some (i := 2) rfl
            clear hbc hrn hnext hB hRun hfl hbi hok hblk hab hab1 hIs hi0 hIF hneg hinv hout hr9
            go_wp2_with fail
            refine HBC.out.mono ?_
            rintro e w5 ⟨rfl, hu5, h5⟩
            have HU5 := Lib.hid (HU0.out.trans hu5 (fun x hx hlt => by have := HDF.out; simp at hx; omega))
            by_cases hr : 0 ≤ r.1
            · have E9 : Hid (RR = ⟨[], r.1, 15⟩) := Lib.hid (by rw [HR1.out, HRN.out, if_pos hr, if_pos hr])
              clear HRN HNX h5 hu5
              go_wp2
              go_ret3
              exact DepPost.of E9.out rfl (by simp) HU5.out
            · have HRN2 : Hid (runF c 0 c.blks (List.replicate nI (-1)) = runF c (j + 1) (c.blks.drop (j + 1)) r.2.deep) := Lib.hid (by rw [HRN.out, if_neg hr])
              obtain ⟨k1, k2, k3⟩ := h5 (by omega)
              have HN2 := Lib.hid (HNX.out w5 k1 k2 k3 hu5)
              clear HRN HNX h5 hu5 k1 k2 k3
              go_wp2
              go_roundw
              case rel => exact ⟨j + 1, _, by omega, by go_num, HN2, HRN2⟩
              case measure => simp [intOf]; omega
          · obtain rfl : j = nB := by omega
            have E9 : Hid (RR = ⟨deep, 0, 0⟩) := Lib.hid (by
              rw [HR1.out, hRun.out, HNB.out, List.drop_length, runF, if_neg (by simp)])
            have HB9 := hB
            have HL9 := Lib.hid hB.out.S.len
            obtain ⟨v9, hF9, _⟩ := hB.out.S.ex
            have f0 := hF9.cell_some (i := 0) rfl
            clear hRun hB hF9
            go_wp2
            go_ret3
            exact DepPost.of E9.out (by rw [show deep.length = nI from HL9.out]; rfl) (fun _ => ⟨D, rfl, HB9.out.S.deep⟩) HB9.out.upd0
end Go.Proofs.YtknbgbeepachgaaDoor

/-
  CheckCodes: a code in the document's form; the document's Check.
-/
namespace Go.Proofs.YtknbgbeepachgaaDoor
open Go.RowKit Go.Shelf

theorem info_rins : (Tryd.prog.info? 60).map (fun i => (i.zero, i.size, i.bytes)) = some (some (.agg #[.int .i64 0, .int .i64 0, .int .i64 0]), 3, 24) := by kernel_rfl
theorem info_rblk : (Tryd.prog.info? 61).map (fun i => (i.zero, i.size, i.bytes)) = some (some (.agg #[.int .i64 0, .int .i64 0, .bool false, .int .i64 0, .int .i64 0, .int .i64 0]), 6, 48) := by kernel_rfl
theorem own_ty {w : World} {base n size : Nat} {e : TypeId} {v : Value} {xs : List Value} (h : w.ownsRow base e size v n xs) : ∀ g, v.ownBlock = some g → ∀ cs t, Blk w g cs t → t = e := by
  intro g hg cs t hb
  rcases h.2 with ⟨rfl, _⟩ | ⟨g', cap, cur, rfl, _, hgg, _⟩
  · simp [Value.ownBlock] at hg
  · have e9 : g' = g := by simpa [Value.ownBlock] using hg
    subst e9
    have : Blk w g' cur.toList e := by
      unfold Blk
      simpa using hgg
    exact (hb.inj this).2
theorem own_blk9 {w : World} {base n size k : Nat} {e : TypeId} {v : Value} {xs : List Value} (h : w.ownsRow base e size v n xs) (hk : v.ownBlock = some k) : ∃ cs, Blk w k cs e := by
  rcases h.2 with ⟨rfl, _⟩ | ⟨g, cap, cur, rfl, _, hh, _⟩
  · cases hk
  · have e9 : g = k := by simpa [Value.ownBlock] using hk
    subst e9
    exact ⟨cur.toList, by unfold Blk; simpa using hh⟩
theorem own_rowK {α : Type} {w : World} {k base n : Nat} {t : TypeId} {f : α → List Value} {v : Value} {xs : List α} (hf : ∀ x, (f x).length = k) (hn : n = xs.length) (h : w.ownsRow base t k v n (xs.flatMap f)) : ∃ a cap, v = .slice a n cap ∧ RowK w k f a xs := by
  rcases h.2 with ⟨rfl, h0⟩ | ⟨g, cap, cur, rfl, _⟩
  · subst h0
    have : xs = [] := List.eq_nil_of_length_eq_zero hn.symm
    subst this
    exact ⟨none, 0, rfl, fun i x hx => by simp at hx⟩
  · exact ⟨_, cap, rfl, rowK_own hf h⟩
theorem flat_next {α : Type} [Inhabited α] {f : α → List Value} {xs : List α} {k : Nat} (h : k < xs.length) : (xs.take (k + 1)).flatMap f = (xs.take k).flatMap f ++ f (xs.getD k default) := by
  rw [List.take_succ_eq_append_getElem h, List.flatMap_append]
  simp [List.getD_eq_getElem?_getD, h]
def PlainPost (w : World) (n nI nB nC cC : Nat) (aC : Option Addr) (c : CodeV) (e : Ending) (w' : World) : Prop :=
  (∃ aI cI aB cB, e = .returned (.agg #[.slice aI nI cI, .slice aB nB cB, .slice aC nC cC]) ∧ IsC w' n aI aB aC c) ∧ Upd [] w w'
set_option maxRecDepth 100000 in
set_option maxHeartbeats 3000000 in
theorem plain16_calls {w : World} {n : Nat} {aI aB aC : Option Addr} (cI cB cC : Nat) {c : CodeV} (h : IsC w n aI aB aC c) (hl : Lit' n c) :
    Calls Tryd.prog 10 #[.agg #[.slice aI c.ins.length cI, .slice aB c.blks.length cB, .slice aC c.cons.length cC]] w (PlainPost w n c.ins.length c.blks.length c.cons.length cC aC c) := by
  obtain ⟨nI, hnI⟩ : ∃ nI, nI = c.ins.length := ⟨_, rfl⟩
  obtain ⟨nB, hnB⟩ : ∃ nB, nB = c.blks.length := ⟨_, rfl⟩
  obtain ⟨nC, hnC⟩ : ∃ nC, nC = c.cons.length := ⟨_, rfl⟩
  have hb1 : nI ≤ 60000 := by rw [hnI]; exact hl.nI
  have hb2 : nB ≤ 5000 := by rw [hnB]; exact hl.nB
  rw [← hnI, ← hnB, ← hnC]
  have HC := Lib.hid (fun (W : World) (hu : Upd [] w W) => h.upd hu)
  have HNI := Lib.hid hnI
  have HNB := Lib.hid hnB
  have HNC := Lib.hid hnC
  clear h hl hnI hnB hnC
  have hpre : ∀ W, W = ((w.alloc (.cells #[.slice aI nI cI, .slice aB nB cB, .slice aC nC cC] 26)).alloc (.cells #[.slice none 0 0, .slice none 0 0, .slice none 0 0] 37)).alloc (.cells #[.slice none 0 0, .slice none 0 0, .slice aC nC cC] 37) →
      Upd [] w W ∧ Blk W w.heap.size [.slice aI nI cI, .slice aB nB cB, .slice aC nC cC] 26 ∧ Blk W (w.heap.size + 1) [.slice none 0 0, .slice none 0 0, .slice none 0 0] 37 ∧ Blk W (w.heap.size + 1 + 1) [.slice none 0 0, .slice none 0 0, .slice aC nC cC] 37 := by
    intro W hW
    subst hW
    exact ⟨(((Upd.refl [] w).alloc _).alloc _).alloc _, ((Blk.newAt rfl).alloc _).alloc _, (Blk.newAt (by simp)).alloc _, Blk.newAt (by simp)⟩
  have HPRE := Lib.hid hpre
  clear hpre
  go_enter Tryd.func10, Tryd.ntmps10
  go_upto_region 2 with (fail)
  obtain ⟨W, hW⟩ : ∃ W, W = ((w.alloc (.cells #[.slice aI nI cI, .slice aB nB cB, .slice aC nC cC] 26)).alloc (.cells #[.slice none 0 0, .slice none 0 0, .slice none 0 0] 37)).alloc (.cells #[.slice none 0 0, .slice none 0 0, .slice aC nC cC] 37) := ⟨_, rfl⟩
  obtain ⟨hu1, hX, hR, hT⟩ := HPRE.out W hW
  rw [← hW]
  clear hW HPRE
  obtain ⟨X, hX9⟩ : ∃ X, X = w.heap.size := ⟨_, rfl⟩
  rw [← hX9] at hX hR hT ⊢
  have HXW := Lib.hid hX9
  have HX := Lib.hid hX
  have HR := Lib.hid hR
  have HT := Lib.hid hT
  have HU1 := Lib.hid hu1
  have x0 := hX.cell_some (i := 0) rfl
  have hsz := hT.lt
  clear hX hR hT hu1 hX9
  go_wp2_with fail
  go_loopw [14] (fun i wr => ∃ (k : Nat) (v : Value), k ≤ nI ∧ i = .int .i64 k ∧ Hid (Blk wr (X + 1 + 1) [v, .slice none 0 0, .slice aC nC cC] 37) ∧ Hid (wr.ownsRow (X + 1 + 1 + 1) 60 3 v k ((c.ins.take k).flatMap insCells)) ∧ Hid (Blk wr X [.slice aI nI cI, .slice aB nB cB, .slice aC nC cC] 26 ∧ Blk wr (X + 1) [.slice none 0 0, .slice none 0 0, .slice none 0 0] 37) ∧ Hid (Upd [] w wr)) (fun i _ => nI - (intOf i).toNat)
  case atStart => exact ⟨0, .slice none 0 0, by omega, rfl, HT, Lib.hid (World.ownsRow_nil _ _ _ _), Lib.hid ⟨HX.out, HR.out⟩, HU1⟩
  case round =>
    obtain ⟨k, v, hk, rfl, hT, hO, hXR, hU⟩ := hrel
    by_cases hlt : k < nI
    · have hlt' : (k : Int) < (nI : Int) := by omega
      have hkl : k < c.ins.length := by rw [← HNI.out]; exact hlt
      obtain ⟨bI, oI, eI, y0, y1, y2⟩ := insAt_get (HC.out wr hU.out).ins hkl
      subst eI
      have lI := World.block_lt_of_cell? wr _ y0
      simp only at lI
      have hfn := flat_next (f := insCells) hkl
      obtain ⟨x, hx⟩ : ∃ x, x = c.ins.getD k default := ⟨_, rfl⟩
      rw [← hx] at y0 y1 y2 hfn
      have hu7 : Upd [] wr (wr.alloc (.cells #[.int .i64 x.op, .int .i64 x.a, .int .i64 x.b] 47)) := (Upd.refl [] wr).alloc _
      have hO7 := own_upd0 hO.out hu7
      have hsz7 : X + 1 + 1 + 1 ≤ (wr.alloc (.cells #[.int .i64 x.op, .int .i64 x.a, .int .i64 x.b] 47)).heap.size := by have := hT.out.lt; simp; omega
      have HFN := Lib.hid hfn
      have HO7 := Lib.hid hO7
      have HU7 := Lib.hid hu7
      have hsT := hT.out.lt
      have t0 := hT.out.cell_some (i := 0) rfl
      have HSZ7 := Lib.hid hsz7
      have HSB : Hid (∀ (w9 : World) (S : List Nat), Upd S (wr.alloc (.cells #[.int .i64 x.op, .int .i64 x.a, .int .i64 x.b] 47)) w9 → (∀ q, q ∈ S → v.ownBlock = some q) → Blk w9 (X + 1 + 1) [v, .slice none 0 0, .slice aC nC cC] 37 ∧ (Blk w9 X [.slice (some ⟨bI, oI, none⟩) nI cI, .slice aB nB cB, .slice aC nC cC] 26 ∧ Blk w9 (X + 1) [.slice none 0 0, .slice none 0 0, .slice none 0 0] 37) ∧ Upd [] w w9) := Lib.hid (fun w9 S hu9 hS9 => by
        have hlow : ∀ q, q ∈ S → X + 1 + 1 + 1 ≤ q := fun q hq => (hO7.lt q (hS9 q hq)).1
        have hXW := HXW.out
        refine ⟨hu9.blk (hu7.blk hT.out (by simp)) (fun hq => by have := hlow _ hq; omega), ⟨hu9.blk (hu7.blk hXR.out.1 (by simp)) (fun hq => by have := hlow _ hq; omega), hu9.blk (hu7.blk hXR.out.2 (by simp)) (fun hq => by have := hlow _ hq; omega)⟩, (hU.out.then hu7).trans hu9 (fun q hq hlt => by have := hlow q hq; omega)⟩)
      clear hx hfn hO7 hu7 hsz7 hT hO hXR hU
      go_wp2_with (at_builtin; refine wpList_app rfl _ _ 34 rfl (X + 1 + 1 + 1) 60 _ 3 24 Tryd.underlying34 info_rins rfl (by decide) _ _ _ rfl HO7.out [.int .i64 x.op, .int .i64 x.a, .int .i64 x.b] 1 (by simp; rfl) rfl (by simp [Value.oneCell']) (by unfold maxLen; omega) (by omega) HSZ7.out ?_; intro g cap w9 S hO9 hu9 hS9 hg9; obtain ⟨hT9, hXR9, hU9⟩ := HSB.out w9 S hu9 hS9; have f9 := hT9.free 0; have t9 := hT9.cell_some (i := 0) rfl)
      have HO9 := Lib.hid (show w9.ownsRow (X + 1 + 1 + 1) 60 3 (.slice (some ⟨g, 0, none⟩) (k + 1) cap) (k + 1) ((c.ins.take (k + 1)).flatMap insCells) by rw [HFN.out]; exact hO9)
      have hlow := (hO9.lt g rfl).1
      have HT9 := Lib.hid (hT9.set 0 (.slice (some ⟨g, 0, none⟩) (k + 1) cap))
      have HXR9 := Lib.hid (And.intro (hXR9.1.set_other (a := ⟨X + 1 + 1, 0, none⟩) (.slice (some ⟨g, 0, none⟩) (k + 1) cap) (by simp; omega)) (hXR9.2.set_other (a := ⟨X + 1 + 1, 0, none⟩) (.slice (some ⟨g, 0, none⟩) (k + 1) cap) (by simp)))
      have HU9 := Lib.hid (hU9.setCell (p := ⟨X + 1 + 1, 0, none⟩) (.slice (some ⟨g, 0, none⟩) (k + 1) cap) (.inr (by have := HXW.out; simp; omega)))
      have HOS := Lib.hid (own_upd HO9.out ((Upd.refl [X + 1 + 1] w9).setCell (p := ⟨X + 1 + 1, 0, none⟩) (.slice (some ⟨g, 0, none⟩) (k + 1) cap) (.inl (by simp))) (fun q hq => by
        have e : g = q := by simpa [Value.ownBlock] using hq
        simp; omega))
      clear hO9 hu9 hS9 hg9 hT9 hXR9 hU9 HO9 HSB HO7 HU7 HFN HSZ7 hlow y0 y1 y2
      go_wp2
      go_roundw
      case rel => exact ⟨k + 1, _, by omega, by go_num, HT9, HOS, HXR9, HU9⟩
      case measure => simp [intOf]; omega
    · obtain rfl : k = nI := by omega
      have hO1 : wr.ownsRow (X + 1 + 1 + 1) 60 3 v k (c.ins.flatMap insCells) := by
        have := hO.out
        rwa [HNI.out, List.take_length, ← HNI.out] at this
      have HO1 := Lib.hid hO1
      have x1 := hXR.out.1.cell_some (i := 1) rfl
      obtain ⟨vI, hvI⟩ : ∃ vI, vI = v := ⟨_, rfl⟩
      rw [← hvI] at HO1 hT
      clear hO1 hO hvI hlt hk
      obtain ⟨nI, rfl⟩ : ∃ nI, nI = k := ⟨_, rfl⟩
      go_wp2_with fail
      go_loopw [28] (fun i wr => ∃ (k : Nat) (v : Value), k ≤ nB ∧ i = .int .i64 k ∧ Hid (Blk wr (X + 1 + 1) [vI, v, .slice aC nC cC] 37) ∧ Hid (wr.ownsRow (X + 1 + 1 + 1) 60 3 vI nI (c.ins.flatMap insCells)) ∧ Hid (wr.ownsRow (X + 1 + 1 + 1) 61 6 v k ((c.blks.take k).flatMap blkCells)) ∧ Hid (Blk wr X [.slice aI nI cI, .slice aB nB cB, .slice aC nC cC] 26 ∧ Blk wr (X + 1) [.slice none 0 0, .slice none 0 0, .slice none 0 0] 37) ∧ Hid (Upd [] w wr)) (fun i _ => nB - (intOf i).toNat)
      case atStart => exact ⟨0, .slice none 0 0, by omega, rfl, hT, HO1, Lib.hid (World.ownsRow_nil _ _ _ _), hXR, hU⟩
      case round =>
        clear hT HO1 hXR hU x1
        obtain ⟨k, v, hk, rfl, hT, hOI, hO, hXR, hU⟩ := hrel
        by_cases hlt : k < nB
        · have hlt' : (k : Int) < (nB : Int) := by omega
          have hkl : k < c.blks.length := by rw [← HNB.out]; exact hlt
          obtain ⟨bI, oI, eI, y0, y1, y2, y3, y4, y5⟩ := blkAt_get (HC.out wr hU.out).blks hkl
          subst eI
          have lI := World.block_lt_of_cell? wr _ y0
          simp only at lI
          have hfn := flat_next (f := blkCells) hkl
          obtain ⟨x, hx⟩ : ∃ x, x = c.blks.getD k default := ⟨_, rfl⟩
          rw [← hx] at y0 y1 y2 y3 y4 y5 hfn
          have hu7 : Upd [] wr (wr.alloc (.cells #[.int .i64 x.lo, .int .i64 x.pr, .bool x.rest, .int .i64 x.sl, .int .i64 x.dp, .int .i64 x.ou] 45)) := (Upd.refl [] wr).alloc _
          have hO7 := own_upd0 hO.out hu7
          have hI7 := own_upd0 hOI.out hu7
          have hsz7 : X + 1 + 1 + 1 ≤ (wr.alloc (.cells #[.int .i64 x.lo, .int .i64 x.pr, .bool x.rest, .int .i64 x.sl, .int .i64 x.dp, .int .i64 x.ou] 45)).heap.size := by have := hT.out.lt; simp; omega
          have HFN := Lib.hid hfn
          have HO7 := Lib.hid hO7
          have HU7 := Lib.hid hu7
          have hsT := hT.out.lt
          have t1 := hT.out.cell_some (i := 1) rfl
          have HSZ7 := Lib.hid hsz7
          have HSB : Hid (∀ (w9 : World) (S : List Nat), Upd S (wr.alloc (.cells #[.int .i64 x.lo, .int .i64 x.pr, .bool x.rest, .int .i64 x.sl, .int .i64 x.dp, .int .i64 x.ou] 45)) w9 → (∀ q, q ∈ S → v.ownBlock = some q) → Blk w9 (X + 1 + 1) [vI, v, .slice aC nC cC] 37 ∧ (Blk w9 X [.slice aI nI cI, .slice (some ⟨bI, oI, none⟩) nB cB, .slice aC nC cC] 26 ∧ Blk w9 (X + 1) [.slice none 0 0, .slice none 0 0, .slice none 0 0] 37) ∧ Upd [] w w9 ∧ w9.ownsRow (X + 1 + 1 + 1) 60 3 vI nI (c.ins.flatMap insCells)) := Lib.hid (fun w9 S hu9 hS9 => by
            have hlow : ∀ q, q ∈ S → X + 1 + 1 + 1 ≤ q := fun q hq => (hO7.lt q (hS9 q hq)).1
            have hXW := HXW.out
            refine ⟨hu9.blk (hu7.blk hT.out (by simp)) (fun hq => by have := hlow _ hq; omega), ⟨hu9.blk (hu7.blk hXR.out.1 (by simp)) (fun hq => by have := hlow _ hq; omega), hu9.blk (hu7.blk hXR.out.2 (by simp)) (fun hq => by have := hlow _ hq; omega)⟩, (hU.out.then hu7).trans hu9 (fun q hq hlt => by have := hlow q hq; omega), own_upd hI7 hu9 (fun q hq hqS => ?_)⟩
            obtain ⟨cs1, hb1⟩ : ∃ cs, Blk _ q cs 61 := own_blk9 hO7 (hS9 q hqS)
            exact absurd (own_ty hI7 q hq _ _ hb1) (by decide))
          clear hx hfn hO7 hI7 hu7 hsz7 hT hO hOI hXR hU
          go_wp2_with (at_builtin; refine wpList_app rfl _ _ 35 rfl (X + 1 + 1 + 1) 61 _ 6 48 Tryd.underlying35 info_rblk rfl (by decide) _ _ _ rfl HO7.out [.int .i64 x.lo, .int .i64 x.pr, .bool x.rest, .int .i64 x.sl, .int .i64 x.dp, .int .i64 x.ou] 1 (by simp; rfl) rfl (by simp [Value.oneCell']) (by unfold maxLen; omega) (by omega) HSZ7.out ?_; intro g cap w9 S hO9 hu9 hS9 hg9; obtain ⟨hT9, hXR9, hU9, hI9⟩ := HSB.out w9 S hu9 hS9; have f9 := hT9.free 1; have t9 := hT9.cell_some (i := 1) rfl)
          have HO9 := Lib.hid (show w9.ownsRow (X + 1 + 1 + 1) 61 6 (.slice (some ⟨g, 0, none⟩) (k + 1) cap) (k + 1) ((c.blks.take (k + 1)).flatMap blkCells) by rw [HFN.out]; exact hO9)
          have hlow := (hO9.lt g rfl).1
          have HT9 := Lib.hid (hT9.set 1 (.slice (some ⟨g, 0, none⟩) (k + 1) cap))
          have HXR9 := Lib.hid (And.intro (hXR9.1.set_other (a := ⟨X + 1 + 1, 1, none⟩) (.slice (some ⟨g, 0, none⟩) (k + 1) cap) (by simp; omega)) (hXR9.2.set_other (a := ⟨X + 1 + 1, 1, none⟩) (.slice (some ⟨g, 0, none⟩) (k + 1) cap) (by simp)))
          have HU9 := Lib.hid (hU9.setCell (p := ⟨X + 1 + 1, 1, none⟩) (.slice (some ⟨g, 0, none⟩) (k + 1) cap) (.inr (by have := HXW.out; simp; omega)))
          have hset : Upd [X + 1 + 1] w9 (w9.setCell ⟨X + 1 + 1, 1, none⟩ (.slice (some ⟨g, 0, none⟩) (k + 1) cap)) := (Upd.refl [X + 1 + 1] w9).setCell (p := ⟨X + 1 + 1, 1, none⟩) _ (.inl (by simp))
          have HOS := Lib.hid (own_upd HO9.out hset (fun q hq => by
            have e : g = q := by simpa [Value.ownBlock] using hq
            simp; omega))
          have HIS := Lib.hid (own_upd hI9 hset (fun q hq => by
            have := (hI9.lt q hq).1
            simp; omega))
          clear hO9 hu9 hS9 hg9 hT9 hXR9 hU9 hI9 hset HO9 HSB HO7 HU7 HFN HSZ7 hlow y0 y1 y2 y3 y4 y5
          go_wp2
          go_roundw
          case rel => exact ⟨k + 1, _, by omega, by go_num, HT9, HIS, HOS, HXR9, HU9⟩
          case measure => simp [intOf]; omega
        · obtain rfl : k = nB := by omega
          have hO1 : wr.ownsRow (X + 1 + 1 + 1) 61 6 v k (c.blks.flatMap blkCells) := by
            have := hO.out
            rwa [HNB.out, List.take_length, ← HNB.out] at this
          obtain ⟨aI9, cI9, rfl, hrI⟩ := own_rowK (f := insCells) (fun _ => rfl) HNI.out hOI.out
          obtain ⟨aB9, cB9, rfl, hrB⟩ := own_rowK (f := blkCells) (fun _ => rfl) HNB.out hO1
          have hC9 := HC.out wr hU.out
          have t0 := hT.out.cell_some (i := 0) rfl
          have t1 := hT.out.cell_some (i := 1) rfl
          have t2 := hT.out.cell_some (i := 2) rfl
          have r0 := hXR.out.2.cell_some (i := 0) rfl
          have r1 := hXR.out.2.cell_some (i := 1) rfl
          have r2 := hXR.out.2.cell_some (i := 2) rfl
          have g0 := hXR.out.2.free 0
          have g1 := hXR.out.2.free 1
          have g2 := hXR.out.2.free 2
          have hIs : IsC wr n aI9 aB9 aC c := ⟨hrI, hrB, hC9.cons, hC9.insOk, hC9.blksOk, hC9.nI, hC9.nB, hC9.nC⟩
          have hset : Upd [X + 1] wr (((wr.setCell ⟨X + 1, 0, none⟩ (.slice aI9 nI cI9)).setCell ⟨X + 1, 1, none⟩ (.slice aB9 k cB9)).setCell ⟨X + 1, 2, none⟩ (.slice aC nC cC)) := (((Upd.refl [X + 1] wr).setCell (p := ⟨X + 1, 0, none⟩) _ (.inl (by simp))).setCell (p := ⟨X + 1, 1, none⟩) _ (.inl (by simp))).setCell (p := ⟨X + 1, 2, none⟩) _ (.inl (by simp))
          have hI9 := own_upd hOI.out hset (fun q hq => by have := (hOI.out.lt q hq).1; simp; omega)
          have hB9 := own_upd hO1 hset (fun q hq => by have := (hO1.lt q hq).1; simp; omega)
          obtain ⟨aI8, cI8, e8, hrI9⟩ := own_rowK (f := insCells) (fun _ => rfl) HNI.out hI9
          obtain ⟨aB8, cB8, e7, hrB9⟩ := own_rowK (f := blkCells) (fun _ => rfl) HNB.out hB9
          injection e8 with e8 e8n e8c
          injection e7 with e7 e7n e7c
          subst e8
          subst e7
          subst e8c
          subst e7c
          clear e8n e7n
          have hu9 : Upd [] w (((wr.setCell ⟨X + 1, 0, none⟩ (.slice aI9 nI cI9)).setCell ⟨X + 1, 1, none⟩ (.slice aB9 k cB9)).setCell ⟨X + 1, 2, none⟩ (.slice aC nC cC)) := hU.out.trans hset (fun q hq hlt => by have := HXW.out; simp at hq; omega)
          have hC8 := HC.out _ hu9
          have hIs9 : IsC (((wr.setCell ⟨X + 1, 0, none⟩ (.slice aI9 nI cI9)).setCell ⟨X + 1, 1, none⟩ (.slice aB9 k cB9)).setCell ⟨X + 1, 2, none⟩ (.slice aC nC cC)) n aI9 aB9 aC c := ⟨hrI9, hrB9, hC8.cons, hC8.insOk, hC8.blksOk, hC8.nI, hC8.nB, hC8.nC⟩
          have hR9 := ((hXR.out.2.set 0 (.slice aI9 nI cI9)).set 1 (.slice aB9 k cB9)).set 2 (.slice aC nC cC)
          have k0 := hR9.cell_some (i := 0) rfl
          have k1 := hR9.cell_some (i := 1) rfl
          have k2 := hR9.cell_some (i := 2) rfl
          have HK := Lib.hid (And.intro k0 (And.intro k1 k2))
          have H9 := Lib.hid (And.intro hIs9 hu9)
          clear hO1 hO hrI hrB hC9 hT hXR hset hI9 hB9 hrI9 hrB9 hu9 hC8 hIs9 hR9 k0 k1 k2 hOI hU hIs
          go_wp2
          obtain ⟨k0, k1, k2⟩ := HK.out
          refine bodyPost_ret (v := .agg #[.slice aI9 nI cI9, .slice aB9 k cB9, .slice aC nC cC]) ?_ rfl ⟨⟨aI9, cI9, aB9, cB9, rfl, H9.out.1⟩, H9.out.2⟩
          simp [results, Tryd.results10, go_sem, k0, k1, k2]
set_option maxRecDepth 100000 in
set_option maxHeartbeats 1500000 in
theorem rcheck_calls {w : World} {n : Nat} {aI aB aC : Option Addr} (cI cB cC : Nat) {c : CodeV} (h : IsC w n aI aB aC c) (hl : Lit' n c) :
    Calls Tryd.prog 9 #[.agg #[.slice aI c.ins.length cI, .slice aB c.blks.length cB, .slice aC c.cons.length cC]] w (ChkPost w (depthsF n c)) := by
  have hu1 : Upd [] w (w.alloc (.cells #[.slice aI c.ins.length cI, .slice aB c.blks.length cB, .slice aC c.cons.length cC] 37)) := (Upd.refl [] w).alloc _
  have HD := Lib.hid (rdepths_calls cI cB cC (h.upd hu1) hl)
  have HU := Lib.hid hu1
  generalize c.ins.length = nI at *
  generalize c.blks.length = nB at *
  generalize c.cons.length = nC at *
  generalize depthsF n c = R at *
  unfold ChkPost
  clear h hl hu1
  go_enter Tryd.func9, Tryd.ntmps9
  go_wp2_with fail
  refine HD.out.mono ?_
  rintro e w2 ⟨⟨a, cap, rfl, _⟩, hu2⟩
  have HU2 := Lib.hid (HU.out.then hu2)
  clear hu2 HD
  go_wp2
  go_ret2
  exact ⟨rfl, HU2.out⟩
end Go.Proofs.YtknbgbeepachgaaDoor
