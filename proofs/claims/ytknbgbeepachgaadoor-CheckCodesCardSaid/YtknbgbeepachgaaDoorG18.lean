/-
  Texts of this claim, merged: RcJ, ChW, CbP. Lemmas and contracts; no conditions of our own.
-/
import Derived.Test.YtknbgbeepachgaaDoorG16
import Derived.Test.YtknbgbeepachgaaDoorG17
import Derived.Laws.MakeOwn

/-
  CheckCodes, the document's side: shape.
-/
namespace Go.Proofs.YtknbgbeepachgaaDoor
open Go.RowKit Go.Shelf

/-- Behind the k-th block: all begins rise. -/
theorem risingF_all {m : Nat} : ∀ (bs : List BlkV) (last : Int), (∀ k, k < bs.length → ¬ (m : Int) ≤ (bs.getD k default).lo ∧ ¬ (bs.getD k default).lo ≤ (if k = 0 then last else (bs.getD (k - 1) default).lo)) → risingF m last bs = true
  | [], _, _ => rfl
  | b :: bs, last, h => by
    have h0 := h 0 (by simp)
    simp at h0
    unfold risingF
    rw [decide_eq_true (show last < b.lo by omega), decide_eq_true (show b.lo < (m : Int) by omega), Bool.true_and, Bool.true_and]
    refine risingF_all bs b.lo fun k hk => ?_
    have h1 := h (k + 1) (by simpa using hk)
    rw [List.getD_cons_succ, if_neg (by omega), Nat.add_sub_cancel] at h1
    refine ⟨h1.1, ?_⟩
    cases k with
    | zero => simpa using h1.2
    | succ k => simpa using h1.2
theorem risingF_fail {m : Nat} : ∀ (bs : List BlkV) (last : Int) (k : Nat), k < bs.length → (m : Int) ≤ (bs.getD k default).lo ∨ (bs.getD k default).lo ≤ (if k = 0 then last else (bs.getD (k - 1) default).lo) → risingF m last bs = false
  | [], _, k, hk, _ => by simp at hk
  | b :: bs, last, 0, _, h => by
    simp at h
    unfold risingF
    rcases h with h | h
    · rw [decide_eq_false (show ¬ b.lo < (m : Int) by omega)]; simp
    · rw [decide_eq_false (show ¬ last < b.lo by omega)]; simp
  | b :: bs, last, k + 1, hk, h => by
    rw [List.getD_cons_succ, if_neg (by omega), Nat.add_sub_cancel] at h
    unfold risingF
    rw [risingF_fail bs b.lo k (by simpa using hk) ?_]
    · simp
    · rcases h with h | h
      · exact .inl h
      · right
        cases k with
        | zero => simpa using h
        | succ k => simpa using h
set_option maxRecDepth 100000 in
set_option maxHeartbeats 3000000 in
theorem rshape_calls {w : World} {n : Nat} {aI aB aC : Option Addr} (cI cB cC : Nat) {c : CodeV} (h : IsC w n aI aB aC c) (hl : Lit' n c) :
    Calls Tryd.prog 16 #[.agg #[.slice aI c.ins.length cI, .slice aB c.blks.length cB, .slice aC c.cons.length cC]] w fun e w' => e = .returned (.bool (shapeF n c)) ∧ Upd [] w w' := by
  have hB0 : Blk (w.alloc (.cells #[.slice aI c.ins.length cI, .slice aB c.blks.length cB, .slice aC c.cons.length cC] 37)) w.heap.size [.slice aI c.ins.length cI, .slice aB c.blks.length cB, .slice aC c.cons.length cC] 37 := Blk.newAt rfl
  have hU1 : Upd [] w (w.alloc (.cells #[.slice aI c.ins.length cI, .slice aB c.blks.length cB, .slice aC c.cons.length cC] 37)) := (Upd.refl [] w).alloc _
  have hGd := rGood14_calls cI cB cC (h.upd hU1) hl
  have hok : codeG n c = true → ∀ k, k < c.blks.length → 0 ≤ (c.blks.getD k default).lo ∧ 0 ≤ (c.blks.getD k default).pr ∧ 0 ≤ (c.blks.getD k default).ou := fun hg k hk => by
    have := (CodeOk.of hg).blks (c.blks.getD k default) (by rw [List.getD_eq_getElem?_getD, List.getElem?_eq_getElem hk]; exact List.getElem_mem hk)
    omega
  obtain ⟨nI, hnI⟩ : ∃ nI, nI = c.ins.length := ⟨_, rfl⟩
  obtain ⟨nB, hnB⟩ : ∃ nB, nB = c.blks.length := ⟨_, rfl⟩
  have hbI : nI ≤ 60000 := by rw [hnI]; exact hl.nI
  have hbB : nB ≤ 5000 := by rw [hnB]; exact hl.nB
  have HC := Lib.hid (fun (W : World) (hu : Upd [] w W) => h.upd hu)
  have hS : shapeF n c = ((codeG n c && !c.blks.isEmpty) && (decide ((c.blks.getD 0 default).lo + (c.blks.getD 0 default).pr + (c.blks.getD 0 default).ou ≤ 0 ∧ (c.blks.getD 0 default).rest = false) && risingF c.ins.length (-1) c.blks)) := rfl
  rw [← hnI, ← hnB] at hB0 hU1 hGd ⊢
  obtain ⟨SS, hSS⟩ : ∃ SS, SS = shapeF n c := ⟨_, rfl⟩
  rw [← hSS] at hS ⊢
  obtain ⟨g, hg⟩ : ∃ g, g = codeG n c := ⟨_, rfl⟩
  rw [← hg] at hS hGd hok
  rw [show c.blks.isEmpty = decide (nB = 0) by rw [hnB]; cases c.blks <;> simp, ← hnI] at hS
  have HS := Lib.hid hS
  have HB := Lib.hid hB0
  have HU1 := Lib.hid hU1
  have HGD := Lib.hid hGd
  have HOK := Lib.hid hok
  have HNB := Lib.hid hnB
  generalize c.cons.length = nC at *
  clear h hl hB0 hU1 hGd hS hSS hg hok hnI hnB
  go_enter Tryd.func16, Tryd.ntmps16
  go_wp2_with fail
  refine HGD.out.mono ?_
  rintro e w2 ⟨rfl, hu2⟩
  have HU2 := Lib.hid (HU1.out.then hu2)
  have HB2 := Lib.hid (hu2.blk HB.out (by simp))
  clear hu2 HGD HB HU1
  generalize w.heap.size = X at *
  have x0 := HB2.out.cell_some (i := 0) rfl
  have x1 := HB2.out.cell_some (i := 1) rfl
  cases g with
  | false =>
    have E9 : Hid (SS = false) := Lib.hid (by rw [HS.out]; rfl)
    clear HS
    go_wp2
    go_ret
    exact ⟨by rw [E9.out]; rfl, HU2.out⟩
  | true =>
    by_cases hb0 : nB = 0
    · have E9 : Hid (SS = false) := Lib.hid (by rw [HS.out]; simp [hb0])
      clear HS
      subst hb0
      go_wp2
      go_ret
      exact ⟨by rw [E9.out]; rfl, HU2.out⟩
    · have hb0' : ((nB : Int) == 0) = false := by simpa using hb0
      have hbp : (0 : Int) < (nB : Int) := by omega
      obtain ⟨bB, oB, eB, y0, y1, y2, y3, y4, y5⟩ := blkAt_get (HC.out w2 HU2.out).blks (i := 0) (by rw [← HNB.out]; omega)
      subst eB
      simp only [Nat.zero_mul, Nat.add_zero] at y0 y1 y2 y3 y4 y5
      have lI := World.block_lt_of_cell? w2 _ y0
      simp only at lI
      have hpos := HOK.out rfl 0 (by rw [← HNB.out]; omega)
      have HS2 : Hid (SS = (decide ((c.blks.getD 0 default).lo + (c.blks.getD 0 default).pr + (c.blks.getD 0 default).ou ≤ 0 ∧ (c.blks.getD 0 default).rest = false) && risingF nI (-1) c.blks)) := Lib.hid (by rw [HS.out]; simp [hb0])
      clear HS
      obtain ⟨x, hx⟩ : ∃ x, x = c.blks.getD 0 default := ⟨_, rfl⟩
      rw [← hx] at y0 y1 y2 y3 y4 y5 hpos HS2
      clear hx
      have hu7 : Upd [] w2 (w2.alloc (.cells #[.int .i64 x.lo, .int .i64 x.pr, .bool x.rest, .int .i64 x.sl, .int .i64 x.dp, .int .i64 x.ou] 61)) := (Upd.refl [] w2).alloc _
      have hB7 : Blk (w2.alloc (.cells #[.int .i64 x.lo, .int .i64 x.pr, .bool x.rest, .int .i64 x.sl, .int .i64 x.dp, .int .i64 x.ou] 61)) w2.heap.size [.int .i64 x.lo, .int .i64 x.pr, .bool x.rest, .int .i64 x.sl, .int .i64 x.dp, .int .i64 x.ou] 61 := Blk.newAt rfl
      have HU7 := Lib.hid (HU2.out.then hu7)
      have HB7 := Lib.hid hB7
      have HB3 := Lib.hid (hu7.blk HB2.out (by simp))
      clear hu7 hB7 HB2
      obtain ⟨lo, pr, rest, sl, dp, ou⟩ := x
      simp only at hpos
      obtain ⟨f1, hf1⟩ : ∃ f1, f1 = decide (lo + pr + ou ≤ 0 ∧ rest = false) := ⟨_, rfl⟩
      have HS3 : Hid (SS = (f1 && risingF nI (-1) c.blks)) := Lib.hid (by rw [hf1]; exact HS2.out)
      have HF1 := Lib.hid hf1
      clear HS2 hf1
      go_upto_region 4 with (fail)
      generalize (w2.alloc (.cells #[.int .i64 lo, .int .i64 pr, .bool rest, .int .i64 sl, .int .i64 dp, .int .i64 ou] 61)) = W7 at *
      generalize w2.heap.size = B at *
      have b0 := HB7.out.cell_some (i := 0) rfl
      have b1 := HB7.out.cell_some (i := 1) rfl
      have b2 := HB7.out.cell_some (i := 2) rfl
      have b5 := HB7.out.cell_some (i := 5) rfl
      clear y0 y1 y2 y3 y4 y5 lI x0 x1
      go_cut [35] from 17 to 35 (fun s wx => s = .bool (!f1) ∧ wx = W7)
      case first =>
        by_cases p1 : pr = 0
        · have d1 : (pr != 0) = false := by simp [p1]
          cases rest with
          | true =>
            have e : Hid (f1 = false) := Lib.hid (by rw [HF1.out]; simp)
            clear HF1
            go_wp2
            go_meet
            case rel => exact ⟨by rw [e.out]; rfl, rfl⟩
          | false =>
            by_cases p5 : ou = 0
            · have d5 : (ou != 0) = false := by simp [p5]
              have e : Hid ((!f1) = (lo != 0)) := Lib.hid (by
                rw [HF1.out, p1, p5, Bool.eq_iff_iff]
                simp
                omega)
              clear HF1
              go_wp2
              go_meet
              case rel => exact ⟨by rw [e.out], rfl⟩
            · have d5 : (ou != 0) = true := by simpa using p5
              have e : Hid (f1 = false) := Lib.hid (by rw [HF1.out]; exact decide_eq_false (by omega))
              clear HF1
              go_wp2
              go_meet
              case rel => exact ⟨by rw [e.out]; rfl, rfl⟩
        · have d1 : (pr != 0) = true := by simpa using p1
          have e : Hid (f1 = false) := Lib.hid (by rw [HF1.out]; exact decide_eq_false (by omega))
          clear HF1
          go_wp2
          go_meet
          case rel => exact ⟨by rw [e.out]; rfl, rfl⟩
      case rest =>
      obtain ⟨rfl, hwc⟩ := hcut
      rw [hwc]
      clear hwc wc HF1 hpos
      cases f1 with
      | false =>
        have E9 : Hid (SS = false) := Lib.hid (by rw [HS3.out]; rfl)
        clear HS3
        go_wp2
        go_ret
        exact ⟨by rw [E9.out]; rfl, HU7.out⟩
      | true =>
        have HS4 : Hid (SS = risingF nI (-1) c.blks) := Lib.hid (by rw [HS3.out]; rfl)
        clear HS3 b0 b1 b2 b5
        have x0 := HB3.out.cell_some (i := 0) rfl
        have x1 := HB3.out.cell_some (i := 1) rfl
        go_wp2_with fail
        go_loopg [39] nB (fun g i wr => ∃ k : Nat, k ≤ nB ∧ g = nB - k ∧ i = .int .i64 k ∧ Hid (∀ q, q < k → ¬ (nI : Int) ≤ (c.blks.getD q default).lo ∧ ¬ (c.blks.getD q default).lo ≤ (if q = 0 then -1 else (c.blks.getD (q - 1) default).lo)) ∧ Hid (Upd [] W7 wr))
        case atStart => exact ⟨0, by omega, rfl, rfl, Lib.hid (fun k hk => absurd hk (by omega)), Upd.refl _ _⟩
        case round =>
          obtain ⟨k, hk, rfl, rfl, hA, hU⟩ := hrel
          by_cases hlt : k < nB
          · have hlt' : (k : Int) < (nB : Int) := by omega
            have hkl : k < c.blks.length := by rw [← HNB.out]; exact hlt
            obtain ⟨bB2, oB2, eB, y0, y1, y2, y3, y4, y5⟩ := blkAt_get (HC.out wr (HU7.out.then hU.out)).blks hkl
            injection eB with eB
            injection eB with e1 e2
            subst e1
            subst e2
            have lI := World.block_lt_of_cell? wr _ y0
            simp only at lI
            obtain ⟨y, hy⟩ : ∃ y, y = c.blks.getD k default := ⟨_, rfl⟩
            rw [← hy] at y0 y1 y2 y3 y4 y5
            have hp0 : 0 < k → wr.cell? ⟨bB, oB + (k - 1) * 6, none⟩ = some (.int .i64 (c.blks.getD (k - 1) default).lo) := fun h => by
              obtain ⟨bB3, oB3, eB, z0, _⟩ := blkAt_get (HC.out wr (HU7.out.then hU.out)).blks (i := k - 1) (by omega)
              injection eB with eB
              injection eB with e1 e2
              subst e1
              subst e2
              exact z0
            obtain ⟨py, hpy⟩ : ∃ py, py = (c.blks.getD (k - 1) default).lo := ⟨_, rfl⟩
            rw [← hpy] at hp0
            have HY := Lib.hid hy
            have HP := Lib.hid hpy
            have x0 := (hU.out.blk HB3.out (by simp)).cell_some (i := 0) rfl
            have x1 := (hU.out.blk HB3.out (by simp)).cell_some (i := 1) rfl
            have hXB := (hU.out.blk HB3.out (by simp)).lt
            have hu9 : Upd [] W7 (wr.alloc (.cells #[.int .i64 y.lo, .int .i64 y.pr, .bool y.rest, .int .i64 y.sl, .int .i64 y.dp, .int .i64 y.ou] 61)) := hU.out.alloc _
            have HU9 := Lib.hid hu9
            clear hy hpy hu9
            obtain ⟨lo9, pr9, rest9, sl9, dp9, ou9⟩ := y
            simp only at y0 y1 y2 y3 y4 y5
            by_cases g1 : (nI : Int) ≤ lo9
            · have d1 : decide ((nI : Int) ≤ lo9) = true := decide_eq_true g1
              have E9 : Hid (SS = false) := Lib.hid (by rw [HS4.out]; exact risingF_fail _ _ k hkl (.inl (by rw [← HY.out]; exact g1)))
              clear hp0
              clear hA HY HP HS4
              go_wp2_with fail
              go_quiet (fail)
              go_wp2
              go_ret
              exact ⟨by rw [E9.out]; rfl, HU7.out.then (HU9.out.drewN nq)⟩
            · have d1 : decide ((nI : Int) ≤ lo9) = false := decide_eq_false g1
              by_cases k0 : k = 0
              · have hA2 : Hid (∀ q, q < k + 1 → ¬ (nI : Int) ≤ (c.blks.getD q default).lo ∧ ¬ (c.blks.getD q default).lo ≤ (if q = 0 then -1 else (c.blks.getD (q - 1) default).lo)) := Lib.hid (fun q hq => by
                  have e : q = k := by omega
                  have h1 := HOK.out (by trivial) k hkl
                  rw [e, ← HY.out] at *
                  rw [if_pos k0]
                  exact ⟨g1, by have : (0 : Int) ≤ lo9 := h1.1; show ¬ lo9 ≤ -1; omega⟩)
                clear hp0 hA
                subst k0
                have d2 : decide ((0 : Int) < ((0 : Nat) : Int)) = false := rfl
                simp only [Nat.zero_mul, Nat.add_zero] at y0 y1 y2 y3 y4 y5
                clear HY HP
                go_wp2_with fail
                go_quiet (fail)
                go_wp2
                go_roundg (nB - 1)
                case rel => exact ⟨1, by omega, rfl, rfl, hA2, (HU9.out.drewN nq)⟩
                case measure => omega
              · have d2 : decide ((0 : Int) < (k : Int)) = true := decide_eq_true (by omega)
                have d2n : decide (0 < k) = true := decide_eq_true (by omega)
                have z0 := hp0 (by omega)
                have hk1 : ((k : Int) - 1).toNat = k - 1 := by omega
                clear hp0
                by_cases g2 : lo9 ≤ py
                · have d3 : decide (lo9 ≤ py) = true := decide_eq_true g2
                  have E9 : Hid (SS = false) := Lib.hid (by rw [HS4.out]; exact risingF_fail _ _ k hkl (.inr (by rw [← HY.out, if_neg k0, ← HP.out]; exact g2)))
                  clear hA HY HP HS4
                  go_wp2_with fail
                  go_quiet (fail)
                  go_wp2
                  go_ret
                  exact ⟨by rw [E9.out]; rfl, HU7.out.then (HU9.out.drewN nq)⟩
                · have d3 : decide (lo9 ≤ py) = false := decide_eq_false g2
                  have hA2 : Hid (∀ q, q < k + 1 → ¬ (nI : Int) ≤ (c.blks.getD q default).lo ∧ ¬ (c.blks.getD q default).lo ≤ (if q = 0 then -1 else (c.blks.getD (q - 1) default).lo)) := Lib.hid (fun q hq => by
                    by_cases e : q = k
                    · rw [e, ← HY.out, if_neg k0, ← HP.out]
                      exact ⟨g1, g2⟩
                    · exact hA.out q (by omega))
                  clear hA HY HP
                  go_wp2_with fail
                  go_quiet (fail)
                  go_wp2
                  go_roundg (nB - (k + 1))
                  case rel => exact ⟨k + 1, by omega, rfl, by go_num, hA2, (HU9.out.drewN nq)⟩
                  case measure => omega
          · have hkm : k = nB := by omega
            have hlt' : ¬ (k : Int) < (nB : Int) := by omega
            have E9 : Hid (SS = true) := Lib.hid (by rw [HS4.out]; exact risingF_all _ _ (fun q hq => hA.out q (by rw [hkm, HNB.out]; exact hq)))
            clear hkm hA HS4
            go_wp2
            go_ret
            exact ⟨by rw [E9.out]; rfl, HU7.out.then hU.out⟩
end Go.Proofs.YtknbgbeepachgaaDoor

/-
  check.depths: plain lemmas.
-/
namespace Go.Proofs.YtknbgbeepachgaaDoor
open Go.RowKit Go.Shelf

/-- Where a block ends. -/
def hiF (c : CodeV) (n : Nat) : Int := if n + 1 < c.blks.length then (c.blks.getD (n + 1) default).lo else c.ins.length
/-- The blocks from the n-th on: the first wrong place, if there is one; else how many stand ahead of each. -/
def runF (c : CodeV) : Nat → List BlkV → List Int → Int × List Int
  | _, [], deep => (-1, deep)
  | n, b :: bs, deep =>
    if 0 ≤ (blockF c n b (hiF c n) ⟨deep, [], false⟩).1 then ((blockF c n b (hiF c n) ⟨deep, [], false⟩).1, []) else runF c (n + 1) bs (blockF c n b (hiF c n) ⟨deep, [], false⟩).2.deep
structure DepR where
  deep : List Int
  at' : Int
  e : Int
def depthsF (n : Nat) (c : CodeV) : DepR :=
  if shapeF n c = false then ⟨[], -1, 15⟩
  else if 0 ≤ (runF c 0 c.blks (List.replicate c.ins.length (-1))).1 then ⟨[], (runF c 0 c.blks (List.replicate c.ins.length (-1))).1, 15⟩
  else ⟨(runF c 0 c.blks (List.replicate c.ins.length (-1))).2, 0, 0⟩
theorem loopF_inv {c : CodeV} {n : Nat} {b : BlkV} {hi : Int} {nD : Nat} (hlo : 0 ≤ b.lo) (hhi : hi ≤ nD) (hdp : b.dp ≤ 100000) : ∀ (g : Nat) (f : Flow), FInv b.lo hi nD f → (f.opn ≠ [] → f.bad = false) → FInv b.lo hi nD (loopF c n b hi g f).2
  | 0, f, h, _ => h
  | g + 1, f, h, hb => by
    unfold loopF
    split
    · exact h
    · rename_i i rest e
      have h1 := (h.tail e).1.one (c := c) (n := n) hlo hhi hdp i (hb (by rw [e]; simp))
      split
      · rename_i hr
        exact loopF_inv hlo hhi hdp g _ h1.1 (fun _ => h1.2.2 hr)
      · exact h1.1
theorem blockF_inv {c : CodeV} {n : Nat} {b : BlkV} {hi : Int} {nD : Nat} {f : Flow} (h : FInv b.lo hi nD f) (hop : f.opn = []) (hb : f.bad = false) (hlo : 0 ≤ b.lo) (hhi : hi ≤ nD) (hdp : b.dp ≤ 100000) : FInv b.lo hi nD (blockF c n b hi f).2 := by
  unfold blockF
  split
  · exact h
  · exact loopF_inv hlo hhi hdp _ _ (h.come _ (by omega) (by omega)) (fun hne => by rw [comeF_start hop hne]; exact hb)
theorem risingF_at {m : Nat} : ∀ (bs : List BlkV) (last : Int), risingF m last bs = true → ∀ i, i < bs.length → last < (bs.getD i default).lo ∧ (bs.getD i default).lo < m
  | [], _, _, i, hi => by simp at hi
  | b :: bs, last, h, i, hi => by
    unfold risingF at h
    simp only [Bool.and_eq_true, decide_eq_true_eq] at h
    cases i with
    | zero => exact h.1
    | succ i =>
      have := risingF_at bs b.lo h.2 i (by simpa using hi)
      simp only [List.getD_cons_succ]
      exact ⟨by omega, this.2⟩
theorem hiF_range {n : Nat} {c : CodeV} (h : shapeF n c = true) (j : Nat) : hiF c j ≤ c.ins.length := by
  unfold hiF
  split
  · rename_i hj
    unfold shapeF at h
    simp only [Bool.and_eq_true] at h
    exact Int.le_of_lt (risingF_at _ _ h.2.2 _ hj).2
  · exact Int.le_refl _
theorem Kb.low {base : Nat} {S : List Nat} {w a b : World} (hu : Upd [] w a) (h : Kb base S a b) (hb : w.heap.size ≤ base) (hS : ∀ x, x ∈ S → w.heap.size ≤ x) : Upd [] w b :=
  ⟨h.os.trans hu.os, h.tape.trans hu.tape, h.output.trans hu.output, Nat.le_trans hu.size h.size, fun k hk _ => (h.block k (by omega) (fun hx => by have := hS k hx; omega)).trans (hu.block k hk (by simp))⟩
theorem row_blk {w : World} {base g n : Nat} {xs : List Value} (h : w.ownsRow base 3 1 (.slice (some ⟨g, 0, none⟩) n n) n xs) : Blk w g xs 3 := by
  rcases h.2 with ⟨h', _⟩ | ⟨g', cap', cur, h', hb, hg, hnc, hcm, hcs, htake⟩
  · simp at h'
  · simp only [Value.slice.injEq, Option.some.injEq, Addr.mk.injEq, and_true, true_and] at h'
    obtain ⟨rfl, rfl⟩ := h'
    unfold Blk
    rw [List.take_of_length_le (by simp [hcs])] at htake
    rw [hg, ← htake]
theorem flat_deep {nD : Nat} {deep : List Int} (hl : deep.length = nD) (hd : ∀ i, i < nD → -1 ≤ deep.getD i 0 ∧ deep.getD i 0 ≤ 100000) (lo hi : Int) : FInv lo hi nD ⟨deep, [], false⟩ :=
  ⟨hl, fun i hi => hd i (by rw [← hl]; exact hi), List.Pairwise.nil, by simp⟩
end Go.Proofs.YtknbgbeepachgaaDoor

/-
  What breaks a code that may be run: the plain law.
-/
namespace Go.Proofs.YtknbgbeepachgaaDoor
open Go.RowKit Go.Shelf

/-- Two codes that differ in the i-th instruction alone. -/
structure Twin (c d : CodeV) (i : Nat) : Prop where
  blks : d.blks = c.blks
  cons : d.cons = c.cons
  len : d.ins.length = c.ins.length
  ins : ∀ j, j ≠ i → d.ins.getD j default = c.ins.getD j default
theorem Twin.there {c d : CodeV} {i : Nat} (h : Twin c d i) (n : Nat) (b : BlkV) (hi : Int) (x : InsV) : thereF d n b hi x = thereF c n b hi x := by
  unfold thereF
  rw [h.blks, h.cons]
theorem Twin.one {c d : CodeV} {i : Nat} (h : Twin c d i) (n : Nat) (b : BlkV) (hi : Int) (f : Flow) {j : Int} (hj : j.toNat ≠ i) : oneF d n b hi f j = oneF c n b hi f j := by
  unfold oneF wrongF
  rw [h.ins _ hj]
  simp only [h.there]
theorem Twin.hi {c d : CodeV} {i : Nat} (h : Twin c d i) (n : Nat) : hiF d n = hiF c n := by
  unfold hiF
  rw [h.blks, h.len]
/-- What stands at i stays, once it is not below nought. -/
theorem comeF_keep {lo hi : Int} {f : Flow} {at' on : Int} {i : Nat} (h : 0 ≤ f.deep.getD i 0) : (comeF lo hi f at' on).deep.getD i 0 = f.deep.getD i 0 := by
  unfold comeF
  split
  · rfl
  · split
    · rename_i hneg
      show (f.deep.set at'.toNat on).getD i 0 = _
      rw [List.getD_eq_getElem?_getD, List.getElem?_set]
      by_cases e : at'.toNat = i
      · rw [e] at hneg
        omega
      · rw [if_neg e, ← List.getD_eq_getElem?_getD]
    · split <;> rfl
theorem comeF_out {lo hi : Int} {f : Flow} {at' on : Int} {i : Nat} (hlo : 0 ≤ lo) (h : (i : Int) < lo ∨ hi ≤ i) : (comeF lo hi f at' on).deep.getD i 0 = f.deep.getD i 0 := by
  unfold comeF
  split
  · rfl
  · split
    · show (f.deep.set at'.toNat on).getD i 0 = _
      rw [List.getD_eq_getElem?_getD, List.getElem?_set]
      rw [if_neg (by omega), ← List.getD_eq_getElem?_getD]
    · split <;> rfl
theorem comeF_mem {lo hi : Int} {f : Flow} {at' on x : Int} (h : x ∈ f.opn) : x ∈ (comeF lo hi f at' on).opn := by
  unfold comeF
  split
  · exact h
  · split
    · exact (insS_perm at' f.opn).mem_iff.2 (List.mem_cons_of_mem _ h)
    · split <;> exact h
/-- Who is come to is open, as long as it was not looked at. -/
def OpenI (i : Nat) (f : Flow) : Prop := 0 ≤ f.deep.getD i 0 → (i : Int) ∈ f.opn
theorem OpenI.come {lo hi : Int} {f : Flow} {i : Nat} (h : OpenI i f) (hlo : 0 ≤ lo) (at' on : Int) : OpenI i (comeF lo hi f at' on) := by
  intro hd
  by_cases h0 : 0 ≤ f.deep.getD i 0
  · exact comeF_mem (h h0)
  · unfold comeF at hd ⊢
    split
    · rename_i hr
      rw [if_pos hr] at hd
      exact absurd hd h0
    · rename_i hr
      rw [if_neg hr] at hd
      split
      · rename_i hneg
        rw [if_pos hneg] at hd
        by_cases e : at'.toNat = i
        · have : at' = (i : Int) := by omega
          rw [this]
          exact (insS_perm _ f.opn).mem_iff.2 List.mem_cons_self
        · have hd2 : 0 ≤ (f.deep.set at'.toNat on).getD i 0 := hd
          rw [List.getD_eq_getElem?_getD, List.getElem?_set, if_neg e, ← List.getD_eq_getElem?_getD] at hd2
          exact absurd hd2 h0
      · rename_i hneg
        rw [if_neg hneg] at hd
        split at hd
        · exact absurd hd h0
        · exact absurd hd h0
/-- What one does to a flow: nothing, or it comes to one or two places. -/
theorem oneF_ind {c : CodeV} {n : Nat} {b : BlkV} {hi : Int} {f : Flow} {j : Int} {P : Flow → Prop} (h0 : P f) (h1 : ∀ g at' on, P g → 0 ≤ on → on ≤ b.dp → P (comeF b.lo hi g at' on)) : P (oneF c n b hi f j).2 := by
  unfold oneF
  simp only
  generalize c.ins.getD j.toNat default = x
  generalize f.deep.getD j.toNat 0 = on
  by_cases hw : wrongF c n b hi x on = true
  · rw [if_pos hw]
    exact h0
  · rw [if_neg hw]
    unfold wrongF at hw
    simp only [Bool.or_eq_true, decide_eq_true_eq, not_or] at hw
    have hw2 := hw.2
    have hp := needs_p x
    split
    · exact h0
    · split
      · split
        · exact h1 _ _ _ h0 (by omega) (by omega)
        · exact h0
      · split
        · exact h1 _ _ _ (h1 _ _ _ h0 (by omega) (by omega)) (by omega) (by omega)
        · exact h1 _ _ _ h0 (by omega) (by omega)
theorem FInv.pos {lo hi : Int} {nD : Nat} {f : Flow} (h : FInv lo hi nD f) (hlo : 0 ≤ lo) (hhi : hi ≤ nD) (at' : Int) {on : Int} (h0 : 0 ≤ on) (hp : ∀ x ∈ f.opn, 0 ≤ f.deep.getD x.toNat 0) : ∀ x ∈ (comeF lo hi f at' on).opn, 0 ≤ (comeF lo hi f at' on).deep.getD x.toNat 0 := by
  intro x hx
  unfold comeF at hx ⊢
  split
  · rename_i hr
    rw [if_pos hr] at hx
    exact hp x hx
  · rename_i hr
    rw [if_neg hr] at hx
    split
    · rename_i hneg
      rw [if_pos hneg] at hx
      show 0 ≤ (f.deep.set at'.toNat on).getD x.toNat 0
      have hl := h.len
      rw [List.getD_eq_getElem?_getD, List.getElem?_set]
      by_cases e : at'.toNat = x.toNat
      · rw [if_pos e, if_pos (by omega)]
        exact h0
      · rw [if_neg e, ← List.getD_eq_getElem?_getD]
        rcases insS_mem hx with h1 | h1
        · rw [h1] at e
          exact absurd rfl e
        · exact hp x h1
    · rename_i hneg
      rw [if_neg hneg] at hx
      split at hx
      · split
        · exact hp x hx
        · exact hp x hx
      · split
        · exact hp x hx
        · exact hp x hx
/-- Another block's look. -/
theorem Twin.loop_out {c d : CodeV} {i : Nat} (h : Twin c d i) {n : Nat} {b : BlkV} {hi : Int} {nD : Nat} (hlo : 0 ≤ b.lo) (hhi : hi ≤ nD) (hdp : b.dp ≤ 100000) (ho : (i : Int) < b.lo ∨ hi ≤ i) : ∀ (g : Nat) (f : Flow), FInv b.lo hi nD f → (f.opn ≠ [] → f.bad = false) → loopF d n b hi g f = loopF c n b hi g f
  | 0, _, _, _ => rfl
  | g + 1, f, hf, hb => by
    unfold loopF
    split
    · rfl
    · rename_i j rest e
      obtain ⟨h1, h2, h3, _⟩ := hf.tail e
      rw [h.one n b hi _ (show j.toNat ≠ i by omega)]
      have h4 := h1.one (c := c) (n := n) hlo hhi hdp j (hb (by rw [e]; simp))
      split
      · rename_i hr
        exact h.loop_out hlo hhi hdp ho g _ h4.1 (fun _ => h4.2.2 hr)
      · rfl
theorem loop_out_deep {c : CodeV} {i n : Nat} {b : BlkV} {hi : Int} (hlo : 0 ≤ b.lo) (ho : (i : Int) < b.lo ∨ hi ≤ i) : ∀ (g : Nat) (f : Flow), (loopF c n b hi g f).2.deep.getD i 0 = f.deep.getD i 0
  | 0, _ => rfl
  | g + 1, f => by
    unfold loopF
    split
    · rfl
    · rename_i j rest e
      have h1 : (oneF c n b hi { f with opn := rest } j).2.deep.getD i 0 = f.deep.getD i 0 := oneF_ind (P := fun g => g.deep.getD i 0 = f.deep.getD i 0) rfl (fun g at' on hg _ _ => by rw [comeF_out hlo ho, hg])
      split
      · rw [loop_out_deep hlo ho g, h1]
      · exact h1
theorem loop_keep {c : CodeV} {i n : Nat} {b : BlkV} {hi : Int} : ∀ (g : Nat) (f : Flow), 0 ≤ f.deep.getD i 0 → (loopF c n b hi g f).2.deep.getD i 0 = f.deep.getD i 0
  | 0, _, _ => rfl
  | g + 1, f, h => by
    unfold loopF
    split
    · rfl
    · rename_i j rest e
      have h1 : (oneF c n b hi { f with opn := rest } j).2.deep.getD i 0 = f.deep.getD i 0 := oneF_ind (P := fun g => g.deep.getD i 0 = f.deep.getD i 0) rfl (fun g at' on hg _ _ => by rw [comeF_keep (by rw [hg]; exact h), hg])
      split
      · rw [loop_keep g _ (by rw [h1]; exact h), h1]
      · exact h1
/-- The block in which it stands. -/
theorem Twin.loop_in {c d : CodeV} {i : Nat} (h : Twin c d i) {n : Nat} {b : BlkV} {hi : Int} {nD : Nat} (hlo : 0 ≤ b.lo) (hhi : hi ≤ nD) (hdp : b.dp ≤ 100000) (hbr : ∀ on, wrongF d n b hi (d.ins.getD i default) on = true) :
    ∀ (g : Nat) (f : Flow), FInv b.lo hi nD f → (f.opn ≠ [] → f.bad = false) → muF f < g → OpenI i f → (∀ x ∈ f.opn, 0 ≤ f.deep.getD x.toNat 0) → (loopF c n b hi g f).1 < 0 →
      ((loopF c n b hi g f).2.deep.getD i 0 < 0 → loopF d n b hi g f = loopF c n b hi g f) ∧ (0 ≤ (loopF c n b hi g f).2.deep.getD i 0 → (loopF d n b hi g f).1 = i)
  | 0, f, _, _, hmu, _, _, _ => by omega
  | g + 1, f, hf, hb, hmu, hop, hpos, hres => by
    unfold loopF at hres ⊢
    cases e : f.opn with
    | nil =>
      refine ⟨fun _ => rfl, fun h0 => ?_⟩
      have := hop h0
      rw [e] at this
      cases this
    | cons j rest =>
      rw [e] at hres
      simp only at hres ⊢
      obtain ⟨h1, h2, h3, h5⟩ := hf.tail e
      have h4 := h1.one (c := c) (n := n) hlo hhi hdp j (hb (by rw [e]; simp))
      have hr : (oneF c n b hi { f with opn := rest } j).1 = true := by
        cases hr : (oneF c n b hi { f with opn := rest } j).1 with
        | true => rfl
        | false =>
          rw [hr] at hres
          have : j < 0 := hres
          omega
      rw [hr] at hres ⊢
      simp only [if_true] at hres ⊢
      have hpj := hpos j (by rw [e]; exact List.mem_cons_self)
      by_cases hj : j.toNat = i
      · have hji : j = (i : Int) := by omega
        have hd : (oneF d n b hi { f with opn := rest } j).1 = false := by
          unfold oneF
          simp only
          rw [hj, if_pos (hbr _)]
        rw [hd]
        have h6 : (oneF c n b hi { f with opn := rest } j).2.deep.getD i 0 = f.deep.getD i 0 := oneF_ind (P := fun g => g.deep.getD i 0 = f.deep.getD i 0) rfl (fun g at' on hg _ _ => by rw [comeF_keep (by rw [hg, ← hj]; exact hpj), hg])
        have h7 := loop_keep (c := c) (n := n) (b := b) (hi := hi) (i := i) g _ (by rw [h6, ← hj]; exact hpj)
        refine ⟨fun hneg => ?_, fun _ => hji⟩
        rw [h7, h6, ← hj] at hneg
        omega
      · rw [h.one n b hi _ hj, hr]
        simp only [if_true]
        refine h.loop_in hlo hhi hdp hbr g _ h4.1 (fun _ => h4.2.2 hr) (by rw [h4.2.1]; omega) ?_ ?_ hres
        · refine oneF_ind (P := OpenI i) (fun hd => ?_) (fun g at' on hg _ _ => hg.come hlo at' on)
          have := hop hd
          rw [e] at this
          rcases List.mem_cons.1 this with h8 | h8
          · omega
          · exact h8
        · exact (oneF_ind (P := fun g => FInv b.lo hi nD g ∧ ∀ x ∈ g.opn, 0 ≤ g.deep.getD x.toNat 0) ⟨h1, fun x hx => hpos x (by rw [e]; exact List.mem_cons_of_mem _ hx)⟩ (fun g at' on hg h0 h9 => ⟨hg.1.come at' h0 (by omega), hg.1.pos hlo hhi at' h0 hg.2⟩)).2
/-- A block that may be. -/
structure BlkIn (c : CodeV) (n : Nat) (b : BlkV) : Prop where
  lo : 0 ≤ b.lo
  hi : hiF c n ≤ c.ins.length
  dp : b.dp ≤ 100000
theorem Twin.block_out {c d : CodeV} {i : Nat} (h : Twin c d i) {n : Nat} {b : BlkV} {deep : List Int} (hb : BlkIn c n b) (hf : FInv b.lo (hiF c n) c.ins.length ⟨deep, [], false⟩) (ho : (i : Int) < b.lo ∨ hiF c n ≤ i) :
    blockF d n b (hiF d n) ⟨deep, [], false⟩ = blockF c n b (hiF c n) ⟨deep, [], false⟩ ∧ ((blockF c n b (hiF c n) ⟨deep, [], false⟩).2.deep.getD i 0 = deep.getD i 0) := by
  rw [h.hi]
  unfold blockF
  rw [h.len]
  split
  · exact ⟨rfl, rfl⟩
  · have hf2 := hf.come b.lo (on := 0) (by omega) (by omega)
    refine ⟨h.loop_out hb.lo hb.hi hb.dp ho _ _ hf2 (fun hne => comeF_start rfl hne), ?_⟩
    rw [loop_out_deep hb.lo ho, comeF_out hb.lo ho]
theorem Twin.block_in {c d : CodeV} {i : Nat} (h : Twin c d i) {n : Nat} {b : BlkV} {deep : List Int} (hb : BlkIn c n b) (hf : FInv b.lo (hiF c n) c.ins.length ⟨deep, [], false⟩) (hd : deep.getD i 0 < 0) (hbr : ∀ on, wrongF d n b (hiF c n) (d.ins.getD i default) on = true) (hres : (blockF c n b (hiF c n) ⟨deep, [], false⟩).1 < 0) :
    ((blockF c n b (hiF c n) ⟨deep, [], false⟩).2.deep.getD i 0 < 0 → blockF d n b (hiF d n) ⟨deep, [], false⟩ = blockF c n b (hiF c n) ⟨deep, [], false⟩) ∧ (0 ≤ (blockF c n b (hiF c n) ⟨deep, [], false⟩).2.deep.getD i 0 → (blockF d n b (hiF d n) ⟨deep, [], false⟩).1 = i) := by
  rw [h.hi]
  unfold blockF at hres ⊢
  rw [h.len]
  split
  · rename_i hq
    rw [if_pos hq] at hres
    have := hb.lo
    have h9 : b.lo < 0 := hres
    omega
  · rename_i hq
    rw [if_neg hq] at hres
    have hf2 := hf.come b.lo (on := 0) (by omega) (by omega)
    refine h.loop_in hb.lo hb.hi hb.dp hbr _ _ hf2 (fun hne => comeF_start rfl hne) ?_ ?_ ?_ hres
    · rw [muF_come hf hb.lo hb.hi _ (by omega)]
      have := List.countP_le_length (p := fun x : Int => decide (x < 0)) (l := deep)
      have hl := hf.len
      unfold muF
      simp only [List.length_nil, Nat.add_zero]
      have hl2 : deep.length = c.ins.length := hl
      omega
    · exact OpenI.come (fun h0 => by
        have : 0 ≤ deep.getD i 0 := h0
        omega) hb.lo _ _
    · exact hf.pos hb.lo hb.hi _ (by omega) (by simp)
/-- The blocks' places. -/
structure BlksIn (c : CodeV) : Prop where
  blk : ∀ n, n < c.blks.length → BlkIn c n (c.blks.getD n default)
  next : ∀ n, n + 1 < c.blks.length → (c.blks.getD n default).lo < (c.blks.getD (n + 1) default).lo
theorem runF_out {c d : CodeV} {i : Nat} (h : Twin c d i) (hB : BlksIn c) : ∀ (k n : Nat) (deep : List Int), k = c.blks.length - n → (∀ j, j < c.ins.length → -1 ≤ deep.getD j 0 ∧ deep.getD j 0 ≤ 100000) → deep.length = c.ins.length → (∀ m, n ≤ m → m < c.blks.length → (i : Int) < (c.blks.getD m default).lo) →
    runF d n (c.blks.drop n) deep = runF c n (c.blks.drop n) deep ∧ ((runF c n (c.blks.drop n) deep).1 < 0 → (runF c n (c.blks.drop n) deep).2.getD i 0 = deep.getD i 0) := by
  intro k
  induction k with
  | zero =>
    intro n deep hk _ _ _
    rw [List.drop_of_length_le (by omega)]
    exact ⟨rfl, fun _ => rfl⟩
  | succ k ih =>
    intro n deep hk hd hl hi
    have hn : n < c.blks.length := by omega
    rw [List.drop_eq_getElem_cons hn]
    have e : c.blks[n] = c.blks.getD n default := by simp [List.getD_eq_getElem?_getD, hn]
    rw [e]
    have hf := flat_deep hl hd (c.blks.getD n default).lo (hiF c n)
    obtain ⟨h1, h2⟩ := h.block_out (hB.blk n hn) hf (.inl (hi n (Nat.le_refl _) hn))
    have hI := blockF_inv (c := c) (n := n) hf rfl rfl (hB.blk n hn).lo (hB.blk n hn).hi (hB.blk n hn).dp
    unfold runF
    rw [h1]
    split
    · rename_i hp
      exact ⟨rfl, fun hneg => by have h9 : (blockF c n (c.blks.getD n default) (hiF c n) ⟨deep, [], false⟩).1 < 0 := hneg; omega⟩
    · obtain ⟨h3, h4⟩ := ih (n + 1) _ (by omega) (fun j hj => hI.deep j (by rw [hI.len]; exact hj)) hI.len (fun m h5 h6 => hi m (by omega) h6)
      exact ⟨h3, fun hneg => by rw [h4 hneg, h2]⟩
theorem runF_in {c d : CodeV} {i : Nat} (h : Twin c d i) (hB : BlksIn c) (hi : i < c.ins.length) (hbr : ∀ n b on, n < c.blks.length → b = c.blks.getD n default → wrongF d n b (hiF c n) (d.ins.getD i default) on = true) : ∀ (k n : Nat) (deep : List Int), k = c.blks.length - n → n < c.blks.length → (∀ j, j < c.ins.length → -1 ≤ deep.getD j 0 ∧ deep.getD j 0 ≤ 100000) → deep.length = c.ins.length → (c.blks.getD n default).lo ≤ (i : Int) → deep.getD i 0 < 0 → (runF c n (c.blks.drop n) deep).1 < 0 →
    ((runF c n (c.blks.drop n) deep).2.getD i 0 < 0 → runF d n (c.blks.drop n) deep = runF c n (c.blks.drop n) deep) ∧ (0 ≤ (runF c n (c.blks.drop n) deep).2.getD i 0 → (runF d n (c.blks.drop n) deep).1 = i) := by
  intro k
  induction k with
  | zero => intro n deep hk hn; omega
  | succ k ih =>
    intro n deep hk hn hd hl hlo hdi hres
    rw [List.drop_eq_getElem_cons hn] at hres ⊢
    have e : c.blks[n] = c.blks.getD n default := by simp [List.getD_eq_getElem?_getD, hn]
    rw [e] at hres ⊢
    have hf := flat_deep hl hd (c.blks.getD n default).lo (hiF c n)
    have hI := blockF_inv (c := c) (n := n) hf rfl rfl (hB.blk n hn).lo (hB.blk n hn).hi (hB.blk n hn).dp
    have hID : ∀ j, j < c.ins.length → -1 ≤ (blockF c n (c.blks.getD n default) (hiF c n) ⟨deep, [], false⟩).2.deep.getD j 0 ∧ (blockF c n (c.blks.getD n default) (hiF c n) ⟨deep, [], false⟩).2.deep.getD j 0 ≤ 100000 := fun j hj => hI.deep j (by rw [hI.len]; exact hj)
    unfold runF at hres ⊢
    have hneg : ¬ 0 ≤ (blockF c n (c.blks.getD n default) (hiF c n) ⟨deep, [], false⟩).1 := by
      intro hp
      rw [if_pos hp] at hres
      have h9 : (blockF c n (c.blks.getD n default) (hiF c n) ⟨deep, [], false⟩).1 < 0 := hres
      omega
    rw [if_neg hneg] at hres ⊢
    by_cases hin : (i : Int) < hiF c n
    · obtain ⟨h1, h2⟩ := h.block_in (hB.blk n hn) hf hdi (fun on => hbr n _ on hn rfl) (by omega)
      have hlt : ∀ m, n + 1 ≤ m → m < c.blks.length → (i : Int) < (c.blks.getD m default).lo := by
        intro m h3 h4
        induction m with
        | zero => omega
        | succ m ihm =>
          by_cases hm : m = n
          · subst hm
            unfold hiF at hin
            rw [if_pos h4] at hin
            exact hin
          · have := ihm (by omega) (by omega)
            have := hB.next m h4
            omega
      obtain ⟨h3, h4⟩ := runF_out h hB _ (n + 1) _ rfl hID hI.len hlt
      have h5 := h4 hres
      constructor
      · intro hz
        rw [h5] at hz
        rw [h1 hz, if_neg hneg]
        exact h3
      · intro hz
        rw [h5] at hz
        have h6 := h2 hz
        rw [if_pos (by rw [h6]; omega)]
        exact h6
    · obtain ⟨h1, h2⟩ := h.block_out (hB.blk n hn) hf (.inr (by omega))
      have hn1 : n + 1 < c.blks.length := by
        by_cases hq : n + 1 < c.blks.length
        · exact hq
        · unfold hiF at hin
          rw [if_neg hq] at hin
          omega
      have hlo1 : (c.blks.getD (n + 1) default).lo ≤ (i : Int) := by
        unfold hiF at hin
        rw [if_pos hn1] at hin
        omega
      rw [h1, if_neg hneg]
      exact ih (n + 1) _ (by omega) hn1 hID hI.len hlo1 (by rw [h2]; exact hdi) hres
end Go.Proofs.YtknbgbeepachgaaDoor
