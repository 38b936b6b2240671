/-
  Texts of this claim, merged: RcI. Lemmas and contracts; no conditions of our own.
-/
import Derived.Test.YtknbgbeepachgaaDoorG11
import Derived.Test.YtknbgbeepachgaaDoorG16
import Derived.Deep.CutBlock

/-
  The document's Good of a code, exactly.
-/
namespace Go.Proofs.YtknbgbeepachgaaDoor
open Go.RowKit Go.Shelf

theorem insG_not (x : InsV) : (!insG x) = (decide (x.op < 1) || decide (12 < x.op) || decide (x.a < 0) || decide (1000000 < x.a) || decide (x.b < 0) || decide (1000000 < x.b) || (decide (x.b ≠ 0) && decide (x.op ≠ 5)) || (decide (x.a ≠ 0) && decide (11 ≤ x.op))) := by
  unfold insG upB
  rw [Bool.eq_iff_iff]
  simp only [Bool.not_eq_true', Bool.and_eq_false_iff, Bool.or_eq_false_iff, Bool.or_eq_true, Bool.and_eq_true, decide_eq_true_eq, decide_eq_false_iff_not, beq_eq_false_iff_ne]
  omega
theorem const_kinds {n : Nat} {d : Dat} (h : goodN (n + 1) d = true) : (d.kind == 0 || (walkD (n + 1) d).all (fun x => x.kind != 0)) = ((ksN (n + 1) d).drop 1).all (· != 0) := by
  have e : ((ksN (n + 1) d).drop 1).all (· != 0) = ((d.items ++ d.tail).flatMap (walkD n)).all (fun x => x.kind != 0) := by
    unfold ksN
    rw [walkD, List.map_cons, List.drop_succ_cons, List.drop_zero, List.all_map]
    rfl
  rw [e, walkD, List.all_cons]
  by_cases h0 : d.kind = 0
  · have hp : PlainD d := by
      unfold goodN at h
      simp only [Bool.and_eq_true, decide_eq_true_eq] at h
      exact h.1
    have hi := hp.2.2.2 (by omega)
    rw [hi.1, hi.2, h0]
    rfl
  · have hb : (d.kind == 0) = false := by simpa using h0
    have hb2 : (d.kind != 0) = true := by simpa using h0
    rw [hb, hb2, Bool.false_or, Bool.true_and]
theorem all_take {α : Type} [Inhabited α] {f : α → Bool} {ds : List α} (h : ∀ i, i < ds.length → f (ds.getD i default) = true) : ds.all f = true := by
  rw [List.all_eq_true]
  intro x hx
  obtain ⟨i, hi, rfl⟩ := List.getElem_of_mem hx
  have := h i hi
  rwa [List.getD_eq_getElem?_getD, List.getElem?_eq_getElem hi] at this
theorem all_fail {α : Type} [Inhabited α] {f : α → Bool} {ds : List α} {i : Nat} (hi : i < ds.length) (h : f (ds.getD i default) = false) : ds.all f = false := by
  rw [List.all_eq_false]
  rw [List.getD_eq_getElem?_getD, List.getElem?_eq_getElem hi] at h
  exact ⟨_, List.getElem_mem hi, by simpa using h⟩
theorem AllK.at {w0 w : World} {v : Value} {ks : List Int} (h : AllK w0 w v ks) (hp : 0 < ks.length) : ∃ g c, v = .slice (some ⟨g, 0, none⟩) ks.length c ∧ ∀ i, i < ks.length → ∃ neg aL nL cL b s aI nI cI aT nT cT, At7 w g (i * 7) (datCells (ks.getD i 0) neg aL nL cL b s aI nI cI aT nT cT) := by
  obtain ⟨css, h1, h2, h3⟩ := h
  obtain ⟨g, c, rfl⟩ : ∃ g c, v = .slice (some ⟨g, 0, none⟩) ks.length c := by
    rcases h3.2 with ⟨_, h0⟩ | ⟨g, c, _, e, _⟩
    · omega
    · exact ⟨g, c, e⟩
  refine ⟨g, c, rfl, fun i hi => ?_⟩
  have hl : css.length = ks.length := by rw [← h1, List.length_map]
  have hm1 : css.getD i [] ∈ css := by
    rw [List.getD_eq_getElem?_getD, List.getElem?_eq_getElem (by omega)]
    exact List.getElem_mem _
  have hk : ks.getD i 0 = kdOf (css.getD i []) := by
    rw [← h1, List.getD_eq_getElem?_getD, List.getD_eq_getElem?_getD, List.getElem?_map, List.getElem?_eq_getElem (show i < css.length by omega)]
    rfl
  have hat : At7 w g (i * 7) (css.getD i []) := ⟨(h2 _ hm1).len, fun j hj => by
    rw [h3.cellAt (i * 7 + j) (by omega)]
    exact flatten_get (fun cs hcs => (h2 cs hcs).len) (by omega) hj⟩
  obtain ⟨k, neg, aL, nL, cL, b, s, aI, nI, cI, aT, nT, cT, e⟩ := h2 _ hm1
  rw [e] at hat hk
  rw [hk]
  exact ⟨neg, aL, nL, cL, b, s, aI, nI, cI, aT, nT, cT, hat⟩
theorem drop_all {ks : List Int} (h : ∀ z, 0 < z → z < ks.length → ks.getD z 0 ≠ 0) : (ks.drop 1).all (· != 0) = true := by
  rw [List.all_eq_true]
  intro x hx
  obtain ⟨i, hi, rfl⟩ := List.getElem_of_mem hx
  have hi' : 1 + i < ks.length := by simp at hi; omega
  have := h (1 + i) (by omega) hi'
  rw [List.getElem_drop]
  rw [List.getD_eq_getElem?_getD, List.getElem?_eq_getElem hi'] at this
  simpa using this
theorem drop_fail {ks : List Int} {z : Nat} (h0 : 0 < z) (h1 : z < ks.length) (h : ks.getD z 0 = 0) : (ks.drop 1).all (· != 0) = false := by
  rw [List.all_eq_false]
  rw [List.getD_eq_getElem?_getD, List.getElem?_eq_getElem h1] at h
  refine ⟨0, ?_, by simp⟩
  obtain ⟨z, rfl⟩ : ∃ y, z = y + 1 := ⟨z - 1, by omega⟩
  have hz : z < (ks.drop 1).length := by simp; omega
  have e : (ks.drop 1)[z] = 0 := by
    rw [List.getElem_drop]
    have h' : ks[z + 1] = 0 := by simpa using h
    simpa [Nat.add_comm] using h'
  rw [← e]
  exact List.getElem_mem hz
set_option maxRecDepth 100000 in
set_option maxHeartbeats 4000000 in
theorem rGood14_calls {w : World} {n : Nat} {aI aB aC : Option Addr} (cI cB cC : Nat) {c : CodeV} (h : IsC w n aI aB aC c) (hl : Lit' n c) :
    Calls Tryd.prog 22 #[.agg #[.slice aI c.ins.length cI, .slice aB c.blks.length cB, .slice aC c.cons.length cC]] w fun e w' => e = .returned (.bool (codeG n c)) ∧ Upd [] w w' := by
  obtain ⟨nI, hnI⟩ : ∃ nI, nI = c.ins.length := ⟨_, rfl⟩
  obtain ⟨nB, hnB⟩ : ∃ nB, nB = c.blks.length := ⟨_, rfl⟩
  obtain ⟨nC, hnC⟩ : ∃ nC, nC = c.cons.length := ⟨_, rfl⟩
  have hb1 : nI ≤ 60000 := by rw [hnI]; exact hl.nI
  have hb2 : nB ≤ 5000 := by rw [hnB]; exact hl.nB
  have hb3 : nC ≤ 5000 := by rw [hnC]; exact hl.nC
  have hb1' : ¬ (65536 : Int) < (nI : Int) := by omega
  have hb2' : ¬ (5000 : Int) < (nB : Int) := by omega
  have hb3' : ¬ (5000 : Int) < (nC : Int) := by omega
  have hb1d : decide ((65536 : Int) < (nI : Int)) = false := decide_eq_false (by omega)
  have hb2d : decide ((5000 : Int) < (nB : Int)) = false := decide_eq_false (by omega)
  have hb3d : decide ((5000 : Int) < (nC : Int)) = false := decide_eq_false (by omega)
  rw [← hnI, ← hnB, ← hnC]
  have HC := Lib.hid (fun (W : World) (hu : Upd [] w W) => h.upd hu)
  have HL := Lib.hid hl
  have HNI := Lib.hid hnI
  have HNB := Lib.hid hnB
  have HNC := Lib.hid hnC
  obtain ⟨GG, hGG⟩ : ∃ GG, GG = codeG n c := ⟨_, rfl⟩
  have hG : GG = ((c.ins.all insG && c.blks.all blkG) && c.cons.all (constN n)) := hGG
  rw [← hGG]
  have HG := Lib.hid hG
  have hB0 : Blk (w.alloc (.cells #[.slice aI nI cI, .slice aB nB cB, .slice aC nC cC] 37)) w.heap.size [.slice aI nI cI, .slice aB nB cB, .slice aC nC cC] 37 := Blk.newAt rfl
  have HBX := Lib.hid hB0
  have HU1 := Lib.hid ((Upd.refl [] w).alloc (.cells #[.slice aI nI cI, .slice aB nB cB, .slice aC nC cC] 37))
  clear h hl hnI hnB hnC hGG hG hB0
  go_enter Tryd.func22, Tryd.ntmps22
  go_upto_region 1 with (fail)
  generalize w.alloc (.cells #[.slice aI nI cI, .slice aB nB cB, .slice aC nC cC] 37) = W1 at *
  generalize w.heap.size = X at *
  have x0 := HBX.out.cell_some (i := 0) rfl
  have x1 := HBX.out.cell_some (i := 1) rfl
  have x2 := HBX.out.cell_some (i := 2) rfl
  go_upto_block 0 with (fail)
  go_cut [] from 4 to 84 (fun wx => Hid (c.ins.all insG = true) ∧ Hid (Upd [] W1 wx))
  case first =>
    go_wp2_with fail
    go_loopw [32] (fun i wr => ∃ k : Nat, k ≤ nI ∧ i = .int .i64 k ∧ Hid (∀ q, q < k → insG (c.ins.getD q default) = true) ∧ Hid (Upd [] W1 wr)) (fun i _ => nI - (intOf i).toNat)
    case atStart => exact ⟨0, by omega, rfl, Lib.hid (fun k hk => absurd hk (by omega)), Upd.refl _ _⟩
    case round =>
      obtain ⟨k, hk, rfl, hA, hU⟩ := hrel
      by_cases hlt : k < nI
      · have hlt' : (k : Int) < (nI : Int) := by omega
        have hkl : k < c.ins.length := by rw [← HNI.out]; exact hlt
        obtain ⟨bI, oI, eI, y0, y1, y2⟩ := insAt_get (HC.out wr (HU1.out.then hU.out)).ins hkl
        subst eI
        have lI := World.block_lt_of_cell? wr _ y0
        simp only at lI
        obtain ⟨x, hx⟩ : ∃ x, x = c.ins.getD k default := ⟨_, rfl⟩
        rw [← hx] at y0 y1 y2
        have HX := Lib.hid hx
        have hng := insG_not x
        obtain ⟨gx, hgx⟩ : ∃ gx, gx = insG x := ⟨_, rfl⟩
        rw [← hgx] at hng
        have HGX := Lib.hid hgx
        have hu7 : Upd [] wr (wr.alloc (.cells #[.int .i64 x.op, .int .i64 x.a, .int .i64 x.b] 60)) := (Upd.refl [] wr).alloc _
        have hB7 : Blk (wr.alloc (.cells #[.int .i64 x.op, .int .i64 x.a, .int .i64 x.b] 60)) wr.heap.size [.int .i64 x.op, .int .i64 x.a, .int .i64 x.b] 60 := Blk.newAt rfl
        have HU7 := Lib.hid (hU.out.then hu7)
        have HB7 := Lib.hid hB7
        clear hx hgx hu7 hB7
        obtain ⟨op, xa, xb⟩ := x
        simp only at hng
        have HNG := Lib.hid hng
        clear hng
        go_upto_region 6 with (fail)
        generalize wr.alloc (.cells #[.int .i64 op, .int .i64 xa, .int .i64 xb] 60) = W7 at *
        generalize wr.heap.size = B at *
        have b0 := HB7.out.cell_some (i := 0) rfl
        have b1 := HB7.out.cell_some (i := 1) rfl
        have b2 := HB7.out.cell_some (i := 2) rfl
        clear y0 y1 y2 lI
        go_cut [83] from 34 to 83 (fun s wx => s = .bool (!gx) ∧ wx = W7)
        case first =>
          by_cases q0 : op < 1
          · have d0 : decide (op < 1) = true := decide_eq_true q0
            have e : Hid (gx = false) := Lib.hid (by have h := HNG.out; clear HNG HGX HX; grind)
            clear HNG HGX
            go_wp2
            go_meet
            case rel => exact ⟨by rw [e.out]; rfl, rfl⟩
          · have d0 : decide (op < 1) = false := decide_eq_false q0
            by_cases q1 : 12 < op
            · have d1 : decide (12 < op) = true := decide_eq_true q1
              have e : Hid (gx = false) := Lib.hid (by have h := HNG.out; clear HNG HGX HX; grind)
              clear HNG HGX
              go_wp2
              go_meet
              case rel => exact ⟨by rw [e.out]; rfl, rfl⟩
            · have d1 : decide (12 < op) = false := decide_eq_false q1
              by_cases q2 : xa < 0
              · have d2 : decide (xa < 0) = true := decide_eq_true q2
                have e : Hid (gx = false) := Lib.hid (by have h := HNG.out; clear HNG HGX HX; grind)
                clear HNG HGX
                go_wp2
                go_meet
                case rel => exact ⟨by rw [e.out]; rfl, rfl⟩
              · have d2 : decide (xa < 0) = false := decide_eq_false q2
                by_cases q3 : 1000000 < xa
                · have d3 : decide (1000000 < xa) = true := decide_eq_true q3
                  have e : Hid (gx = false) := Lib.hid (by have h := HNG.out; clear HNG HGX HX; grind)
                  clear HNG HGX
                  go_wp2
                  go_meet
                  case rel => exact ⟨by rw [e.out]; rfl, rfl⟩
                · have d3 : decide (1000000 < xa) = false := decide_eq_false q3
                  by_cases q4 : xb < 0
                  · have d4 : decide (xb < 0) = true := decide_eq_true q4
                    have e : Hid (gx = false) := Lib.hid (by have h := HNG.out; clear HNG HGX HX; grind)
                    clear HNG HGX
                    go_wp2
                    go_meet
                    case rel => exact ⟨by rw [e.out]; rfl, rfl⟩
                  · have d4 : decide (xb < 0) = false := decide_eq_false q4
                    by_cases q5 : 1000000 < xb
                    · have d5 : decide (1000000 < xb) = true := decide_eq_true q5
                      have e : Hid (gx = false) := Lib.hid (by have h := HNG.out; clear HNG HGX HX; grind)
                      clear HNG HGX
                      go_wp2
                      go_meet
                      case rel => exact ⟨by rw [e.out]; rfl, rfl⟩
                    · have d5 : decide (1000000 < xb) = false := decide_eq_false q5
                      by_cases q6 : xb = 0
                      · have d6 : (xb != 0) = false := by simp [q6]
                        by_cases q8 : xa = 0
                        · have d8 : (xa != 0) = false := by simp [q8]
                          have e : Hid (gx = true) := Lib.hid (by have h := HNG.out; clear HNG HGX HX; grind)
                          clear HNG HGX
                          go_wp2
                          go_meet
                          case rel => exact ⟨by rw [e.out]; rfl, rfl⟩
                        · have d8 : (xa != 0) = true := by simpa using q8
                          by_cases q9 : 11 ≤ op
                          · have d9 : decide (11 ≤ op) = true := decide_eq_true q9
                            have e : Hid (gx = false) := Lib.hid (by have h := HNG.out; clear HNG HGX HX; grind)
                            clear HNG HGX
                            go_wp2
                            go_meet
                            case rel => exact ⟨by rw [e.out]; rfl, rfl⟩
                          · have d9 : decide (11 ≤ op) = false := decide_eq_false q9
                            have e : Hid (gx = true) := Lib.hid (by have h := HNG.out; clear HNG HGX HX; grind)
                            clear HNG HGX
                            go_wp2
                            go_meet
                            case rel => exact ⟨by rw [e.out]; rfl, rfl⟩
                      · have d6 : (xb != 0) = true := by simpa using q6
                        by_cases q7 : op = 5
                        · have d7 : (op != 5) = false := by simp [q7]
                          by_cases q8 : xa = 0
                          · have d8 : (xa != 0) = false := by simp [q8]
                            have e : Hid (gx = true) := Lib.hid (by have h := HNG.out; clear HNG HGX HX; grind)
                            clear HNG HGX
                            go_wp2
                            go_meet
                            case rel => exact ⟨by rw [e.out]; rfl, rfl⟩
                          · have d8 : (xa != 0) = true := by simpa using q8
                            by_cases q9 : 11 ≤ op
                            · exfalso; omega
                            · have d9 : decide (11 ≤ op) = false := decide_eq_false q9
                              have e : Hid (gx = true) := Lib.hid (by have h := HNG.out; clear HNG HGX HX; grind)
                              clear HNG HGX
                              go_wp2
                              go_meet
                              case rel => exact ⟨by rw [e.out]; rfl, rfl⟩
                        · have d7 : (op != 5) = true := by simpa using q7
                          have e : Hid (gx = false) := Lib.hid (by have h := HNG.out; clear HNG HGX HX; grind)
                          clear HNG HGX
                          go_wp2
                          go_meet
                          case rel => exact ⟨by rw [e.out]; rfl, rfl⟩
        case rest =>
        obtain ⟨rfl, hwc⟩ := hcut
        rw [hwc]
        clear hwc wc
        cases gx with
        | false =>
          have E9 : Hid (GG = false) := Lib.hid (by
            rw [HG.out, all_fail (f := insG) hkl (by rw [← HX.out]; exact HGX.out.symm)]
            rfl)
          go_wp2
          go_ret
          exact ⟨by rw [E9.out]; rfl, HU1.out.then HU7.out⟩
        | true =>
          have hA2 : Hid (∀ q, q < k + 1 → insG (c.ins.getD q default) = true) := Lib.hid (fun q hq => by
            by_cases e : q = k
            · rw [e, ← HX.out]; exact HGX.out.symm
            · exact hA.out q (by omega))
          clear hA HNG HGX HX b0 b1 b2
          go_wp2
          go_roundw
          case rel => exact ⟨k + 1, by omega, by go_num, hA2, HU7⟩
          case measure => simp [intOf]; omega
      · have hkm : k = nI := by omega
        have hlt' : ¬ (k : Int) < (nI : Int) := by omega
        have H9 : Hid (c.ins.all insG = true) := Lib.hid (all_take (fun i hi => hA.out i (by rw [hkm, HNI.out]; exact hi)))
        clear hkm hA
        go_wp2
        go_meet
        case rel => exact ⟨H9, hU⟩
  case rest =>
  obtain ⟨HGI, HU2⟩ := hcut
  generalize wc = W2 at *
  have HU1 := Lib.hid (HU1.out.then HU2.out)
  have HBX := Lib.hid (HU2.out.blk HBX.out (by simp))
  clear HU2 x0 x1 x2
  have x1 := HBX.out.cell_some (i := 1) rfl
  go_upto_block 2 with (fail)
  go_cut [] from 6 to 113 (fun wx => Hid (c.blks.all blkG = true) ∧ Hid (Upd [] W2 wx))
  case first =>
    go_wp2_with fail
    go_loopw [88] (fun i wr => ∃ k : Nat, k ≤ nB ∧ i = .int .i64 k ∧ Hid (∀ q, q < k → blkG (c.blks.getD q default) = true) ∧ Hid (Upd [] W2 wr)) (fun i _ => nB - (intOf i).toNat)
    case atStart => exact ⟨0, by omega, rfl, Lib.hid (fun k hk => absurd hk (by omega)), Upd.refl _ _⟩
    case round =>
      obtain ⟨k, hk, rfl, hA, hU⟩ := hrel
      by_cases hlt : k < nB
      · have hlt' : (k : Int) < (nB : Int) := by omega
        have hkl : k < c.blks.length := by rw [← HNB.out]; exact hlt
        obtain ⟨bB, oB, eB, y0, y1, y2, y3, y4, y5⟩ := blkAt_get (HC.out wr (HU1.out.then hU.out)).blks hkl
        subst eB
        have lI := World.block_lt_of_cell? wr _ y0
        simp only at lI
        obtain ⟨x, hx⟩ : ∃ x, x = c.blks.getD k default := ⟨_, rfl⟩
        rw [← hx] at y0 y1 y2 y3 y4 y5
        have HX := Lib.hid hx
        have hng : blkG x = (blkNums x).all (fun n => upB n 100000) := rfl
        obtain ⟨gx, hgx⟩ : ∃ gx, gx = blkG x := ⟨_, rfl⟩
        rw [← hgx] at hng
        have HGX := Lib.hid hgx
        have hu7 : Upd [] wr (wr.alloc (.cells #[.int .i64 x.lo, .int .i64 x.pr, .bool x.rest, .int .i64 x.sl, .int .i64 x.dp, .int .i64 x.ou] 61)) := (Upd.refl [] wr).alloc _
        have HU7 := Lib.hid (hU.out.then hu7)
        clear hx hgx hu7
        obtain ⟨ns, hns⟩ : ∃ ns, ns = blkNums x := ⟨_, rfl⟩
        rw [← hns] at hng
        have hix : ∀ (q : Nat) w, q < 5 → (Instr.index 82 (.agg #[.int .i64 x.lo, .int .i64 x.pr, .int .i64 x.sl, .int .i64 x.dp, .int .i64 x.ou]) (.int .i64 q)).run Tryd.prog w = .ok (.int .i64 (ns.getD q 0)) w := by
          intro q w hq
          rw [hns]
          obtain rfl | rfl | rfl | rfl | rfl : q = 0 ∨ q = 1 ∨ q = 2 ∨ q = 3 ∨ q = 4 := by omega
          all_goals kernel_rfl
        have hnl : ns.length = 5 := by rw [hns]; rfl
        have HIX := Lib.hid hix
        have HNG := Lib.hid hng
        have HNL := Lib.hid hnl
        clear hix hng hnl hns
        obtain ⟨lo, pr, rest, sl, dp, ou⟩ := x
        go_wp2_with fail
        go_loopw [103] (fun i wx => ∃ q : Nat, q ≤ 5 ∧ i = .int .i64 q ∧ Hid (∀ z, z < q → upB (ns.getD z 0) 100000 = true) ∧ wx = (wr.alloc (.cells #[.int .i64 lo, .int .i64 pr, .bool rest, .int .i64 sl, .int .i64 dp, .int .i64 ou] 61))) (fun i _ => 5 - (intOf i).toNat)
        case atStart => exact ⟨0, by omega, rfl, Lib.hid (fun k hk => absurd hk (by omega)), rfl⟩
        case round =>
          obtain ⟨q, hq, rfl, hA9, rfl⟩ := hrel
          by_cases hq5 : q < 5
          · have hq5' : (q : Int) < 5 := by omega
            have hix := fun w => HIX.out q w hq5
            obtain ⟨y, hy⟩ : ∃ y, y = ns.getD q 0 := ⟨_, rfl⟩
            rw [← hy] at hix
            have hbad : Hid (upB y 100000 = false → GG = false) := Lib.hid (fun h => by
              have h2 : gx = false := by
                rw [HNG.out]
                exact all_fail (f := fun n => upB n 100000) (i := q) (by rw [HNL.out]; exact hq5) (by show upB (ns.getD q 0) 100000 = false; rw [← hy]; exact h)
              rw [HG.out, all_fail (f := blkG) hkl (by rw [← HX.out, ← HGX.out]; exact h2)]
              simp)
            have hgood : Hid (upB y 100000 = true → ∀ z, z < q + 1 → upB (ns.getD z 0) 100000 = true) := Lib.hid (fun h z hz => by
              by_cases e : z = q
              · rw [e, ← hy]; exact h
              · exact hA9.out z (by omega))
            clear hy hA9
            by_cases g1 : y < 0
            · have E9 := Lib.hid (hbad.out (by unfold upB; simp; omega))
              have d1 : decide (y < 0) = true := decide_eq_true g1
              clear hbad hgood
              go_wp2
              go_ret
              exact ⟨by rw [E9.out]; rfl, HU1.out.then HU7.out⟩
            · have d1 : decide (y < 0) = false := decide_eq_false g1
              by_cases g2 : 100000 < y
              · have E9 := Lib.hid (hbad.out (by unfold upB; simp; omega))
                have d2 : decide (100000 < y) = true := decide_eq_true g2
                clear hbad hgood
                go_wp2
                go_ret
                exact ⟨by rw [E9.out]; rfl, HU1.out.then HU7.out⟩
              · have H9 := Lib.hid (hgood.out (by unfold upB; simp; omega))
                have d2 : decide (100000 < y) = false := decide_eq_false g2
                clear hbad hgood
                go_wp2
                go_roundw
                case rel => exact ⟨q + 1, by omega, by go_num, H9, trivial⟩
                case measure => simp [intOf]; omega
          · have hq5' : q = 5 := by omega
            have hA2 : Hid (∀ z, z < k + 1 → blkG (c.blks.getD z default) = true) := Lib.hid (fun z hz => by
              by_cases e : z = k
              · rw [e, ← HX.out, ← HGX.out, HNG.out]
                exact all_take (f := fun n => upB n 100000) (fun i hi => hA9.out i (by rw [HNL.out] at hi; omega))
              · exact hA.out z (by omega))
            subst hq5'
            clear hA hA9 HNG HGX HX
            go_wp2
            go_roundw
            case rel => exact ⟨k + 1, by omega, by go_num, hA2, HU7⟩
            case measure => simp [intOf]; omega
      · have hkm : k = nB := by omega
        have hlt' : ¬ (k : Int) < (nB : Int) := by omega
        have H9 : Hid (c.blks.all blkG = true) := Lib.hid (all_take (fun i hi => hA.out i (by rw [hkm, HNB.out]; exact hi)))
        clear hkm hA
        go_wp2
        go_meet
        case rel => exact ⟨H9, hU⟩
  case rest =>
  obtain ⟨HGB, HU2⟩ := hcut
  generalize wc = W3 at *
  have HU1 := Lib.hid (HU1.out.then HU2.out)
  have HBX := Lib.hid (HU2.out.blk HBX.out (by simp))
  clear HU2 x1
  have x2 := HBX.out.cell_some (i := 2) rfl
  go_upto_block 6 with (fail)
  go_cut [] from 10 to 140 (fun wx => Hid (c.cons.all (constN n) = true) ∧ Hid (Upd [] W3 wx))
  case first =>
    go_wp2_with fail
    go_loopw [117] (fun i wr => ∃ k : Nat, k ≤ nC ∧ i = .int .i64 k ∧ Hid (∀ q, q < k → constN n (c.cons.getD q default) = true) ∧ Hid (Upd [] W3 wr)) (fun i _ => nC - (intOf i).toNat)
    case atStart => exact ⟨0, by omega, rfl, Lib.hid (fun k hk => absurd hk (by omega)), Upd.refl _ _⟩
    case round =>
      obtain ⟨k, hk, rfl, hA, hU⟩ := hrel
      by_cases hlt : k < nC
      · have hlt' : (k : Int) < (nC : Int) := by omega
        have hkl : k < c.cons.length := by rw [← HNC.out]; exact hlt
        obtain ⟨b, o, cs, eC, _, hat, hd1⟩ := (HC.out wr (HU1.out.then hU.out)).cons k hkl
        subst eC
        obtain ⟨yL, zL, yI, zI, yT, zT, rfl⟩ := cells_agg hd1
        obtain ⟨q0, q1, q2, q3, q4, q5, q6⟩ := hat.cells
        obtain ⟨x, hx⟩ : ∃ x, x = c.cons.getD k default := ⟨_, rfl⟩
        rw [← hx] at hd1 q0 q1 q2 q3 q4 q5 q6
        have hsz := (HL.out.cons x (by rw [hx, List.getD_eq_getElem?_getD, List.getElem?_eq_getElem hkl]; exact List.getElem_mem hkl)).1
        have lI := World.block_lt_of_cell? wr _ q0
        simp only at lI
        have hu7 : Upd [] wr (wr.alloc (.cells #[.int .i64 x.kind, .bool x.neg, .slice yL x.limbs.length zL, .bool x.b, .string x.s, .slice yI x.items.length zI, .slice yT x.tail.length zT] 56)) := (Upd.refl [] wr).alloc _
        have hB7 : Blk (wr.alloc (.cells #[.int .i64 x.kind, .bool x.neg, .slice yL x.limbs.length zL, .bool x.b, .string x.s, .slice yI x.items.length zI, .slice yT x.tail.length zT] 56)) wr.heap.size [.int .i64 x.kind, .bool x.neg, .slice yL x.limbs.length zL, .bool x.b, .string x.s, .slice yI x.items.length zI, .slice yT x.tail.length zT] 56 := Blk.newAt rfl
        have hGd := fun (W : World) (hu : Upd [] wr W) => RGood_calls (hd1.upd hu)
        have hAl := fun (W : World) (hu : Upd [] wr W) => allK_calls (fun _ => True) n x _ W (hd1.upd hu) hsz
        have HGD := Lib.hid hGd
        have HAL := Lib.hid hAl
        have HU7 := Lib.hid hu7
        have HB7 := Lib.hid hB7
        have HX := Lib.hid hx
        have hcn : constN n x = ((decide (0 ≤ budN n x 5000 200) && goodN n x) && (x.kind == 0 || (walkD n x).all (fun x => x.kind != 0))) := rfl
        have HCN := Lib.hid hcn
        have hkl2 : (ksN n x).length = szN n x := ksN_len n x (by omega)
        have HKL := Lib.hid hkl2
        have hszp := szN_pos n x
        have hbad : constN n x = false → GG = false := fun h => by
          rw [HG.out, all_fail (f := constN n) hkl (by rw [← hx]; exact h)]
          simp
        have HBAD := Lib.hid hbad
        have hck : goodN n x = true → (x.kind == 0 || (walkD n x).all (fun x => x.kind != 0)) = ((ksN n x).drop 1).all (· != 0) := fun h => by
          cases n with
          | zero => exact absurd h (by simp [goodN])
          | succ n => exact const_kinds h
        have HCK := Lib.hid hck
        unfold datCells at HGD HAL
        clear hd1 hat hx hGd hAl hcn hkl2 hbad hck hu7 hB7
        obtain ⟨g1, hg1⟩ : ∃ g1, g1 = (decide (0 ≤ budN n x 5000 200) && goodN n x) := ⟨_, rfl⟩
        have HG1 := Lib.hid hg1
        rw [← hg1] at HGD HCN
        clear hg1
        generalize hks : ksN n x = ks at *
        generalize szN n x = sz at *
        generalize (x.kind == 0 || (walkD n x).all (fun x => x.kind != 0)) = w9 at *
        clear hks
        go_wp2_with fail
        refine (HGD.out _ HU7.out).mono ?_
        rintro e w4 ⟨rfl, hu4⟩
        have HU4 := Lib.hid (HU7.out.then hu4)
        obtain ⟨b0, b1, b2, b3, b4, b5, b6⟩ := Blk.seven (hu4.blk HB7.out (by simp))
        clear hu4 HGD HB7 q0 q1 q2 q3 q4 q5 q6 HU7
        cases g1 with
        | false =>
          have E9 := Lib.hid (HBAD.out (by rw [HCN.out]; rfl))
          have HU9 := Lib.hid (HU1.out.then (hU.out.then HU4.out))
          clear HBAD HCN HCK
          go_wp2
          go_ret
          exact ⟨by rw [E9.out]; rfl, HU9.out⟩
        | true =>
          have hgd : goodN n x = true := by
            have h := HG1.out.symm
            simp only [Bool.and_eq_true] at h
            exact h.2
          have hcn : constN n x = (ks.drop 1).all (· != 0) := by rw [HCN.out, HCK.out hgd, Bool.true_and]
          have HCN2 := Lib.hid hcn
          clear hgd hcn HCN HCK HG1
          go_wp2_with fail
          refine (HAL.out _ HU4.out).mono ?_
          rintro e w5 ⟨⟨v5, rfl, hv5⟩, hu5⟩
          have hpos : 0 < ks.length := by rw [HKL.out]; omega
          have hkb : ks.length ≤ 100000 := by rw [HKL.out]; exact hsz
          obtain ⟨g, cap, rfl, hels⟩ := hv5.at hpos
          have HEL := Lib.hid hels
          have HU5 := Lib.hid (HU4.out.then hu5)
          obtain ⟨nk, hnk⟩ : ∃ nk, nk = ks.length := ⟨_, rfl⟩
          rw [← hnk] at HEL hpos hkb ⊢
          have HNK := Lib.hid hnk
          clear hv5 hu5 hels HAL HU4 b0 b1 b2 b3 b4 b5 b6 hnk HKL
          go_wp2_with fail
          go_loopw [127] (fun i wx => ∃ z : Nat, z ≤ nk ∧ i = .int .i64 z ∧ Hid (∀ q, 0 < q → q < z → ks.getD q 0 ≠ 0) ∧ Hid (Upd [] w5 wx)) (fun i _ => nk - (intOf i).toNat)
          case atStart => exact ⟨0, by omega, rfl, Lib.hid (fun k _ hk => absurd hk (by omega)), Upd.refl _ _⟩
          case round =>
            rename_i wz
            obtain ⟨z, hz, rfl, hAz, hUz⟩ := hrel
            by_cases hlz : z < nk
            · have hlz' : (z : Int) < (nk : Int) := by omega
              obtain ⟨ng9, aL9, nL9, cL9, bb9, ss9, aI9, nI9, cI9, aT9, nT9, cT9, hat⟩ := HEL.out z hlz
              obtain ⟨q0, q1, q2, q3, q4, q5, q6⟩ := (hat.upd hUz.out (by simp)).cells
              obtain ⟨y, hy⟩ : ∃ y, y = ks.getD z 0 := ⟨_, rfl⟩
              rw [← hy] at q0
              have HY := Lib.hid hy
              have hu8 : Upd [] w5 (wr.alloc (.cells #[.int .i64 y, .bool ng9, .slice aL9 nL9 cL9, .bool bb9, .string ss9, .slice aI9 nI9 cI9, .slice aT9 nT9 cT9] 56)) := hUz.out.alloc _
              have HU8 := Lib.hid hu8
              clear hat hy hu8
              by_cases hz0 : z = 0
              · subst hz0
                have hA2 : Hid (∀ q, 0 < q → q < 0 + 1 → ks.getD q 0 ≠ 0) := Lib.hid (fun q h0 h1 => absurd h0 (by omega))
                clear hAz HY
                go_wp2
                go_roundw
                case rel => exact ⟨0 + 1, by omega, by go_num, hA2, HU8⟩
                case measure => simp [intOf]; omega
              · have hz0' : (0 : Int) < (z : Int) := by omega
                have hz0d : decide ((0 : Int) < (z : Int)) = true := decide_eq_true hz0'
                by_cases hy0 : y = 0
                · have E9 := Lib.hid (HBAD.out (by rw [HCN2.out]; exact drop_fail (z := z) (by omega) (by rw [← HNK.out]; exact hlz) (by rw [← HY.out]; exact hy0)))
                  have HU9 := Lib.hid (HU1.out.then (hU.out.then (HU5.out.then HU8.out)))
                  clear hAz HY HCN2 HBAD
                  subst hy0
                  go_wp2
                  go_ret
                  exact ⟨by rw [E9.out]; rfl, HU9.out⟩
                · have hy0d : (y == 0) = false := by simpa using hy0
                  have hA2 : Hid (∀ q, 0 < q → q < z + 1 → ks.getD q 0 ≠ 0) := Lib.hid (fun q h0 h1 => by
                    by_cases e : q = z
                    · rw [e, ← HY.out]; exact hy0
                    · exact hAz.out q h0 (by omega))
                  clear hAz HY
                  go_wp2
                  go_roundw
                  case rel => exact ⟨z + 1, by omega, by go_num, hA2, HU8⟩
                  case measure => simp [intOf]; omega
            · have hzm : z = nk := by omega
              have hlz' : ¬ (z : Int) < (nk : Int) := by omega
              have hA2 : Hid (∀ q, q < k + 1 → constN n (c.cons.getD q default) = true) := Lib.hid (fun q hq => by
                by_cases e : q = k
                · rw [e, ← HX.out, HCN2.out]
                  exact drop_all (fun z h0 h1 => hAz.out z h0 (by rw [hzm, HNK.out]; exact h1))
                · exact hA.out q (by omega))
              have HU9 := Lib.hid (hU.out.then (HU5.out.then hUz.out))
              clear hA hAz HX HCN2 hzm
              go_wp2
              go_roundw
              case rel => exact ⟨k + 1, by omega, by go_num, hA2, HU9⟩
              case measure => simp [intOf]; omega
      · have hkm : k = nC := by omega
        have hlt' : ¬ (k : Int) < (nC : Int) := by omega
        have H9 : Hid (c.cons.all (constN n) = true) := Lib.hid (all_take (fun i hi => hA.out i (by rw [hkm, HNC.out]; exact hi)))
        clear hkm hA
        go_wp2
        go_meet
        case rel => exact ⟨H9, hU⟩
  case rest =>
  obtain ⟨HGC, HU2⟩ := hcut
  have E9 : Hid (GG = true) := Lib.hid (by rw [HG.out, HGI.out, HGB.out, HGC.out]; rfl)
  go_wp2
  go_ret
  exact ⟨by rw [E9.out]; rfl, HU1.out.then HU2.out⟩
end Go.Proofs.YtknbgbeepachgaaDoor
