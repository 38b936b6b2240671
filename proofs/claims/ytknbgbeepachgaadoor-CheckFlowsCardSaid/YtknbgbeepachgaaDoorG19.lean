/-
  Texts of this claim, merged: CfX, DoorL. Lemmas and contracts; no conditions of our own.
-/
import Derived.Test.YtknbgbeepachgaaDoorG11
import Derived.Test.YtknbgbeepachgaaDoorG18
import Derived.Deep.RegionHeld3
import Derived.LaidMore
import Derived.Stop.Joined

/-
  CheckFlows: the walk.
-/
namespace Go.Proofs.YtknbgbeepachgaaDoor
open Go.RowKit Go.Shelf

set_option maxRecDepth 100000 in
set_option maxHeartbeats 4000000 in
theorem flows_walk {w : World} {n : Nat} {aI aB aC : Option Addr} (cI cB cC : Nat) {c : CodeV} (h : IsC w n aI aB aC c) (hT : Tabs w) :
    Calls Tryd.prog 4 #[.agg #[.slice aI c.ins.length cI, .slice aB c.blks.length cB, .slice aC c.cons.length cC]] w fun e w' => e = .returned (.bool true) ∧ Upd [] w w' := by
  have hBx : Blk (w.alloc (.cells #[.slice aI c.ins.length cI, .slice aB c.blks.length cB, .slice aC c.cons.length cC] 26)) w.heap.size [.slice aI c.ins.length cI, .slice aB c.blks.length cB, .slice aC c.cons.length cC] 26 := Blk.newAt rfl
  have hu1 : Upd [] w (w.alloc (.cells #[.slice aI c.ins.length cI, .slice aB c.blks.length cB, .slice aC c.cons.length cC] 26)) := (Upd.refl [] w).alloc _
  have HL := Lib.hid (light16_calls cI cB cC (h.upd hu1))
  have HH := Lib.hid (fun (W : World) (hu : Upd [] w W) => h.upd hu)
  have HT := Lib.hid (fun (W : World) (hu : Upd [] w W) => hT.upd hu)
  have HV := Lib.hid (fun (W : World) (hu : Upd [] w W) => lives16_calls (hT.upd hu))
  have HBX := Lib.hid hBx
  have HU1 := Lib.hid hu1
  clear h hT hBx hu1
  unfold BoolIf at HL
  obtain ⟨nI, hI⟩ : ∃ nI, nI = c.ins.length := ⟨_, rfl⟩
  obtain ⟨nB, hB⟩ : ∃ nB, nB = c.blks.length := ⟨_, rfl⟩
  obtain ⟨nC, hC⟩ : ∃ nC, nC = c.cons.length := ⟨_, rfl⟩
  rw [← hI, ← hB, ← hC] at HL HBX HU1 ⊢
  have HNI := Lib.hid hI
  have HNB := Lib.hid hB
  have HNC := Lib.hid hC
  clear hI hB hC
  go_enter Tryd.func4, Tryd.ntmps4
  go_wp2_with fail
  refine HL.out.mono ?_
  rintro e w2 ⟨⟨r, rfl, hr⟩, hu2⟩
  have HBX2 := Lib.hid (hu2.blk HBX.out (by simp))
  have HU2 := Lib.hid (HU1.out.then hu2)
  have HR := Lib.hid hr
  clear hu2 hr HL HBX HU1
  cases r with
  | false =>
    clear HR
    go_wp2_with fail
    refine (HV.out _ HU2.out).mono ?_
    rintro e w3 ⟨rfl, hu3⟩
    have HU3 := Lib.hid (HU2.out.then hu3)
    clear hu3
    go_wp2
    go_ret
    exact ⟨rfl, HU3.out⟩
  | true =>
    obtain ⟨hnI, hnB, hlit⟩ := HR.out rfl
    have HLI := Lib.hid hlit
    clear HR hlit
    have hdp := depths2_calls cI cB cC (HH.out _ HU2.out) HLI.out (HT.out _ HU2.out)
    rw [← HNI.out, ← HNB.out, ← HNC.out] at hdp
    have HDP := Lib.hid hdp
    have x0 := HBX2.out.cell_some (i := 0) rfl
    have x1 := HBX2.out.cell_some (i := 1) rfl
    have x2 := HBX2.out.cell_some (i := 2) rfl
    clear hdp
    go_wp2_with fail
    refine HDP.out.mono ?_
    rintro e w3 ⟨⟨a, cap, rfl, hD⟩, hu3⟩
    have HBX3 := Lib.hid (hu3.blk HBX2.out (by simp))
    have HU3 := Lib.hid (HU2.out.then hu3)
    have HD := Lib.hid hD
    clear hu3 hD HDP HBX2 HU2 x0 x1 x2
    have x0 := HBX3.out.cell_some (i := 0) rfl
    have x1 := HBX3.out.cell_some (i := 1) rfl
    have x2 := HBX3.out.cell_some (i := 2) rfl
    rcases depths_e (n := n) c with he | ⟨he, hde⟩
    · have hlen : (depthsF n c).deep.length = nI := by rw [depths_len he, HNI.out]
      have HFL := Lib.hid (flows_said he)
      have HSH := Lib.hid (depths_shape he)
      have HLEN := Lib.hid hlen
      rw [he, hlen]
      rw [hlen] at HD
      obtain ⟨dl, hdl⟩ : ∃ dl, dl = (depthsF n c).deep := ⟨_, rfl⟩
      rw [← hdl] at HFL HD HLEN
      clear he hlen hdl
      go_wp2_with fail
      have hnIp : 0 < nI := by
        have h1 := shape_first HSH.out
        have h2 := hi_above HSH.out h1.1
        have h3 := hiF_range HSH.out 0
        have h4 := ((shape_blks HSH.out).blk 0 h1.1).lo
        have h5 := HNI.out
        omega
      obtain ⟨D, hDa, hDb⟩ := HD.out hnIp
      subst hDa
      have HDC : Hid (∀ i : Nat, i < nI → ∀ W, Upd [] w3 W → W.cell? ⟨D, i, none⟩ = some (.int .i64 (dl.getD i 0))) := Lib.hid (fun i hi W hu => (hu.blk hDb (by simp)).cell_some (by
        rw [map_int_get, List.getElem?_eq_getElem (by rw [HLEN.out]; exact hi)]
        simp [List.getD_eq_getElem?_getD, show i < dl.length by rw [HLEN.out]; exact hi]))
      have HDL := Lib.hid hDb.lt
      clear hDb HD x0 x1 x2
      go_loopw [43] (fun i wr => ∃ j : Nat, j ≤ nB ∧ i = .int .i64 j ∧ Hid (Upd [] w3 wr)) (fun i _ => nB - (intOf i).toNat)
      case atStart => exact ⟨0, by omega, rfl, Lib.hid (Upd.refl _ _)⟩
      case round =>
        obtain ⟨j, hj, rfl, hU⟩ := hrel
        by_cases hlt : j < nB
        · have hlt' : (j : Int) < (nB : Int) := by omega
          have HUw := Lib.hid (HU3.out.then hU.out)
          have hjb : j < c.blks.length := by rw [← HNB.out]; exact hlt
          obtain ⟨bb, o, eB, y0, y1, y2, y3, y4, y5⟩ := blkAt_get (HH.out _ HUw.out).blks hjb
          subst eB
          have hfl := HFL.out j hjb
          have hbi := (shape_blks HSH.out).blk j hjb
          have hab := hi_above HSH.out hjb
          obtain ⟨b, hb⟩ : ∃ b, b = c.blks.getD j default := ⟨_, rfl⟩
          rw [← hb] at y0 y1 y2 y3 y4 y5 hfl hbi hab
          have hblo := hbi.lo
          have hbhi := hbi.hi
          have hbdp := hbi.dp
          rw [← HNI.out] at hbhi
          clear hbi hb
          obtain ⟨hi, hhi9⟩ : ∃ hi, hi = hiF c j := ⟨_, rfl⟩
          have HFB : Hid (dl.getD b.lo.toNat 0 = 0 ∧ MostI b.lo hi b.dp dl ∧ ∀ i : Nat, b.lo ≤ i → (i : Int) < hi → 0 ≤ dl.getD i 0 → DoneI c j b hi dl i) := Lib.hid (by rw [hhi9]; exact ⟨hfl.start, hfl.most, hfl.done⟩)
          rw [← hhi9] at hab hbhi
          clear hfl
          obtain ⟨lo, pr, rest, sl, dp, ou⟩ := b
          simp only at y0 y1 y2 y3 y4 y5 hab hblo hbdp HFB
          obtain ⟨lo9, rfl⟩ : ∃ k : Nat, lo = k := ⟨lo.toNat, by omega⟩
          have cl := HDC.out lo9 (by omega) _ hU.out
          rw [show dl.getD lo9 0 = 0 by have := HFB.out.1; simpa using this] at cl
          have HX := Lib.hid (hU.out.blk HBX3.out (by simp))
          have x0 := HX.out.cell_some (i := 0) rfl
          have x1 := HX.out.cell_some (i := 1) rfl
          have l0 := HX.out.lt
          have l1 := World.block_lt_of_cell? wr _ y0
          simp only at l1
          have l2 : w.heap.size < wr.heap.size + 1 := by omega
          have l3 : bb < wr.heap.size + 1 := by omega
          have l4 := World.block_lt_of_cell? wr _ cl
          simp only at l4
          have hj1 : IntKind.i64.wrap ((j : Int) + 1) = (j : Int) + 1 := IntWalk.i64_in _ (by omega)
          have hjw : (j : Int) + 1 = ((j + 1 : Nat) : Int) := by omega
          have g1 : ¬ (lo9 : Int) < 0 := by omega
          have g2 : ¬ (nI : Int) < hi := by omega
          have g3 : ¬ hi ≤ (lo9 : Int) := by omega
          by_cases hn : j + 1 < nB
          · obtain ⟨bb', o', e', z0, _⟩ := blkAt_get (HH.out _ HUw.out).blks (i := j + 1) (by rw [← HNB.out]; exact hn)
            injection e' with e'
            injection e' with e1 e2
            subst e1; subst e2
            have hh : (c.blks.getD (j + 1) default).lo = hi := by
              rw [hhi9]
              unfold hiF
              rw [if_pos (by rw [← HNB.out]; exact hn)]
            rw [hh] at z0
            have hn' : (j : Int) + 1 < (nB : Int) := by omega
            clear hh hn hjw hhi9
            go_wp2_with fail
            have HB4 : Hid (Blk (wr.alloc (.cells #[.int .i64 lo9, .int .i64 pr, .bool rest, .int .i64 sl, .int .i64 dp, .int .i64 ou] 45)) wr.heap.size [.int .i64 lo9, .int .i64 pr, .bool rest, .int .i64 sl, .int .i64 dp, .int .i64 ou] 45) := Lib.hid (Blk.newAt rfl)
            have HU4 := Lib.hid (hU.out.alloc (.cells #[.int .i64 lo9, .int .i64 pr, .bool rest, .int .i64 sl, .int .i64 dp, .int .i64 ou] 45))
            obtain ⟨B9, hB9⟩ : ∃ B9, B9 = wr.heap.size := ⟨_, rfl⟩
            have hB3 : w3.heap.size ≤ B9 := by
              have := hU.out.size
              omega
            rw [← hB9] at HB4 ⊢
            clear cl HX x0 x1 y0 y1 y2 y3 y4 y5 l0 l1 l2 l3 l4 hB9 hU HUw
            go_loopw [8] (fun v wr => ∃ i : Nat, lo9 ≤ i ∧ (i : Int) ≤ hi ∧ v = .int .i64 i ∧ Hid (Upd [] w3 wr) ∧ Hid (Blk wr B9 [.int .i64 lo9, .int .i64 pr, .bool rest, .int .i64 sl, .int .i64 dp, .int .i64 ou] 45)) (fun v _ => (hi - intOf v).toNat)
            case atStart => exact ⟨lo9, Nat.le_refl _, by omega, rfl, HU4, HB4⟩
            case round =>
              obtain ⟨i, q1, q2, rfl, hU, hX⟩ := hrel
              by_cases hlti : (i : Int) < hi
              · have hiN : i < nI := by omega
                have HUi := Lib.hid (HU3.out.then hU.out)
                obtain ⟨bi, oi, eI, i0, i1, i2⟩ := insAt_get (HH.out _ HUi.out).ins (i := i) (by rw [← HNI.out]; exact hiN)
                subst eI
                have hck := (CodeOk.of (n := n) (c := c) (by have := HSH.out; unfold shapeF at this; simp only [Bool.and_eq_true] at this; exact this.1.1)).at (i := i) (by rw [← HNI.out]; exact hiN)
                obtain ⟨x, hx⟩ : ∃ x, x = c.ins.getD i default := ⟨_, rfl⟩
                rw [← hx] at i0 i1 i2 hck
                have cd := HDC.out i hiN _ hU.out
                have HBC := Lib.hid (hU.out.blk HBX3.out (by simp))
                have x0 := HBC.out.cell_some (i := 0) rfl
                have b0 := hX.out.cell_some (i := 0) rfl
                have b4 := hX.out.cell_some (i := 4) rfl
                have l0 := HBC.out.lt
                have l1 := World.block_lt_of_cell? wr _ i0
                have l2 := World.block_lt_of_cell? wr _ cd
                have l3 := hX.out.lt
                simp only at l1 l2
                have HU5 := Lib.hid (hU.out.alloc (.cells #[.int .i64 x.op, .int .i64 x.a, .int .i64 x.b] 47))
                have HX5 := Lib.hid (hX.out.alloc (.cells #[.int .i64 x.op, .int .i64 x.a, .int .i64 x.b] 47))
                by_cases hd : dl.getD i 0 < 0
                · generalize dl.getD i 0 = d at *
                  clear hx hck hU hX HUi
                  go_wp2
                  go_roundw
                  case rel => exact ⟨i + 1, by omega, by omega, by go_num, HU5, HX5⟩
                  case measure => simp [intOf]; omega
                · have hD9 := HFB.out.2.2 i (by omega) hlti (by omega)
                  have hA : AskI dl lo9 hi dp (dl.getD i 0) (leavesF x) i x := ask_of (x := x) hx rfl hD9 (HFB.out.2.1 i (by omega) hlti)
                  have hok := hD9.ok
                  rw [← hx] at hok
                  have HLV := Lib.hid (fun W : World => leaves_calls (w := W) hck (wrong_prim hok))
                  have hops := hck.ops
                  have ha1 := hck.a1
                  clear hok hD9 hck hx hd HUi hU hX
                  generalize leavesF x = lv at hA HLV
                  generalize dl.getD i 0 = d at *
                  obtain ⟨op, xa, xb⟩ := x
                  simp only at i0 i1 i2 HU5 HX5 HLV hops ha1
                  have hd0 := hA.d0
                  have hd1 := hA.d1
                  have hl0 := hA.l0
                  have hl1 := hA.l1
                  have hw1 : IntKind.i64.wrap (d + lv) = d + lv := IntWalk.i64_in _ (by omega)
                  have hdn : ¬ d < 0 := by omega
                  have HA := Lib.hid hA
                  clear hA
                  go_wp2_with fail
                  have hB0 : Blk (wr.alloc (.cells #[.int .i64 op, .int .i64 xa, .int .i64 xb] 47)) wr.heap.size [.int .i64 op, .int .i64 xa, .int .i64 xb] 47 := Blk.newAt rfl
                  have c3 := ((Upd.refl [] wr).alloc (.cells #[.int .i64 op, .int .i64 xa, .int .i64 xb] 47)).cell cd (by simp)
                  obtain ⟨A9, hA9⟩ : ∃ A9, A9 = wr.heap.size := ⟨_, rfl⟩
                  obtain ⟨W0, hW0⟩ : ∃ W0, W0 = wr.alloc (.cells #[.int .i64 op, .int .i64 xa, .int .i64 xb] 47) := ⟨_, rfl⟩
                  rw [← hW0, ← hA9] at hB0
                  rw [← hW0] at c3 HU5 HX5
                  rw [← hW0, ← hA9]
                  have c0 := hB0.cell_some (i := 0) rfl
                  have c1 := hB0.cell_some (i := 1) rfl
                  have c2 := hB0.cell_some (i := 2) rfl
                  clear hB0 hW0 hA9 x0 b0 b4 cd i0 i1 i2
                  go_region_held3 (fun w' => w'.cell? ⟨A9, 0, none⟩ = some (.int .i64 op) ∧ w'.cell? ⟨A9, 1, none⟩ = some (.int .i64 xa) ∧ w'.cell? ⟨A9, 2, none⟩ = some (.int .i64 xb) ∧ w'.cell? ⟨D, i, none⟩ = some (.int .i64 d)) (first | with_reducible exact ⟨c0, c1, c2, c3⟩ | go_keep | exact ⟨Upd.cell hu c0 (by simp), Upd.cell hu c1 (by simp), Upd.cell hu c2 (by simp), Upd.cell hu c3 (by simp)⟩) (first | (go_at_call 13; refine ((HLV.out _).mono ?_); rintro e w9 ⟨rfl, hu9⟩; have hu := (Upd.refl [] W0).drew.then hu9))
                  have HU6 := Lib.hid (HU5.out.then hu)
                  have HX6 := Lib.hid (hu.blk HX5.out (by simp))
                  have k0 := hu.cell c0 (by simp)
                  have k1 := hu.cell c1 (by simp)
                  have k3 := hu.cell c3 (by simp)
                  have b0 := HX6.out.cell_some (i := 0) rfl
                  have b4 := HX6.out.cell_some (i := 4) rfl
                  have e1 : decide (dp < d) = false := decide_eq_false (by omega)
                  have e2 : decide (d + lv < 0) = false := decide_eq_false (by omega)
                  have e3 : decide (dp < d + lv) = false := decide_eq_false (by omega)
                  have hi1 : IntKind.i64.wrap ((i : Int) + 1) = ((i + 1 : Nat) : Int) := by rw [IntWalk.i64_in _ (by omega)]; omega
                  clear hu c0 c1 c2 c3 HU5 HX5 HLV
                  by_cases o7 : op = 7 ∨ op = 8
                  · obtain ⟨t, ht, t1, t2, t3⟩ := HA.out.jmp o7
                    subst ht
                    have k4 := HDC.out t (by omega) _ HU6.out
                    rw [t3] at k4
                    have e4 : decide ((t : Int) < (lo9 : Int)) = false := decide_eq_false (by omega)
                    have e5 : decide (hi ≤ (t : Int)) = false := decide_eq_false (by omega)
                    rcases o7 with rfl | rfl
                    · clear HA
                      go_wp2_with fail
                      go_quiet (fail)
                      go_wp2
                      go_roundw
                      case rel => exact ⟨i + 1, by omega, by omega, by go_num, Lib.hid (HU6.out.then ((Upd.refl [] w9).drewN _)), Lib.hid (((Upd.refl [] w9).drewN _).blk HX6.out (by simp))⟩
                      case measure => simp [intOf]; omega
                    · obtain ⟨t4, t5⟩ := HA.out.nxt (show (8 : Int) ≠ 7 by decide) (show (8 : Int) ≠ 10 by decide) (show (8 : Int) ≠ 11 by decide)
                      have k5 := HDC.out (i + 1) (by omega) _ HU6.out
                      rw [t5] at k5
                      have e6 : decide (hi ≤ ((i + 1 : Nat) : Int)) = false := decide_eq_false (by omega)
                      clear HA
                      go_wp2_with fail
                      go_quiet (fail)
                      go_wp2
                      go_roundw
                      case rel => exact ⟨i + 1, by omega, by omega, by go_num, Lib.hid (HU6.out.then ((Upd.refl [] w9).drewN _)), Lib.hid (((Upd.refl [] w9).drewN _).blk HX6.out (by simp))⟩
                      case measure => simp [intOf]; omega
                  · have o7a : (op == 7) = false := by simpa using fun h => o7 (.inl h)
                    have o8a : (op == 8) = false := by simpa using fun h => o7 (.inr h)
                    by_cases o1 : op = 10 ∨ op = 11
                    · clear HA
                      rcases o1 with rfl | rfl
                      all_goals
                        go_wp2_with fail
                        go_quiet (fail)
                        go_wp2
                        go_roundw
                        case rel => exact ⟨i + 1, by omega, by omega, by go_num, Lib.hid (HU6.out.then ((Upd.refl [] w9).drewN _)), Lib.hid (((Upd.refl [] w9).drewN _).blk HX6.out (by simp))⟩
                        case measure => simp [intOf]; omega
                    · have o10 : (op == 10) = false := by simpa using fun h => o1 (.inl h)
                      have o11 : (op == 11) = false := by simpa using fun h => o1 (.inr h)
                      obtain ⟨t4, t5⟩ := HA.out.nxt (fun h => o7 (.inl h)) (fun h => o1 (.inl h)) (fun h => o1 (.inr h))
                      have k5 := HDC.out (i + 1) (by omega) _ HU6.out
                      rw [t5] at k5
                      have e6 : decide (hi ≤ ((i + 1 : Nat) : Int)) = false := decide_eq_false (by omega)
                      clear HA
                      go_wp2_with fail
                      go_quiet (fail)
                      go_wp2
                      go_roundw
                      case rel => exact ⟨i + 1, by omega, by omega, by go_num, Lib.hid (HU6.out.then ((Upd.refl [] w9).drewN _)), Lib.hid (((Upd.refl [] w9).drewN _).blk HX6.out (by simp))⟩
                      case measure => simp [intOf]; omega
              · obtain rfl : hi = (i : Int) := by omega
                clear hlti
                go_wp2
                go_roundw
                case rel => exact ⟨j + 1, by omega, by go_num, hU⟩
                case measure => simp [intOf]; omega
          · have hh : hi = (nI : Int) := by
              rw [hhi9]
              unfold hiF
              rw [if_neg (by rw [← HNB.out]; exact hn), ← HNI.out]
            subst hh
            have hn' : ¬ (j : Int) + 1 < (nB : Int) := by omega
            clear hn hjw hhi9
            go_wp2_with fail
            have HB4 : Hid (Blk (wr.alloc (.cells #[.int .i64 lo9, .int .i64 pr, .bool rest, .int .i64 sl, .int .i64 dp, .int .i64 ou] 45)) wr.heap.size [.int .i64 lo9, .int .i64 pr, .bool rest, .int .i64 sl, .int .i64 dp, .int .i64 ou] 45) := Lib.hid (Blk.newAt rfl)
            have HU4 := Lib.hid (hU.out.alloc (.cells #[.int .i64 lo9, .int .i64 pr, .bool rest, .int .i64 sl, .int .i64 dp, .int .i64 ou] 45))
            obtain ⟨B9, hB9⟩ : ∃ B9, B9 = wr.heap.size := ⟨_, rfl⟩
            have hB3 : w3.heap.size ≤ B9 := by
              have := hU.out.size
              omega
            rw [← hB9] at HB4 ⊢
            clear cl HX x0 x1 y0 y1 y2 y3 y4 y5 l0 l1 l2 l3 l4 hB9 hU HUw
            go_loopw [8] (fun v wr => ∃ i : Nat, lo9 ≤ i ∧ (i : Int) ≤ (nI : Int) ∧ v = .int .i64 i ∧ Hid (Upd [] w3 wr) ∧ Hid (Blk wr B9 [.int .i64 lo9, .int .i64 pr, .bool rest, .int .i64 sl, .int .i64 dp, .int .i64 ou] 45)) (fun v _ => ((nI : Int) - intOf v).toNat)
            case atStart => exact ⟨lo9, Nat.le_refl _, by omega, rfl, HU4, HB4⟩
            case round =>
              obtain ⟨i, q1, q2, rfl, hU, hX⟩ := hrel
              by_cases hlti : (i : Int) < (nI : Int)
              · have hiN : i < nI := by omega
                have HUi := Lib.hid (HU3.out.then hU.out)
                obtain ⟨bi, oi, eI, i0, i1, i2⟩ := insAt_get (HH.out _ HUi.out).ins (i := i) (by rw [← HNI.out]; exact hiN)
                subst eI
                have hck := (CodeOk.of (n := n) (c := c) (by have := HSH.out; unfold shapeF at this; simp only [Bool.and_eq_true] at this; exact this.1.1)).at (i := i) (by rw [← HNI.out]; exact hiN)
                obtain ⟨x, hx⟩ : ∃ x, x = c.ins.getD i default := ⟨_, rfl⟩
                rw [← hx] at i0 i1 i2 hck
                have cd := HDC.out i hiN _ hU.out
                have HBC := Lib.hid (hU.out.blk HBX3.out (by simp))
                have x0 := HBC.out.cell_some (i := 0) rfl
                have b0 := hX.out.cell_some (i := 0) rfl
                have b4 := hX.out.cell_some (i := 4) rfl
                have l0 := HBC.out.lt
                have l1 := World.block_lt_of_cell? wr _ i0
                have l2 := World.block_lt_of_cell? wr _ cd
                have l3 := hX.out.lt
                simp only at l1 l2
                have HU5 := Lib.hid (hU.out.alloc (.cells #[.int .i64 x.op, .int .i64 x.a, .int .i64 x.b] 47))
                have HX5 := Lib.hid (hX.out.alloc (.cells #[.int .i64 x.op, .int .i64 x.a, .int .i64 x.b] 47))
                by_cases hd : dl.getD i 0 < 0
                · generalize dl.getD i 0 = d at *
                  clear hx hck hU hX HUi
                  go_wp2
                  go_roundw
                  case rel => exact ⟨i + 1, by omega, by omega, by go_num, HU5, HX5⟩
                  case measure => simp [intOf]; omega
                · have hD9 := HFB.out.2.2 i (by omega) hlti (by omega)
                  have hA : AskI dl lo9 (nI : Int) dp (dl.getD i 0) (leavesF x) i x := ask_of (x := x) hx rfl hD9 (HFB.out.2.1 i (by omega) hlti)
                  have hok := hD9.ok
                  rw [← hx] at hok
                  have HLV := Lib.hid (fun W : World => leaves_calls (w := W) hck (wrong_prim hok))
                  have hops := hck.ops
                  have ha1 := hck.a1
                  clear hok hD9 hck hx hd HUi hU hX
                  generalize leavesF x = lv at hA HLV
                  generalize dl.getD i 0 = d at *
                  obtain ⟨op, xa, xb⟩ := x
                  simp only at i0 i1 i2 HU5 HX5 HLV hops ha1
                  have hd0 := hA.d0
                  have hd1 := hA.d1
                  have hl0 := hA.l0
                  have hl1 := hA.l1
                  have hw1 : IntKind.i64.wrap (d + lv) = d + lv := IntWalk.i64_in _ (by omega)
                  have hdn : ¬ d < 0 := by omega
                  have HA := Lib.hid hA
                  clear hA
                  go_wp2_with fail
                  have hB0 : Blk (wr.alloc (.cells #[.int .i64 op, .int .i64 xa, .int .i64 xb] 47)) wr.heap.size [.int .i64 op, .int .i64 xa, .int .i64 xb] 47 := Blk.newAt rfl
                  have c3 := ((Upd.refl [] wr).alloc (.cells #[.int .i64 op, .int .i64 xa, .int .i64 xb] 47)).cell cd (by simp)
                  obtain ⟨A9, hA9⟩ : ∃ A9, A9 = wr.heap.size := ⟨_, rfl⟩
                  obtain ⟨W0, hW0⟩ : ∃ W0, W0 = wr.alloc (.cells #[.int .i64 op, .int .i64 xa, .int .i64 xb] 47) := ⟨_, rfl⟩
                  rw [← hW0, ← hA9] at hB0
                  rw [← hW0] at c3 HU5 HX5
                  rw [← hW0, ← hA9]
                  have c0 := hB0.cell_some (i := 0) rfl
                  have c1 := hB0.cell_some (i := 1) rfl
                  have c2 := hB0.cell_some (i := 2) rfl
                  clear hB0 hW0 hA9 x0 b0 b4 cd i0 i1 i2
                  go_region_held3 (fun w' => w'.cell? ⟨A9, 0, none⟩ = some (.int .i64 op) ∧ w'.cell? ⟨A9, 1, none⟩ = some (.int .i64 xa) ∧ w'.cell? ⟨A9, 2, none⟩ = some (.int .i64 xb) ∧ w'.cell? ⟨D, i, none⟩ = some (.int .i64 d)) (first | with_reducible exact ⟨c0, c1, c2, c3⟩ | go_keep | exact ⟨Upd.cell hu c0 (by simp), Upd.cell hu c1 (by simp), Upd.cell hu c2 (by simp), Upd.cell hu c3 (by simp)⟩) (first | (go_at_call 13; refine ((HLV.out _).mono ?_); rintro e w9 ⟨rfl, hu9⟩; have hu := (Upd.refl [] W0).drew.then hu9))
                  have HU6 := Lib.hid (HU5.out.then hu)
                  have HX6 := Lib.hid (hu.blk HX5.out (by simp))
                  have k0 := hu.cell c0 (by simp)
                  have k1 := hu.cell c1 (by simp)
                  have k3 := hu.cell c3 (by simp)
                  have b0 := HX6.out.cell_some (i := 0) rfl
                  have b4 := HX6.out.cell_some (i := 4) rfl
                  have e1 : decide (dp < d) = false := decide_eq_false (by omega)
                  have e2 : decide (d + lv < 0) = false := decide_eq_false (by omega)
                  have e3 : decide (dp < d + lv) = false := decide_eq_false (by omega)
                  have hi1 : IntKind.i64.wrap ((i : Int) + 1) = ((i + 1 : Nat) : Int) := by rw [IntWalk.i64_in _ (by omega)]; omega
                  clear hu c0 c1 c2 c3 HU5 HX5 HLV
                  by_cases o7 : op = 7 ∨ op = 8
                  · obtain ⟨t, ht, t1, t2, t3⟩ := HA.out.jmp o7
                    subst ht
                    have k4 := HDC.out t (by omega) _ HU6.out
                    rw [t3] at k4
                    have e4 : decide ((t : Int) < (lo9 : Int)) = false := decide_eq_false (by omega)
                    have e5 : decide ((nI : Int) ≤ (t : Int)) = false := decide_eq_false (by omega)
                    rcases o7 with rfl | rfl
                    · clear HA
                      go_wp2_with fail
                      go_quiet (fail)
                      go_wp2
                      go_roundw
                      case rel => exact ⟨i + 1, by omega, by omega, by go_num, Lib.hid (HU6.out.then ((Upd.refl [] w9).drewN _)), Lib.hid (((Upd.refl [] w9).drewN _).blk HX6.out (by simp))⟩
                      case measure => simp [intOf]; omega
                    · obtain ⟨t4, t5⟩ := HA.out.nxt (show (8 : Int) ≠ 7 by decide) (show (8 : Int) ≠ 10 by decide) (show (8 : Int) ≠ 11 by decide)
                      have k5 := HDC.out (i + 1) (by omega) _ HU6.out
                      rw [t5] at k5
                      have e6 : decide ((nI : Int) ≤ ((i + 1 : Nat) : Int)) = false := decide_eq_false (by omega)
                      clear HA
                      go_wp2_with fail
                      go_quiet (fail)
                      go_wp2
                      go_roundw
                      case rel => exact ⟨i + 1, by omega, by omega, by go_num, Lib.hid (HU6.out.then ((Upd.refl [] w9).drewN _)), Lib.hid (((Upd.refl [] w9).drewN _).blk HX6.out (by simp))⟩
                      case measure => simp [intOf]; omega
                  · have o7a : (op == 7) = false := by simpa using fun h => o7 (.inl h)
                    have o8a : (op == 8) = false := by simpa using fun h => o7 (.inr h)
                    by_cases o1 : op = 10 ∨ op = 11
                    · clear HA
                      rcases o1 with rfl | rfl
                      all_goals
                        go_wp2_with fail
                        go_quiet (fail)
                        go_wp2
                        go_roundw
                        case rel => exact ⟨i + 1, by omega, by omega, by go_num, Lib.hid (HU6.out.then ((Upd.refl [] w9).drewN _)), Lib.hid (((Upd.refl [] w9).drewN _).blk HX6.out (by simp))⟩
                        case measure => simp [intOf]; omega
                    · have o10 : (op == 10) = false := by simpa using fun h => o1 (.inl h)
                      have o11 : (op == 11) = false := by simpa using fun h => o1 (.inr h)
                      obtain ⟨t4, t5⟩ := HA.out.nxt (fun h => o7 (.inl h)) (fun h => o1 (.inl h)) (fun h => o1 (.inr h))
                      have k5 := HDC.out (i + 1) (by omega) _ HU6.out
                      rw [t5] at k5
                      have e6 : decide ((nI : Int) ≤ ((i + 1 : Nat) : Int)) = false := decide_eq_false (by omega)
                      clear HA
                      go_wp2_with fail
                      go_quiet (fail)
                      go_wp2
                      go_roundw
                      case rel => exact ⟨i + 1, by omega, by omega, by go_num, Lib.hid (HU6.out.then ((Upd.refl [] w9).drewN _)), Lib.hid (((Upd.refl [] w9).drewN _).blk HX6.out (by simp))⟩
                      case measure => simp [intOf]; omega
              · obtain rfl : nI = i := by omega
                clear hlti
                go_wp2
                go_roundw
                case rel => exact ⟨j + 1, by omega, by go_num, hU⟩
                case measure => simp [intOf]; omega
        · obtain rfl : j = nB := by omega
          have HL4 := Lib.hid (HV.out _ (HU3.out.then hU.out))
          have HU9 := Lib.hid (HU3.out.then hU.out)
          clear hlt hj hU
          go_wp2_with fail
          refine HL4.out.mono ?_
          rintro e w4 ⟨rfl, hu4⟩
          have HU4 := Lib.hid (HU9.out.then hu4)
          clear hu4
          go_wp2
          go_ret
          exact ⟨rfl, HU4.out⟩
    · have HE := Lib.hid he
      rw [he, hde]
      clear he hde
      go_wp2_with fail
      refine (HV.out _ HU3.out).mono ?_
      rintro e w4 ⟨rfl, hu4⟩
      have HU4 := Lib.hid (HU3.out.then hu4)
      clear hu4
      go_wp2
      go_ret
      exact ⟨rfl, HU4.out⟩
theorem law_CheckFlows (v : Value) (w : World) (h : ArgS Tryd.prog w 26 v) (hT : Tabs w) :
    Calls Tryd.prog 4 #[v] w fun e w' => e = .returned (.bool true) ∧ Upd [] w w' := by
  obtain ⟨aI, cI, aB, cB, aC, cC, n, c, rfl, hc⟩ := code_open h
  exact flows_walk cI cB cC hc hT
end Go.Proofs.YtknbgbeepachgaaDoor

/-
  What the listed tables give a walk.
-/
namespace Go.Proofs.YtknbgbeepachgaaDoor
open Go.RowKit Go.ChangeShapes Go.WideShapes

def laidL : List (String × DataW Unit) := [("pavane/expand.names", Rows.laid_pavane_expand_names), ("pavane/expand.arities", Rows.laid_pavane_expand_arities)]
theorem gNames : Tryd.prog.globalNamed "pavane/expand.names" = some 0 := by kernel_rfl
theorem gArs : Tryd.prog.globalNamed "pavane/expand.arities" = some 1 := by kernel_rfl
theorem tNames : (Tryd.prog.globals[0]?).map (·.type) = some 113 := by kernel_rfl
theorem tArs : (Tryd.prog.globals[1]?).map (·.type) = some 85 := by kernel_rfl
theorem door_met (os : Os) (args : Array Value) : laidMetH Tryd.prog laidL ((World.doorLaid Tryd.prog 400 os).forCall (fun _ _ => 0) ⟨#[], args, []⟩).memory :=
  laidMetH_of_parts3 (fuel := 8) (laidMet_of_run' 8 (by kernel_rfl) (by kernel_rfl)) (by kernel_rfl) (by kernel_rfl)
def strOf {H : Type} : DataW H → Option (List UInt8)
  | .lit (.string b) => some b
  | _ => none
def intOfD {H : Type} : DataW H → Option Int
  | .lit (.int _ n) => some n
  | _ => none
def partsOf {H : Type} : DataW H → List (DataW H)
  | .agg l => l
  | _ => []
theorem names_parts : (partsOf (Rows.laid_pavane_expand_names : DataW Unit)).map strOf = (List.range 39).map fun k => some (nmAt k).data.toList := by decide +kernel
theorem ars_parts : (partsOf (Rows.laid_pavane_expand_arities : DataW Unit)).map intOfD = (List.range 39).map fun k => some (arAt k) := by decide +kernel
theorem tabs_of_laid {W : World} (h : laidMetH Tryd.prog laidL W) : Tabs W := by
  rw [MakeChecks.laidMetH_plain _ _ _ (by kernel_rfl)] at h
  obtain ⟨ps, ⟨g0, t0, cs0, f0, p0, q0, hg0, ht0, hv0, hd0, ⟨g1, t1, cs1, f1, p1, q1, hg1, ht1, hv1, hd1, _, _⟩, _⟩, _, _⟩ := h
  obtain rfl := Option.some.inj (gNames.symm.trans hg0)
  obtain rfl := Option.some.inj (gArs.symm.trans hg1)
  obtain rfl := Option.some.inj (tNames.symm.trans ht0)
  obtain rfl := Option.some.inj (tArs.symm.trans ht1)
  refine ⟨fun k hk => ?_, fun k hk => ?_⟩
  · obtain ⟨xs, m1, _, hx1, hlen, hn3, hel⟩ := DataW.trod_array Tryd.underlying113 hd0
    have c9 : Tryd.prog.cellsOf 9 = 1 := by kernel_rfl
    simp only [Prod.mk.injEq] at hx1
    have hpart : xs.map (·.1) = partsOf (Rows.laid_pavane_expand_names : DataW Unit) := by
      rw [hx1.1]
      rfl
    have he := hel k hk
    rw [c9, Nat.mul_one] at he
    have hxk : k < xs.length := by omega
    rw [List.getElem?_eq_getElem hxk] at he
    obtain ⟨z, e1, e2, _⟩ := DataW.trod_string Tryd.underlying9 he
    have hs : (((xs.map (·.1)).map strOf)[k]?) = some (some (nmAt k).data.toList) := by
      rw [hpart, names_parts, List.getElem?_map, List.getElem?_range hk]
      rfl
    rw [List.getElem?_map, List.getElem?_map, List.getElem?_eq_getElem hxk, e2] at hs
    have hz : z = nmAt k := bytes_inj (by simpa [strOf] using hs)
    have hc := World.var?_cell hg0 hv0 k
    rw [hc]
    have : (cs0.toList.drop k)[0]? = some (.string z) := by
      have h9 : ((cs0.toList.drop k).take 1)[0]? = some (.string z) := by rw [e1]; rfl
      rwa [List.getElem?_take, if_pos (by omega)] at h9
    rw [List.getElem?_drop, Nat.add_zero] at this
    rw [← hz, ← this, Array.getElem?_toList]
  · obtain ⟨xs, m1, _, hx1, hlen, hn3, hel⟩ := DataW.trod_array Tryd.underlying85 hd1
    have c3 : Tryd.prog.cellsOf 3 = 1 := by kernel_rfl
    simp only [Prod.mk.injEq] at hx1
    have hpart : xs.map (·.1) = partsOf (Rows.laid_pavane_expand_arities : DataW Unit) := by
      rw [hx1.1]
      rfl
    have he := hel k hk
    rw [c3, Nat.mul_one] at he
    have hxk : k < xs.length := by omega
    rw [List.getElem?_eq_getElem hxk] at he
    obtain ⟨z, e1, e2, _⟩ := DataW.trod_int Tryd.underlying3 he
    have hs : (((xs.map (·.1)).map intOfD)[k]?) = some (some (arAt k)) := by
      rw [hpart, ars_parts, List.getElem?_map, List.getElem?_range hk]
      rfl
    rw [List.getElem?_map, List.getElem?_map, List.getElem?_eq_getElem hxk, e2] at hs
    have hz : z = arAt k := by simpa [intOfD] using hs
    have hc := World.var?_cell hg1 hv1 k
    rw [hc]
    have : (cs1.toList.drop k)[0]? = some (.int .i64 z) := by
      have h9 : ((cs1.toList.drop k).take 1)[0]? = some (.int .i64 z) := by rw [e1]; rfl
      rwa [List.getElem?_take, if_pos (by omega)] at h9
    rw [List.getElem?_drop, Nat.add_zero] at this
    rw [← hz, ← this, Array.getElem?_toList]
end Go.Proofs.YtknbgbeepachgaaDoor
