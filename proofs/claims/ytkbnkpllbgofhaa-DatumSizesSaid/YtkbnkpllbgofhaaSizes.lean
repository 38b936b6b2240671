/-
  The law DatumSizes.
-/
import Derived.Test.YtkbnkpllbgofhaaDat1
namespace Go.Proofs.Ytkbnkpllbgofhaa
open Go.RowKit

theorem szN_list (n : Nat) (ds : List Dat) : szN (n + 1) (listD ds) = 1 + szL (szN n) ds := by
  unfold listD
  rw [szN_mk]
  simp [szL]
theorem dpN_list (n : Nat) (ds : List Dat) : dpN (n + 1) (listD ds) = 1 + dpL (dpN n) ds := by
  unfold listD
  rw [dpN_mk]
  simp [dpL]
theorem szL_bound {f : Dat → Nat} {b : Nat} : ∀ ds : List Dat, (∀ i, i < ds.length → f (ds.getD i default) ≤ b) → szL f ds ≤ ds.length * b
  | [], _ => by simp [szL]
  | d :: ds, h => by
    have h0 := h 0 (by simp)
    have h1 := szL_bound ds (fun i hi => h (i + 1) (by simp; omega))
    rw [szL, List.length_cons, Nat.succ_mul]
    simp at h0
    omega
theorem dpL_bound {f : Dat → Nat} {b : Nat} : ∀ ds : List Dat, (∀ i, i < ds.length → f (ds.getD i default) ≤ b) → dpL f ds ≤ b
  | [], _ => by simp [dpL]
  | d :: ds, h => by
    have h0 := h 0 (by simp)
    have h1 := dpL_bound ds (fun i hi => h (i + 1) (by simp; omega))
    rw [dpL]
    simp at h0
    omega
theorem take_getD {ds : List Dat} {j i : Nat} (h : i < j) : (ds.take j).getD i default = ds.getD i default := by
  simp [List.getD_eq_getElem?_getD, h]
set_option maxRecDepth 100000 in
set_option maxHeartbeats 1500000 in
theorem sizes_walk {w : World} {n : Nat} {a : Option Addr} {ds : List Dat} (m c : Nat) (hr : RowOf w (Old w) (IsD w (Old w) n) a ds) (hm : ds.length = m) (hmb : m ≤ 35184372088832) :
    Calls Try.prog 12 #[.slice a m c] w fun e w' => e = .returned (.bool true) ∧ Upd [] w w' := by
  have HR := Lib.hid hr
  have HM := Lib.hid hm
  clear hr hm
  by_cases h10 : m ≤ 10
  · have hd10 : ¬ (10 : Int) < (m : Int) := by omega
    go_enter Try.func12, Try.ntmps12
    go_wp2_with fail
    go_loopw [3, 4, 15] (fun s k i wr => ∃ j : Nat, j ≤ m ∧ i = .int .i64 j ∧ s = .int .i64 ((1 + szL (szN n) (ds.take j) : Nat) : Int) ∧ k = .int .i64 ((dpL (dpN n) (ds.take j) : Nat) : Int) ∧ Hid (∀ i, i < j → szN n (ds.getD i default) ≤ 400 ∧ dpN n (ds.getD i default) ≤ 60) ∧ Hid (Upd [] w wr)) (fun _ _ i _ => m - (intOf i).toNat)
    case atStart => exact ⟨0, by omega, rfl, by simp [szL], by simp [dpL], Lib.hid (fun i hi => by omega), Lib.hid (Upd.refl _ _)⟩
    case round =>
      obtain ⟨j, hj, rfl, rfl, rfl, hB, hU⟩ := hrel
      have hjl : (ds.take j).length = j := by rw [List.length_take, HM.out]; omega
      have hsb : szL (szN n) (ds.take j) ≤ 4000 := by
        have := szL_bound (f := szN n) (b := 400) (ds.take j) (fun i hi => by rw [hjl] at hi; rw [take_getD hi]; exact (hB.out i hi).1)
        rw [hjl] at this
        omega
      have hdb : dpL (dpN n) (ds.take j) ≤ 60 := dpL_bound (ds.take j) (fun i hi => by rw [hjl] at hi; rw [take_getD hi]; exact (hB.out i hi).2)
      by_cases hlt : j < m
      · have hjd : j < ds.length := by rw [HM.out]; exact hlt
        obtain ⟨b, o, cs, rfl, _, hat, hd0⟩ := HR.out j hjd
        have hs1 := szL_next (szN n) hjd
        have hd1 := dpL_next (dpN n) hjd
        have HB1 : Hid (szN n (ds.getD j default) ≤ 400 ∧ dpN n (ds.getD j default) ≤ 60 → ∀ i, i < j + 1 → szN n (ds.getD i default) ≤ 400 ∧ dpN n (ds.getD i default) ≤ 60) := Lib.hid (fun h i hi => by
          by_cases hij : i < j
          · exact hB.out i hij
          · rw [show i = j by omega]
            exact h)
        obtain ⟨x, hx⟩ : ∃ x, x = ds.getD j default := ⟨_, rfl⟩
        rw [← hx] at hd0 hs1 hd1 HB1
        clear hx
        obtain ⟨k0, ng, aL, nL, cL, bb, s0, aI, nI, cI, aT, nT, cT, rfl⟩ := hd0.shaped
        obtain ⟨q0, q1, q2, q3, q4, q5, q6⟩ := (hat.upd hU.out (by simp)).cells
        have hu2 : Upd [] wr (wr.alloc (.cells #[.int .i64 k0, .bool ng, .slice aL nL cL, .bool bb, .string s0, .slice aI nI cI, .slice aT nT cT] 80)) := (Upd.refl [] wr).alloc _
        have HD := Lib.hid (fun (W : World) (hu : Upd [] w W) => hd0.upd hu)
        have hbx : Blk (wr.alloc (.cells #[.int .i64 k0, .bool ng, .slice aL nL cL, .bool bb, .string s0, .slice aI nI cI, .slice aT nT cT] 80)) wr.heap.size [.int .i64 k0, .bool ng, .slice aL nL cL, .bool bb, .string s0, .slice aI nI cI, .slice aT nT cT] 80 := Blk.newAt rfl
        have HBX := Lib.hid hbx
        have HU2 := Lib.hid hu2
        have HS1 := Lib.hid hs1
        have HD1 := Lib.hid hd1
        unfold datCells at HD
        clear hat hd0 hu2 hbx hs1 hd1
        generalize szL (szN n) (ds.take j) = sz at *
        generalize dpL (dpN n) (ds.take j) = dp at *
        go_wp2_with fail
        refine (light_calls (HD.out _ (hU.out.then HU2.out))).mono ?_
        rintro e w2 ⟨⟨r, rfl, hr⟩, hu2⟩
        have hbx := hu2.blk HBX.out (by simp)
        obtain ⟨y0, y1, y2, y3, y4, y5, y6⟩ := Blk.seven hbx
        have HU3 := Lib.hid ((hU.out.then HU2.out).then hu2)
        have HBX2 := Lib.hid hbx
        have HR2 := Lib.hid hr
        clear hu2 hbx HBX HU2 hr q0 q1 q2 q3 q4 q5 q6
        cases r with
        | false =>
          go_wp2_with fail
          refine (lives_calls w2).mono ?_
          rintro e w3 ⟨rfl, hu3⟩
          have HU4 := Lib.hid (HU3.out.then hu3)
          clear hu3
          go_wp2
          go_ret
          exact ⟨rfl, HU4.out⟩
        | true =>
          have hx := HR2.out rfl
          have HX := Lib.hid hx
          have hxs : szN n x ≤ 400 := hx.1
          have hxd : dpN n x ≤ 60 := hx.2
          clear hx HR2
          have HSz := Lib.hid (fun (W : World) (hu : Upd [] w W) => size_calls (HD.out W hu) (by omega))
          have HDp := Lib.hid (fun (W : World) (hu : Upd [] w W) => depth_calls n _ _ _ W (HD.out W hu) (by omega) (by omega))
          generalize szN n x = sx at *
          generalize dpN n x = dx at *
          go_wp2_with fail
          refine (HSz.out w2 HU3.out).mono ?_
          rintro e w3 ⟨rfl, hu3⟩
          obtain ⟨y0, y1, y2, y3, y4, y5, y6⟩ := Blk.seven (hu3.blk HBX2.out (by simp))
          have HU4 := Lib.hid (HU3.out.then hu3)
          clear hu3 HSz HBX2
          have ha : IntKind.i64.wrap (((1 + sz : Nat) : Int) + ((sx : Nat) : Int)) = ((1 + (sz + sx) : Nat) : Int) := by
            rw [show ((1 + sz : Nat) : Int) + ((sx : Nat) : Int) = ((1 + (sz + sx) : Nat) : Int) by omega]
            exact IntWalk.i64_in _ (by omega)
          go_wp2_with fail
          refine (HDp.out w3 HU4.out).mono ?_
          rintro e w4 ⟨rfl, hu4⟩
          have HU5 := Lib.hid (HU4.out.then hu4)
          clear hu4 HDp y0 y1 y2 y3 y4 y5 y6 HU3 HU4
          by_cases hlt2 : dp < dx
          · have hd1 : (dp : Int) < (dx : Int) := by omega
            go_wp2
            go_roundw
            case rel => exact ⟨j + 1, by omega, by go_num, by rw [HS1.out]; go_num, by rw [HD1.out, Nat.max_eq_right (by omega)], Lib.hid (HB1.out HX.out), HU5⟩
            case measure => simp [intOf]; omega
          · have hd1 : ¬ (dp : Int) < (dx : Int) := by omega
            go_wp2
            go_roundw
            case rel => exact ⟨j + 1, by omega, by go_num, by rw [HS1.out]; go_num, by rw [HD1.out, Nat.max_eq_left (by omega)], Lib.hid (HB1.out HX.out), HU5⟩
            case measure => simp [intOf]; omega
      · have hjm : j = m := by omega
        subst hjm
        have hsz := hB.out
        rw [← HM.out, List.take_length] at hsb hdb
        rw [show ds.take j = ds by rw [← HM.out, List.take_length]]
        have HI := Lib.hid (items_calls (m := j) (c := c) (HR.out.updD hU.out) HM.out.symm (by omega) (fun i hi => by have := hsz i (by rw [← HM.out]; exact hi); omega))
        have hs1 := szN_list n ds
        have hd1 := dpN_list n ds
        have HS1 := Lib.hid hs1
        have HD1 := Lib.hid hd1
        clear hs1 hd1 hsz
        go_wp2_with fail
        refine HI.out.mono ?_
        rintro e w2 ⟨⟨cs2, rfl, hD⟩, hu2⟩
        obtain ⟨k0, ng, aL, nL, cL, bb, s0, aI, nI, cI, aT, nT, cT, rfl⟩ := hD.shaped
        have HD2 := Lib.hid (show IsD w2 _ (n + 1) _ (listD ds) from hD)
        have HU2 := Lib.hid (hU.out.then hu2)
        have hu3 : Upd [] w2 (w2.alloc (.cells #[.int .i64 k0, .bool ng, .slice aL nL cL, .bool bb, .string s0, .slice aI nI cI, .slice aT nT cT] 80)) := (Upd.refl [] w2).alloc _
        have hbx : Blk (w2.alloc (.cells #[.int .i64 k0, .bool ng, .slice aL nL cL, .bool bb, .string s0, .slice aI nI cI, .slice aT nT cT] 80)) w2.heap.size [.int .i64 k0, .bool ng, .slice aL nL cL, .bool bb, .string s0, .slice aI nI cI, .slice aT nT cT] 80 := Blk.newAt rfl
        have HBX := Lib.hid hbx
        have HU3 := Lib.hid hu3
        clear hD hu2 HI hu3 hbx
        unfold datCells at *
        go_wp2_with fail
        refine (size_calls (HD2.out.upd HU3.out) (by rw [HS1.out]; omega)).mono ?_
        rintro e w3 ⟨rfl, hu3⟩
        rw [HS1.out]
        have hbx := hu3.blk HBX.out (by simp)
        obtain ⟨y0, y1, y2, y3, y4, y5, y6⟩ := Blk.seven hbx
        have HU4 := Lib.hid (HU3.out.then hu3)
        clear hu3 hbx HBX HU3
        go_wp2_with fail
        refine (depth_calls (n + 1) _ _ _ w3 (HD2.out.upd HU4.out) (by rw [HS1.out]; omega) (by rw [HD1.out]; omega)).mono ?_
        rintro e w4 ⟨rfl, hu4⟩
        rw [HD1.out]
        have HU5 := Lib.hid (HU2.out.then (HU4.out.then hu4))
        clear hu4 y0 y1 y2 y3 y4 y5 y6 HU4 HD2 HU2
        have ha : IntKind.i64.wrap (((dpL (dpN n) ds : Nat) : Int) + 1) = ((1 + dpL (dpN n) ds : Nat) : Int) := by
          rw [show ((dpL (dpN n) ds : Nat) : Int) + 1 = ((1 + dpL (dpN n) ds : Nat) : Int) by omega]
          exact IntWalk.i64_in _ (by omega)
        generalize 1 + dpL (dpN n) ds = dd at *
        go_wp2_with fail
        refine (lives_calls w4).mono ?_
        rintro e w5 ⟨rfl, hu5⟩
        have HU6 := Lib.hid (HU5.out.then hu5)
        clear hu5
        go_wp2
        go_ret
        exact ⟨rfl, HU6.out⟩
  · have hd10 : (10 : Int) < (m : Int) := by omega
    go_enter Try.func12, Try.ntmps12
    go_wp2_with fail
    refine (lives_calls w).mono ?_
    rintro e w2 ⟨rfl, hu⟩
    have HU := Lib.hid hu
    clear hu
    go_wp2
    go_ret
    exact ⟨rfl, HU.out⟩
theorem law_DatumSizes (v : Value) (w : World) (h : ArgS Try.prog w 78 v) :
    Calls Try.prog 12 #[v] w fun e w' => e = .returned (.bool true) ∧ Upd [] w w' := by
  obtain ⟨a, len, cap, n, rfl, hr⟩ := h.slice Try.underlying78
  obtain ⟨a2, c2, ds, e, h1, h2, _⟩ := row_open (fun k _ cs h => dat_open k cs h) hr
  injection e with e1 e2 e3
  subst e1; subst e2; subst e3
  exact sizes_walk _ _ h1 rfl h2
end Go.Proofs.Ytkbnkpllbgofhaa
