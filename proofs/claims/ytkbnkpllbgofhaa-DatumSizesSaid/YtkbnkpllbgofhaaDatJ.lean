/-
  datum.Depth.
-/
import Derived.Test.YtkbnkpllbgofhaaDatI
namespace Go.Proofs.Ytkbnkpllbgofhaa
open Go.RowKit

set_option maxRecDepth 100000 in
set_option maxHeartbeats 1500000 in
theorem depth_calls : ∀ (n : Nat) (P : Nat → Prop) (d : Dat) (cs : List Value) (w : World), IsD w P n cs d → szN n d ≤ 100000 → dpN n d ≤ 10000 →
    Calls Try.prog 63 #[.agg cs.toArray] w fun e w' => e = .returned (.int .i64 ((dpN n d : Nat) : Int)) ∧ Upd [] w w' := by
  intro n
  induction n with
  | zero => intro P d cs w h; exact h.elim
  | succ n ih =>
    intro P d cs w h hs hd
    have IH := Lib.hid (ih (fun _ => True))
    clear ih
    obtain ⟨yL, zL, yI, zI, yT, zT, rfl⟩ := cells_agg h
    have hu1 := (Upd.refl [] w).alloc (.cells (datCells d.kind d.neg yL d.limbs.length zL d.b d.s yI d.items.length zI yT d.tail.length zT).toArray 80)
    have hF := Lib.hid (few_calls (h.upd hu1) hs hd)
    have hU := Lib.hid hu1
    have hX := Lib.hid (At7.box w (datCells d.kind d.neg yL d.limbs.length zL d.b d.s yI d.items.length zI yT d.tail.length zT) 80 rfl)
    have hsz : szL (szN n) (d.items ++ d.tail) ≤ 100000 := by rw [szN] at hs; rw [szL_append]; omega
    have hdp : dpN (n + 1) d = 1 + dpL (dpN n) (d.items ++ d.tail) := by rw [dpN, dpL_append]
    have hlen : d.items.length + d.tail.length ≤ 100000 := by
      have := len_le_szL (szN_pos n) (d.items ++ d.tail)
      rw [List.length_append] at this
      omega
    have hPt := Lib.hid (fun (W : World) (hu : Upd [] w W) => parts_calls (h.upd hu) hlen)
    rw [hdp] at hd ⊢
    clear h hu1 hs hdp hlen
    unfold datCells at hF hU hX hPt ⊢
    obtain ⟨ds, hds⟩ : ∃ ds, ds = d.items ++ d.tail := ⟨_, rfl⟩
    rw [← hds] at hPt hsz hd ⊢
    clear hds
    generalize d.kind = kd9 at *
    generalize d.neg = ng9 at *
    generalize d.limbs.length = nl9 at *
    generalize d.b = bb9 at *
    generalize d.s = ss9 at *
    generalize d.items.length = ni9 at *
    generalize d.tail.length = nt9 at *
    go_enter Try.func63, Try.ntmps63
    go_wp2_with fail
    refine hF.out.mono ?_
    rintro e w2 ⟨rfl, hu2⟩
    obtain ⟨q0, q1, q2, q3, q4, q5, q6⟩ := (hX.out.upd hu2 (by simp)).cells0
    have hU2 := Lib.hid (hU.out.then hu2)
    clear hF hX hU hu2
    go_wp2_with fail
    refine (hPt.out w2 hU2.out).mono ?_
    rintro e w3 ⟨⟨a, c, rfl, hR⟩, hu3⟩
    have hU3 := Lib.hid (hU2.out.then hu3)
    have HR := Lib.hid hR
    clear hPt hR hU2 hu3 q0 q1 q2 q3 q4 q5 q6
    obtain ⟨m, hm⟩ : ∃ m, m = ds.length := ⟨_, rfl⟩
    rw [← hm]
    have hm2 := len_le_szL (szN_pos n) ds
    rw [← hm] at hm2
    have hmb : m ≤ 100000 := by omega
    clear hm2
    go_wp2_with fail
    go_loopw [3, 12] (fun v i wr => ∃ j : Nat, j ≤ m ∧ i = .int .i64 j ∧ v = .int .i64 ((dpL (dpN n) (ds.take j) : Nat) : Int) ∧ Hid (Upd [] w3 wr)) (fun _ i _ => m - (intOf i).toNat)
    case atStart => exact ⟨0, by omega, rfl, rfl, Upd.refl _ _⟩
    case round =>
      obtain ⟨j, hj, rfl, rfl, hUj⟩ := hrel
      have hle := dpL_take (dpN n) ds j
      by_cases hlt : j < m
      · have hjl : j < ds.length := by rw [← hm]; exact hlt
        have hnx := dpL_next (dpN n) hjl
        have hg1 := szL_get (szN n) hjl
        have hg2 := dpL_get (dpN n) hjl
        obtain ⟨b, o, cs, rfl, _, hat, hd0⟩ := HR.out j hjl
        obtain ⟨x, hx⟩ : ∃ x, x = ds.getD j default := ⟨_, rfl⟩
        rw [← hx] at hnx hg1 hg2 hd0
        clear hx
        obtain ⟨yL2, zL2, yI2, zI2, yT2, zT2, rfl⟩ := cells_agg hd0
        obtain ⟨q0, q1, q2, q3, q4, q5, q6⟩ := (hat.upd hUj.out (by simp)).cells
        have hu4 := hUj.out.alloc (.cells (datCells x.kind x.neg yL2 x.limbs.length zL2 x.b x.s yI2 x.items.length zI2 yT2 x.tail.length zT2).toArray 80)
        have hC := Lib.hid (IH.out x _ _ (hd0.upd hu4) (by omega) (by omega))
        have hU4 := Lib.hid hu4
        have HNX := Lib.hid hnx
        unfold datCells at hC hU4
        have hd2 : dpN n x ≤ 10000 := by omega
        have hd3 : dpL (dpN n) (ds.take j) ≤ 10000 := by omega
        obtain ⟨A, hA⟩ : ∃ A, A = dpL (dpN n) (ds.take j) := ⟨_, rfl⟩
        obtain ⟨B, hBB⟩ : ∃ B, B = dpN n x := ⟨_, rfl⟩
        rw [← hA, ← hBB] at HNX
        rw [← hA] at hd3 ⊢
        rw [← hBB] at hC hd2
        clear hnx hg1 hg2 hd0 hat hu4 hle hA hBB
        generalize x.kind = kd8 at *
        generalize x.neg = ng8 at *
        generalize x.limbs.length = nl8 at *
        generalize x.b = bb8 at *
        generalize x.s = ss8 at *
        generalize x.items.length = ni8 at *
        generalize x.tail.length = nt8 at *
        go_wp2_with fail
        refine hC.out.mono ?_
        rintro e w5 ⟨rfl, hu5⟩
        have hU5 := Lib.hid (hU4.out.then hu5)
        clear hC hU4 hu5 q0 q1 q2 q3 q4 q5 q6
        have hmx : max (A : Int) B = ((max A B : Nat) : Int) := by omega
        go_wp2
        go_roundw
        case rel => exact ⟨j + 1, by omega, by go_num, by rw [HNX.out]; first | rfl | go_num | (simp; omega), hU5⟩
        case measure => simp [intOf]; omega
      · have hjm : j = m := by omega
        subst hjm
        rw [hm, List.take_length] at hle ⊢
        have hd3 : dpL (dpN n) ds ≤ 10000 := by omega
        obtain ⟨r, hr⟩ : ∃ r, r = dpL (dpN n) ds := ⟨_, rfl⟩
        rw [← hr] at hd3 ⊢
        have HRR := Lib.hid hr
        clear hle hd hr
        go_wp2
        go_ret
        refine ⟨?_, hU3.out.then hUj.out⟩
        rw [← HRR.out, show ((1 + r : Nat) : Int) = (r : Int) + 1 by omega]
        rfl
end Go.Proofs.Ytkbnkpllbgofhaa
