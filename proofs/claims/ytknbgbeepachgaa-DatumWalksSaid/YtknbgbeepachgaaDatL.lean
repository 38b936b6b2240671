/-
  light.
-/
import Derived.Test.YtknbgbeepachgaaDatA
namespace Go.Proofs.Ytknbgbeepachgaa
open Go.RowKit

set_option maxRecDepth 100000 in
set_option maxHeartbeats 2000000 in
theorem light_calls {P : Nat → Prop} {n : Nat} {d : Dat} {cs : List Value} {w : World} (h : IsD w P n cs d) :
    Calls Try.prog 5 #[.agg cs.toArray] w fun e w' => (∃ r : Bool, e = .returned (.bool r) ∧ (r = true → szN n d ≤ 400 ∧ dpN n d ≤ 60)) ∧ Upd [] w w' := by
  obtain ⟨yL, zL, yI, zI, yT, zT, rfl⟩ := cells_agg h
  have hu1 := (Upd.refl [] w).alloc (.cells (datCells d.kind d.neg yL d.limbs.length zL d.b d.s yI d.items.length zI yT d.tail.length zT).toArray 27)
  have hU := Lib.hid hu1
  have hD := Lib.hid (h.upd hu1)
  have hC := Lib.hid (small_calls (h.upd hu1) 400 60 (by omega) (by omega) (by omega) (by omega))
  have hb := budN_some n d 400 60
  have hX := Lib.hid (At7.box w (datCells d.kind d.neg yL d.limbs.length zL d.b d.s yI d.items.length zI yT d.tail.length zT) 27 rfl)
  clear h hu1
  unfold datCells at hC hU hD hX ⊢
  have HB := Lib.hid hb
  clear hb
  have hA := Lib.hid (fun (w' : World) (hu : Upd [] (w.alloc (.cells #[.int .i64 d.kind, .bool d.neg, .slice yL d.limbs.length zL, .bool d.b, .string d.s, .slice yI d.items.length zI, .slice yT d.tail.length zT] 27)) w') => all_calls P n d _ w' (hD.out.upd hu))
  clear hD
  generalize d.kind = kd9 at *
  generalize d.neg = ng9 at *
  generalize d.limbs.length = nl9 at *
  generalize d.b = bb9 at *
  generalize d.s = ss9 at *
  generalize d.items.length = ni9 at *
  generalize d.tail.length = nt9 at *
  generalize budN n d 400 60 = r at *
  go_enter Try.func5, Try.ntmps5
  go_wp2_with fail
  refine hC.out.mono ?_
  rintro e w2 ⟨rfl, hu2⟩
  have hU2 := Lib.hid (hU.out.then hu2)
  obtain ⟨q0, q1, q2, q3, q4, q5, q6⟩ := (hX.out.upd hu2 (by simp)).cells0
  clear hC hX
  by_cases hr : 0 ≤ r
  · obtain ⟨hsz, hdp⟩ := HB.out hr
    have hsm : szN n d ≤ 400 := by omega
    have hdm : dpN n d ≤ 60 := by omega
    have hA2 := Lib.hid (hA.out w2 hu2 (by omega))
    have hFin : Hid (szN n d ≤ 400 ∧ dpN n d ≤ 60) := Lib.hid ⟨hsm, hdm⟩
    have hpos := szN_pos n d
    clear hA HB hsz hdp hdm hu2 hU
    obtain ⟨m, hm⟩ : ∃ m, m = szN n d := ⟨_, rfl⟩
    rw [← hm] at hA2 hpos hsm
    clear hm
    go_wp2_with fail
    refine hA2.out.mono ?_
    rintro e w3 ⟨⟨v, rfl, hO⟩, hu3⟩
    clear hA2 q0 q1 q2 q3 q4 q5 q6
    obtain ⟨g, c, rfl, hat⟩ := hO.at (by omega)
    have HAT := Lib.hid hat
    have hU3 := Lib.hid (hU2.out.then hu3)
    clear hat hO hu3 hU2
    go_wp2_with fail
    go_loopw [11] (fun i wr => ∃ j : Nat, j ≤ m ∧ i = .int .i64 j ∧ Hid (Upd [] w3 wr)) (fun i _ => m - (intOf i).toNat)
    case atStart => exact ⟨0, by omega, rfl, Upd.refl _ _⟩
    case round =>
      obtain ⟨j, hj, rfl, hUj⟩ := hrel
      by_cases hlt : j < m
      · obtain ⟨cs, hsh, hat⟩ := HAT.out j hlt
        obtain ⟨k, neg, aL, nL, cL, b, s, aI, nI, cI, aT, nT, cT, rfl⟩ := hsh
        obtain ⟨q0, q1, q2, q3, q4, q5, q6⟩ := (hat.upd hUj.out (by simp)).cells
        rw [Nat.zero_add] at q0 q1 q2 q3 q4 q5 q6
        have hU4 := Lib.hid (hUj.out.alloc (.cells #[.int .i64 k, .bool neg, .slice aL nL cL, .bool b, .string s, .slice aI nI cI, .slice aT nT cT] 27))
        clear hat hUj
        by_cases hbig : (100 : Int) < nL
        · go_wp2
          go_ret
          exact ⟨⟨false, rfl, fun h => by cases h⟩, hU3.out.then hU4.out⟩
        · go_wp2
          go_roundw
          case rel => exact ⟨j + 1, by omega, by go_num, hU4⟩
          case measure => simp [intOf]; omega
      · have hjm : j = m := by omega
        subst hjm
        go_wp2
        go_ret
        exact ⟨⟨true, rfl, fun _ => hFin.out⟩, hU3.out.then hUj.out⟩
  · have hr' : decide (0 ≤ r) = false := decide_eq_false hr
    clear hA HB hu2 hU q0 q1 q2 q3 q4 q5 q6
    go_wp2
    go_ret
    exact ⟨⟨false, rfl, fun h => by cases h⟩, hU2.out⟩
end Go.Proofs.Ytknbgbeepachgaa
