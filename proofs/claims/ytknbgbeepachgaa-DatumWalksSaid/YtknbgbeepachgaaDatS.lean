/-
  datum.Size.
-/
import Derived.Test.YtknbgbeepachgaaDatT
namespace Go.Proofs.Ytknbgbeepachgaa
open Go.RowKit

/-- Counted before the j-th row. -/
def totAt (n : Nat) (d : Dat) (k : Nat) : Nat → Nat
  | 0 => k + 1
  | 1 => k + 1 + szL (szN n) d.items
  | _ => k + 1 + szL (szN n) d.items + szL (szN n) d.tail
set_option maxRecDepth 100000 in
set_option maxHeartbeats 1500000 in
theorem total_calls (P : Nat → Prop) : ∀ (n : Nat) (d : Dat) (cs : List Value) (w : World) (k : Nat), IsD w P n cs d → k + szN n d ≤ 100000 →
    Calls Try.prog 19 #[.agg cs.toArray, .int .i64 (k : Int)] w fun e w' => e = .returned (.int .i64 ((k + szN n d : Nat) : Int)) ∧ Upd [] w w' := by
  intro n
  induction n with
  | zero => intro d cs w k h; exact h.elim
  | succ n ih =>
    intro d cs w k h hk
    have IH := Lib.hid ih
    clear ih
    obtain ⟨aL, cL, aI, cI, aT, cT, rfl, h1, h2, h3, _, h4, h5, h6, h7, h8, h9⟩ := h
    have hrow : ∀ j, j < 2 → ∃ av ds cv, ((j = 0 ∧ Value.slice av ds.length cv = .slice aI d.items.length cI) ∨ (j = 1 ∧ Value.slice av ds.length cv = .slice aT d.tail.length cT)) ∧ RowOf w P (IsD w P n) av ds ∧ ds.length ≤ 35184372088832 ∧
        totAt n d k (j + 1) = totAt n d k j + szL (szN n) ds ∧ totAt n d k (j + 1) ≤ 100000 := by
      intro j hj
      rw [szN] at hk
      obtain rfl | rfl : j = 0 ∨ j = 1 := by omega
      · exact ⟨_, _, _, .inl ⟨rfl, rfl⟩, h2, h8, rfl, by simp only [totAt]; omega⟩
      · exact ⟨_, _, _, .inr ⟨rfl, rfl⟩, h3, h9, rfl, by simp only [totAt]; omega⟩
    have he : k + szN (n + 1) d = totAt n d k 2 := by rw [szN]; simp only [totAt]; omega
    rw [he] at hk ⊢
    have h00 : totAt n d k 0 = k + 1 := rfl
    have HB := Lib.hid hrow
    clear hrow he h1 h2 h3 h4 h5 h6 h7 h8 h9
    obtain ⟨bA, hbA⟩ : ∃ bA, bA = totAt n d k := ⟨_, rfl⟩
    rw [← hbA] at HB h00 hk ⊢
    clear hbA
    unfold datCells
    generalize d.kind = kd at *
    generalize d.neg = ng at *
    generalize d.limbs.length = nl at *
    generalize d.b = bb at *
    generalize d.s = ss at *
    generalize d.items.length = ni at *
    generalize d.tail.length = nt at *
    have hk0 : k ≤ 100000 := by
      obtain ⟨_, ds, _, _, _, _, a, b⟩ := HB.out 0 (by omega)
      omega
    have hU := Lib.hid ((Upd.refl [] w).alloc (.cells #[.int .i64 kd, .bool ng, .slice aL nl cL, .bool bb, .string ss, .slice aI ni cI, .slice aT nt cT] 27))
    go_enter Try.func19, Try.ntmps19
    go_wp2_with fail
    obtain ⟨W1, hW1⟩ : ∃ W1, W1 = w.alloc (.cells #[.int .i64 kd, .bool ng, .slice aL nl cL, .bool bb, .string ss, .slice aI ni cI, .slice aT nt cT] 27) := ⟨_, rfl⟩
    rw [← hW1] at hU ⊢
    clear hW1
    have i0 : ∀ w, (Instr.index 48 (.agg #[.slice aI ni cI, .slice aT nt cT]) (.int .i64 0)).run Try.prog w = .ok (.slice aI ni cI) w := fun _ => by kernel_rfl
    have i1 : ∀ w, (Instr.index 48 (.agg #[.slice aI ni cI, .slice aT nt cT]) (.int .i64 1)).run Try.prog w = .ok (.slice aT nt cT) w := fun _ => by kernel_rfl
    go_loopw [1, 15] (fun l i wr => ∃ j : Nat, j ≤ 2 ∧ i = .int .i64 j ∧ l = .int .i64 ((bA j : Nat) : Int) ∧ Hid (Upd [] w wr)) (fun _ i _ => 2 - (intOf i).toNat)
    case atStart => exact ⟨0, by omega, rfl, by rw [h00]; go_num, hU⟩
    case round =>
      obtain ⟨j, hj, rfl, rfl, hUr⟩ := hrel
      by_cases hj2 : j < 2
      · obtain ⟨av, ds, cv, hcase, hds, hdl, hs1, hs2⟩ := HB.out j hj2
        have hix : ∀ w, (Instr.index 48 (.agg #[.slice aI ni cI, .slice aT nt cT]) (.int .i64 j)).run Try.prog w = .ok (.slice av ds.length cv) w := by
          rcases hcase with ⟨rfl, e⟩ | ⟨rfl, e⟩
          · rw [e]; exact i0
          · rw [e]; exact i1
        obtain ⟨m, hm⟩ : ∃ m, m = ds.length := ⟨_, rfl⟩
        rw [← hm] at hix hdl
        have hj2' : (j : Int) < 2 := by omega
        have hj3' : decide ((j : Int) < 2) = true := decide_eq_true hj2'
        have HDS := Lib.hid hds
        have HS1 := Lib.hid hs1
        have HS2 := Lib.hid hs2
        clear hcase hs1 hs2 hds i0 i1
        go_wp2_with fail
        go_loopw [1, 7] (fun l i wr => ∃ i0 : Nat, i0 ≤ m ∧ i = .int .i64 i0 ∧ l = .int .i64 ((bA j + szL (szN n) (ds.take i0) : Nat) : Int) ∧ Hid (Upd [] w wr)) (fun _ i _ => m - (intOf i).toNat)
        case atStart => exact ⟨0, by omega, rfl, rfl, hUr⟩
        case round =>
          obtain ⟨i0, hi0, rfl, rfl, hUk⟩ := hrel
          have hle := szL_take (szN n) ds i0
          have hle2 : bA j + szL (szN n) (ds.take i0) ≤ 100000 := by have := HS1.out; have := HS2.out; omega
          by_cases hlt : i0 < m
          · have hkl : i0 < ds.length := by rw [← hm]; exact hlt
            have hnx := szL_next (szN n) hkl
            have hle3 := szL_take (szN n) ds (i0 + 1)
            obtain ⟨b, o, cs, rfl, _, hat, hd0⟩ := HDS.out i0 hkl
            have hd1 := hd0.upd hUk.out
            obtain ⟨yL, zL, yI, zI, yT, zT, rfl⟩ := cells_agg hd1
            obtain ⟨q0, q1, q2, q3, q4, q5, q6⟩ := (hat.upd hUk.out (by simp)).cells
            obtain ⟨x, hx⟩ : ∃ x, x = ds.getD i0 default := ⟨_, rfl⟩
            rw [← hx] at hnx hd1 q0 q1 q2 q3 q4 q5 q6
            obtain ⟨lk, hlk⟩ : ∃ lk, lk = bA j + szL (szN n) (ds.take i0) := ⟨_, rfl⟩
            have hC := Lib.hid (IH.out x _ wr lk hd1 (by have := HS1.out; have := HS2.out; omega))
            have hnx2 : bA j + szL (szN n) (ds.take (i0 + 1)) = lk + szN n x := by omega
            have HX := Lib.hid hnx2
            have hb3 : lk + szN n x ≤ 100000 := by have := HS1.out; have := HS2.out; omega
            rw [← hlk] at hle2 ⊢
            unfold datCells at hC
            clear hnx hd0 hat hd1 hlk hnx2 hle3 hle hx
            generalize lk + szN n x = rs at *
            generalize x.kind = kd9 at *
            generalize x.neg = ng9 at *
            generalize x.limbs.length = nl9 at *
            generalize x.b = bb9 at *
            generalize x.s = ss9 at *
            generalize x.items.length = ni9 at *
            generalize x.tail.length = nt9 at *
            go_wp2_with fail
            refine hC.out.mono ?_
            rintro e w2 ⟨rfl, hu2⟩
            have hU3 := Lib.hid (hUk.out.then hu2)
            clear hC hUk hu2 q0 q1 q2 q3 q4 q5 q6
            go_wp2
            go_roundw
            case rel => exact ⟨i0 + 1, by omega, by go_num, by rw [HX.out], hU3⟩
            case measure => simp [intOf]; omega
          · have hkm : i0 = m := by omega
            subst hkm
            have hsx : bA j + szL (szN n) (ds.take i0) = bA (j + 1) := by rw [hm, List.take_length]; exact HS1.out.symm
            rw [hsx] at hle2 ⊢
            clear hsx hle
            go_wp2
            go_roundw
            case rel => exact ⟨j + 1, by omega, by go_num, rfl, hUk⟩
            case measure => simp [intOf]; omega
      · have hj3 : j = 2 := by omega
        subst hj3
        go_wp2
        go_ret
        exact ⟨rfl, hUr.out⟩
set_option maxHeartbeats 1500000 in
theorem size_calls {P : Nat → Prop} {n : Nat} {d : Dat} {cs : List Value} {w : World} (h : IsD w P n cs d) (hs : szN n d ≤ 100000) :
    Calls Try.prog 8 #[.agg cs.toArray] w fun e w' => e = .returned (.int .i64 ((szN n d : Nat) : Int)) ∧ Upd [] w w' := by
  obtain ⟨yL, zL, yI, zI, yT, zT, rfl⟩ := cells_agg h
  have hU := Lib.hid ((Upd.refl [] w).alloc (.cells (datCells d.kind d.neg yL d.limbs.length zL d.b d.s yI d.items.length zI yT d.tail.length zT).toArray 27))
  have hC := Lib.hid (total_calls P n d _ (w.alloc (.cells (datCells d.kind d.neg yL d.limbs.length zL d.b d.s yI d.items.length zI yT d.tail.length zT).toArray 27)) 0 (h.upd ((Upd.refl [] w).alloc _)) (by omega))
  rw [Nat.zero_add] at hC
  unfold datCells at hC hU ⊢
  clear h
  generalize d.kind = kd9 at *
  generalize d.neg = ng9 at *
  generalize d.limbs.length = nl9 at *
  generalize d.b = bb9 at *
  generalize d.s = ss9 at *
  generalize d.items.length = ni9 at *
  generalize d.tail.length = nt9 at *
  generalize szN n d = r at *
  have hmin : min (r : Int) 100000 = r := by omega
  go_enter Try.func8, Try.ntmps8
  go_wp2_with fail
  refine hC.out.mono ?_
  rintro e w2 ⟨rfl, hu2⟩
  have hU3 := Lib.hid (hU.out.then hu2)
  clear hC hU hu2
  go_wp2
  go_ret
  exact ⟨rfl, hU3.out⟩
end Go.Proofs.Ytknbgbeepachgaa
