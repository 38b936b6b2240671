/-
  Texts of this claim, merged: DatV. Lemmas and contracts; no conditions of our own.
-/
import Derived.Test.YthmpaepdbjldfaaG20
import Derived.RangeFuncBox
import Derived.Shelf.Abstract
import Derived.OwnWalkIn
import Derived.TacticsInMore
import Derived.LoopNIn
import Derived.LoopIn

/-
  slices.Values of data: its iterator's contract.
-/
namespace Go.Proofs.Ythmpaepdbjldfaa
set_option linter.unusedVariables false
set_option linter.unusedSimpArgs false
open Go.RowKit Go.Shelf
attribute [local go_sem] Oper.semAt_some

theorem Below.at7 {w w' : World} {n₀ b o : Nat} {cs : List Value} (h : At7 w b o cs) (hu : Below n₀ w w') (hb : b < n₀) : At7 w' b o cs :=
  ⟨h.1, fun j hj => (hu.cell (p := ⟨b, o + j, none⟩) hb).trans (h.2 j hj)⟩
set_option maxRecDepth 100000 in
set_option maxHeartbeats 1500000 in
theorem vals_in {α : Type} (enc : α → List Value) (hsh : ∀ x, Shaped (enc x)) (n l n₀ Bs : Nat) (a : Option Addr) (m c : Nat) (zs : List α) (J Jx : List α → World → Prop) (W : World) (hm : zs.length = m) (hlen : m ≤ 1000000)
    (hrow : ∀ i (hi : i < zs.length), ∃ b o, a = some ⟨b, o, none⟩ ∧ b < n₀ ∧ At7 W b (o + i * 7) (enc zs[i])) (hn₀ : n₀ ≤ W.heap.size)
    (hJ : ∀ pre W o, J pre W → J pre (W.alloc o))
    (hY : ∀ pre x W, J pre W → pre.length < m → YieldAt Fence.wide (n - 1) Try.prog l #[.agg (enc x).toArray] W fun e W' =>
      (e = .returned (.bool true) ∧ J (pre ++ [x]) W' ∧ Below n₀ W W') ∨ (e = .returned (.bool false) ∧ Jx (pre ++ [x]) W'))
    (hBs : W.cell? ⟨Bs, 0, none⟩ = some (.slice a m c)) (h0 : J [] W) :
    CallsIn Fence.wide n Try.prog 91 #[.func (.yield l) #[] #[], .pointer (some ⟨Bs, 0, none⟩)] W fun e W' => (∃ v, e = .returned v) ∧
      ((∃ ys, ys = zs ∧ J ys W') ∨ (∃ pre, pre <+: zs ∧ Jx pre W')) := by
  refine callsIn_of_wp Try.func91 rfl trivial ?_ rfl
  simp only [Try.ntmps91, List.size_toArray, List.length_cons, List.length_nil, Nat.reduceAdd, Nat.reduceSub, Array.replicate_succ, Array.replicate_zero, List.push_toArray, List.append_toArray, List.nil_append, List.cons_append]
  have HRow := Lib.hid hrow
  have HY := Lib.hid hY
  have HJ := Lib.hid hJ
  have HM := Lib.hid hm
  clear hrow hY hJ hm
  gi_wp2
  gi_loopw [7] (fun i wr => ∃ k : Nat, k ≤ m ∧ i = .int .i64 k ∧ Hid (J (zs.take k) wr) ∧ Hid (Below n₀ W wr))
    (fun i _ => m - (intOf i).toNat)
  case atStart => exact ⟨0, Nat.zero_le _, rfl, h0, Below.refl _ _⟩
  case round =>
    obtain ⟨k, hk, rfl, hJs, hnx⟩ := hrel
    by_cases hlt : k < m
    · have hkl : k < zs.length := by rw [HM.out]; exact hlt
      obtain ⟨b, o, rfl, hb, hat⟩ := HRow.out k hkl
      have htk : zs.take (k + 1) = zs.take k ++ [zs[k]] := by rw [List.take_succ_eq_append_getElem hkl]
      obtain ⟨x, hx⟩ : ∃ x, x = zs[k] := ⟨_, rfl⟩
      rw [← hx] at hat htk
      clear hx
      have hat' := Below.at7 hat hnx.out hb
      have hy0 := fun W => HY.out (zs.take k) x W
      obtain ⟨cs, hcs⟩ : ∃ cs, cs = enc x := ⟨_, rfl⟩
      obtain ⟨k0, ng, aL, nL, cL, bb, s, aI, nI, cI, aT, nT, cT, e⟩ := hsh x
      rw [e] at hat' hy0
      clear hcs cs
      obtain ⟨q0, q1, q2, q3, q4, q5, q6⟩ := hat'.cells
      unfold datCells at hy0
      obtain ⟨fn, tmps, assign, body, hy, hR⟩ := hy0 (wr.alloc (.cells #[.int .i64 k0, .bool ng, .slice aL nL cL, .bool bb, .string s, .slice aI nI cI, .slice aT nT cT] 27)) (HJ.out _ _ _ hJs.out) (by rw [List.length_take]; omega)
      have hbs : n₀ ≤ wr.heap.size := Nat.le_trans hn₀ hnx.out.size
      have HTK := Lib.hid htk
      have HR := Lib.hid hR
      clear hat' hat htk hy0 e hR
      gi_wp2_with fail
      refine ⟨fun h => by simp [Fence.wide] at h, HR.out.mono ?_⟩
      rintro e W3 (⟨rfl, hJ3, hk3⟩ | ⟨rfl, hJx3⟩)
      · gi_wp2
        go_roundw
        case rel => exact ⟨k + 1, by omega, by go_num, by rw [HTK.out]; exact hJ3, (hnx.out.trans ((Below.refl n₀ wr).alloc hbs _)).trans hk3⟩
        case measure => simp [intOf]; omega
      · gi_wp2
        refine bodyPost_ret (results_none rfl _ _ _) rfl ?_
        exact ⟨⟨_, rfl⟩, .inr ⟨_, by rw [← HTK.out]; exact List.take_prefix _ _, hJx3⟩⟩
    · obtain rfl : k = m := by omega
      have hJ1 := hJs.out
      rw [← HM.out, List.take_length] at hJ1
      gi_wp2
      go_end0
      exact ⟨⟨_, rfl⟩, .inl ⟨_, rfl, hJ1⟩⟩
set_option maxHeartbeats 1000000 in
theorem values_calls (a : Option Addr) (m c : Nat) (w : World) :
    Calls Try.prog 64 #[.slice a m c] w fun e w' => e = .returned (.func (.func 91) #[] #[.pointer (some ⟨w.heap.size, 0, none⟩)]) ∧ w' = w.alloc (.cells #[.slice a m c] 25) := by
  go_enter Try.func64, Try.ntmps64
  go_wp2
  go_ret
  exact ⟨rfl, rfl⟩
end Go.Proofs.Ythmpaepdbjldfaa
