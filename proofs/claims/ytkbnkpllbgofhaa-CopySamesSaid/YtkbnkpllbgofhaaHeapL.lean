/-
  The statements of layer 17: their walks.
-/
import Derived.Test.YtkbnkpllbgofhaaHeapW
namespace Go.Proofs.Ytkbnkpllbgofhaa
open Go.RowKit HeapM

theorem HeapA.new {w : World} {p bw bk n : Nat} (h1 : 16 ≤ n) (h : HeapC w p bw bk n (List.replicate n 0) (List.replicate n 0) 0) : HeapA w p bw bk n [] :=
  ⟨fun _ h => by (cases h), fun _ h => by (cases h), h1, _, by simpa [kindsOf, HeapM.used] using h, by simp [wordsOf, HeapM.used]⟩
theorem new_A (n : Nat) (w : World) (h1 : 16 ≤ n) (h2 : n ≤ 65536) : Calls Try.prog 15 #[.int .i64 n] w fun e w' =>
    ∃ p bw bk, e = .returned (hptr p) ∧ HeapA w' p bw bk n [] ∧ w.heap.size ≤ p ∧ w.heap.size ≤ bw ∧ w.heap.size ≤ bk ∧ Upd [] w w' :=
  (new_yes n w h1 h2).mono fun _ _ ⟨p, bw, bk, h, hc, r⟩ => ⟨p, bw, bk, h, HeapA.new h1 hc, r⟩
theorem alloc_A {w : World} {p bw bk n : Nat} {L : List HObj} (h : HeapA w p bw bk n L) (k m : Nat) (hf : fits L n k m) (r : Int) (hr : r = HeapM.used L + 1) :
    Calls Try.prog 16 #[hptr p, .int .i64 k, .int .i64 m] w fun e w' => e = .returned (.tuple #[.int .i64 r, .bool true]) ∧ HeapA w' p bw bk n (L ++ [((k : Int), List.replicate m 0)]) ∧ Upd [p, bw, bk] w w' := by
  subst hr
  exact alloc_fits h k m hf
theorem alloc_I {w : World} {p bw bk n : Nat} {L : List HObj} (h : HeapA w p bw bk n L) (k m : Int) (hf : fits L n k m) (r : Int) (hr : r = HeapM.used L + 1) :
    Calls Try.prog 16 #[hptr p, .int .i64 k, .int .i64 m] w fun e w' => e = .returned (.tuple #[.int .i64 r, .bool true]) ∧ HeapA w' p bw bk n (L ++ [(k, List.replicate m.toNat 0)]) ∧ Upd [p, bw, bk] w w' := by
  have hf' := hf
  obtain ⟨a, b, c, d⟩ := hf'
  obtain ⟨k, rfl⟩ := Int.eq_ofNat_of_zero_le (show 0 ≤ k by omega)
  obtain ⟨m, rfl⟩ := Int.eq_ofNat_of_zero_le c
  rw [Int.toNat_natCast]
  exact alloc_A h k m hf r hr
theorem used_A {w : World} {p bw bk n : Nat} {L : List HObj} (h : HeapA w p bw bk n L) (u : Int) (hu : u = HeapM.used L) : Calls Try.prog 17 #[hptr p] w fun e w' => e = .returned (.int .i64 u) ∧ w = w' := by
  subst hu
  obtain ⟨_, _, _, ws, hm, _⟩ := h
  exact used_yes hm
theorem words_A {w : World} {p bw bk n : Nat} {L : List HObj} (h : HeapA w p bw bk n L) : Calls Try.prog 41 #[hptr p] w fun e w' => e = .returned (.int .i64 n) ∧ w = w' := by
  obtain ⟨_, _, _, ws, hm, _⟩ := h
  exact words_yes hm
theorem objR_at {L : List HObj} {q : Nat} {o : HObj} (h : objAt L q = some o) : objR L ((q : Int) + 1) = some o := by
  unfold objR
  rw [if_pos (by omega), show ((q : Int) + 1 - 1).toNat = q by omega, h]
theorem len_A {w : World} {p bw bk n : Nat} {L : List HObj} (h : HeapA w p bw bk n L) {q : Nat} {o : HObj} (ho : objAt L q = some o) (k : Int) (hk : k = o.2.length) :
    Calls Try.prog 24 #[hptr p, .int .i64 ((q : Int) + 1)] w fun e w' => e = .returned (.int .i64 k) ∧ w = w' := by
  have := len_calls h ((q : Int) + 1)
  unfold lenR at this
  rw [objR_at ho] at this
  subst hk
  exact this
theorem kind_A {w : World} {p bw bk n : Nat} {L : List HObj} (h : HeapA w p bw bk n L) {q : Nat} {o : HObj} (ho : objAt L q = some o) (k : Int) (hk : k = o.1) :
    Calls Try.prog 25 #[hptr p, .int .i64 ((q : Int) + 1)] w fun e w' => e = .returned (.int .i64 k) ∧ w = w' := by
  have := kind_calls h ((q : Int) + 1)
  unfold kindR at this
  rw [objR_at ho] at this
  subst hk
  exact this
theorem get_A {w : World} {p bw bk n : Nat} {L : List HObj} (h : HeapA w p bw bk n L) {q : Nat} {o : HObj} (ho : objAt L q = some o) (i : Nat) (hi : i < o.2.length) (x : Int) (hx : x = o.2.getD i 0) :
    Calls Try.prog 26 #[hptr p, .int .i64 ((q : Int) + 1), .int .i64 i] w fun e w' => e = .returned (.tuple #[.int .u64 x, .bool true]) ∧ w = w' := by
  have := get_calls h ((q : Int) + 1) i
  have e : getR L ((q : Int) + 1) i = some x := by
    unfold getR
    rw [objR_at ho, hx]
    simp [hi]
  rw [e] at this
  exact this
theorem get_A_no {w : World} {p bw bk n : Nat} {L : List HObj} (h : HeapA w p bw bk n L) {q : Nat} {o : HObj} (ho : objAt L q = some o) (i : Nat) (hi : o.2.length ≤ i) :
    Calls Try.prog 26 #[hptr p, .int .i64 ((q : Int) + 1), .int .i64 i] w fun e w' => e = .returned (.tuple #[.int .u64 0, .bool false]) ∧ w = w' := by
  have := get_calls h ((q : Int) + 1) i
  have e : getR L ((q : Int) + 1) i = none := by
    unfold getR
    rw [objR_at ho]
    simp [hi]
  rw [e] at this
  exact this
theorem set_A {w : World} {p bw bk n : Nat} {L : List HObj} (h : HeapA w p bw bk n L) {q : Nat} {o : HObj} (ho : objAt L q = some o) (i : Nat) (hi : i < o.2.length) (x : Int) (hx : 0 ≤ x ∧ x < 18446744073709551616) :
    Calls Try.prog 27 #[hptr p, .int .i64 ((q : Int) + 1), .int .i64 i, .int .u64 x] w fun e w' => e = .returned (.bool true) ∧ HeapA w' p bw bk n (setAt L q i x) ∧ Upd [bw] w w' := by
  have := set_calls h ((q : Int) + 1) i x hx
  have e : (getR L ((q : Int) + 1) i).isSome = true := by
    unfold getR
    rw [objR_at ho]
    simp [hi]
  unfold setR at this
  rw [if_pos e, e, show ((q : Int) + 1 - 1).toNat = q by omega, Int.toNat_natCast] at this
  exact this
theorem Upd.fresh {S T : List Nat} {a b c : World} (h : Upd S a b) (k : Upd T b c) (hT : ∀ x, x ∈ T → a.heap.size ≤ x) : Upd S a c := h.trans k (fun x hx hlt => by have := hT x hx; omega)

set_option maxHeartbeats 1000000 in
theorem lives17 (w : World) : Calls Try.prog 18 #[] w fun e w' => e = .returned (.bool true) ∧ Upd [] w w' := by
  go_enter Try.func18, Try.ntmps18
  go_wp2_with fail
  refine (new_A 16 _ (by omega) (by omega)).mono ?_
  rintro e w1 ⟨p, bw, bk, rfl, hA, f1, f2, f3, U1⟩
  go_wp2_with fail
  refine (alloc_A hA 4 2 (by simp [fits, HeapM.used]) 1 (by simp [HeapM.used])).mono ?_
  clear hA
  rintro e w2 ⟨rfl, hA, U2⟩
  go_wp2_with fail
  refine (alloc_A hA 6 1 (by simp [fits, HeapM.used]) 4 (by simp [HeapM.used])).mono ?_
  clear hA
  rintro e w3 ⟨rfl, hA, U3⟩
  go_wp2_with (go_at_call 17; refine (used_A hA 5 (by simp [HeapM.used])).mono ?_; rintro e w' ⟨rfl, rfl⟩)
  go_ret
  exact ⟨rfl, ((U1.fresh U2 (by simp; omega)).fresh U3 (by simp; omega))⟩

/-! ### HeapFull -/
theorem used_replicate (j K : Nat) (k : Int) : HeapM.used (List.replicate j (k, List.replicate K 0)) = j * (K + 1) := by
  induction j with
  | zero => simp [HeapM.used]
  | succ j ih => simp only [List.replicate_succ, HeapM.used, ih, List.length_replicate, Nat.succ_mul]; omega
theorem replicate_snoc {α : Type} (j : Nat) (x : α) : List.replicate j x ++ [x] = List.replicate (j + 1) x := by
  rw [replicate_plus]; rfl
/-- The places in HeapFull's loop. -/
structure FullRel (w wr : World) (p bw bk N K j : Nat) : Prop where
  heap : HeapA wr p bw bk N (List.replicate j (1, List.replicate K 0))
  upd : Upd [] w wr
  f1 : w.heap.size ≤ p
  f2 : w.heap.size ≤ bw
  f3 : w.heap.size ≤ bk
theorem FullRel.step {w wr w' : World} {p bw bk N K j : Nat} (h : FullRel w wr p bw bk N K j) (hA : HeapA w' p bw bk N (List.replicate j ((1 : Int), List.replicate K 0) ++ [(((1 : Nat) : Int), List.replicate K 0)])) (hu : Upd [p, bw, bk] wr w') : FullRel w w' p bw bk N K (j + 1) := by
  have f1 := h.f1
  have f2 := h.f2
  have f3 := h.f3
  exact ⟨by rw [← replicate_snoc]; exact hA, h.upd.fresh hu (by simp; omega), f1, f2, f3⟩
set_option maxRecDepth 100000 in
set_option maxHeartbeats 2000000 in
theorem full_walk (a b : Nat) (w : World) (ha : (a : Int) ≤ 18446744073709551615) (hb : (b : Int) ≤ 18446744073709551615) :
    Calls Try.prog 3 #[.int .u64 a, .int .u64 b] w fun e w' => e = .returned (.bool true) ∧ Upd [] w w' := by
  go_enter Try.func3, Try.ntmps3
  go_wp2_with fail
  obtain ⟨N, hN, N1, N2⟩ : ∃ N : Nat, (16 + (a : Int) % 2000) = N ∧ 16 ≤ N ∧ N ≤ 2015 := ⟨16 + a % 2000, by omega, by omega, by omega⟩
  obtain ⟨K, hK, K1⟩ : ∃ K : Nat, ((b : Int) % 40) = K ∧ K < 40 := ⟨b % 40, by omega, by omega⟩
  rw [hN, hK]
  generalize (a : Int) % 2000 = a2 at *
  generalize (b : Int) % 40 = b2 at *
  clear hN hK
  refine (new_A N _ (by omega) (by omega)).mono ?_
  rintro e w1 ⟨p, bw, bk, rfl, hA, f1, f2, f3, U1⟩
  obtain ⟨Q, hQ⟩ : ∃ Q : Nat, Q = N / (K + 1) := ⟨_, rfl⟩
  have hQ1 : Q * (K + 1) ≤ N := by rw [hQ]; exact Nat.div_mul_le_self N (K + 1)
  have hQ2 : N < (Q + 1) * (K + 1) := by
    rw [hQ, Nat.mul_comm]
    exact Nat.lt_mul_div_succ N (by omega)
  have hQ3 : (N : Int) / ((K : Int) + 1) = Q := by
    rw [hQ]
    simp
  have hQ4 : Q ≤ N := by rw [hQ]; exact Nat.div_le_self _ _
  clear hQ
  have H1 := Lib.hid hQ1
  have H2 := Lib.hid hQ2
  clear hQ1 hQ2
  have hr0 : FullRel w w1 p bw bk N K 0 := ⟨hA, U1, f1, f2, f3⟩
  clear hA U1 f1 f2 f3
  go_wp2_with fail
  go_loopw [8] (fun i wr => ∃ j : Nat, j ≤ Q ∧ i = .int .i64 j ∧ FullRel w wr p bw bk N K j) (fun i _ => Q - (intOf i).toNat)
  case atStart => exact ⟨0, by omega, rfl, hr0⟩
  case round =>
    obtain ⟨j, hj, rfl, hr⟩ := hrel
    by_cases hlt : j < Q
    · have hfit : fits (List.replicate j ((1 : Int), List.replicate K 0)) N 1 K := by
        refine ⟨by omega, by omega, by omega, ?_⟩
        rw [used_replicate]
        have := Nat.mul_le_mul_right (K + 1) (show j + 1 ≤ Q from hlt)
        have := H1.out
        rw [Nat.succ_mul] at *
        omega
      have HF := Lib.hid hfit; clear hfit
      go_wp2_with (go_at_call 16; refine (alloc_A hr.heap 1 K HF.out _ rfl).mono ?_; rintro e w' ⟨rfl, hA, hU⟩; have hr' := hr.step hA hU; clear hA hU hr)
      go_roundw
      case rel => exact ⟨j + 1, by omega, by go_num, hr'⟩
      case measure => simp [intOf]; omega
    · have hjQ : j = Q := by omega
      subst hjQ
      have hu : HeapM.used (List.replicate j ((1 : Int), List.replicate K 0)) = j * (K + 1) := used_replicate j K 1
      have h1 := H1.out
      have h2 := H2.out
      have hroom : (N : Int) - (j * (K + 1) : Nat) ≤ K := by
        rw [Nat.succ_mul] at h2
        omega
      generalize hU : j * (K + 1) = u at *
      have hno : ¬ fits (List.replicate j ((1 : Int), List.replicate K 0)) N 1 K := by
        unfold fits
        rw [hu]
        omega
      have HNO := Lib.hid hno
      have HU := Lib.hid hu
      clear hno hu hU H1 H2 h2
      go_wp2_with fail
      refine (alloc_full hr.heap 1 K HNO.out).mono ?_
      rintro e w' ⟨rfl, nd, rfl⟩
      have hA := hr.heap.upd0 ((Upd.refl [] wr).drewN nd)
      have hUp := hr.upd.drewN nd
      have g1 := hr.f1
      have g2 := hr.f2
      have g3 := hr.f3
      clear hr
      generalize wr.drewN nd = w2 at *
      rcases Nat.lt_or_ge u N with hlt2 | hge
      · have hne : ((N : Int) - (u : Int) == 0) = false := by simp; omega
        go_wp2_with fail
        refine (used_A hA u (by rw [HU.out])).mono ?_
        rintro e w' ⟨rfl, rfl⟩
        go_wp2_with fail
        have hno : ¬ fits (List.replicate j ((1 : Int), List.replicate K 0)) N 1 ((N : Int) - (u : Int)) := by
          unfold fits
          rw [HU.out]
          omega
        refine (alloc_full hA 1 _ hno).mono ?_
        clear hno
        rintro e w' ⟨rfl, nd2, rfl⟩
        have hB := hA.upd0 ((Upd.refl [] w2).drewN nd2)
        have hUB := hUp.drewN nd2
        clear hA hUp
        generalize w2.drewN nd2 = w3 at *
        go_wp2_with fail
        have hyes : fits (List.replicate j ((1 : Int), List.replicate K 0)) N 1 ((N : Int) - (u : Int) - 1) := by
          unfold fits
          rw [HU.out]
          omega
        refine (alloc_I hB 1 _ hyes _ rfl).mono ?_
        clear hyes
        rintro e w4 ⟨rfl, hC, hU4⟩
        have hUC := hUB.fresh hU4 (by simp; omega)
        have hUsed : (N : Int) = HeapM.used (List.replicate j ((1 : Int), List.replicate K 0) ++ [((1 : Int), List.replicate ((N : Int) - (u : Int) - 1).toNat 0)]) := by
          rw [used_append, HU.out]
          simp only [HeapM.used, List.length_replicate]
          omega
        have HUS := Lib.hid hUsed
        clear hUsed hB hUB hU4
        go_wp2_with fail
        refine (used_A hC N HUS.out).mono ?_
        rintro e w' ⟨rfl, rfl⟩
        go_wp2_with fail
        refine (lives17 _).mono ?_
        rintro e w' ⟨rfl, hL⟩
        go_wp2
        go_ret
        exact ⟨rfl, hUC.then hL⟩
      · have heq : ((N : Int) - (u : Int) == 0) = true := by simp; omega
        go_wp2_with fail
        refine (used_A hA u (by rw [HU.out])).mono ?_
        rintro e w' ⟨rfl, rfl⟩
        go_wp2_with fail
        refine (lives17 _).mono ?_
        rintro e w' ⟨rfl, hL⟩
        go_wp2
        go_ret
        exact ⟨rfl, hUp.then hL⟩

theorem law_HeapFull (a b : Int) (w : World) (ha : (Lit.int .u64 a).wf = true) (hb : (Lit.int .u64 b).wf = true) :
    Calls Try.prog 3 #[.int .u64 a, .int .u64 b] w fun e w' => e = .returned (.bool true) ∧ Upd [] w w' := by
  have h1 := bounds_u64 ha
  have h2 := bounds_u64 hb
  obtain ⟨a, rfl⟩ := Int.eq_ofNat_of_zero_le h1.1
  obtain ⟨b, rfl⟩ := Int.eq_ofNat_of_zero_le h2.1
  exact full_walk a b w (by omega) (by omega)

end Go.Proofs.Ytkbnkpllbgofhaa
