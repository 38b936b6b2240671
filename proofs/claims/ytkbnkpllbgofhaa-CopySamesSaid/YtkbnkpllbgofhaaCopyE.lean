/-
  Copy: the document's examples; CopyNone.
-/
import Derived.Test.YtkbnkpllbgofhaaCopyD
namespace Go.Proofs.Ytkbnkpllbgofhaa
open Go.RowKit HeapM

def exL : List HObj := [(4, [0, 0]), (4, [0, 0])]
theorem ex_reach : reachR exL [17] = [4] := by decide +kernel
theorem ex_moved : [17].map (movedR exL [4]) = [5] := by decide +kernel
theorem ex_used : HeapM.used (collectL exL [4]) = 3 := by decide +kernel
set_option maxRecDepth 100000 in
set_option maxHeartbeats 1000000 in
theorem lives18 (w : World) : Calls Try.prog 56 #[] w fun e w' => e = .returned (.bool true) ∧ Upd [] w w' := by
  go_enter Try.func56, Try.ntmps56
  go_wp2_with fail
  refine (new_A 16 _ (by omega) (by omega)).mono ?_
  rintro e w1 ⟨p, bw, bk, rfl, hA, f1, f2, f3, U1⟩
  go_wp2_with fail
  refine (alloc_A hA 4 2 (by simp [fits, HeapM.used]) 1 (by simp [HeapM.used])).mono ?_
  clear hA
  rintro e w2 ⟨rfl, hA, U2⟩
  go_wp2_with fail
  refine (alloc_A hA 4 2 (by simp [fits, HeapM.used]) 4 (by simp [HeapM.used])).mono ?_
  clear hA
  rintro e w3 ⟨rfl, hA, U3⟩
  have hUp : Upd [] w w3 := (U1.fresh U2 (by simp; omega)).fresh U3 (by simp; omega)
  have hA3 : Hid (HeapA w3 p bw bk 16 exL) := hA
  have HU := Lib.hid hUp
  clear hA hUp U1 U2 U3 f1 f2 f3
  go_wp2_with fail
  refine (ref_calls _ _).mono ?_
  rintro e w' ⟨rfl, rfl⟩
  rw [show tagW 4 1 = 17 from rfl]
  have hU4 : Upd [] w3 (w3.alloc (.cells #[.int .u64 17] 31)) := (Upd.refl [] w3).alloc _
  have hs : SlI (w3.alloc (.cells #[.int .u64 17] 31)) .u64 (some ⟨w3.heap.size, 0, none⟩) [17] := SlI.of_map (by exact Blk.newAt rfl)
  have HU4 := Lib.hid hU4
  have HS := Lib.hid hs
  clear hU4 hs
  go_wp2_with fail
  refine (collect_calls (hA3.out.upd0 HU4.out) _ [17] 1 1 rfl HS.out (by simp) (by omega)).mono ?_
  rintro e w5 ⟨p5, bw5, bk5, a5, c5, rfl, hX, hs5, hu5, g1, g2, g3⟩
  rw [ex_reach] at hX hs5
  rw [ex_moved] at hs5
  have hA5 := Lib.hid ((hA3.out.upd0 HU4.out).upd0 hu5)
  have HU5 := Lib.hid ((HU.out.then HU4.out).then hu5)
  obtain ⟨b, o, rfl, hc⟩ := hs5 0 (by simp)
  have hc' : w5.cell? ⟨b, o, none⟩ = some (.int .u64 5) := hc
  have HX := Lib.hid hX
  clear hc hs5 hX hu5 g1 g2 g3
  simp only [List.length_cons, List.length_nil, Nat.zero_add]
  go_wp2_with fail
  go_quiet (first
    | (go_at_call_of 17 (hptr p5); exact Calls.quiet_of_same ((used_A (HX.out.upd0 ((Upd.refl [] w5).drewN _)) 3 (by rw [ex_used]; rfl)).mono fun _ _ ⟨a, b⟩ => ⟨a, b.symm⟩))
    | (go_at_call_of 17 (hptr p); exact Calls.quiet_of_same ((used_A (hA5.out.upd0 ((Upd.refl [] w5).drewN _)) 6 (by rfl)).mono fun _ _ ⟨a, b⟩ => ⟨a, b.symm⟩))
    | (go_at_call 21; exact Calls.quiet_of_same ((ref_calls _ _).mono fun _ _ ⟨a, b⟩ => ⟨a, b.symm⟩)))
  go_wp2
  go_ret
  exact ⟨rfl, HU5.out.drewN _⟩

/-! ### CopyNone -/
theorem reach_nil (ws : List Int) : reachR [] ws = [] := List.length_eq_zero_iff.1 (Nat.le_zero.1 (Met.bfs [] ws 0).len)
theorem live_nil (ws : List Int) : liveR [] ws = 0 := by
  unfold liveR
  rw [reach_nil]
  rfl
theorem NoHeap.hv {w : World} {v : Value} (h : NoHeap w v) : HV w v [] := .inl ⟨h, rfl⟩
/-- What CopyNone's loop leans on. -/
structure NoneC (w wr : World) (z : Nat) : Prop where
  zero : wr.cell? ⟨z, 0, none⟩ = some (.slice none 0 0)
  upd : Upd [] w wr
theorem NoneC.step {w wr w' : World} {z : Nat} (h : NoneC w wr z) (hu : Upd [] wr w') : NoneC w w' z := ⟨hu.cell h.zero (by simp), h.upd.then hu⟩
theorem one_word {w : World} (x : Int) : SlI (w.alloc (.cells #[.int .u64 x] 31)) .u64 (some ⟨w.heap.size, 0, none⟩) [x] ∧ Upd [] w (w.alloc (.cells #[.int .u64 x] 31)) :=
  ⟨SlI.of_map (by exact Blk.newAt rfl), (Upd.refl [] w).alloc _⟩
set_option maxRecDepth 100000 in
set_option maxHeartbeats 2000000 in
theorem law_CopyNone (x : Int) (w : World) (hx : (Lit.int .u64 x).wf = true) :
    Calls Try.prog 10 #[.int .u64 x] w fun e w' => e = .returned (.bool true) ∧ Upd [] w w' := by
  have hxb := bounds_u64 hx
  clear hx
  go_enter Try.func10, Try.ntmps10
  go_wp2_with fail
  obtain ⟨W1, hW1⟩ : ∃ W1, W1 = w.alloc (.cells #[.slice none 0 0, .slice none 0 0, .int .i64 0] 72) := ⟨_, rfl⟩
  have hr0 : NoneC w W1 w.heap.size := by
    subst hW1
    exact ⟨(Blk.newAt rfl).cell_some rfl, (Upd.refl [] w).alloc _⟩
  rw [← hW1]
  clear hW1
  obtain ⟨z, hz⟩ : ∃ z, z = w.heap.size := ⟨_, rfl⟩
  rw [← hz] at hr0 ⊢
  clear hz
  have i0 : ∀ w, (Instr.index 73 (.agg #[.pointer none, .pointer (some ⟨z, 0, none⟩)]) (.int .i64 0)).run Try.prog w = .ok (.pointer none) w := fun _ => by kernel_rfl
  have i1 : ∀ w, (Instr.index 73 (.agg #[.pointer none, .pointer (some ⟨z, 0, none⟩)]) (.int .i64 1)).run Try.prog w = .ok (.pointer (some ⟨z, 0, none⟩)) w := fun _ => by kernel_rfl
  go_loopw [10] (fun i wr => ∃ j : Nat, j ≤ 2 ∧ i = .int .i64 j ∧ Hid (NoneC w wr z)) (fun i _ => 2 - (intOf i).toNat)
  case atStart => exact ⟨0, by omega, rfl, hr0⟩
  case round =>
    obtain ⟨j, hj, rfl, hr⟩ := hrel
    by_cases hj2 : j < 2
    · obtain ⟨pv, hpv, hno⟩ : ∃ pv : Option Addr, ((j = 0 ∧ pv = none) ∨ (j = 1 ∧ pv = some ⟨z, 0, none⟩)) ∧ ∀ w', NoneC w w' z → NoHeap w' (.pointer pv) := by
        obtain rfl | rfl : j = 0 ∨ j = 1 := by omega
        · exact ⟨none, .inl ⟨rfl, rfl⟩, fun _ _ => .inl rfl⟩
        · exact ⟨_, .inr ⟨rfl, rfl⟩, fun _ h => .inr ⟨z, rfl, h.zero⟩⟩
      have hix : ∀ w, (Instr.index 73 (.agg #[.pointer none, .pointer (some ⟨z, 0, none⟩)]) (.int .i64 j)).run Try.prog w = .ok (.pointer pv) w := by
        rcases hpv with ⟨rfl, rfl⟩ | ⟨rfl, rfl⟩
        · exact i0
        · exact i1
      have HNO := Lib.hid hno
      clear hno hpv
      go_wp2_with fail
      obtain ⟨s1, u1⟩ := one_word (w := wr) x
      have hr1 := Lib.hid (hr.out.step u1)
      clear s1 u1
      refine (collect_no (HNO.out _ hr1.out) _ _ _).mono ?_
      rintro e w2 ⟨rfl, hu2⟩
      have hr2 := Lib.hid (hr1.out.step hu2)
      clear hr1 hr hu2
      go_wp2_with fail
      obtain ⟨s1, u1⟩ := one_word (w := w2) x
      have hr3 := Lib.hid (hr2.out.step u1)
      have HS := Lib.hid s1
      clear s1 u1 hr2
      refine (reached_calls (HNO.out _ hr3.out).hv _ [x] 1 1 rfl HS.out (by simp; omega) (by omega)).mono ?_
      rw [reach_nil]
      rintro e w4 ⟨a4, c4, rfl, -, hu4⟩
      have hr4 := Lib.hid (hr3.out.step hu4)
      clear hr3 HS hu4
      simp only [List.length_nil]
      go_wp2_with fail
      refine (live_calls (HNO.out _ hr4.out).hv none [] 0 0 rfl (fun i hi => absurd hi (by simp)) (by simp) (by omega)).mono ?_
      rw [live_nil]
      rintro e w5 ⟨rfl, hu5⟩
      have hr5 := Lib.hid (hr4.out.step hu5)
      clear hr4 hu5
      go_wp2
      go_roundw
      case rel => exact ⟨j + 1, by omega, by go_num, hr5⟩
      case measure => simp [intOf]; omega
    · have hj3 : j = 2 := by omega
      subst hj3
      have HU := Lib.hid hr.out.upd
      go_wp2_with fail
      refine (lives18 _).mono ?_
      rintro e w2 ⟨rfl, hL⟩
      go_wp2
      go_ret
      exact ⟨rfl, HU.out.then hL⟩
end Go.Proofs.Ytkbnkpllbgofhaa
