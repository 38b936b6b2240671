/-
  HeapNone: its walk.
-/
import Derived.Test.YtkbnkpllbgofhaaHeapO
import Derived.Deep.RegionHeld3
import Derived.Lib.SmallJoins
import Derived.ProofKit
namespace Go.Proofs.Ytkbnkpllbgofhaa
open Go.RowKit HeapM Go.ChangeShapes

/-- What HeapNone's loop leans on. -/
structure NoneRel (w wr : World) (ba z : Nat) (A B W : Int) : Prop where
  a1 : wr.cell? ⟨ba, 1, none⟩ = some (.int .i64 A)
  a2 : wr.cell? ⟨ba, 2, none⟩ = some (.int .i64 B)
  a3 : wr.cell? ⟨ba, 3, none⟩ = some (.int .u64 W)
  zero : wr.cell? ⟨z, 0, none⟩ = some (.slice none 0 0)
  upd : Upd [] w wr
theorem NoneRel.step {w wr w' : World} {ba z : Nat} {A B W : Int} (h : NoneRel w wr ba z A B W) (hu : Upd [] wr w') : NoneRel w w' ba z A B W :=
  ⟨hu.cell h.a1 (by simp), hu.cell h.a2 (by simp), hu.cell h.a3 (by simp), hu.cell h.zero (by simp), h.upd.then hu⟩
theorem NoneRel.nil {w wr : World} {ba z : Nat} {A B W : Int} (_h : NoneRel w wr ba z A B W) : NoHeap wr (.pointer none) := .inl rfl
theorem NoneRel.ptr {w wr : World} {ba z : Nat} {A B W : Int} (h : NoneRel w wr ba z A B W) : NoHeap wr (.pointer (some ⟨z, 0, none⟩)) := .inr ⟨z, rfl, h.zero⟩

theorem NoneRel.all {w wr : World} {ba z : Nat} {A B W : Int} (h : NoneRel w wr ba z A B W) : NoneRel w wr ba z A B W ∧ wr.cell? ⟨ba, 1, none⟩ = some (.int .i64 A) ∧ wr.cell? ⟨ba, 2, none⟩ = some (.int .i64 B) ∧ wr.cell? ⟨ba, 3, none⟩ = some (.int .u64 W) := ⟨h, h.a1, h.a2, h.a3⟩
set_option maxRecDepth 100000 in
set_option maxHeartbeats 1000000 in
theorem none_walk (K A B W : Int) (w : World) :
    Calls Try.prog 8 #[.agg #[.int .i64 K, .int .i64 A, .int .i64 B, .int .u64 W]] w fun e w' => e = .returned (.bool true) ∧ Upd [] w w' := by
  go_enter Try.func8, Try.ntmps8
  go_wp2_with fail
  obtain ⟨W1, hW1⟩ : ∃ W1, W1 = (w.alloc (.cells #[.int .i64 K, .int .i64 A, .int .i64 B, .int .u64 W] 56)).alloc (.cells #[.slice none 0 0, .slice none 0 0, .int .i64 0] 72) := ⟨_, rfl⟩
  have hr0 : NoneRel w W1 w.heap.size (w.heap.size + 1) A B W := by
    subst hW1
    refine ⟨?_, ?_, ?_, ?_, ((Upd.refl [] w).alloc _).alloc _⟩
    · exact ((Blk.newAt rfl).alloc _).cell_some rfl
    · exact ((Blk.newAt rfl).alloc _).cell_some rfl
    · exact ((Blk.newAt rfl).alloc _).cell_some rfl
    · exact (Blk.newAt (by simp)).cell_some rfl
  rw [← hW1]
  clear hW1
  obtain ⟨ba, hba⟩ : ∃ ba, ba = w.heap.size := ⟨_, rfl⟩
  obtain ⟨z, hz⟩ : ∃ z, z = w.heap.size + 1 := ⟨_, rfl⟩
  rw [← hz, ← hba] at hr0 ⊢
  clear hba hz
  have i0 : ∀ w, (Instr.index 73 (.agg #[.pointer none, .pointer (some ⟨z, 0, none⟩)]) (.int .i64 0)).run Try.prog w = .ok (.pointer none) w := fun _ => by kernel_rfl
  have i1 : ∀ w, (Instr.index 73 (.agg #[.pointer none, .pointer (some ⟨z, 0, none⟩)]) (.int .i64 1)).run Try.prog w = .ok (.pointer (some ⟨z, 0, none⟩)) w := fun _ => by kernel_rfl
  go_loopw [11] (fun i wr => ∃ j : Nat, j ≤ 2 ∧ i = .int .i64 j ∧ NoneRel w wr ba z A B W) (fun i _ => 2 - (intOf i).toNat)
  case atStart => exact ⟨0, by omega, rfl, hr0⟩
  case round =>
    obtain ⟨j, hj, rfl, hr⟩ := hrel
    obtain rfl | rfl | rfl : j = 0 ∨ j = 1 ∨ j = 2 := by omega
    · obtain ⟨c1, c2, c3⟩ := (⟨hr.a1, hr.a2, hr.a3⟩ : _ ∧ _ ∧ _)
      have hn := Lib.hid hr.nil
      go_wp2_with fail
      refine (alloc_no _ _ _ _ hn.out).mono ?_
      rintro e w' ⟨rfl, nd, rfl⟩
      have hr2 := hr.step ((Upd.refl [] wr).drewN nd)
      clear hn hr c1 c2 c3
      generalize wr.drewN nd = w2 at *
      obtain ⟨c1, c2, c3⟩ := (⟨hr2.a1, hr2.a2, hr2.a3⟩ : _ ∧ _ ∧ _)
      have hn := Lib.hid hr2.nil
      have hd := hr2.step (Upd.refl [] w2).drew
      go_wp2_with fail
      refine (get_no _ _ _ _ hn.out).mono ?_
      rintro e w' ⟨rfl, rfl⟩
      go_wp2_with fail
      go_region_held3 (fun w' => NoneRel w w' ba z A B W ∧ w'.cell? ⟨ba, 1, none⟩ = some (.int .i64 A) ∧ w'.cell? ⟨ba, 2, none⟩ = some (.int .i64 B) ∧ w'.cell? ⟨ba, 3, none⟩ = some (.int .u64 W)) (first | exact NoneRel.all (by assumption) | exact NoneRel.all (NoneRel.step (by assumption) (by assumption))) (first
        | (go_at_call 27; refine (set_no _ _ _ _ _ (NoneRel.nil (by assumption))).mono ?_; rintro e w' ⟨rfl, rfl⟩)
        | (go_at_call 25; refine (kind_no _ _ _ (NoneRel.nil (by assumption))).mono ?_; rintro e w' ⟨rfl, rfl⟩)
        | (go_at_call 24; refine (len_no _ _ _ (NoneRel.nil (by assumption))).mono ?_; rintro e w' ⟨rfl, rfl⟩)
        | (go_at_call 17; refine (used_no _ _ (NoneRel.nil (by assumption))).mono ?_; rintro e w' ⟨rfl, rfl⟩)
        | (go_at_call 41; refine (words_no _ _ (NoneRel.nil (by assumption))).mono ?_; rintro e w' ⟨rfl, rfl⟩)
        | (go_at_call 43; refine (objects_no _ _ (NoneRel.nil (by assumption))).mono ?_; rintro e w' ⟨rfl, hU⟩))
      have hr3 := hd.step hU
      clear c1 c2 c3 hn hd hr2 hU
      go_wp2
      go_roundw
      case rel => exact ⟨1, by omega, by go_num, hr3⟩
      case measure => simp [intOf]
    · obtain ⟨c1, c2, c3⟩ := (⟨hr.a1, hr.a2, hr.a3⟩ : _ ∧ _ ∧ _)
      have hn := Lib.hid hr.ptr
      go_wp2_with fail
      refine (alloc_no _ _ _ _ hn.out).mono ?_
      rintro e w' ⟨rfl, nd, rfl⟩
      have hr2 := hr.step ((Upd.refl [] wr).drewN nd)
      clear hn hr c1 c2 c3
      generalize wr.drewN nd = w2 at *
      obtain ⟨c1, c2, c3⟩ := (⟨hr2.a1, hr2.a2, hr2.a3⟩ : _ ∧ _ ∧ _)
      have hn := Lib.hid hr2.ptr
      have hd := hr2.step (Upd.refl [] w2).drew
      go_wp2_with fail
      refine (get_no _ _ _ _ hn.out).mono ?_
      rintro e w' ⟨rfl, rfl⟩
      go_wp2_with fail
      go_region_held3 (fun w' => NoneRel w w' ba z A B W ∧ w'.cell? ⟨ba, 1, none⟩ = some (.int .i64 A) ∧ w'.cell? ⟨ba, 2, none⟩ = some (.int .i64 B) ∧ w'.cell? ⟨ba, 3, none⟩ = some (.int .u64 W)) (first | exact NoneRel.all (by assumption) | exact NoneRel.all (NoneRel.step (by assumption) (by assumption))) (first
        | (go_at_call 27; refine (set_no _ _ _ _ _ (NoneRel.ptr (by assumption))).mono ?_; rintro e w' ⟨rfl, rfl⟩)
        | (go_at_call 25; refine (kind_no _ _ _ (NoneRel.ptr (by assumption))).mono ?_; rintro e w' ⟨rfl, rfl⟩)
        | (go_at_call 24; refine (len_no _ _ _ (NoneRel.ptr (by assumption))).mono ?_; rintro e w' ⟨rfl, rfl⟩)
        | (go_at_call 17; refine (used_no _ _ (NoneRel.ptr (by assumption))).mono ?_; rintro e w' ⟨rfl, rfl⟩)
        | (go_at_call 41; refine (words_no _ _ (NoneRel.ptr (by assumption))).mono ?_; rintro e w' ⟨rfl, rfl⟩)
        | (go_at_call 43; refine (objects_no _ _ (NoneRel.ptr (by assumption))).mono ?_; rintro e w' ⟨rfl, hU⟩))
      have hr3 := hd.step hU
      clear c1 c2 c3 hn hd hr2 hU
      go_wp2
      go_roundw
      case rel => exact ⟨2, by omega, by go_num, hr3⟩
      case measure => simp [intOf]
    · go_wp2_with fail
      refine (lives17 _).mono ?_
      rintro e w2 ⟨rfl, hL⟩
      go_wp2
      go_ret
      exact ⟨rfl, hr.upd.then hL⟩
set_option maxRecDepth 100000 in
theorem act_open {w : World} {v : Value} (h : ArgIs Try.prog w 56 v) : ∃ K A B W, v = .agg #[.int .i64 K, .int .i64 A, .int .i64 B, .int .u64 W] := by
  obtain ⟨H, enc, d, ps, h, base, hok⟩ := h
  obtain ⟨c0, c1, c2, c3, y0, y1, y2, y3, m, rfl, _, _, h0, h1, h2, h3⟩ := Joins.open_agg4 Try.underlying56 (by kernel_rfl) (by kernel_rfl) hok h
  obtain ⟨K, e0, _⟩ := DataW.trod_int Try.underlying3 h0
  obtain ⟨A, e1, _⟩ := DataW.trod_int Try.underlying3 h1
  obtain ⟨B, e2, _⟩ := DataW.trod_int Try.underlying3 h2
  obtain ⟨W, e3, _⟩ := DataW.trod_int Try.underlying30 h3
  simp only [List.cons.injEq, and_true] at e0 e1 e2 e3
  subst e0
  subst e1
  subst e2
  subst e3
  exact ⟨K, A, B, W, rfl⟩
theorem law_HeapNone (v : Value) (w : World) (h : ArgIs Try.prog w 56 v) :
    Calls Try.prog 8 #[v] w fun e w' => e = .returned (.bool true) ∧ Upd [] w w' := by
  obtain ⟨K, A, B, W, rfl⟩ := act_open h
  exact none_walk K A B W w
end Go.Proofs.Ytkbnkpllbgofhaa
