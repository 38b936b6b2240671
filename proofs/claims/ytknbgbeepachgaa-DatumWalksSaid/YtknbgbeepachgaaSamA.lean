/-
  nat.Cmp and whole.Cmp of like numbers.
-/
import Derived.Test.YtknbgbeepachgaaDatX
namespace Go.Proofs.Ytknbgbeepachgaa
open Go.RowKit

theorem LimbsOf.cell {w : World} {P : Nat → Prop} {a : Option Addr} {xs : List Int} (h : LimbsOf w P a xs) {i : Nat} (hi : i < xs.length) : ∃ b o, a = some ⟨b, o, none⟩ ∧ w.cell? ⟨b, o + i, none⟩ = some (.int .u32 (xs.getD i 0)) := by
  obtain ⟨b, o, e, _, hc⟩ := h i hi
  exact ⟨b, o, e, hc⟩
set_option maxRecDepth 100000 in
set_option maxHeartbeats 1500000 in
theorem natCmp_calls {P P' : Nat → Prop} {w : World} {a a' : Option Addr} {xs : List Int} (m c c' : Nat) (hm : xs.length = m) (h : LimbsOf w P a xs) (h' : LimbsOf w P' a' xs) (hc : m ≤ c) (hc' : m ≤ c') (hb : m ≤ 35184372088832) (hx : ∀ x ∈ xs, 0 ≤ x ∧ x < 4294967296) :
    Calls Try.prog 42 #[.slice a m c, .slice a' m c'] w fun e w' => e = .returned (.int .i64 0) ∧ Upd [] w w' := by
  have hT := Lib.hid (trim_calls m c hm h hc hb hx)
  have hT' := Lib.hid (trim_calls m c' hm h' hc' hb hx)
  have HL := Lib.hid h
  have HL' := Lib.hid h'
  have HM := Lib.hid hm
  clear h h' hm hx
  go_enter Try.func42, Try.ntmps42
  go_wp2_with fail
  refine hT.out.mono ?_
  rintro e w' ⟨⟨k, hk, rfl, ht⟩, rfl⟩
  go_wp2_with fail
  refine hT'.out.mono ?_
  rintro e w2 ⟨⟨k2, hk2, rfl, ht2⟩, rfl⟩
  have hkk : k2 = k := by
    have := ht.symm.trans ht2
    have h1 := congrArg List.length this
    rw [List.length_take, List.length_take, HM.out] at h1
    omega
  subst hkk
  clear ht ht2 hT hT' hk2
  have hw0 : IntKind.i64.wrap (((k2 : Nat) : Int) - 1) = ((k2 : Nat) : Int) - 1 := IntWalk.i64_in _ (by omega)
  go_wp2_with fail
  obtain ⟨W0, rfl⟩ : ∃ W0 : World, W0 = w2 := ⟨_, rfl⟩
  go_loopw [5] (fun i wr => ∃ j : Nat, j ≤ k2 ∧ i = .int .i64 ((j : Int) - 1) ∧ Hid (Upd [] W0 wr)) (fun i _ => (intOf i + 1).toNat)
  case atStart => exact ⟨k2, Nat.le_refl _, rfl, Lib.hid (Upd.refl _ _)⟩
  case round =>
    obtain ⟨j, hj, rfl, hU⟩ := hrel
    cases j with
    | zero =>
      go_wp2
      go_ret
      exact ⟨rfl, hU.out⟩
    | succ j =>
      have hjl : j < xs.length := by rw [HM.out]; omega
      obtain ⟨b, o, rfl, hc1⟩ := HL.out.cell hjl
      obtain ⟨b', o', rfl, hc2⟩ := HL'.out.cell hjl
      have c1 := hU.out.cell hc1 (by simp)
      have c2 := hU.out.cell hc2 (by simp)
      clear hc1 hc2
      obtain ⟨x, hx⟩ : ∃ x, x = xs.getD j 0 := ⟨_, rfl⟩
      rw [← hx] at c1 c2
      clear hx
      rw [show ((j + 1 : Nat) : Int) - 1 = (j : Int) by omega]
      have hj0 : (0 : Int) ≤ (j : Int) := by omega
      have hjk : (j : Int) < (k2 : Int) := by omega
      have hw1 : IntKind.i64.wrap ((j : Int) - 1) = (j : Int) - 1 := IntWalk.i64_in _ (by omega)
      go_wp2_with fail
      go_quiet (fail)
      go_wp2
      go_roundw
      case rel => exact ⟨j, by omega, rfl, Lib.hid (Upd.drewN hU.out _)⟩
      case measure => simp [intOf]
theorem trimL_sub {xs : List Int} (hx : ∀ x ∈ xs, 0 ≤ x ∧ x < 4294967296) : (∀ x ∈ trimL xs, 0 ≤ x ∧ x < 4294967296) ∧ (trimL xs).length ≤ xs.length := by
  obtain ⟨k, hk, e⟩ := trimL_prefix xs
  rw [e]
  exact ⟨fun x h => hx x (List.mem_of_mem_take h), by rw [List.length_take]; omega⟩
set_option maxRecDepth 100000 in
set_option maxHeartbeats 1500000 in
theorem wholeCmp_calls {P P' : Nat → Prop} {w : World} {a a' : Option Addr} {xs : List Int} (ng : Bool) (m c c' : Nat) (hm : xs.length = m) (h : LimbsOf w P a xs) (h' : LimbsOf w P' a' xs) (hc : m ≤ c) (hc' : m ≤ c') (hb : m ≤ 35184372088832) (hx : ∀ x ∈ xs, 0 ≤ x ∧ x < 4294967296) :
    Calls Try.prog 30 #[.agg #[.bool ng, .slice a m c], .agg #[.bool ng, .slice a' m c']] w fun e w' => e = .returned (.int .i64 0) ∧ Upd [] w w' := by
  obtain ⟨hts, htl⟩ := trimL_sub hx
  have hN1 := Lib.hid (fun (W : World) (hu : Upd [] w W) => wholeNorm_calls ng m c hm (h.upd0 hu) hc hb hx)
  have hN2 := Lib.hid (fun (W : World) (hu : Upd [] w W) => wholeNorm_calls ng m c' hm (h'.upd0 hu) hc' hb hx)
  have htb : (trimL xs).length ≤ 35184372088832 := by omega
  obtain ⟨ts, hts'⟩ : ∃ ts, ts = trimL xs := ⟨_, rfl⟩
  rw [← hts'] at hN1 hN2 hts htb
  have HTS := Lib.hid hts
  obtain ⟨W2, hW2⟩ : ∃ W2, W2 = (w.alloc (.cells #[.bool ng, .slice a m c] 24)).alloc (.cells #[.bool ng, .slice a' m c'] 24) := ⟨_, rfl⟩
  have hu2 : Upd [] w W2 := by rw [hW2]; exact ((Upd.refl [] w).alloc _).alloc _
  have hb2 : Blk W2 w.heap.size [.bool ng, .slice a m c] 24 := by rw [hW2]; exact (Blk.newAt rfl).alloc _
  have hb3 : Blk W2 (w.heap.size + 1) [.bool ng, .slice a' m c'] 24 := by rw [hW2]; exact Blk.newAt (by simp)
  have hW2' := Lib.hid hW2
  clear h h' hm hx hts htl hts' hW2
  go_enter Try.func30, Try.ntmps30
  go_wp2_with fail
  rw [← hW2'.out]
  obtain ⟨x0, x1⟩ : W2.cell? ⟨w.heap.size, 0, none⟩ = _ ∧ W2.cell? ⟨w.heap.size, 1, none⟩ = _ := ⟨hb2.cell_some rfl, hb2.cell_some rfl⟩
  obtain ⟨y0, y1⟩ : W2.cell? ⟨w.heap.size + 1, 0, none⟩ = _ ∧ W2.cell? ⟨w.heap.size + 1, 1, none⟩ = _ := ⟨hb3.cell_some rfl, hb3.cell_some rfl⟩
  have HU2 := Lib.hid hu2
  have HB2 := Lib.hid hb2
  have HB3 := Lib.hid hb3
  clear hu2 hb2 hb3 hW2'
  obtain ⟨nb, hnb⟩ : ∃ nb, nb = (ng && decide (0 < ts.length)) := ⟨_, rfl⟩
  have HNB := Lib.hid hnb
  clear hnb
  go_region_with (first
    | (go_at_call_of 32 (Value.agg #[.bool ng, .slice a m c]); refine (hN1.out _ (by first | exact HU2.out.drew | exact HU8.out)).mono ?_; rintro e w7 ⟨⟨a7, c7, rfl, hL7, hc7⟩, hu7⟩; rw [← HNB.out]; have hv : Upd [] W2 w7 := (by first | exact Upd.then (Upd.refl [] W2).drew hu7 | exact HV8.out.then hu7); have HV7 := Lib.hid hv; have HU7 := Lib.hid (HU2.out.then hv); have HQ7 := Lib.hid hu7; have HL7 := Lib.hid hL7; have HC7 := Lib.hid hc7; have x0 := (hv.blk HB2.out (by simp)).cell_some (i := 0) rfl; have x1 := (hv.blk HB2.out (by simp)).cell_some (i := 1) rfl; have y0 := (hv.blk HB3.out (by simp)).cell_some (i := 0) rfl; have y1 := (hv.blk HB3.out (by simp)).cell_some (i := 1) rfl; have f0 := (hv.blk HB2.out (by simp)).free 0; have f1 := (hv.blk HB2.out (by simp)).free 1; have g0 := (hv.blk HB3.out (by simp)).free 0; have g1 := (hv.blk HB3.out (by simp)).free 1; clear hv hL7 hc7 hu7)
    | (go_at_call_of 32 (Value.agg #[.bool ng, .slice a' m c']); refine (hN2.out _ (by first | exact HU2.out.drew | exact HU7.out)).mono ?_; rintro e w8 ⟨⟨a8, c8, rfl, hL8, hc8⟩, hu8⟩; rw [← HNB.out]; have hv : Upd [] W2 w8 := (by first | exact Upd.then (Upd.refl [] W2).drew hu8 | exact HV7.out.then hu8); have HV8 := Lib.hid hv; have HU8 := Lib.hid (HU2.out.then hv); have HQ8 := Lib.hid hu8; have HL8 := Lib.hid hL8; have HC8 := Lib.hid hc8; have x0 := (hv.blk HB2.out (by simp)).cell_some (i := 0) rfl; have x1 := (hv.blk HB2.out (by simp)).cell_some (i := 1) rfl; have y0 := (hv.blk HB3.out (by simp)).cell_some (i := 0) rfl; have y1 := (hv.blk HB3.out (by simp)).cell_some (i := 1) rfl; have f0 := (hv.blk HB2.out (by simp)).free 0; have f1 := (hv.blk HB2.out (by simp)).free 1; have g0 := (hv.blk HB3.out (by simp)).free 0; have g1 := (hv.blk HB3.out (by simp)).free 1; clear hv hL8 hc8 hu8))
  all_goals
    have hz : w.heap.size + 1 < W2.heap.size := HB3.out.lt
    have hr2 := HV8.out.blk HB2.out (by simp)
    have hr3 := HV8.out.blk HB3.out (by simp)
    obtain ⟨W9, hW9⟩ : ∃ W9, W9 = (((w8.setCell ⟨w.heap.size, 0, none⟩ (.bool nb)).setCell ⟨w.heap.size, 1, none⟩ (.slice a7 ts.length c7)).setCell ⟨w.heap.size + 1, 0, none⟩ (.bool nb)).setCell ⟨w.heap.size + 1, 1, none⟩ (.slice a8 ts.length c8) := ⟨_, rfl⟩
    have h9a : Blk W9 w.heap.size [.bool nb, .slice a7 ts.length c7] 24 := by
      rw [hW9]
      exact (((hr2.set 0 _).set 1 _).set_other _ (by simp)).set_other _ (by simp)
    have h9b : Blk W9 (w.heap.size + 1) [.bool nb, .slice a8 ts.length c8] 24 := by
      rw [hW9]
      exact (((hr3.set_other _ (by simp)).set_other _ (by simp)).set 0 _).set 1 _
    have hU9 : Upd [] w W9 := by
      rw [hW9]
      exact (((HU8.out.setCell _ (.inr (Nat.le_refl _))).setCell _ (.inr (Nat.le_refl _))).setCell _ (.inr (Nat.le_succ _))).setCell _ (.inr (Nat.le_succ _))
    have hset : ∀ {a : Option Addr}, LimbsOf w8 (fun b => w.heap.size + 1 < b) a ts → LimbsOf W9 (fun b => w.heap.size + 1 < b) a ts := by
      intro a hl
      rw [hW9]
      exact (((hl.set_other _ _ (fun b hb => by simp; omega)).set_other _ _ (fun b hb => by simp; omega)).set_other _ _ (fun b hb => by simp; omega)).set_other _ _ (fun b hb => by simp; omega)
    have hl7 := hset ((HL7.out.upd0 HQ8.out).mono fun b hb => by have hb' : W2.heap.size ≤ b := hb; omega)
    have hl8 := hset (HL8.out.mono fun b hb => by have := HV7.out.size; have hb' : w7.heap.size ≤ b := hb; omega)
    have hA := Lib.hid (natCmp_calls ts.length c7 c8 rfl hl7 hl8 HC7.out HC8.out htb HTS.out)
    have hB := Lib.hid (natCmp_calls ts.length c8 c7 rfl hl8 hl7 HC8.out HC7.out htb HTS.out)
    have v0 := h9a.cell_some (i := 0) rfl
    have v1 := h9a.cell_some (i := 1) rfl
    have u0 := h9b.cell_some (i := 0) rfl
    have u1 := h9b.cell_some (i := 1) rfl
    rw [← hW9]
    have HU9 := Lib.hid hU9
    clear hW9 h9a h9b hU9 hset hl7 hl8 hr2 hr3 x0 x1 y0 y1 f0 f1 g0 g1 HL7 HL8 HC7 HC8 HQ7 HQ8 HV7 HV8 HU7 HU8 hN1 hN2
    cases nb with
    | true =>
      go_wp2_with fail
      refine hB.out.mono ?_
      rintro e w10 ⟨rfl, hu10⟩
      go_wp2
      go_ret
      exact ⟨rfl, HU9.out.then hu10⟩
    | false =>
      go_wp2_with fail
      refine hA.out.mono ?_
      rintro e w10 ⟨rfl, hu10⟩
      go_wp2
      go_ret
      exact ⟨rfl, HU9.out.then hu10⟩
end Go.Proofs.Ytknbgbeepachgaa
