/-
  The document's heap: the first Alloc.
-/
import Derived.Test.YtkbnkpllbgofhaaRefO
namespace Go.Proofs.Ytkbnkpllbgofhaa
open Go.RowKit HeapM
set_option maxRecDepth 100000 in
set_option maxHeartbeats 40000000 in
theorem ralloc_first {w : World} {p n base : Nat} {L : List HObj} {v : Value} {bs : List Nat} (h : RHeap w p n base L v bs) (hbase : base ≤ w.heap.size) (k m : Nat) (hf : fits L n k m) (hL : L = []) :
    Calls Try.prog 36 #[rptr p, .int .i64 k, .int .i64 m] w (RAllocPost p n base L bs k m w) := by
  have hfits := Lib.hid hf
  obtain ⟨f1, f2, f3, f4⟩ := hf
  have h1 : decide ((m : Int) < 0) = false := by simp
  have h2 : decide ((k : Int) < 1) = false := by simp; omega
  have h3 : decide (8 < (k : Int)) = false := by simp; omega
  have c0 := h.cells.1
  have hr := h.room
  have hh := h.high
  have hd := Lib.hid (h.upd0 (Upd.refl [] w).drew)
  have H := Lib.hid h; clear h
  obtain ⟨u, hu⟩ : ∃ u, u = HeapM.used L := ⟨_, rfl⟩
  rw [← hu] at hr f4
  have h4 : decide ((n : Int) - (u : Int) ≤ m) = false := by simp; omega
  have HUu := Lib.hid hu; clear hu
  have hw : IntKind.i64.wrap ((n : Int) - (u : Int)) = (n : Int) - (u : Int) := IntWalk.i64_in _ (by omega)
  have huse := Lib.hid (rused_calls hd.out)
  rw [← HUu.out] at huse
  unfold rptr at *
  go_enter Try.func36, Try.ntmps36
  go_wp2_with fail
  go_region_held3 (fun w' => w'.cell? ⟨p, 0, none⟩ = some (.int .i64 n)) (first | assumption | go_keep | exact (Upd.cell (by assumption) (by assumption) (by simp))) (first | (go_at_call 40; refine huse.out.mono ?_; rintro e w1 ⟨rfl, hu1⟩))
  clear hw
  go_wp2_with fail
  have h2 := Lib.hid (hd.out.upd0 hu1)
  refine (rused_calls h2.out).mono ?_
  rw [← HUu.out]
  rintro e w2 ⟨rfl, hu2⟩
  have h3 := Lib.hid (h2.out.upd0 hu2)
  go_wp2_with fail
  obtain ⟨a, c, rfl, hlen, hf⟩ := h3.out.form
  have d1 := h3.out.cells.2
  have e1 := h3.out.hp.free 1
  have hmk := run_make_row' (P := Try.prog) 59 30 (.int .u64 0) 8 Try.underlying59 (by kernel_rfl) rfl .i64 .i64 m (by omega) (by omega)
  obtain ⟨i0, hi, hz0, hz1, hz2⟩ := info_parts info_obj
  have hnil := h3.out.isNil hL
  subst hL
  injection hnil with e2 e3 e4
  subst e2
  subst e4
  have d1' : w2.cell? ⟨p, 1, none⟩ = some (.slice none 0 0) := d1
  clear d1
  have hD1 : w2.cell? ⟨p, 1, none⟩ = some (.slice none 0 0) ∧ w2.frozen? ⟨p, 1, none⟩ = false := ⟨d1', e1⟩
  have hpl : p < w2.heap.size := World.block_lt_of_cell? w2 _ hD1.1
  have hpl1 : p < w2.heap.size + 1 := by omega
  have hpl2 : p < w2.heap.size + 1 + 1 := by omega
  have hpn0 : ¬ p = w2.heap.size := by omega
  have hpn1 : ¬ p = w2.heap.size + 1 := by omega
  have hpn2 : ¬ p = w2.heap.size + 1 + 1 := by omega
  go_region_law ((try dsimp (config := { proj := false }) only [List.getElem_toArray, List.getElem_cons_succ, List.getElem_cons_zero]); first
      | (refine step_append_lies _ (by rfl) _ _ 64 (by rfl) w2.heap.size 61 i0 _ 3 40 Try.underlying64 hi hz0 hz1 hz2 (by rfl) (by decide) (.slice (some ⟨w2.heap.size, 0, none⟩) 0 0) 0 [] ?_ (own_at ?_ (by omega)) ⟨w2.heap.size + 1 + 1, 0, none⟩ 1 1 [.int .i64 ((u : Int) + 1), .int .i64 k, .slice (some ⟨w2.heap.size + 1, 0, none⟩) m m] ?_ (by rfl) (news_of (rest := []) (t := 61) ?_) (three_one _ _ _ _ _) (by omega) (by unfold maxLen; omega) (by omega) ?_ _ rfl ?_; (rfl); (repeat (first | (refine heap_new ?_; focus (simp; done)) | apply heap_drew | apply heap_old)); (rfl); (repeat (first | (refine Blk.newAt ?_; focus (simp; done)) | apply Blk.drew | apply Blk.alloc)); (simp <;> omega); intro g2 cap2 w4 hown2 hgr2 hg2 hlt2; have hfin : AllocMem w2 w4 [] bs k u m g2 cap2 (w2.heap.size + 1) := ⟨(by simpa [objCells] using hown2), (by (refine blk_grown ?_ hgr2 ?_); (repeat (first | (refine made_at ?_; focus (simp; done)) | apply Blk.drew | apply Blk.alloc)); all_goals (simp [Value.ownBlock]; (try omega))), (by omega), up_grown (by (repeat (first | exact Upd.refl _ _ | apply Upd.drew | apply Upd.alloc))) hgr2 (fun k hk => by (simp [Value.ownBlock] at hk; omega))⟩; have hS1 := hfin.upd.cell hD1.1 (by simp); have hS2 := (up_both hfin.upd hD1).2)
      | (refine step_append_lies _ (by rfl) _ _ 64 (by rfl) w2.heap.size 61 i0 _ 3 40 Try.underlying64 hi hz0 hz1 hz2 (by rfl) (by decide) (.slice (some ⟨w2.heap.size + 1, 0, none⟩) 0 0) 0 [] ?_ (own_at ?_ (by omega)) ⟨w2.heap.size + 1 + 1, 0, none⟩ 1 1 [.int .i64 ((u : Int) + 1), .int .i64 k, .slice (some ⟨w2.heap.size, 0, none⟩) m m] ?_ (by rfl) (news_of (rest := []) (t := 61) ?_) (three_one _ _ _ _ _) (by omega) (by unfold maxLen; omega) (by omega) ?_ _ rfl ?_; (rfl); (repeat (first | (refine heap_new ?_; focus (simp; done)) | apply heap_drew | apply heap_old)); (rfl); (repeat (first | (refine Blk.newAt ?_; focus (simp; done)) | apply Blk.drew | apply Blk.alloc)); (simp <;> omega); intro g2 cap2 w4 hown2 hgr2 hg2 hlt2; have hfin : AllocMem w2 w4 [] bs k u m g2 cap2 (w2.heap.size) := ⟨(by simpa [objCells] using hown2), (by (refine blk_grown ?_ hgr2 ?_); (repeat (first | (refine made_at ?_; focus (simp; done)) | apply Blk.drew | apply Blk.alloc)); all_goals (simp [Value.ownBlock]; (try omega))), (by omega), up_grown (by (repeat (first | exact Upd.refl _ _ | apply Upd.drew | apply Upd.alloc))) hgr2 (fun k hk => by (simp [Value.ownBlock] at hk; omega))⟩; have hS1 := hfin.upd.cell hD1.1 (by simp); have hS2 := (up_both hfin.upd hD1).2)
      | (refine step_append_lies _ (by rfl) _ _ 64 (by rfl) w2.heap.size 61 i0 _ 3 40 Try.underlying64 hi hz0 hz1 hz2 (by rfl) (by decide) (.slice (some ⟨w2.heap.size + 1 + 1, 0, none⟩) 0 0) 0 [] ?_ (own_at ?_ (by omega)) ⟨w2.heap.size + 1, 0, none⟩ 1 1 [.int .i64 ((u : Int) + 1), .int .i64 k, .slice (some ⟨w2.heap.size, 0, none⟩) m m] ?_ (by rfl) (news_of (rest := []) (t := 61) ?_) (three_one _ _ _ _ _) (by omega) (by unfold maxLen; omega) (by omega) ?_ _ rfl ?_; (rfl); (repeat (first | (refine heap_new ?_; focus (simp; done)) | apply heap_drew | apply heap_old)); (rfl); (repeat (first | (refine Blk.newAt ?_; focus (simp; done)) | apply Blk.drew | apply Blk.alloc)); (simp <;> omega); intro g2 cap2 w4 hown2 hgr2 hg2 hlt2; have hfin : AllocMem w2 w4 [] bs k u m g2 cap2 (w2.heap.size) := ⟨(by simpa [objCells] using hown2), (by (refine blk_grown ?_ hgr2 ?_); (repeat (first | (refine made_at ?_; focus (simp; done)) | apply Blk.drew | apply Blk.alloc)); all_goals (simp [Value.ownBlock]; (try omega))), (by omega), up_grown (by (repeat (first | exact Upd.refl _ _ | apply Upd.drew | apply Upd.alloc))) hgr2 (fun k hk => by (simp [Value.ownBlock] at hk; omega))⟩; have hS1 := hfin.upd.cell hD1.1 (by simp); have hS2 := (up_both hfin.upd hD1).2))
  all_goals (go_wp2; go_ret2; exact AllocMem.post h3.out (by first | exact (((Upd.refl [] w).drew).then hu1).then hu2) hbase HUu.out hfin hfits.out)
end Go.Proofs.Ytkbnkpllbgofhaa
