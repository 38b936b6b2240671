/-
  The document's heap: Alloc where there is room.
-/
import Derived.Test.YtkbnkpllbgofhaaRefP
namespace Go.Proofs.Ytkbnkpllbgofhaa
open Go.RowKit HeapM
set_option maxRecDepth 100000 in
set_option maxHeartbeats 40000000 in
theorem ralloc_more {w : World} {p n base : Nat} {L : List HObj} {v : Value} {bs : List Nat} (h : RHeap w p n base L v bs) (hbase : base ≤ w.heap.size) (k m : Nat) (hf : fits L n k m) (hL : 0 < L.length) :
    Calls Try.prog 36 #[rptr p, .int .i64 k, .int .i64 m] w (RAllocPost p n base L bs k m w) := by
  have hfits := Lib.hid hf
  obtain ⟨f1, f2, f3, f4⟩ := hf
  have h1 : decide ((m : Int) < 0) = false := by simp
  have h2 : decide ((k : Int) < 1) = false := by simp; omega
  have h3 : decide (8 < (k : Int)) = false := by simp; omega
  have c0 := h.cells.1
  have hr := h.room
  have hh := h.high
  have hd := Lib.hid (h.upd0 (Upd.refl [] w).drew)
  have H := Lib.hid h; clear h
  obtain ⟨u, hu⟩ : ∃ u, u = HeapM.used L := ⟨_, rfl⟩
  rw [← hu] at hr f4
  have h4 : decide ((n : Int) - (u : Int) ≤ m) = false := by simp; omega
  have HUu := Lib.hid hu; clear hu
  have hw : IntKind.i64.wrap ((n : Int) - (u : Int)) = (n : Int) - (u : Int) := IntWalk.i64_in _ (by omega)
  have huse := Lib.hid (rused_calls hd.out)
  rw [← HUu.out] at huse
  unfold rptr at *
  go_enter Try.func36, Try.ntmps36
  go_wp2_with fail
  go_region_held3 (fun w' => w'.cell? ⟨p, 0, none⟩ = some (.int .i64 n)) (first | assumption | go_keep | exact (Upd.cell (by assumption) (by assumption) (by simp))) (first | (go_at_call 40; refine huse.out.mono ?_; rintro e w1 ⟨rfl, hu1⟩))
  clear hw
  go_wp2_with fail
  have h2 := Lib.hid (hd.out.upd0 hu1)
  refine (rused_calls h2.out).mono ?_
  rw [← HUu.out]
  rintro e w2 ⟨rfl, hu2⟩
  have h3 := Lib.hid (h2.out.upd0 hu2)
  go_wp2_with fail
  obtain ⟨a, c, rfl, hlen, hf⟩ := h3.out.form
  have d1 := h3.out.cells.2
  have e1 := h3.out.hp.free 1
  have hmk := run_make_row' (P := Try.prog) 59 30 (.int .u64 0) 8 Try.underlying59 (by kernel_rfl) rfl .i64 .i64 m (by omega) (by omega)
  obtain ⟨i0, hi, hz0, hz1, hz2⟩ := info_parts info_obj
  · obtain ⟨g, rfl⟩ : ∃ g, a = some ⟨g, 0, none⟩ := by
      obtain ⟨g, e, _⟩ := hf 0 _ (List.getElem?_eq_getElem hL)
      exact ⟨g, e⟩
    obtain ⟨ln, hln⟩ : ∃ ln, ln = L.length := ⟨_, rfl⟩
    rw [← hln] at d1 hlen hL
    have hD1 : w2.cell? ⟨p, 1, none⟩ = some (.slice (some ⟨g, 0, none⟩) ln c) ∧ w2.frozen? ⟨p, 1, none⟩ = false := ⟨d1, e1⟩
    have Hln := Lib.hid hln; clear hln
    have Hf := Lib.hid hf; clear hf
    have Hl3 : (objCells L bs 0).length = ln * 3 := by rw [objCells_length, Hln.out]
    have HC : Hid (∀ j u, (objCells L bs 0)[j]? = some u → w2.cell? ((⟨g, 0, none⟩ : Addr).add j) = some u) := h3.out.own.cells (g := g) rfl
    have hpl : p < w2.heap.size := World.block_lt_of_cell? w2 _ hD1.1
    have hq1 := hD1.1
    have hpl1 : p < w2.heap.size + 1 := by omega
    have hpl2 : p < w2.heap.size + 1 + 1 := by omega
    have hpn0 : ¬ p = w2.heap.size := by omega
    have hpn1 : ¬ p = w2.heap.size + 1 := by omega
    have hpn2 : ¬ p = w2.heap.size + 1 + 1 := by omega
    go_region_law ((try dsimp (config := { proj := false }) only [List.getElem_toArray, List.getElem_cons_succ, List.getElem_cons_zero]); first
      | (refine' step_app1 (w2 := w2) (by rfl) (.tmp 34) (.tmp 38) (by rfl) hL hlen Hl3 HC.out w2.heap.size (by rfl) (by rfl) ?_ ?_ ?_ ?_; (focus (repeat (first | with_reducible exact Upd.refl _ _ | with_reducible apply Upd.drew | with_reducible apply Upd.alloc))); (focus (repeat (first | ((with_reducible refine heap_new ?_); (focus (simp; done))) | with_reducible apply heap_drew | with_reducible apply heap_old))); (focus (first | omega | (simp; done) | (simp; omega))); (focus (intro g1 cap1 w3 hA1 hoth1 hsz1 hgs1 hgc1 hgl1; simp at hsz1 hgc1; have Hoth1 := Lib.hid hoth1; clear hoth1)))
      | (refine' step_app1 (w2 := w2) (by rfl) (.tmp 34) (.tmp 38) (by rfl) hL hlen Hl3 HC.out (w2.heap.size + 1) (by rfl) (by rfl) ?_ ?_ ?_ ?_; (focus (repeat (first | with_reducible exact Upd.refl _ _ | with_reducible apply Upd.drew | with_reducible apply Upd.alloc))); (focus (repeat (first | ((with_reducible refine heap_new ?_); (focus (simp; done))) | with_reducible apply heap_drew | with_reducible apply heap_old))); (focus (first | omega | (simp; done) | (simp; omega))); (focus (intro g1 cap1 w3 hA1 hoth1 hsz1 hgs1 hgc1 hgl1; simp at hsz1 hgc1; have Hoth1 := Lib.hid hoth1; clear hoth1)))
      | (refine' step_app1 (w2 := w2) (by rfl) (.tmp 34) (.tmp 38) (by rfl) hL hlen Hl3 HC.out (w2.heap.size + 1 + 1) (by rfl) (by rfl) ?_ ?_ ?_ ?_; (focus (repeat (first | with_reducible exact Upd.refl _ _ | with_reducible apply Upd.drew | with_reducible apply Upd.alloc))); (focus (repeat (first | ((with_reducible refine heap_new ?_); (focus (simp; done))) | with_reducible apply heap_drew | with_reducible apply heap_old))); (focus (first | omega | (simp; done) | (simp; omega))); (focus (intro g1 cap1 w3 hA1 hoth1 hsz1 hgs1 hgc1 hgl1; simp at hsz1 hgc1; have Hoth1 := Lib.hid hoth1; clear hoth1)))
      | (refine' step_app2 (w2 := w2) (k := k) (u := u) (m := m) (by rfl) (.tmp 39) (.tmp 45) (.tmp 43) (by rfl) hlen Hln.out hA1 hgs1 (w2.heap.size + 1 + 1) (w2.heap.size + 1) (by rfl) (by rfl) (by rfl) ?_ ?_ ?_ ?_ ?_ ?_; (focus (repeat (first | with_reducible exact Upd.refl _ _ | with_reducible apply Upd.drew | with_reducible apply Upd.alloc))); (focus (repeat (first | ((with_reducible refine Blk.newAt ?_); (focus (simp; done))) | with_reducible apply Blk.drew | with_reducible apply Blk.alloc | (refine Hoth1.out _ _ _ ?_ (by first | omega | (simp; done) | (simp; omega)))))); (focus (repeat (first | ((with_reducible refine made_at ?_); (focus (simp; done))) | with_reducible apply Blk.drew | with_reducible apply Blk.alloc | (refine Hoth1.out _ _ _ ?_ (by first | omega | (simp; done) | (simp; omega)))))); (focus (first | omega | (simp; done) | (simp; omega))); (focus (first | omega | (simp; done) | (simp; omega))); (focus (intro g2 cap2 w4 hfin; have hS1 := hfin.upd.cell hD1.1 (by simp); have hS2 := (up_both hfin.upd hD1).2)))
      | (refine' step_app2 (w2 := w2) (k := k) (u := u) (m := m) (by rfl) (.tmp 39) (.tmp 45) (.tmp 43) (by rfl) hlen Hln.out hA1 hgs1 (w2.heap.size + 1 + 1) w2.heap.size (by rfl) (by rfl) (by rfl) ?_ ?_ ?_ ?_ ?_ ?_; (focus (repeat (first | with_reducible exact Upd.refl _ _ | with_reducible apply Upd.drew | with_reducible apply Upd.alloc))); (focus (repeat (first | ((with_reducible refine Blk.newAt ?_); (focus (simp; done))) | with_reducible apply Blk.drew | with_reducible apply Blk.alloc | (refine Hoth1.out _ _ _ ?_ (by first | omega | (simp; done) | (simp; omega)))))); (focus (repeat (first | ((with_reducible refine made_at ?_); (focus (simp; done))) | with_reducible apply Blk.drew | with_reducible apply Blk.alloc | (refine Hoth1.out _ _ _ ?_ (by first | omega | (simp; done) | (simp; omega)))))); (focus (first | omega | (simp; done) | (simp; omega))); (focus (first | omega | (simp; done) | (simp; omega))); (focus (intro g2 cap2 w4 hfin; have hS1 := hfin.upd.cell hD1.1 (by simp); have hS2 := (up_both hfin.upd hD1).2)))
      | (refine' step_app2 (w2 := w2) (k := k) (u := u) (m := m) (by rfl) (.tmp 39) (.tmp 45) (.tmp 43) (by rfl) hlen Hln.out hA1 hgs1 (w2.heap.size + 1) w2.heap.size (by rfl) (by rfl) (by rfl) ?_ ?_ ?_ ?_ ?_ ?_; (focus (repeat (first | with_reducible exact Upd.refl _ _ | with_reducible apply Upd.drew | with_reducible apply Upd.alloc))); (focus (repeat (first | ((with_reducible refine Blk.newAt ?_); (focus (simp; done))) | with_reducible apply Blk.drew | with_reducible apply Blk.alloc | (refine Hoth1.out _ _ _ ?_ (by first | omega | (simp; done) | (simp; omega)))))); (focus (repeat (first | ((with_reducible refine made_at ?_); (focus (simp; done))) | with_reducible apply Blk.drew | with_reducible apply Blk.alloc | (refine Hoth1.out _ _ _ ?_ (by first | omega | (simp; done) | (simp; omega)))))); (focus (first | omega | (simp; done) | (simp; omega))); (focus (first | omega | (simp; done) | (simp; omega))); (focus (intro g2 cap2 w4 hfin; have hS1 := hfin.upd.cell hD1.1 (by simp); have hS2 := (up_both hfin.upd hD1).2)))
      | (refine' step_app2 (w2 := w2) (k := k) (u := u) (m := m) (by rfl) (.tmp 39) (.tmp 45) (.tmp 43) (by rfl) hlen Hln.out hA1 hgs1 w3.heap.size w2.heap.size (by rfl) (by rfl) (by rfl) ?_ ?_ ?_ ?_ ?_ ?_; (focus (repeat (first | with_reducible exact Upd.refl _ _ | with_reducible apply Upd.drew | with_reducible apply Upd.alloc))); (focus (repeat (first | ((with_reducible refine Blk.newAt ?_); (focus (simp; done))) | with_reducible apply Blk.drew | with_reducible apply Blk.alloc | (refine Hoth1.out _ _ _ ?_ (by first | omega | (simp; done) | (simp; omega)))))); (focus (repeat (first | ((with_reducible refine made_at ?_); (focus (simp; done))) | with_reducible apply Blk.drew | with_reducible apply Blk.alloc | (refine Hoth1.out _ _ _ ?_ (by first | omega | (simp; done) | (simp; omega)))))); (focus (first | omega | (simp; done) | (simp; omega))); (focus (first | omega | (simp; done) | (simp; omega))); (focus (intro g2 cap2 w4 hfin; have hS1 := hfin.upd.cell hD1.1 (by simp); have hS2 := (up_both hfin.upd hD1).2)))
      | (refine' step_app2 (w2 := w2) (k := k) (u := u) (m := m) (by rfl) (.tmp 39) (.tmp 45) (.tmp 43) (by rfl) hlen Hln.out hA1 hgs1 w3.heap.size (w2.heap.size + 1) (by rfl) (by rfl) (by rfl) ?_ ?_ ?_ ?_ ?_ ?_; (focus (repeat (first | with_reducible exact Upd.refl _ _ | with_reducible apply Upd.drew | with_reducible apply Upd.alloc))); (focus (repeat (first | ((with_reducible refine Blk.newAt ?_); (focus (simp; done))) | with_reducible apply Blk.drew | with_reducible apply Blk.alloc | (refine Hoth1.out _ _ _ ?_ (by first | omega | (simp; done) | (simp; omega)))))); (focus (repeat (first | ((with_reducible refine made_at ?_); (focus (simp; done))) | with_reducible apply Blk.drew | with_reducible apply Blk.alloc | (refine Hoth1.out _ _ _ ?_ (by first | omega | (simp; done) | (simp; omega)))))); (focus (first | omega | (simp; done) | (simp; omega))); (focus (first | omega | (simp; done) | (simp; omega))); (focus (intro g2 cap2 w4 hfin; have hS1 := hfin.upd.cell hD1.1 (by simp); have hS2 := (up_both hfin.upd hD1).2)))
      | (refine' step_app2 (w2 := w2) (k := k) (u := u) (m := m) (by rfl) (.tmp 39) (.tmp 45) (.tmp 43) (by rfl) hlen Hln.out hA1 hgs1 (w3.heap.size + 1) w3.heap.size (by rfl) (by rfl) (by rfl) ?_ ?_ ?_ ?_ ?_ ?_; (focus (repeat (first | with_reducible exact Upd.refl _ _ | with_reducible apply Upd.drew | with_reducible apply Upd.alloc))); (focus (repeat (first | ((with_reducible refine Blk.newAt ?_); (focus (simp; done))) | with_reducible apply Blk.drew | with_reducible apply Blk.alloc | (refine Hoth1.out _ _ _ ?_ (by first | omega | (simp; done) | (simp; omega)))))); (focus (repeat (first | ((with_reducible refine made_at ?_); (focus (simp; done))) | with_reducible apply Blk.drew | with_reducible apply Blk.alloc | (refine Hoth1.out _ _ _ ?_ (by first | omega | (simp; done) | (simp; omega)))))); (focus (first | omega | (simp; done) | (simp; omega))); (focus (first | omega | (simp; done) | (simp; omega))); (focus (intro g2 cap2 w4 hfin; have hS1 := hfin.upd.cell hD1.1 (by simp); have hS2 := (up_both hfin.upd hD1).2))))
    all_goals (go_wp2; go_ret2; (rw [Hln.out]); exact AllocMem.post h3.out (by first | exact (((Upd.refl [] w).drew).then hu1).then hu2) hbase HUu.out hfin hfits.out)
end Go.Proofs.Ytkbnkpllbgofhaa
