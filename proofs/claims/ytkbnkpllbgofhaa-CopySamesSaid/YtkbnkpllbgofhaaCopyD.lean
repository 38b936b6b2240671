/-
  Copy: Collect's walk.
-/
import Derived.Test.YtkbnkpllbgofhaaCopyC
namespace Go.Proofs.Ytkbnkpllbgofhaa
open Go.RowKit HeapM

theorem Que.open {w0 w : World} {q mb : Nat} {v : Value} {L : List HObj} {l : List Int} (h : Que w0 w q mb v L l) :
    ∃ a c, Blk w q [v, .slice a l.length c, .map (some mb)] 133 ∧ SlI w .i64 a l ∧ ∀ b o, a = some ⟨b, o, none⟩ → ∃ cs, Blk w b cs 3 := by
  obtain ⟨lv, hb, hown⟩ := h.blk
  have hob : ∀ k, lv.ownBlock = some k → ∃ cs, Blk w k cs 3 := fun k hk => own_blk hown hk
  obtain ⟨a, c, rfl, hl, hs⟩ := own_SlI hown
  exact ⟨a, c, hb, hs, fun b o e => hob b (by subst e; rfl)⟩
theorem ColB.new {w w2 w3 W5 : World} {hb q mb c : Nat} {v : Value} {a : Option Addr} {L : List HObj} {R : List Int} (hv : HV w v L) (hB : Blk w3 hb [v] 23) (hU : Upd [] w w3) (hq : Que w2 w3 q mb v L R)
    (h1 : Blk w3 q [v, .slice a R.length c, .map (some mb)] 133) (h2 : SlI w3 .i64 a R) (h3 : ∀ b o, a = some ⟨b, o, none⟩ → ∃ cs, Blk w3 b cs 3)
    (hW : W5 = ((w3.alloc (.cells #[.pointer (some ⟨q, 0, none⟩)] 129)).alloc (.cells (madeCells #[.int .i64 0] (R.length + 1)) 3)).alloc (.cells #[.slice (some ⟨w3.heap.size + 1, 0, none⟩) (R.length + 1) (R.length + 1)] 41)) :
    ColB w W5 hb w3.heap.size (w3.heap.size + 1 + 1) q mb (w3.heap.size + 1) R.length v a c L R ∧ Blk W5 (w3.heap.size + 1) ((nowTo L R 0).map (.int .i64)) 3 ∧ Upd [] w3 W5 := by
  subst hW
  have hu : Upd [] w3 (((w3.alloc (.cells #[.pointer (some ⟨q, 0, none⟩)] 129)).alloc (.cells (madeCells #[.int .i64 0] (R.length + 1)) 3)).alloc (.cells #[.slice (some ⟨w3.heap.size + 1, 0, none⟩) (R.length + 1) (R.length + 1)] 41)) := (((Upd.refl [] w3).alloc _).alloc _).alloc _
  refine ⟨⟨hv, hU.then hu, hu.blk hB (by simp), ((Blk.newAt rfl).alloc _).alloc _, Blk.newAt (by simp), hu.blk h1 (by simp), hq.num.kept (hu.block mb hq.num.lt (by simp)), h2.upd0 hu, fun b o e => ?_, rfl, hq.met⟩, ?_, hu⟩
  · obtain ⟨cs, B⟩ := h3 b o e
    exact ⟨⟨cs, hu.blk B (by simp)⟩, by have := B.lt; omega⟩
  · have := (Blk.newAt (w := w3.alloc (.cells #[.pointer (some ⟨q, 0, none⟩)] 129)) (c := madeCells #[.int .i64 0] (R.length + 1)) (t := 3) (b := w3.heap.size + 1) (by simp))
    rw [toList_madeCells_one] at this
    rw [nowTo_start, List.map_replicate]
    exact this.alloc _
theorem info_word : (Try.prog.info? 31).map (fun i => (i.zero, i.size, i.bytes)) = some (some (.int .u64 0), 1, 8) := by kernel_rfl
/-- The whole of it. -/
structure Col (w0 w : World) (hb qb nb q mb nw m : Nat) (v : Value) (a : Option Addr) (c : Nat) (L : List HObj) (R : List Int) (p bw bk nn : Nat) (X : List HObj) (xs : List Int) : Prop where
  b : ColB w0 w hb qb nb q mb nw m v a c L R
  x : HeapA w p bw bk nn X
  now : Blk w nw (xs.map (.int .i64)) 3
  f1 : w0.heap.size ≤ p
  f2 : w0.heap.size ≤ bw
  f3 : w0.heap.size ≤ bk
  f4 : w0.heap.size ≤ nw
section
variable {w0 w w' : World} {hb qb nb q mb nw m c p bw bk nn : Nat} {v : Value} {a : Option Addr} {L X X' : List HObj} {R xs : List Int}
theorem Col.step (h : Col w0 w hb qb nb q mb nw m v a c L R p bw bk nn X xs) (hu : Upd [] w w') : Col w0 w' hb qb nb q mb nw m v a c L R p bw bk nn X xs :=
  ⟨h.b.step0 hu, h.x.upd0 hu, hu.blk h.now (by simp), h.f1, h.f2, h.f3, h.f4⟩
theorem Col.alloc (h : Col w0 w hb qb nb q mb nw m v a c L R p bw bk nn X xs) (hx : HeapA w' p bw bk nn X') {S : List Nat} (hu : Upd S w w') (hS : ∀ k, k ∈ S → k ∈ [p, bw, bk]) : Col w0 w' hb qb nb q mb nw m v a c L R p bw bk nn X' xs := by
  have f1 := h.f1
  have f2 := h.f2
  have f3 := h.f3
  have hT : ∀ k, k ∈ S → ∃ cs t, Blk w k cs t ∧ (t = 72 ∨ t = 31 ∨ t = 5) := fun k hk => h.x.sort (hS k hk)
  refine ⟨h.b.step hu (fun k hk => ⟨?_, .inl (hT k hk)⟩), hx, hu.blk h.now (fun hk => ?_), h.f1, h.f2, h.f3, h.f4⟩
  · have := hS k hk
    simp at this
    omega
  · obtain ⟨cs, t, B, e⟩ := hT nw hk
    have := (B.inj h.now).2
    subst this
    rcases e with e | e | e <;> exact absurd e (by decide)
theorem Col.put (h : Col w0 w hb qb nb q mb nw m v a c L R p bw bk nn X xs) (i : Nat) (y : Int) : Col w0 (w.setCell ⟨nw, i, none⟩ (.int .i64 y)) hb qb nb q mb nw m v a c L R p bw bk nn X (xs.set i y) := by
  have hu : Upd [nw] w (w.setCell ⟨nw, i, none⟩ (.int .i64 y)) := (Upd.refl _ _).setCell _ (.inl (by simp))
  have hne : ∀ k, k ∈ [p, bw, bk] → k ∉ [nw] := by
    intro k hk he
    obtain ⟨cs, t, B, e⟩ := h.x.sort hk
    simp at he
    subst he
    have := (B.inj h.now).2
    subst this
    rcases e with e | e | e <;> exact absurd e (by decide)
  refine ⟨h.b.step hu (fun k hk => ?_), h.x.upd hu (hne _ (by simp)) (hne _ (by simp)) (hne _ (by simp)), ?_, h.f1, h.f2, h.f3, h.f4⟩
  · simp at hk
    subst hk
    exact ⟨h.f4, .inr ⟨rfl, _, h.now⟩⟩
  · rw [← map_int_set]
    exact h.now.set i _
theorem Col.cells (h : Col w0 w hb qb nb q mb nw m v a c L R p bw bk nn X xs) : w.cell? ⟨hb, 0, none⟩ = some v ∧ w.cell? ⟨nb, 0, none⟩ = some (.slice (some ⟨nw, 0, none⟩) (m + 1) (m + 1)) ∧ (∀ i, i < xs.length → w.cell? ⟨nw, i, none⟩ = some (.int .i64 (xs.getD i 0))) ∧ (∀ i, w.frozen? ⟨nw, i, none⟩ = false) ∧ nw < w.heap.size :=
  ⟨h.b.hbox.cell_some rfl, h.b.nbox.cell_some rfl, fun i hi => h.now.cell_some (by
    rw [map_int_get, List.getElem?_eq_getElem hi, List.getD_eq_getElem?_getD, List.getElem?_eq_getElem hi]
    rfl), h.now.free, h.now.lt⟩
theorem Col.two (h : Col w0 w hb qb nb q mb nw m v a c L R p bw bk nn X xs) : w.cell? ⟨nb, 0, none⟩ = some (.slice (some ⟨nw, 0, none⟩) (m + 1) (m + 1)) ∧ w.cell? ⟨hb, 0, none⟩ = some v := ⟨h.cells.2.1, h.cells.1⟩
theorem Col.alloc1 {i : Nat} (h : Col w0 w hb qb nb q mb nw m v a c L R p bw bk nn X xs) (hi : i < xs.length) : w.cell? ⟨nb, 0, none⟩ = some (.slice (some ⟨nw, 0, none⟩) (m + 1) (m + 1)) ∧ w.cell? ⟨hb, 0, none⟩ = some v ∧ w.cell? ⟨nw, i, none⟩ = some (.int .i64 (xs.getD i 0)) ∧ w.frozen? ⟨nw, i, none⟩ = false ∧ nw < w.heap.size := ⟨h.cells.2.1, h.cells.1, h.cells.2.2.1 i hi, h.cells.2.2.2.1 i, h.cells.2.2.2.2⟩
end
def CollectPost (L : List HObj) (R ws : List Int) (nn : Nat) (w : World) (e : Ending) (w' : World) : Prop :=
  ∃ p bw bk a c, e = .returned (.tuple #[hptr p, .slice a ws.length c, .bool true]) ∧ HeapA w' p bw bk nn (collectL L R) ∧ SlI w' .u64 a (ws.map (movedR L R)) ∧ Upd [] w w' ∧ w.heap.size ≤ p ∧ w.heap.size ≤ bw ∧ w.heap.size ≤ bk
set_option maxHeartbeats 1000000 in
theorem collect_no {w : World} {v : Value} (h : NoHeap w v) (a : Option Addr) (n c : Nat) : Calls Try.prog 53 #[v, .slice a n c] w fun e w' => e = .returned (.tuple #[.pointer none, .slice none 0 0, .bool false]) ∧ Upd [] w w' := by
  have hU : Upd [] w (w.alloc (.cells #[v] 23)) := (Upd.refl [] w).alloc _
  have hwd := Lib.hid (words_no v _ (h.upd0 hU))
  have HU := Lib.hid hU; clear hU
  obtain ⟨pa, rfl⟩ : ∃ pa, v = .pointer pa := by
    rcases h with h | ⟨p, h, _⟩
    · exact ⟨_, h⟩
    · exact ⟨_, h⟩
  clear h
  go_enter Try.func53, Try.ntmps53
  go_wp2_with fail
  refine hwd.out.mono ?_
  rintro e w1 ⟨rfl, rfl⟩
  go_wp2_with fail
  refine (new_no 0 _ (by omega)).mono ?_
  rintro e w1 ⟨rfl, rfl⟩
  go_wp2
  go_ret3
  exact ⟨rfl, HU.out⟩
set_option maxRecDepth 100000 in
set_option maxHeartbeats 4000000 in
theorem collect_calls {w : World} {p0 bw0 bk0 nn : Nat} {L : List HObj} (h : HeapA w p0 bw0 bk0 nn L) (a0 : Option Addr) (ws : List Int) (n c0 : Nat) (hn : ws.length = n) (hs : SlI w .u64 a0 ws) (hr : ∀ x ∈ ws, 0 ≤ x ∧ x < 18446744073709551616) (hnm : n ≤ 4294967296) :
    Calls Try.prog 53 #[hptr p0, .slice a0 n c0] w (CollectPost L (reachR L ws) ws nn w) := by
  have hroom := h.room
  have hlow := h.low
  have hV := Lib.hid (show HV w (hptr p0) L from .inr ⟨p0, bw0, bk0, nn, rfl, h⟩)
  have hsm : HeapM.used L ≤ 65536 := hV.out.small
  have hLk := Lib.hid h.kinds
  have hLw := Lib.hid h.words
  have hLu := length_used L
  have hlowN : ¬ (nn : Int) < 16 := by omega
  have HS := Lib.hid hs
  have HR := Lib.hid hr
  have HN := Lib.hid hn
  have H := Lib.hid h
  clear hs hr hn h
  unfold hptr at *
  have hU1 := (Upd.refl [] w).alloc (.cells #[.pointer (some ⟨p0, 0, none⟩)] 23)
  have hB1 : Blk (w.alloc (.cells #[.pointer (some ⟨p0, 0, none⟩)] 23)) w.heap.size [.pointer (some ⟨p0, 0, none⟩)] 23 := Blk.newAt rfl
  go_enter Try.func53, Try.ntmps53
  go_wp2_with fail
  obtain ⟨W1, hW1⟩ : ∃ W1, W1 = w.alloc (.cells #[.pointer (some ⟨p0, 0, none⟩)] 23) := ⟨_, rfl⟩
  rw [← hW1] at hU1 hB1 ⊢
  clear hW1
  obtain ⟨hb, hhb⟩ : ∃ hb, hb = w.heap.size := ⟨_, rfl⟩
  rw [← hhb] at hB1 ⊢
  clear hhb
  have HU1 := Lib.hid hU1
  have HB1 := Lib.hid hB1
  refine (words_A (H.out.upd0 hU1)).mono ?_
  rintro e w' ⟨rfl, rfl⟩
  clear hU1 hB1
  go_wp2_with fail
  refine (new_A nn _ hlow hroom.2).mono ?_
  rintro e w2 ⟨p, bw, bk, rfl, hX, f1, f2, f3, hu2⟩
  have hs1 := HU1.out.size
  have f1' : w.heap.size ≤ p := by omega
  have f2' : w.heap.size ≤ bw := by omega
  have f3' : w.heap.size ≤ bk := by omega
  have HX := Lib.hid hX
  have HB2 := Lib.hid (hu2.blk HB1.out (by simp))
  have HU2 := Lib.hid (HU1.out.then hu2)
  clear hX f1 f2 f3 hu2 HB1 HU1 hs1
  have d0 := HB2.out.cell_some (i := 0) rfl
  unfold hptr at *
  go_wp2_with fail
  refine (reach_calls (hV.out.upd0 HU2.out) a0 ws n c0 HN.out (HS.out.upd0 HU2.out) HR.out (by omega)).mono ?_
  rintro e w3 ⟨q, mb, rfl, hQ⟩
  obtain ⟨a, c, q1, q2, q3⟩ := hQ.open
  have hbl := Met.len hQ.met
  obtain ⟨R, hR⟩ : ∃ R, R = reachR L ws := ⟨_, rfl⟩
  rw [← hR] at hQ q1 q2 hbl
  have HRR := Lib.hid hR
  clear hR d0
  obtain ⟨W5, hW5⟩ : ∃ W5, W5 = ((w3.alloc (.cells #[.pointer (some ⟨q, 0, none⟩)] 129)).alloc (.cells (madeCells #[.int .i64 0] (R.length + 1)) 3)).alloc (.cells #[.slice (some ⟨w3.heap.size + 1, 0, none⟩) (R.length + 1) (R.length + 1)] 41) := ⟨_, rfl⟩
  have hU3 := HU2.out.then hQ.upd
  obtain ⟨hC, hNw, hu5⟩ := ColB.new hV.out (hQ.upd.blk HB2.out (by simp)) hU3 hQ q1 q2 q3 hW5
  have HC := Lib.hid hC
  have HNw := Lib.hid hNw
  have HX5 := Lib.hid ((HX.out.upd0 hQ.upd).upd0 hu5)
  have g1 := q1.cell_some (i := 1) rfl
  obtain ⟨m, hm⟩ : ∃ m, m = R.length := ⟨_, rfl⟩
  rw [← hm] at g1 hW5 hbl
  have hql := q1.lt
  have hql1 : q < w3.heap.size + 1 := by omega
  have hql2 : q < w3.heap.size + 1 + 1 := by omega
  have hmm : m ≤ 65536 := by omega
  have hmk := run_make_row' (P := Try.prog) 41 3 (.int .i64 0) 8 Try.underlying41 (by kernel_rfl) rfl .i64 .i64 (m + 1) (by omega) (by omega)
  have hcast : ((m : Int) + 1) = ((m + 1 : Nat) : Int) := by omega
  rw [← hcast] at hmk
  clear hcast
  rw [← hm] at HC
  have HM := Lib.hid hm
  clear hC hNw hu5 q1 q2 q3 hQ hm
  go_wp2_with fail
  rw [← hW5]
  have hC0 : Col w W5 hb w3.heap.size (w3.heap.size + 1 + 1) q mb (w3.heap.size + 1) m (.pointer (some ⟨p0, 0, none⟩)) a c L R p bw bk nn ((newL L R).take 0) (nowTo L R 0) :=
    ⟨HC.out, HX5.out, HNw.out, f1', f2', f3', by have := hU3.size; omega⟩
  have HC0 := Lib.hid hC0
  clear hC0 HC HX5 HNw hW5 g1 hql hql1 hql2 hmk hU3
  obtain ⟨nb, hnb⟩ : ∃ nb, nb = w3.heap.size + 1 + 1 := ⟨_, rfl⟩
  rw [← hnb] at HC0 ⊢
  clear hnb
  obtain ⟨nw, hnw⟩ : ∃ nw, nw = w3.heap.size + 1 := ⟨_, rfl⟩
  rw [← hnw] at HC0 ⊢
  clear hnw
  obtain ⟨qb, hqb⟩ : ∃ qb, qb = w3.heap.size := ⟨_, rfl⟩
  rw [← hqb] at HC0 ⊢
  clear hqb
  go_loopw [41] (fun i wr => ∃ j : Nat, j ≤ m ∧ i = .int .i64 j ∧ Hid (Col w wr hb qb nb q mb nw m (.pointer (some ⟨p0, 0, none⟩)) a c L R p bw bk nn ((newL L R).take j) (nowTo L R j))) (fun i _ => m - (intOf i).toNat)
  case atStart => exact ⟨0, by omega, rfl, HC0⟩
  case round =>
    obtain ⟨j, hj, rfl, hC⟩ := hrel
    by_cases hlt : j < m
    · have hjR : j < R.length := by rw [← HM.out]; exact hlt
      obtain ⟨b, o, rfl, hc⟩ := hC.out.b.row j hjR
      have hfit := Lib.hid (newL_fits hLk.out hC.out.b.met hroom.1 hjR)
      have hst := Lib.hid (nowTo_step (L := L) hjR)
      have hnl := Lib.hid (newL_take (L := L) hjR)
      have hnn := nowTo_len (L := L) (show j ≤ R.length by omega)
      have hd := hC.out.step (Upd.refl [] _).drew
      have hjj : j + 1 < (nowTo L R j).length := by rw [hnn]; omega
      have HJ := Lib.hid hjj
      have i1 : IntKind.i64.wrap ((j : Int) + 1) = (j : Int) + 1 := IntWalk.i64_in _ (by omega)
      have i2 : (0 : Int) ≤ (j : Int) + 1 := by omega
      have i3 : (j : Int) + 1 < (m : Int) + 1 := by omega
      have i4 : ((j : Int) + 1).toNat = j + 1 := by omega
      have i5 : IntKind.i64.wrap ((m : Int) + 1) = (m : Int) + 1 := IntWalk.i64_in _ (by omega)
      clear hjR hnn hjj
      generalize R.getD j 0 = r at *
      go_wp2_with fail
      go_region_held3 (fun w' => w'.cell? ⟨nb, 0, none⟩ = some (.slice (some ⟨nw, 0, none⟩) (m + 1) (m + 1)) ∧ w'.cell? ⟨hb, 0, none⟩ = some (.pointer (some ⟨p0, 0, none⟩))) (first | exact Col.two (by assumption) | exact Col.two (Col.put (by assumption) _ _)) (first
        | (go_at_call 25; refine ((hV.out.upd0 (Col.b (by assumption)).upd).kind r).mono ?_; rintro e w' ⟨rfl, rfl⟩)
        | (go_at_call 24; refine ((hV.out.upd0 (Col.b (by assumption)).upd).len r).mono ?_; rintro e w' ⟨rfl, rfl⟩)
        | (go_at_call 16; refine (alloc_I (Col.x hd) _ _ hfit.out _ rfl).mono ?_; rintro e w' ⟨rfl, hA, hu⟩; have hd2 := hd.alloc hA hu (fun _ h => h); obtain ⟨-, -, k1, k2, k3⟩ := hd2.alloc1 HJ.out))
      have hC1 := hd2.put (j + 1) ((HeapM.used ((newL L R).take j) : Int) + 1)
      rw [show HeapM.used ((newL L R).take j) = posOf (newL L R) j from rfl, hst.out, Int.toNat_natCast, ← hnl.out] at hC1
      have HC1 := Lib.hid hC1
      clear hC1 hd2 hA hu k1 k2 k3 hd hC hst hnl hfit hc
      rw [show HeapM.used ((newL L R).take j) = posOf (newL L R) j from rfl]
      clear i1 i2 i3 i4 i5
      go_wp2
      go_roundw
      case rel => exact ⟨j + 1, by omega, by go_num, HC1⟩
      case measure => simp [intOf]; omega
    · have hjm : j = m := by omega
      have hC1 : Hid (Col w wr hb qb nb q mb nw m (.pointer (some ⟨p0, 0, none⟩)) a c L R p bw bk nn (fillL L R 0 0) (nowTo L R R.length)) := by
        have h1 := hC.out
        rw [hjm, HM.out, List.take_of_length_le (by rw [newL_len]; exact Nat.le_refl _)] at h1
        rw [HM.out, fillL_start]
        exact h1
      clear hC hj hlt
      subst hjm
      have d0 := hC1.out.b.qbox.cell_some (i := 0) rfl
      have d1 := hC1.out.b.que.cell_some (i := 1) rfl
      go_wp2_with fail
      clear d0 d1
      go_loopw [68] (fun i wr => ∃ i0 : Nat, i0 ≤ j ∧ i = .int .i64 i0 ∧ Hid (Col w wr hb qb nb q mb nw j (.pointer (some ⟨p0, 0, none⟩)) a c L R p bw bk nn (fillL L R i0 0) (nowTo L R R.length))) (fun i _ => j - (intOf i).toNat)
      case atStart => exact ⟨0, by omega, rfl, hC1⟩
      case round =>
        obtain ⟨i0, hi0, rfl, hC⟩ := hrel
        by_cases hlt : i0 < j
        · have hiR : i0 < R.length := by rw [← HM.out]; exact hlt
          obtain ⟨b, o, rfl, hc⟩ := hC.out.b.row i0 hiR
          have d0 := hC.out.b.hbox.cell_some (i := 0) rfl
          have HI := Lib.hid hiR
          have hset := Lib.hid (fun k => fillL_set (L := L) (k := k) hiR)
          have hnext := Lib.hid (fillL_next (L := L) hiR)
          have hnow := Lib.hid (nowTo_get (L := L) hiR)
          have hnl := Lib.hid (nowTo_len (L := L) (Nat.le_refl R.length))
          have howr := Lib.hid (outWords_range hsm hLw.out hC.out.b.met (R.getD i0 0))
          clear hiR
          obtain ⟨r, hr⟩ : ∃ r, r = R.getD i0 0 := ⟨_, rfl⟩
          rw [← hr] at hc hset hnext howr
          clear hr
          have hk := Lib.hid ((hV.out.upd0 hC.out.b.upd).kind r)
          go_wp2_with fail
          refine hk.out.mono ?_
          rintro e w' ⟨rfl, rfl⟩
          clear hk hc
          go_wp2_with fail
          refine (scanned_calls _ _).mono ?_
          rintro e w6 ⟨rfl, hu6⟩
          have hC6 := Lib.hid (hC.out.step hu6)
          clear hC d0 hu6
          have d0 := hC6.out.b.hbox.cell_some (i := 0) rfl
          have how : outWords L R r = if scanned (kindR L r) = true then (wordsR L r).map (movedR L R) else wordsR L r := rfl
          have hwl := wordsR_len L r
          have hwm := hV.out.lens r
          have hwr := Lib.hid (wordsR_range hLw.out r)
          generalize scanned (kindR L r) = sc at *
          go_wp2_with fail
          refine (words_calls (hV.out.upd0 hC6.out.b.upd) r).mono ?_
          rintro e w7 ⟨wb, rfl, hB, hwb, hu7⟩
          have hC7 := Lib.hid (hC6.out.step hu7)
          have hbw := hC6.out.x.lt.2.1
          have hne : wb ∉ [bw] := by simp; omega
          have HNE := Lib.hid hne
          have HB := Lib.hid hB
          have HOW := Lib.hid how
          generalize wordsR L r = wd at *
          have hlen6 : wd.length ≤ 65536 := by omega
          have HWL := Lib.hid hwl
          clear hne hB hu7 hC6 how hwl hbw hwb hwm d0
          go_wp2_with fail
          obtain ⟨wo, rfl⟩ : ∃ wo : World, wo = w7 := ⟨_, rfl⟩
          go_loopw [81] (fun i wr => ∃ k : Nat, k ≤ wd.length ∧ i = .int .i64 k ∧ Hid (Col w wr hb qb nb q mb nw j (.pointer (some ⟨p0, 0, none⟩)) (some ⟨b, o, none⟩) c L R p bw bk nn (fillL L R i0 k) (nowTo L R R.length)) ∧ Hid (Blk wr wb (wd.map (.int .u64)) 31)) (fun i _ => wd.length - (intOf i).toNat)
          case atStart => exact ⟨0, by omega, rfl, hC7, HB⟩
          case round =>
            obtain ⟨k, hk, rfl, hC, hB⟩ := hrel
            by_cases hlt3 : k < wd.length
            · have hx := hwr.out (wd.getD k 0) (by simp [List.getD_eq_getElem?_getD, hlt3])
              have hc := hB.out.cell_some (i := k) (v := .int .u64 (wd.getD k 0)) (by
                rw [map_int_get, List.getElem?_eq_getElem hlt3, List.getD_eq_getElem?_getD, List.getElem?_eq_getElem hlt3]
                rfl)
              have hkl : k < lenR L r := by rw [← HWL.out]; exact hlt3
              obtain ⟨hs1, hs2⟩ := hset.out k hkl
              have hs0 := HOW.out
              have hnw := HI.out
              cases sc
              · have e1 : outWords L R r = wd := by simpa using hs0
                rw [e1] at hs1 hs2
                have hL : k < (fillTo wd k).length := by rw [fillTo_len (by omega)]; exact hlt3
                have d0 := hC.out.b.nbox.cell_some (i := 0) rfl
                have d1 := hC.out.now.cell_some (i := i0 + 1) (v := .int .i64 ((posOf (newL L R) i0 : Int) + 1)) (by
                  have h1 := hnow.out
                  have h2 : i0 + 1 < (nowTo L R R.length).length := by rw [hnl.out]; omega
                  rw [List.getD_eq_getElem?_getD, List.getElem?_eq_getElem h2] at h1
                  rw [map_int_get, List.getElem?_eq_getElem h2]
                  exact congrArg (fun z => some (Value.int .i64 z)) h1)
                have hst := Lib.hid (set_A hC.out.x hs2 k hL (wd.getD k 0) (by omega))
                rw [hs1] at hst
                have Hs1 := Lib.hid hs1
                have Hs2 := Lib.hid hs2
                have HL := Lib.hid hL
                clear hs1 hs2 hs0 e1 hL hkl hnw
                generalize wd.getD k 0 = x at *
                generalize posOf (newL L R) i0 = pl at *
                go_wp2_with fail
                refine hst.out.mono ?_
                rintro e w8 ⟨rfl, hA8, hu8⟩
                have HCn := Lib.hid (hC.out.alloc hA8 hu8 (by simp))
                have HBn := Lib.hid (hu8.blk hB.out HNE.out)
                clear hc hC hB hst hA8 hu8 d0 d1
                go_wp2
                go_roundw
                case rel => exact ⟨k + 1, by omega, by go_num, HCn, HBn⟩
                case measure => simp [intOf]; omega
              · have e1 : outWords L R r = wd.map (movedR L R) := by simpa using hs0
                have e2 : (wd.map (movedR L R)).getD k 0 = movedR L R (wd.getD k 0) := by
                  simp [List.getD_eq_getElem?_getD, hlt3]
                rw [e1, e2] at hs1
                rw [e1] at hs2
                have hL : k < (fillTo (wd.map (movedR L R)) k).length := by rw [fillTo_len (by rw [List.length_map]; omega), List.length_map]; exact hlt3
                have hmr := movedR_range hsm hC.out.b.met hx
                have hmv := Lib.hid (moved_calls hC.out.b hC.out.now (wd.getD k 0) hx.1 (by omega))
                have Hs1 := Lib.hid hs1
                have Hs2 := Lib.hid hs2
                have HL := Lib.hid hL
                clear hs1 hs2 hs0 e1 e2 hL hkl
                generalize wd.getD k 0 = x at *
                generalize movedR L R x = y at *
                go_wp2_with fail
                refine hmv.out.mono ?_
                rintro e w8 ⟨rfl, hu8⟩
                have hC8 := Lib.hid (hC.out.step hu8)
                have HB8 := Lib.hid (hu8.blk hB.out (by simp))
                clear hC hB hc hu8 hmv
                have d0 := hC8.out.b.nbox.cell_some (i := 0) rfl
                have d1 := hC8.out.now.cell_some (i := i0 + 1) (v := .int .i64 ((posOf (newL L R) i0 : Int) + 1)) (by
                  have h1 := hnow.out
                  have h2 : i0 + 1 < (nowTo L R R.length).length := by rw [hnl.out]; omega
                  rw [List.getD_eq_getElem?_getD, List.getElem?_eq_getElem h2] at h1
                  rw [map_int_get, List.getElem?_eq_getElem h2]
                  exact congrArg (fun z => some (Value.int .i64 z)) h1)
                have hst := Lib.hid (set_A hC8.out.x Hs2.out k HL.out y (by omega))
                rw [Hs1.out] at hst
                clear hnw Hs1 Hs2 HL
                generalize posOf (newL L R) i0 = pl at *
                go_wp2_with fail
                refine hst.out.mono ?_
                rintro e w9 ⟨rfl, hA8, hu8⟩
                have HCn := Lib.hid (hC8.out.alloc hA8 hu8 (by simp))
                have HBn := Lib.hid (hu8.blk HB8.out HNE.out)
                clear hC8 HB8 hst hA8 hu8 d0 d1
                go_wp2
                go_roundw
                case rel => exact ⟨k + 1, by omega, by go_num, HCn, HBn⟩
                case measure => simp [intOf]; omega
            · have hkl : k = lenR L r := by rw [← HWL.out]; omega
              have hCn := hC.out
              rw [hkl, hnext.out] at hCn
              have HCn := Lib.hid hCn
              clear hCn hC hB hkl
              go_wp2
              go_roundw
              case rel => exact ⟨i0 + 1, by omega, by go_num, HCn⟩
              case measure => simp [intOf]; omega
        · have hij : i0 = j := by omega
          have hCn := hC.out
          have hfd : fillL L R i0 0 = collectL L R := by rw [hij, HM.out, fillL_done]
          rw [hfd] at hCn
          have HCn := Lib.hid hCn
          clear hCn hC hij hfd
          go_wp2_with fail
          obtain ⟨wS, rfl⟩ : ∃ wS : World, wS = wr := ⟨_, rfl⟩
          have hszS := HCn.out.b.upd.size
          go_loopw [18, 103] (fun lv i wr => ∃ k : Nat, k ≤ n ∧ i = .int .i64 k ∧ Hid (Upd [] wS wr) ∧ Hid (wr.ownsRow wS.heap.size 31 1 lv k (((ws.take k).map (movedR L R)).map (.int .u64)))) (fun _ i _ => n - (intOf i).toNat)
          case atStart => exact ⟨0, by omega, rfl, Upd.refl _ _, World.ownsRow_nil _ _ _ _⟩
          case round =>
            obtain ⟨k, hk, rfl, hU, hO⟩ := hrel
            by_cases hlt : k < n
            · have hkl : k < ws.length := by rw [HN.out]; exact hlt
              obtain ⟨b, o, rfl, hc⟩ := (HS.out.upd0 (HCn.out.b.upd.then hU.out)) k hkl
              have hx := HR.out (ws.getD k 0) (by simp [List.getD_eq_getElem?_getD, hkl])
              have htk : ((ws.take (k + 1)).map (movedR L R)).map (Value.int .u64) = ((ws.take k).map (movedR L R)).map (Value.int .u64) ++ [.int .u64 (movedR L R (ws.getD k 0))] := by
                rw [List.take_succ_eq_append_getElem hkl, List.map_append, List.map_append]
                have e : ws.getD k 0 = ws[k] := by simp [List.getD_eq_getElem?_getD, hkl]
                rw [e]
                rfl
              have HT := Lib.hid htk
              have hCk := Lib.hid (HCn.out.step hU.out)
              have hmv := Lib.hid (moved_calls hCk.out.b hCk.out.now (ws.getD k 0) hx.1 (by omega))
              clear hkl htk
              generalize ws.getD k 0 = x at *
              generalize movedR L R x = y at *
              go_wp2_with fail
              refine hmv.out.mono ?_
              rintro e w8 ⟨rfl, hu8⟩
              have hsz := (hU.out.then hu8).size
              have hO8 := own_upd0 hO.out hu8
              have hU8 := Lib.hid (hU.out.then hu8)
              clear hO hU hc hmv hu8 hCk
              go_wp2_with (at_builtin; refine wpList_app rfl _ _ 37 rfl wS.heap.size 31 (.int .u64 0) 1 8 Try.underlying37 info_word rfl (by decide) _ _ _ rfl hO8 [.int .u64 y] 1 rfl rfl (one1 rfl) (by unfold maxLen; omega) (by omega) (by omega) ?_; intro g cap w9 S hO9 hu9 hS9 hg9)
              have hS9' : ∀ k, k ∈ S → wS.heap.size ≤ k := fun k hk => (hO8.lt k (hS9 k hk)).1
              have hU9 := Lib.hid (hU8.out.fresh hu9 hS9')
              rw [← HT.out] at hO9
              have HO9 := Lib.hid hO9
              clear hO9 hu9 hS9 hg9 hS9' hO8 hU8
              go_wp2
              go_roundw
              case rel => exact ⟨k + 1, by omega, by go_num, hU9, HO9⟩
              case measure => simp [intOf]; omega
            · have hkn : k = n := by omega
              have hF := HCn.out.step hU.out
              have hO1 := hO.out
              have hkk : k = ws.length := by rw [hkn, HN.out]
              rw [hkk, List.take_of_length_le (Nat.le_refl _)] at hO1
              obtain ⟨a9, c9, rfl, hl9, hs9⟩ := own_SlI hO1
              have HP : Hid (CollectPost L R ws nn w (.returned (.tuple #[.pointer (some ⟨p, 0, none⟩), .slice a9 ws.length c9, .bool true])) _) := ⟨p, bw, bk, a9, c9, rfl, hF.x, hs9, hF.b.upd, f1', f2', f3'⟩
              clear hF hO hO1 hU hl9 hs9
              go_wp2
              go_ret3
              rw [← HRR.out]
              exact HP.out
end Go.Proofs.Ytkbnkpllbgofhaa
