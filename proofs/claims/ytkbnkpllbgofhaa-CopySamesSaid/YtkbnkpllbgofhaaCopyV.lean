/-
  Copy: words.
-/
import Derived.Test.YtkbnkpllbgofhaaCopyW
namespace Go.Proofs.Ytkbnkpllbgofhaa
open Go.RowKit HeapM

theorem wordsR_len (L : List HObj) (r : Int) : (wordsR L r).length = lenR L r := by
  unfold wordsR lenR
  cases objR L r <;> simp
theorem wordsR_get (L : List HObj) (r : Int) (i : Nat) : getR L r i = (wordsR L r)[i]? := by
  unfold getR wordsR
  cases objR L r <;> simp
theorem wordsR_range {L : List HObj} (h : Words L) (r : Int) : ∀ x ∈ wordsR L r, 0 ≤ x ∧ x < 18446744073709551616 := by
  intro x hx
  unfold wordsR at hx
  cases ho : objR L r with
  | none => rw [ho] at hx; cases hx
  | some o =>
    rw [ho] at hx
    obtain ⟨q, e, hq⟩ := objR_some ho
    exact h o (at_mem hq) x hx
/-- So many words are there, the others are 0. -/
def fillTo (xs : List Int) (j : Nat) : List Int := xs.take j ++ List.replicate (xs.length - j) 0
theorem fillTo_zero (xs : List Int) : fillTo xs 0 = List.replicate xs.length 0 := by simp [fillTo]
theorem fillTo_all (xs : List Int) : fillTo xs xs.length = xs := by simp [fillTo]
theorem fillTo_step {xs : List Int} {j : Nat} (h : j < xs.length) : (fillTo xs j).set j (xs.getD j 0) = fillTo xs (j + 1) := by
  unfold fillTo
  have e : xs.getD j 0 = xs[j] := by simp [List.getD_eq_getElem?_getD, h]
  rw [e, List.set_append_right _ _ (by simp; omega), List.length_take, Nat.min_eq_left (by omega), Nat.sub_self, show xs.length - j = (xs.length - (j + 1)) + 1 by omega, List.replicate_succ, List.set_cons_zero, List.take_succ_eq_append_getElem h, List.append_assoc]
  rfl
theorem fillTo_len {xs : List Int} {j : Nat} (h : j ≤ xs.length) : (fillTo xs j).length = xs.length := by simp [fillTo]; omega
/-- What words gives. -/
def WordsPost (ws : List Int) (w : World) (e : Ending) (w' : World) : Prop := ∃ b, e = .returned (.slice (some ⟨b, 0, none⟩) ws.length ws.length) ∧ Blk w' b (ws.map (.int .u64)) 31 ∧ w.heap.size ≤ b ∧ Upd [] w w'
theorem SlI.of_map {w : World} {k : IntKind} {b : Nat} {xs : List Int} {t : TypeId} (h : Blk w b (xs.map (.int k)) t) : SlI w k (some ⟨b, 0, none⟩) xs :=
  SlI.of_blk (rest := []) (by simpa using h)
set_option maxHeartbeats 1000000 in
theorem words_calls {w : World} {v : Value} {L : List HObj} (h : HV w v L) (r : Int) : Calls Try.prog 91 #[v, .int .i64 r] w (WordsPost (wordsR L r) w) := by
  have hl := h.lens r
  have hlen := wordsR_len L r
  obtain ⟨n, hn⟩ : ∃ n, n = lenR L r := ⟨_, rfl⟩
  rw [← hn] at hl hlen
  have hlc := h.len r
  rw [← hn] at hlc
  have HL := Lib.hid hlc
  have HN := Lib.hid hlen
  have H := Lib.hid h
  clear h hlen hlc hn
  obtain ⟨xs, hxs⟩ : ∃ xs, xs = wordsR L r := ⟨_, rfl⟩
  have hgo : Hid (∀ i : Nat, getR L r i = xs[i]?) := by rw [hxs]; exact fun i => wordsR_get L r i
  rw [← hxs] at HN ⊢
  clear hxs
  have hm1 := run_make_row' (P := Try.prog) 37 31 (.int .u64 0) 8 Try.underlying37 (by kernel_rfl) rfl .i64 .i64 n (by omega) (by omega)
  go_enter Try.func91, Try.ntmps91
  go_wp2_with fail
  refine HL.out.mono ?_
  rintro e w' ⟨rfl, rfl⟩
  go_wp2_with fail
  obtain ⟨W1, hW1⟩ : ∃ W1, W1 = w.alloc (.cells (madeCells #[.int .u64 0] n) 31) := ⟨_, rfl⟩
  have hB0 : Blk W1 w.heap.size ((fillTo xs 0).map (.int .u64)) 31 := by
    have := Blk.newAt (w := w) (c := madeCells #[.int .u64 0] n) (t := 31) rfl
    rw [toList_madeCells_one] at this
    rw [hW1, fillTo_zero, HN.out, List.map_replicate]
    exact this
  have hU0 : Upd [] w W1 := by rw [hW1]; exact (Upd.refl _ _).alloc _
  rw [← hW1]
  clear hW1 hm1
  have HB0 := Lib.hid hB0
  have HU0 := Lib.hid hU0
  clear hB0 hU0
  obtain ⟨b, hb⟩ : ∃ b, b = w.heap.size := ⟨_, rfl⟩
  rw [← hb] at HB0 ⊢
  have HBb := Lib.hid hb; clear hb
  go_loopw [13] (fun i wr => ∃ j : Nat, j ≤ n ∧ i = .int .i64 j ∧ Hid (Blk wr b ((fillTo xs j).map (.int .u64)) 31) ∧ Hid (Upd [] w wr)) (fun i _ => n - (intOf i).toNat)
  case atStart => exact ⟨0, by omega, rfl, HB0, HU0⟩
  case round =>
    obtain ⟨j, hj, rfl, hB, hU⟩ := hrel
    by_cases hlt : j < n
    · have hg := Lib.hid ((H.out.upd0 hU.out).get r j)
      rw [hgo.out j] at hg
      have hjl : j < xs.length := by rw [HN.out]; exact hlt
      have e1 : xs[j]? = some (xs.getD j 0) := by simp [List.getD_eq_getElem?_getD, hjl]
      rw [e1] at hg
      have hst := Lib.hid (fillTo_step hjl)
      have hc : wr.cell? ⟨b, j, none⟩ = some (.int .u64 ((fillTo xs j).getD j 0)) := hB.out.cell_some (by
        have := fillTo_len (show j ≤ xs.length by omega)
        rw [map_int_get, List.getElem?_eq_getElem (by omega), List.getD_eq_getElem?_getD, List.getElem?_eq_getElem (by omega)]
        rfl)
      have hf := hB.out.free j
      have hblt := hB.out.lt
      clear hjl e1
      generalize xs.getD j 0 = x at *
      generalize (fillTo xs j).getD j 0 = y at *
      go_wp2_with fail
      refine hg.out.mono ?_
      rintro e w' ⟨rfl, rfl⟩
      have hB1 := hB.out.set j (.int .u64 x)
      rw [map_int_set, hst.out] at hB1
      have HB1 := Lib.hid hB1
      have HU1 := Lib.hid (hU.out.setCell (p := ⟨b, j, none⟩) (.int .u64 x) (.inr (by rw [← HBb.out]; exact Nat.le_refl _)))
      clear hB1 hB hU hg hst
      go_wp2
      go_roundw
      case rel => exact ⟨j + 1, by omega, by go_num, HB1, HU1⟩
      case measure => simp [intOf]; omega
    · have hjn : j = n := by omega
      subst hjn
      have hB1 := hB.out
      have e := HN.out
      have hP : Hid (WordsPost xs w (.returned (.slice (some ⟨b, 0, none⟩) j j)) wr) := by
        refine ⟨b, by rw [e], ?_, by rw [← HBb.out]; exact Nat.le_refl _, hU.out⟩
        rw [← e, fillTo_all] at hB1
        exact hB1
      clear hB1 hB hU e
      go_wp2
      go_ret
      exact hP.out
end Go.Proofs.Ytkbnkpllbgofhaa
