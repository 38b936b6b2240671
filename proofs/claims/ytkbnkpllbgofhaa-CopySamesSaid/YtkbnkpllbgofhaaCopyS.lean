/-
  Copy's statements: the two heaps are the same.
-/
import Derived.Test.YtkbnkpllbgofhaaCopyK
namespace Go.Proofs.Ytkbnkpllbgofhaa
open Go.RowKit HeapM

/-- What same leans on. -/
structure SmRel (w0 w : World) (p bw bk pr n base : Nat) (v : Value) (bs : List Nat) (L : List HObj) : Prop where
  A : HeapA w p bw bk n L
  R : RHeap w pr n base L v bs
  upd : Upd [] w0 w
theorem SmRel.step {w0 w w' : World} {p bw bk pr n base : Nat} {v : Value} {bs : List Nat} {L : List HObj} (h : SmRel w0 w p bw bk pr n base v bs L) (hu : Upd [] w w') : SmRel w0 w' p bw bk pr n base v bs L :=
  ⟨h.A.upd0 hu, h.R.upd0 hu, h.upd.then hu⟩
theorem SmRel.c0 {w0 w : World} {p bw bk pr n base : Nat} {v : Value} {bs : List Nat} {L : List HObj} (h : SmRel w0 w p bw bk pr n base v bs L) : w.cell? ⟨pr, 0, none⟩ = some (.int .i64 n) := h.R.cells.1
theorem RHeap.few {w : World} {pr n base : Nat} {v : Value} {bs : List Nat} {L : List HObj} (h : RHeap w pr n base L v bs) : (objsR L).length ≤ 9223372036854775807 := by
  obtain ⟨_, _, _, hl, _⟩ := h.form
  rw [objsR_pos]
  simp
  omega
set_option maxRecDepth 100000 in
set_option maxHeartbeats 1500000 in
theorem same_calls {w : World} {p bw bk pr n base : Nat} {v : Value} {bs : List Nat} {L : List HObj} (hA : HeapA w p bw bk n L) (hR : RHeap w pr n base L v bs) :
    Calls Try.prog 66 #[hptr p, rptr pr] w fun e w' => e = .returned (.bool true) ∧ Upd [] w w' := by
  have hd : SmRel w w.drew p bw bk pr n base v bs L := ⟨hA.upd0 (Upd.refl [] w).drew, hR.upd0 (Upd.refl [] w).drew, (Upd.refl [] w).drew⟩
  have hfew := hR.few
  have hn := hR.high
  have HA := Lib.hid hA
  have HR := Lib.hid hR
  clear hA hR
  have hb : ((n : Int) != (n : Int)) = false := by simp
  unfold hptr rptr
  go_enter Try.func66, Try.ntmps66
  go_wp2_with fail
  go_region_held3 (fun w' => w'.cell? ⟨pr, 0, none⟩ = some (.int .i64 n)) (first | exact SmRel.c0 (by assumption)) (first
    | (go_at_call 41; refine (words_A (SmRel.A (by assumption))).mono ?_; rintro e w8 ⟨rfl, rfl⟩)
    | (go_at_call 43; refine (objects_calls (SmRel.A (by assumption))).mono ?_; rintro e w8 ⟨oa, oc, rfl, hOA, hUA⟩; have hTA := SmRel.step (by assumption) hUA)
    | (go_at_call 44; refine (robjects_calls (SmRel.R (by assumption))).mono ?_; rintro e w8 ⟨oa, oc, rfl, hOB, hUB⟩; have hTB := SmRel.step (by assumption) hUB)
    | (go_at_call 42; refine (ints_calls _ _ _ _ rfl rfl (by first | exact hOA | exact hOA.upd0 hUB) (by first | exact hOB | exact hOB.upd0 hUA) hfew hfew rfl).mono ?_; rintro e w8 ⟨rfl, hUI⟩; have hTI := SmRel.step (by assumption) hUI))
  have HT := Lib.hid hTI
  clear hTI hTA hTB hOA hOB hUA hUB hUI hd hfew hb
  obtain ⟨a, c, rfl, hlen, -⟩ := HR.out.form
  have c1 := HT.out.R.cells.2
  obtain ⟨m, hm⟩ : ∃ m, m = L.length := ⟨_, rfl⟩
  rw [← hm] at c1 hlen
  have HM := Lib.hid hm
  clear hm
  go_wp2_with fail
  clear c1
  go_loopw [31] (fun i wr => ∃ j : Nat, j ≤ m ∧ i = .int .i64 j ∧ Hid (SmRel w wr p bw bk pr n base (.slice a L.length c) bs L)) (fun i _ => m - (intOf i).toNat)
  case atStart => exact ⟨0, by omega, rfl, HT⟩
  case round =>
    obtain ⟨j, hj, rfl, hS⟩ := hrel
    by_cases hlt : j < m
    · obtain ⟨o, ho⟩ : ∃ o, L[j]? = some o := ⟨_, List.getElem?_eq_getElem (by rw [← HM.out]; exact hlt)⟩
      obtain ⟨a2, c2, e2, hlen2, hf⟩ := hS.out.R.form
      injection e2 with e2 _ e3
      subst e2
      subst e3
      obtain ⟨g, rfl, g0, g1, g2⟩ := hf j o ho
      have hka := kindR_at ho
      have hla := lenR_at ho
      have hwa := wordsR_at ho
      have hget := fun i : Nat => wordsR_get L ((posOf L j : Int) + 1) i
      rw [hwa] at hget
      have hl2 := hS.out.R.lens ho
      have hrow := Lib.hid (fun w' (h : SmRel w w' p bw bk pr n base (.slice (some ⟨g, 0, none⟩) L.length c) bs L) => h.R.row ho)
      have hB1 : Blk (wr.alloc (.cells #[.int .i64 ((posOf L j : Int) + 1), .int .i64 o.1, .slice (some ⟨bs.getD j 0, 0, none⟩) o.2.length o.2.length] 61)) wr.heap.size [.int .i64 ((posOf L j : Int) + 1), .int .i64 o.1, .slice (some ⟨bs.getD j 0, 0, none⟩) o.2.length o.2.length] 61 := Blk.newAt rfl
      have hS1 := hS.out.step ((Upd.refl [] wr).alloc (.cells #[.int .i64 ((posOf L j : Int) + 1), .int .i64 o.1, .slice (some ⟨bs.getD j 0, 0, none⟩) o.2.length o.2.length] 61))
      clear ho hf
      generalize o.2 = xs at *
      generalize o.1 = kd at *
      generalize bs.getD j 0 = bi at *
      generalize posOf L j = pj at *
      generalize hln : xs.length = ln at *
      obtain ⟨W1, hW1⟩ : ∃ W1, W1 = wr.alloc (.cells #[.int .i64 ((pj : Int) + 1), .int .i64 kd, .slice (some ⟨bi, 0, none⟩) ln ln] 61) := ⟨_, rfl⟩
      obtain ⟨bo, hbo⟩ : ∃ bo, bo = wr.heap.size := ⟨_, rfl⟩
      rw [← hW1] at hB1 hS1
      rw [← hbo] at hB1
      have hkd := Lib.hid (fun nq => kind_calls ((hS1.step ((Upd.refl [] W1).drewN nq)).A) ((pj : Int) + 1))
      have hle := Lib.hid (fun nq => len_calls ((hS1.step ((Upd.refl [] W1).drewN nq)).A) ((pj : Int) + 1))
      rw [hka] at hkd
      rw [hla] at hle
      have HS1 := Lib.hid hS1
      have HGET := Lib.hid hget
      have HB1 := Lib.hid hB1
      have HLN := Lib.hid hln
      have d0 := hB1.cell_some (i := 0) rfl
      have d1 := hB1.cell_some (i := 1) rfl
      have d2 := hB1.cell_some (i := 2) rfl
      have e1 : (kd != kd) = false := by simp
      have e2 : ((ln : Int) != (ln : Int)) = false := by simp
      clear hS1 hget hka hla hwa hlen2 hS hln hB1
      go_wp2_with fail
      rw [← hW1, ← hbo]
      clear hW1 hbo g0 g1 g2
      go_quiet (first
        | (go_at_call 25; exact Calls.quiet_of_same ((hkd.out _).mono fun _ _ ⟨a, b⟩ => ⟨a, b.symm⟩))
        | (go_at_call 24; exact Calls.quiet_of_same ((hle.out _).mono fun _ _ ⟨a, b⟩ => ⟨a, b.symm⟩)))
      have hS2 := Lib.hid (HS1.out.step ((Upd.refl [] W1).drewN nq))
      have hB2 := Lib.hid (HB1.out.drewN nq)
      clear hkd hle HS1 HB1 d0 d1 d2 e1 e2
      obtain ⟨W2, hW2⟩ : ∃ W2, W2 = W1.drewN nq := ⟨_, rfl⟩
      rw [← hW2] at hS2 hB2 ⊢
      clear hW2
      have d2 := hB2.out.cell_some (i := 2) rfl
      go_wp2_with fail
      clear d2
      obtain ⟨wo, rfl⟩ : ∃ wo : World, wo = W2 := ⟨_, rfl⟩
      go_loopw [55] (fun i wr => ∃ k : Nat, k ≤ ln ∧ i = .int .i64 k ∧ Hid (SmRel w wr p bw bk pr n base (.slice (some ⟨g, 0, none⟩) L.length c) bs L) ∧ Hid (Blk wr bo [.int .i64 ((pj : Int) + 1), .int .i64 kd, .slice (some ⟨bi, 0, none⟩) ln ln] 61)) (fun i _ => ln - (intOf i).toNat)
      case atStart => exact ⟨0, by omega, rfl, hS2, hB2⟩
      case round =>
        obtain ⟨k, hk, rfl, hS, hB⟩ := hrel
        by_cases hlt3 : k < ln
        · have hkx : k < xs.length := by rw [HLN.out]; exact hlt3
          obtain ⟨b9, o9, e9, hc⟩ := (hrow.out _ hS.out) k hkx
          cases e9
          rw [Nat.zero_add] at hc
          have hg := get_calls hS.out.A ((pj : Int) + 1) k
          have e1 : xs[k]? = some (xs.getD k 0) := by simp [List.getD_eq_getElem?_getD, hkx]
          rw [HGET.out, e1] at hg
          have HG := Lib.hid hg
          clear hg e1 hkx
          have d0 := hB.out.cell_some (i := 0) rfl
          generalize xs.getD k 0 = x at *
          have e3 : (x != x) = false := by simp
          go_wp2_with fail
          refine HG.out.mono ?_
          rintro e w' ⟨rfl, rfl⟩
          clear HG hc d0
          go_wp2
          go_roundw
          case rel => exact ⟨k + 1, by omega, by go_num, hS, hB⟩
          case measure => simp [intOf]; omega
        · clear hB
          go_wp2
          go_roundw
          case rel => exact ⟨j + 1, by omega, by go_num, hS⟩
          case measure => simp [intOf]; omega
    · have HF := Lib.hid hS.out.upd
      clear hS
      go_wp2
      go_ret
      exact ⟨rfl, HF.out⟩
end Go.Proofs.Ytkbnkpllbgofhaa
