/-
  Copy: whether two heaps mean the same, by definition; alike.
-/
import Derived.Test.YtkbnkpllbgofhaaCopyS
namespace Go.Proofs.Ytkbnkpllbgofhaa
open Go.RowKit HeapM

def alikeR (LA LB : List HObj) (P Q : List Int) (x y : Int) : Bool :=
  if leadR LA x = 0 ∨ leadR LB y = 0 then decide (leadR LA x = 0 ∧ leadR LB y = 0 ∧ x = y) else decide (place P (leadR LA x) = place Q (leadR LB y))
def SameP (LA LB : List HObj) (P Q xs ys : List Int) : Prop :=
  xs.length = ys.length ∧ P.length = Q.length ∧ (∀ i, i < xs.length → alikeR LA LB P Q (xs.getD i 0) (ys.getD i 0) = true) ∧
  ∀ i, i < P.length → kindR LA (P.getD i 0) = kindR LB (Q.getD i 0) ∧ lenR LA (P.getD i 0) = lenR LB (Q.getD i 0) ∧
    ∀ k, k < lenR LA (P.getD i 0) → if scanned (kindR LA (P.getD i 0)) = true then alikeR LA LB P Q ((wordsR LA (P.getD i 0)).getD k 0) ((wordsR LB (Q.getD i 0)).getD k 0) = true else (wordsR LA (P.getD i 0)).getD k 0 = (wordsR LB (Q.getD i 0)).getD k 0
theorem alike_self (L : List HObj) (P : List Int) (x : Int) : alikeR L L P P x x = true := by
  unfold alikeR
  split
  · rename_i h
    exact decide_eq_true ⟨by omega, by omega, rfl⟩
  · exact decide_eq_true rfl
theorem same_self (L : List HObj) (P xs : List Int) : SameP L L P P xs xs := by
  refine ⟨rfl, rfl, fun i _ => alike_self L P _, fun i _ => ⟨rfl, rfl, fun k _ => ?_⟩⟩
  split
  · exact alike_self L P _
  · rfl
theorem numOf_eq (P Q : List Int) (a b : Int) : (numOf P a == numOf Q b) = decide (place P a = place Q b) := by
  unfold numOf
  rw [Bool.eq_iff_iff]
  simp
/-- Both queues. -/
structure Ques (wa wb w : World) (qa ma qb mb : Nat) (va vb : Value) (LA LB : List HObj) (P Q : List Int) : Prop where
  a : Que wa w qa ma va LA P
  b : Que wb w qb mb vb LB Q
theorem Ques.step {wa wb w w' : World} {qa ma qb mb : Nat} {va vb : Value} {LA LB : List HObj} {P Q : List Int} (h : Ques wa wb w qa ma qb mb va vb LA LB P Q) (hu : Upd [] w w') : Ques wa wb w' qa ma qb mb va vb LA LB P Q := ⟨h.a.step hu, h.b.step hu⟩
theorem Ques.two {wa wb w : World} {qa ma qb mb : Nat} {va vb : Value} {LA LB : List HObj} {P Q : List Int} (h : Ques wa wb w qa ma qb mb va vb LA LB P Q) : w.cell? ⟨qa, 0, none⟩ = some va ∧ w.cell? ⟨qb, 0, none⟩ = some vb := by
  obtain ⟨_, _, _, h1, _, _⟩ := h.a.parts
  obtain ⟨_, _, _, h2, _, _⟩ := h.b.parts
  exact ⟨h1, h2⟩
theorem Ques.wa {wa wb w : World} {qa ma qb mb : Nat} {va vb : Value} {LA LB : List HObj} {P Q : List Int} (h : Ques wa wb w qa ma qb mb va vb LA LB P Q) : HV w va LA := h.a.hv.upd0 h.a.upd
theorem Ques.wb {wa wb w : World} {qa ma qb mb : Nat} {va vb : Value} {LA LB : List HObj} {P Q : List Int} (h : Ques wa wb w qa ma qb mb va vb LA LB P Q) : HV w vb LB := h.b.hv.upd0 h.b.upd
set_option maxRecDepth 100000 in
set_option maxHeartbeats 1500000 in
theorem alike_calls {wa wb w : World} {qa ma qb mb : Nat} {va vb : Value} {LA LB : List HObj} {P Q : List Int} (h : Ques wa wb w qa ma qb mb va vb LA LB P Q) (x y : Int) (h0 : 0 ≤ x) (h1 : x ≤ 18446744073709551615) (k0 : 0 ≤ y) (k1 : y ≤ 18446744073709551615) :
    Calls Try.prog 97 #[.pointer (some ⟨qa, 0, none⟩), .int .u64 x, .pointer (some ⟨qb, 0, none⟩), .int .u64 y] w fun e w' => e = .returned (.bool (alikeR LA LB P Q x y)) ∧ Upd [] w w' := by
  have hd := h.step (Upd.refl [] w).drew
  have hua : qa < w.heap.size := by obtain ⟨_, hb, _⟩ := h.a.blk; exact hb.lt
  have hub : qb < w.heap.size := by obtain ⟨_, hb, _⟩ := h.b.blk; exact hb.lt
  have hlea := lead_le h.a.hv.small x
  have hleb := lead_le h.b.hv.small y
  have hora := lead_or (L := LA) x
  have horb := lead_or (L := LB) y
  have hta := Lib.hid (fun w' (hu : Upd [] w w') => to_calls (h.step hu).wa x h0 h1)
  have htb := Lib.hid (fun w' (hu : Upd [] w w') => to_calls (h.step hu).wb y k0 k1)
  have hlka := Lib.hid (fun w' (hu : Upd [] w w') (hr : 0 < leadR LA x) => (h.step hu).a.num.look (leadR LA x) (WalkArith.wf_i64 (by have := hlea hr; omega)))
  have hlkb := Lib.hid (fun w' (hu : Upd [] w w') (hr : 0 < leadR LB y) => (h.step hu).b.num.look (leadR LB y) (WalkArith.wf_i64 (by have := hleb hr; omega)))
  have hca := Lib.hid (fun w' (hu : Upd [] w w') => (h.step hu).a.parts)
  have hcb := Lib.hid (fun w' (hu : Upd [] w w') => (h.step hu).b.parts)
  obtain ⟨B, hB⟩ : ∃ B, B = alikeR LA LB P Q x y := ⟨_, rfl⟩
  unfold alikeR at hB
  have hne := Lib.hid (numOf_eq P Q (leadR LA x) (leadR LB y))
  rw [show alikeR LA LB P Q x y = B by rw [hB]; rfl]
  have H := Lib.hid h
  obtain ⟨c0, c1⟩ := h.two
  clear h hlea hleb
  generalize leadR LA x = ra at *
  generalize leadR LB y = rb at *
  have HB := Lib.hid hB
  clear hB
  go_enter Try.func97, Try.ntmps97
  go_wp2_with fail
  go_region_held3 (fun w' => w'.cell? ⟨qa, 0, none⟩ = some va ∧ w'.cell? ⟨qb, 0, none⟩ = some vb) (first | go_keep) (first
    | (go_at_call 90; (with_reducible refine (hta.out _ ?_).mono ?_); rotate_left; rintro e w' ⟨rfl, rfl⟩; rotate_left; (repeat (first | exact Upd.refl _ _ | apply Upd.drew | apply Upd.alloc)))
    | (go_at_call 90; (with_reducible refine (htb.out _ ?_).mono ?_); rotate_left; rintro e w' ⟨rfl, rfl⟩; rotate_left; (repeat (first | exact Upd.refl _ _ | apply Upd.drew | apply Upd.alloc))))
  all_goals (
    have hU1 := Lib.hid (((Upd.refl [] w).alloc (.cells #[.int .i64 ra, .int .i64 rb] 158)).drew)
    have hB1 : Hid (Blk ((w.alloc (.cells #[.int .i64 ra, .int .i64 rb] 158)).drew) w.heap.size [.int .i64 ra, .int .i64 rb] 158) := (Blk.newAt rfl).drew
    clear hd hua hub c0 c1 hta htb
    obtain ⟨W1, hW1⟩ : ∃ W1, W1 = (w.alloc (.cells #[.int .i64 ra, .int .i64 rb] 158)).drew := ⟨_, rfl⟩
    rw [← hW1] at hU1 hB1 ⊢
    clear hW1
    obtain ⟨bx, hbx⟩ : ∃ bx, bx = w.heap.size := ⟨_, rfl⟩
    rw [← hbx] at hB1 ⊢
    clear hbx
    have d0 := hB1.out.cell_some (i := 0) rfl
    have d1 := hB1.out.cell_some (i := 1) rfl
    rcases hora with rfl | hra
    · rcases horb with rfl | hrb
      · by_cases hxy : x = y
        · have hBt : B = true := by rw [HB.out, if_pos (.inl rfl)]; exact decide_eq_true ⟨rfl, rfl, hxy⟩
          have HBT := Lib.hid hBt
          have exy : (x == y) = true := by rw [beq_iff_eq]; exact hxy
          clear hBt hxy HB hne hlka hlkb
          go_wp2
          go_ret
          exact ⟨by rw [HBT.out]; rfl, hU1.out⟩
        · have hBt : B = false := by rw [HB.out, if_pos (.inl rfl)]; exact decide_eq_false (fun hh => hxy hh.2.2)
          have HBT := Lib.hid hBt
          have exy : (x == y) = false := by rw [beq_eq_false_iff_ne]; exact hxy
          clear hBt hxy HB hne hlka hlkb
          go_wp2
          go_ret
          exact ⟨by rw [HBT.out]; rfl, hU1.out⟩
      · have hBt : B = false := by rw [HB.out, if_pos (.inl rfl)]; exact decide_eq_false (fun hh => by have := hh.2.1; omega)
        have HBT := Lib.hid hBt
        have e2 : (rb == 0) = false := by rw [beq_eq_false_iff_ne]; omega
        clear hBt HB hne hlka hlkb
        go_wp2
        go_ret
        exact ⟨by rw [HBT.out]; rfl, hU1.out⟩
    · have e1 : (ra == 0) = false := by rw [beq_eq_false_iff_ne]; omega
      rcases horb with rfl | hrb
      · have hBt : B = false := by rw [HB.out, if_pos (.inr rfl)]; exact decide_eq_false (fun hh => by have := hh.1; omega)
        have HBT := Lib.hid hBt
        clear hBt HB hne hlka hlkb
        go_wp2
        go_ret
        exact ⟨by rw [HBT.out]; rfl, hU1.out⟩
      · have e2 : (rb == 0) = false := by rw [beq_eq_false_iff_ne]; omega
        have hBt : (numOf P ra == numOf Q rb) = B := by rw [hne.out, HB.out, if_neg (by omega)]
        have l1 : ∀ nq, (Instr.lookup 131 (.map (some ma)) (.int .i64 ra) false).run Try.prog (W1.drewN nq) = .ok (.int .i64 (numOf P ra)) (W1.drewN nq) := fun nq => hlka.out _ (hU1.out.drewN nq) hra
        have l2 : ∀ nq, (Instr.lookup 131 (.map (some mb)) (.int .i64 rb) false).run Try.prog (W1.drewN nq) = .ok (.int .i64 (numOf Q rb)) (W1.drewN nq) := fun nq => hlkb.out _ (hU1.out.drewN nq) hrb
        obtain ⟨_, _, _, _, m1, _⟩ := hca.out _ hU1.out
        obtain ⟨_, _, _, _, m2, _⟩ := hcb.out _ hU1.out
        have HBT := Lib.hid hBt
        clear hBt HB hne hlka hlkb hca hcb
        generalize numOf P ra = na at *
        generalize numOf Q rb = nb at *
        go_wp2_with fail
        go_quiet (fail)
        go_wp2
        go_ret
        exact ⟨by rw [← HBT.out]; rfl, hU1.out.drewN _⟩)
end Go.Proofs.Ytkbnkpllbgofhaa
