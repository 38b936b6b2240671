/-
  Copy: Collect.
-/
import Derived.Test.YtkbnkpllbgofhaaCopyN
namespace Go.Proofs.Ytkbnkpllbgofhaa
open Go.RowKit HeapM

/-- What Collect holds, besides the new heap and the places. -/
structure ColB (w0 w : World) (hb qb nb q mb nw m : Nat) (v : Value) (a : Option Addr) (c : Nat) (L : List HObj) (R : List Int) : Prop where
  hv : HV w0 v L
  upd : Upd [] w0 w
  hbox : Blk w hb [v] 23
  qbox : Blk w qb [.pointer (some ⟨q, 0, none⟩)] 129
  nbox : Blk w nb [.slice (some ⟨nw, 0, none⟩) (m + 1) (m + 1)] 41
  que : Blk w q [v, .slice a m c, .map (some mb)] 133
  num : NumMap w mb R
  row : SlI w .i64 a R
  rowt : ∀ b o, a = some ⟨b, o, none⟩ → (∃ cs, Blk w b cs 3) ∧ b < nw
  len : R.length = m
  met : Met L R
theorem ColB.step {w0 w w' : World} {hb qb nb q mb nw m c : Nat} {v : Value} {a : Option Addr} {L : List HObj} {R : List Int} {S : List Nat} (h : ColB w0 w hb qb nb q mb nw m v a c L R) (hu : Upd S w w')
    (hS : ∀ k, k ∈ S → w0.heap.size ≤ k ∧ ((∃ cs t, Blk w k cs t ∧ (t = 72 ∨ t = 31 ∨ t = 5)) ∨ (k = nw ∧ ∃ cs, Blk w nw cs 3))) : ColB w0 w' hb qb nb q mb nw m v a c L R := by
  have ht : ∀ {b cs t}, Blk w b cs t → t ∉ [72, 31, 5, 3] → b ∉ S := by
    intro b cs t B hn hk
    rcases (hS b hk).2 with ⟨cs', t', B', e⟩ | ⟨e, cs', B'⟩
    · have := (B.inj B').2
      subst this
      rcases e with rfl | rfl | rfl <;> simp at hn
    · subst e
      have := (B.inj B').2
      subst this
      simp at hn
  have hm : mb ∉ S := by
    intro hk
    rcases (hS mb hk).2 with ⟨cs', t', B', e⟩ | ⟨e, cs', B'⟩
    · exact numMap_ne h.num B' rfl
    · subst e
      exact numMap_ne h.num B' rfl
  have hr : ∀ b o, a = some ⟨b, o, none⟩ → b ∉ S := by
    intro b o e hk
    obtain ⟨⟨cs, B⟩, hne⟩ := h.rowt b o e
    rcases (hS b hk).2 with ⟨cs', t', B', e'⟩ | ⟨e', _⟩
    · have := (B.inj B').2
      subst this
      rcases e' with e' | e' | e' <;> exact absurd e' (by decide)
    · omega
  exact ⟨h.hv, h.upd.fresh hu (fun k hk => (hS k hk).1), hu.blk h.hbox (ht h.hbox (by decide)), hu.blk h.qbox (ht h.qbox (by decide)), hu.blk h.nbox (ht h.nbox (by decide)), hu.blk h.que (ht h.que (by decide)), h.num.kept (hu.block mb h.num.lt hm),
    h.row.upd hu hr, fun b o e => by
      obtain ⟨⟨cs, B⟩, hne⟩ := h.rowt b o e
      exact ⟨⟨cs, hu.blk B (hr b o e)⟩, hne⟩, h.len, h.met⟩
theorem ColB.step0 {w0 w w' : World} {hb qb nb q mb nw m c : Nat} {v : Value} {a : Option Addr} {L : List HObj} {R : List Int} (h : ColB w0 w hb qb nb q mb nw m v a c L R) (hu : Upd [] w w') : ColB w0 w' hb qb nb q mb nw m v a c L R := h.step hu (by simp)
theorem numOf_pos {l : List Int} {r : Int} (h : r ∈ l) : numOf l r = (l.idxOf r : Int) + 1 := by
  unfold numOf place
  rw [if_pos h]

/-! ### where a word leads now -/
set_option maxRecDepth 100000 in
set_option maxHeartbeats 1000000 in
theorem moved_calls {w0 w : World} {hb qb nb q mb nw m c : Nat} {v : Value} {a : Option Addr} {L : List HObj} {R : List Int} (h : ColB w0 w hb qb nb q mb nw m v a c L R) (hn : Blk w nw ((nowTo L R R.length).map (.int .i64)) 3) (x : Int) (h0 : 0 ≤ x) (h1 : x ≤ 18446744073709551615) :
    Calls Try.prog 89 #[.int .u64 x, .pointer (some ⟨hb, 0, none⟩), .pointer (some ⟨qb, 0, none⟩), .pointer (some ⟨nb, 0, none⟩)] w fun e w' => e = .returned (.int .u64 (movedR L R x)) ∧ Upd [] w w' := by
  have hto := Lib.hid (to_calls (h.hv.upd0 h.upd) x h0 h1)
  have c0 := h.hbox.cell_some (i := 0) rfl
  have c1 := h.qbox.cell_some (i := 0) rfl
  have c2 := h.nbox.cell_some (i := 0) rfl
  have c3 := h.que.cell_some (i := 2) rfl
  have hsm := h.hv.small
  have hle := lead_le hsm x
  unfold movedR
  by_cases hr : 0 < leadR L x
  · have hlk := h.num.look (leadR L x) (WalkArith.wf_i64 (by have := hle hr; omega))
    by_cases hm : leadR L x ∈ R
    · have hi := List.idxOf_lt_length_iff.2 hm
      rw [if_pos ⟨hr, hm⟩]
      rw [numOf_pos hm] at hlk
      have hlk2 : ∀ nq, (Instr.lookup 131 (.map (some mb)) (.int .i64 (leadR L x)) false).run Try.prog (w.drewN nq) = .ok (.int .i64 ((R.idxOf (leadR L x) : Int) + 1)) (w.drewN nq) := by
        intro nq
        have := ((h.step0 ((Upd.refl [] w).drewN nq)).num.look (leadR L x) (WalkArith.wf_i64 (by have := hle hr; omega)))
        rwa [numOf_pos hm] at this
      have hcn := hn.cell_some (i := R.idxOf (leadR L x) + 1) (v := .int .i64 ((posOf (newL L R) (R.idxOf (leadR L x)) : Int) + 1)) (by
        have := nowTo_get (L := L) hi
        rw [map_int_get, List.getElem?_eq_getElem (by rw [nowTo_len (Nat.le_refl _)]; omega)]
        rw [List.getD_eq_getElem?_getD, List.getElem?_eq_getElem (by rw [nowTo_len (Nat.le_refl _)]; omega)] at this
        exact congrArg (fun z => some (Value.int .i64 z)) this)
      have hmm : m ≤ 65536 := by
        have h2 := h.met.len
        have h3 := length_used L
        have h4 := h.len
        omega
      have him : R.idxOf (leadR L x) < m := by have := h.len; omega
      clear hle h hn hm hi
      generalize posOf (newL L R) (R.idxOf (leadR L x)) = pl at *
      generalize R.idxOf (leadR L x) = ix at *
      generalize leadR L x = r at *
      go_enter Try.func89, Try.ntmps89
      go_wp2_with fail
      refine hto.out.mono ?_
      rintro e w' ⟨rfl, rfl⟩
      clear hto
      go_wp2_with fail
      go_quiet ((go_at_call 21; exact Calls.quiet_of_same ((ref_calls _ _).mono fun _ _ ⟨a, b⟩ => ⟨a, b.symm⟩)))
      go_wp2
      go_ret
      exact ⟨rfl, (Upd.refl [] w).drewN _⟩
    · rw [if_neg (fun hh => hm hh.2)]
      have hz := numOf_zero.2 hm
      rw [hz] at hlk
      clear hle h hn hm hz
      generalize leadR L x = r at *
      go_enter Try.func89, Try.ntmps89
      go_wp2_with fail
      refine hto.out.mono ?_
      rintro e w' ⟨rfl, rfl⟩
      clear hto
      go_wp2
      go_ret
      exact ⟨rfl, Upd.refl _ _⟩
  · rw [if_neg (fun hh => hr hh.1)]
    clear hle h hn
    generalize leadR L x = r at *
    go_enter Try.func89, Try.ntmps89
    go_wp2_with fail
    refine hto.out.mono ?_
    rintro e w' ⟨rfl, rfl⟩
    clear hto
    go_wp2
    go_ret
    exact ⟨rfl, Upd.refl _ _⟩
end Go.Proofs.Ytkbnkpllbgofhaa
