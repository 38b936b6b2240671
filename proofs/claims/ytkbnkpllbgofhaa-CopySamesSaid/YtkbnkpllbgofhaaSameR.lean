/-
  Copy: the document's like.
-/
import Derived.Test.YtkbnkpllbgofhaaSameW
namespace Go.Proofs.Ytkbnkpllbgofhaa
open Go.RowKit HeapM Go.Sort

theorem leadVal_form {L : List HObj} {bs : List Nat} {x : Int} {v : Value} (h : leadVal L bs x v) : ∃ z1 z2 z3 z4, 0 ≤ leadR L x ∧ v = .tuple #[.agg #[.int .i64 (leadR L x), .int .i64 z1, .slice z2 z3 z4], .bool (decide (0 < leadR L x))] := by
  rcases h with ⟨h1, i, o, h2, h3, rfl⟩ | ⟨h1, rfl⟩
  · exact ⟨_, _, _, _, by omega, by rw [decide_eq_true h1]⟩
  · exact ⟨0, none, 0, 0, by omega, by rw [h1]; simp⟩
set_option maxRecDepth 100000 in
set_option maxHeartbeats 1500000 in
theorem like_calls {w : World} {pa na ba pb nb bb : Nat} {LA LB : List HObj} {va vb : Value} {bsa bsb : List Nat} (ha : RHeap w pa na ba LA va bsa) (hb : RHeap w pb nb bb LB vb bsb) (a1 a2 : Option Addr) (P Q : List Int) (m1 c1 m2 c2 : Nat)
    (hm1 : P.length = m1) (hm2 : Q.length = m2) (hs1 : SlI w .i64 a1 P) (hs2 : SlI w .i64 a2 Q) (hl1 : m1 ≤ 65536) (hl2 : m2 ≤ 65536) (x y : Int) (h0 : 0 ≤ x) (h1 : x ≤ 18446744073709551615) (k0 : 0 ≤ y) (k1 : y ≤ 18446744073709551615) :
    Calls Try.prog 98 #[rptr pa, .slice a1 m1 c1, .int .u64 x, rptr pb, .slice a2 m2 c2, .int .u64 y] w fun e w' => e = .returned (.bool (alikeR LA LB P Q x y)) ∧ Upd [] w w' := by
  have hla := Lib.hid (lead_calls ha x h0 h1)
  have hlb := Lib.hid (fun w' (hu : Upd [] w w') => lead_calls (hb.upd0 hu) y k0 k1)
  have hpa := Lib.hid (fun w' (hu : Upd [] w w') => has_calls m1 c1 (leadR LA x) hm1 (hs1.upd0 hu) (by omega))
  have hpb := Lib.hid (fun w' (hu : Upd [] w w') => has_calls m2 c2 (leadR LB y) hm2 (hs2.upd0 hu) (by omega))
  obtain ⟨B, hB⟩ : ∃ B, B = alikeR LA LB P Q x y := ⟨_, rfl⟩
  unfold alikeR at hB
  rw [show alikeR LA LB P Q x y = B by rw [hB]; rfl]
  obtain ⟨ra, hra⟩ : ∃ ra, ra = leadR LA x := ⟨_, rfl⟩
  obtain ⟨rb, hrb⟩ : ∃ rb, rb = leadR LB y := ⟨_, rfl⟩
  rw [← hra] at hpa hB
  rw [← hrb] at hpb hB
  have HB := Lib.hid hB
  have HRA := Lib.hid hra
  have HRB := Lib.hid hrb
  clear ha hb hm1 hm2 hs1 hs2 hB hra hrb
  unfold rptr
  go_enter Try.func98, Try.ntmps98
  go_wp2_with fail
  refine hla.out.mono ?_
  rintro e w2 ⟨⟨v2, rfl, hv⟩, hu2⟩
  obtain ⟨z1, z2, z3, z4, r0, rfl⟩ := leadVal_form hv
  rw [← HRA.out] at r0 ⊢
  have hU3 := hu2.alloc (.cells #[.int .i64 ra, .int .i64 z1, .slice z2 z3 z4] 61)
  have hB3 : Blk (w2.alloc (.cells #[.int .i64 ra, .int .i64 z1, .slice z2 z3 z4] 61)) w2.heap.size [.int .i64 ra, .int .i64 z1, .slice z2 z3 z4] 61 := Blk.newAt rfl
  have HU3 := Lib.hid hU3
  have HB3 := Lib.hid hB3
  clear hv hla hU3 hB3 hu2
  go_wp2_with fail
  obtain ⟨W3, hW3⟩ : ∃ W3, W3 = w2.alloc (.cells #[.int .i64 ra, .int .i64 z1, .slice z2 z3 z4] 61) := ⟨_, rfl⟩
  obtain ⟨x3, hx3⟩ : ∃ x3, x3 = w2.heap.size := ⟨_, rfl⟩
  rw [← hW3] at HU3 HB3 ⊢
  rw [← hx3] at HB3 ⊢
  clear hW3 hx3
  refine (hlb.out _ HU3.out).mono ?_
  rintro e w4 ⟨⟨v4, rfl, hv⟩, hu4⟩
  obtain ⟨y1, y2, y3, y4, s0, rfl⟩ := leadVal_form hv
  rw [← HRB.out] at s0 ⊢
  have hU5 := (HU3.out.then hu4).alloc (.cells #[.int .i64 rb, .int .i64 y1, .slice y2 y3 y4] 61)
  have hB5 : Blk (w4.alloc (.cells #[.int .i64 rb, .int .i64 y1, .slice y2 y3 y4] 61)) w4.heap.size [.int .i64 rb, .int .i64 y1, .slice y2 y3 y4] 61 := Blk.newAt rfl
  have hB4 := (hu4.blk HB3.out (by simp)).alloc (.cells #[.int .i64 rb, .int .i64 y1, .slice y2 y3 y4] 61)
  have HU5 := Lib.hid hU5
  have HB5 := Lib.hid hB5
  have HB4 := Lib.hid hB4
  clear hv hlb hU5 hB5 hB4 hu4 HU3 HB3
  obtain ⟨W5, hW5⟩ : ∃ W5, W5 = w4.alloc (.cells #[.int .i64 rb, .int .i64 y1, .slice y2 y3 y4] 61) := ⟨_, rfl⟩
  obtain ⟨x5, hx5⟩ : ∃ x5, x5 = w4.heap.size := ⟨_, rfl⟩
  have d0 := HB4.out.cell_some (i := 0) rfl
  have d1 := HB5.out.cell_some (i := 0) rfl
  rw [← hx5] at d1
  rw [← hW5] at d0 d1 HU5
  clear HB4 HB5
  rcases Int.le_iff_lt_or_eq.1 r0 with hra | hra
  · rcases Int.le_iff_lt_or_eq.1 s0 with hrb | hrb
    · rw [decide_eq_true hra, decide_eq_true hrb]
      have hBt : (place P ra == place Q rb) = B := by
        rw [HB.out, if_neg (by omega)]
        rw [Bool.eq_iff_iff]
        simp
      have HBT := Lib.hid hBt
      have hqa := Lib.hid (fun nq => hpa.out _ (HU5.out.drewN nq))
      have hqb := Lib.hid (fun nq => hpb.out _ (HU5.out.drewN nq))
      clear hBt HB hpa hpb
      generalize place P ra = na at *
      generalize place Q rb = nb' at *
      go_wp2_with fail
      rw [← hW5, ← hx5]
      clear hW5 hx5
      go_quiet (first
        | (go_at_call_of 96 (Value.int .i64 ra); exact Calls.quiet_of_same ((hqa.out _).mono fun _ _ ⟨a, b⟩ => ⟨a, b.symm⟩))
        | (go_at_call_of 96 (Value.int .i64 rb); exact Calls.quiet_of_same ((hqb.out _).mono fun _ _ ⟨a, b⟩ => ⟨a, b.symm⟩)))
      go_wp2
      go_ret
      exact ⟨by rw [← HBT.out]; rfl, HU5.out.drewN _⟩
    · subst hrb
      rw [decide_eq_true hra, decide_eq_false (by omega)]
      have hBf : B = false := by rw [HB.out, if_pos (.inr rfl)]; exact decide_eq_false (fun hh => by have := hh.1; omega)
      have HBF := Lib.hid hBf
      clear hBf HB hpa hpb d0 d1
      go_wp2_with fail
      rw [← hW5]
      clear hW5
      go_ret
      exact ⟨by rw [HBF.out]; rfl, HU5.out⟩
  · subst hra
    rcases Int.le_iff_lt_or_eq.1 s0 with hrb | hrb
    · rw [decide_eq_true hrb, decide_eq_false (by omega)]
      have hBf : B = false := by rw [HB.out, if_pos (.inl rfl)]; exact decide_eq_false (fun hh => by have := hh.2.1; omega)
      have HBF := Lib.hid hBf
      clear hBf HB hpa hpb d0 d1
      go_wp2_with fail
      rw [← hW5]
      clear hW5
      go_ret
      exact ⟨by rw [HBF.out]; rfl, HU5.out⟩
    · subst hrb
      rw [decide_eq_false (by omega)]
      have hBt : (x == y) = B := by
        rw [HB.out, if_pos (.inl rfl)]
        rw [Bool.eq_iff_iff]
        simp
      have HBT := Lib.hid hBt
      clear hBt HB hpa hpb d0 d1
      go_wp2_with fail
      rw [← hW5]
      clear hW5
      go_ret
      exact ⟨by rw [← HBT.out]; rfl, HU5.out⟩
end Go.Proofs.Ytkbnkpllbgofhaa
