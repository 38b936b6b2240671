/-
  Copy: the document's lead, has, Reached, Live, Room.
-/
import Derived.Test.YtkbnkpllbgofhaaCopyRoom
namespace Go.Proofs.Ytkbnkpllbgofhaa
open Go.RowKit HeapM

/-! ### has -/
set_option maxHeartbeats 1000000 in
theorem has_calls {w : World} {a : Option Addr} {xs : List Int} (n c : Nat) (x : Int) (hn : xs.length = n) (hs : SlI w .i64 a xs) (hm : n ≤ 9223372036854775807) :
    Calls Try.prog 96 #[.slice a n c, .int .i64 x] w fun e w' => e = .returned (.int .i64 (place xs x)) ∧ w = w' := by
  have HS := Lib.hid hs
  have HN := Lib.hid hn
  clear hs hn
  obtain ⟨pl, hpl⟩ : ∃ pl, pl = place xs x := ⟨_, rfl⟩
  rw [← hpl]
  have HP := Lib.hid hpl
  clear hpl
  go_enter Try.func96, Try.ntmps96
  go_wp2_with fail
  go_loop [9] (fun i => ∃ j : Nat, j ≤ n ∧ i = .int .i64 j ∧ Hid (∀ i, i < j → xs.getD i 0 ≠ x)) (fun i => n - (intOf i).toNat)
  case atStart => exact ⟨0, by omega, rfl, fun i hi => absurd hi (by omega)⟩
  case round =>
    obtain ⟨j, hj, rfl, hall⟩ := hrel
    by_cases hlt : j < n
    · have hjl : j < xs.length := by rw [HN.out]; exact hlt
      obtain ⟨b, o, rfl, hc⟩ := HS.out j hjl
      by_cases hx : xs.getD j 0 = x
      · have hp := HP.out
        rw [place_at hall.out hjl hx] at hp
        have HPJ := Lib.hid hp
        have hb : (xs.getD j 0 == x) = true := by rw [beq_iff_eq]; exact hx
        clear hp hx hall hjl
        generalize xs.getD j 0 = y at *
        go_wp2
        go_ret
        exact ⟨by rw [HPJ.out]; rfl, rfl⟩
      · have hall' : Hid (∀ i, i < j + 1 → xs.getD i 0 ≠ x) := by
          intro i hi
          rcases Nat.lt_or_ge i j with h | h
          · exact hall.out i h
          · have : i = j := by omega
            subst this
            exact hx
        have hb : (xs.getD j 0 == x) = false := by rw [beq_eq_false_iff_ne]; exact hx
        clear hx hall hjl
        generalize xs.getD j 0 = y at *
        go_wp2
        go_round
        case rel => exact ⟨j + 1, by omega, by go_num, hall'⟩
        case measure => simp [intOf]; omega
    · have hp := HP.out
      rw [place_none (fun i hi => hall.out i (by rw [HN.out] at hi; omega))] at hp
      have HPJ := Lib.hid hp
      clear hp hall
      go_wp2
      go_ret
      exact ⟨by rw [HPJ.out]; rfl, rfl⟩

/-! ### lead -/
/-- What lead answers. -/
def leadVal (L : List HObj) (bs : List Nat) (x : Int) (v : Value) : Prop :=
  (0 < leadR L x ∧ ∃ i o, L[i]? = some o ∧ leadR L x = (posOf L i : Int) + 1 ∧ v = .tuple #[.agg #[.int .i64 (leadR L x), .int .i64 o.1, .slice (some ⟨bs.getD i 0, 0, none⟩) o.2.length o.2.length], .bool true]) ∨
  (leadR L x = 0 ∧ v = .tuple #[.agg #[.int .i64 0, .int .i64 0, .slice none 0 0], .bool false])
def LeadPost (L : List HObj) (bs : List Nat) (x : Int) (w : World) (e : Ending) (w' : World) : Prop := (∃ v, e = .returned v ∧ leadVal L bs x v) ∧ Upd [] w w'
theorem lead_of_at {L : List HObj} {bs : List Nat} {x : Int} {v : Value} (hk : Kinds L) (h1 : isKind x = 1) (h : atVal L bs (isNum x) v) : leadVal L bs x v := by
  rcases h with ⟨i, o, h2, h3, h4, h5⟩ | ⟨h2, h3⟩
  · have hko := hk o (List.mem_of_getElem? h2)
    have e : leadR L x = isNum x := by
      unfold leadR kindR
      rw [if_pos ⟨h1, by rw [h4]; simp; omega⟩]
    exact .inl ⟨by rw [e]; omega, i, o, h2, by rw [e, h3], by rw [e]; exact h5⟩
  · have e : leadR L x = 0 := by
      unfold leadR kindR
      rw [if_neg (by rw [h2]; simp)]
    exact .inr ⟨e, h3⟩
set_option maxHeartbeats 1000000 in
theorem lead_calls {w : World} {p n base : Nat} {L : List HObj} {v : Value} {bs : List Nat} (h : RHeap w p n base L v bs) (x : Int) (h0 : 0 ≤ x) (h1 : x ≤ 18446744073709551615) :
    Calls Try.prog 95 #[rptr p, .int .u64 x] w (LeadPost L bs x w) := by
  have hK := Lib.hid h.kinds
  have H := Lib.hid h
  clear h
  have hB0 : Blk (w.alloc (.cells #[.int .i64 0, .int .i64 0, .slice none 0 0] 61)) w.heap.size [.int .i64 0, .int .i64 0, .slice none 0 0] 61 := Blk.newAt rfl
  have hU0 := (Upd.refl [] w).alloc (.cells #[.int .i64 0, .int .i64 0, .slice none 0 0] 61)
  unfold rptr
  go_enter Try.func95, Try.ntmps95
  go_wp2_with fail
  obtain ⟨W1, hW1⟩ : ∃ W1, W1 = w.alloc (.cells #[.int .i64 0, .int .i64 0, .slice none 0 0] 61) := ⟨_, rfl⟩
  rw [← hW1] at hB0 hU0 ⊢
  clear hW1
  obtain ⟨q, hq⟩ : ∃ q, q = w.heap.size := ⟨_, rfl⟩
  rw [← hq] at hB0 ⊢
  have HQ := Lib.hid hq
  have HB := Lib.hid hB0
  have HU := Lib.hid hU0
  clear hq hB0 hU0
  refine (ris_calls x _ h0 h1).mono ?_
  rintro e w' ⟨rfl, rfl⟩
  by_cases hk1 : isKind x = 1
  · have e1 : (isKind x != 1) = false := by rw [bne_eq_false_iff_eq]; exact hk1
    have HK1 := Lib.hid hk1
    clear hk1
    obtain ⟨kd, hkd⟩ : ∃ kd, kd = isKind x := ⟨_, rfl⟩
    rw [← hkd] at e1 ⊢
    have HKD := Lib.hid hkd
    clear hkd
    go_wp2_with fail
    refine (rat_calls (H.out.upd0 HU.out) (isNum x)).mono ?_
    rintro e w2 ⟨⟨v2, rfl, hv⟩, hu2⟩
    have hlv := lead_of_at hK.out HK1.out hv
    have hform : ∃ z0 z1 z2 z3 z4 z5, v2 = .tuple #[.agg #[.int .i64 z0, .int .i64 z1, .slice z2 z3 z4], .bool z5] := by
      rcases hv with ⟨i, o, _, _, _, rfl⟩ | ⟨_, rfl⟩
      · exact ⟨_, _, _, _, _, _, rfl⟩
      · exact ⟨_, _, _, _, _, _, rfl⟩
    obtain ⟨z0, z1, z2, z3, z4, z5, rfl⟩ := hform
    have HLV := Lib.hid hlv
    clear hv hlv
    have hBr := hu2.blk HB.out (by simp)
    have e0 := hBr.cell_some (i := 0) rfl
    have e1 := hBr.cell_some (i := 1) rfl
    have e2 := hBr.cell_some (i := 2) rfl
    have f0 := hBr.free 0
    have f1 := hBr.free 1
    have f2 := hBr.free 2
    have hHlt := hBr.lt
    have HBR := Lib.hid hBr
    have HU2 := Lib.hid (HU.out.then hu2)
    clear hBr hu2
    go_wp2
    have hBf := (((HBR.out.set 0 (.int .i64 z0)).set 1 (.int .i64 z1)).set 2 (.slice z2 z3 z4))
    have k0 := hBf.cell_some (i := 0) rfl
    have k1 := hBf.cell_some (i := 1) rfl
    have k2 := hBf.cell_some (i := 2) rfl
    have hUf := ((HU2.out.setCell (.int .i64 z0) (p := ⟨q, 0, none⟩) (.inr (Nat.le_of_eq HQ.out.symm))).setCell (.int .i64 z1) (p := ⟨q, 1, none⟩) (.inr (Nat.le_of_eq HQ.out.symm))).setCell (.slice z2 z3 z4) (p := ⟨q, 2, none⟩) (.inr (Nat.le_of_eq HQ.out.symm))
    refine bodyPost_ret (v := .tuple #[.agg #[.int .i64 z0, .int .i64 z1, .slice z2 z3 z4], .bool z5]) ?_ rfl ⟨⟨_, rfl, HLV.out⟩, hUf⟩
    simp [results, Try.results95, go_sem, k0, k1, k2]
  · have e1 : (isKind x != 1) = true := by rw [bne_iff_ne]; exact hk1
    have hlz : leadR L x = 0 := by
      unfold leadR
      rw [if_neg (fun hh => hk1 hh.1)]
    have HLZ := Lib.hid hlz
    clear hk1 hlz
    generalize isKind x = kd at *
    have e0 := HB.out.cell_some (i := 0) rfl
    have e1 := HB.out.cell_some (i := 1) rfl
    have e2 := HB.out.cell_some (i := 2) rfl
    have f0 := HB.out.free 0
    have f1 := HB.out.free 1
    have f2 := HB.out.free 2
    have hHlt := HB.out.lt
    go_wp2
    have hBf := (((HB.out.set 0 (.int .i64 0)).set 1 (.int .i64 0)).set 2 (.slice none 0 0))
    have k0 := hBf.cell_some (i := 0) rfl
    have k1 := hBf.cell_some (i := 1) rfl
    have k2 := hBf.cell_some (i := 2) rfl
    have hUf := ((HU.out.setCell (.int .i64 0) (p := ⟨q, 0, none⟩) (.inr (Nat.le_of_eq HQ.out.symm))).setCell (.int .i64 0) (p := ⟨q, 1, none⟩) (.inr (Nat.le_of_eq HQ.out.symm))).setCell (.slice none 0 0) (p := ⟨q, 2, none⟩) (.inr (Nat.le_of_eq HQ.out.symm))
    refine bodyPost_ret (v := .tuple #[.agg #[.int .i64 0, .int .i64 0, .slice none 0 0], .bool false]) ?_ rfl ⟨⟨_, rfl, .inr ⟨HLZ.out, rfl⟩⟩, hUf⟩
    simp [results, Try.results95, go_sem, k0, k1, k2]
end Go.Proofs.Ytkbnkpllbgofhaa
