/-
  Copy: the document's Live, Room, move.
-/
import Derived.Test.YtkbnkpllbgofhaaCopyG
namespace Go.Proofs.Ytkbnkpllbgofhaa
open Go.RowKit HeapM

theorem pos_inj {L : List HObj} {i j : Nat} {o o' : HObj} (hi : L[i]? = some o) (hj : L[j]? = some o') (h : posOf L i = posOf L j) : i = j := by
  have h1 := (List.getElem?_eq_some_iff.1 hi).1
  have h2 := (List.getElem?_eq_some_iff.1 hj).1
  rcases Nat.lt_trichotomy i j with h3 | h3 | h3
  · have := posOf_mono (L := L) h3 (by omega)
    omega
  · exact h3
  · have := posOf_mono (L := L) h3 (by omega)
    omega
theorem rat_in {w : World} {p n base : Nat} {L : List HObj} {v : Value} {bs : List Nat} (h : RHeap w p n base L v bs) {i : Nat} {o : HObj} (ho : L[i]? = some o) (r : Int) (hr : r = (posOf L i : Int) + 1) :
    Calls Try.prog 39 #[rptr p, .int .i64 r] w fun e w' => e = .returned (.tuple #[.agg #[.int .i64 r, .int .i64 o.1, .slice (some ⟨bs.getD i 0, 0, none⟩) o.2.length o.2.length], .bool true]) ∧ Upd [] w w' := by
  refine (rat_calls h r).mono ?_
  rintro e w' ⟨⟨v2, rfl, hv⟩, hu⟩
  refine ⟨?_, hu⟩
  rcases hv with ⟨i2, o2, ho2, hr2, hro2, rfl⟩ | ⟨hro2, rfl⟩
  · have : i2 = i := pos_inj ho2 ho (by omega)
    subst this
    rw [ho] at ho2
    cases ho2
    rfl
  · rw [hr, objR_pos ho] at hro2
    cases hro2
set_option maxRecDepth 100000 in
set_option maxHeartbeats 2000000 in
theorem rlive_calls {w : World} {p n base : Nat} {L : List HObj} {v : Value} {bs : List Nat} (h : RHeap w p n base L v bs) (a : Option Addr) (ws : List Int) (m c : Nat) (hn : ws.length = m) (hs : SlI w .u64 a ws) (hr : ∀ x ∈ ws, 0 ≤ x ∧ x < 18446744073709551616) (hnm : m ≤ 9223372036854775807) :
    Calls Try.prog 68 #[rptr p, .slice a m c] w fun e w' => e = .returned (.int .i64 (liveR L ws)) ∧ Upd [] w w' := by
  have hc := Lib.hid (rreached_calls h a ws m c hn hs hr hnm)
  have hsm := h.small
  have hmet : Met L (reachR L ws) := Met.bfs L ws L.length
  have hl6 := hmet.le hsm
  have hlen : Hid (∀ r, lenR L r ≤ 65536) := by
    intro r
    unfold lenR
    cases ho : objR L r with
    | none => simp
    | some o =>
      obtain ⟨q, e, hq⟩ := objR_some ho
      have := (at_some hq).1
      simp
      omega
  have H := Lib.hid h
  clear h hn hs hr
  unfold liveR rptr at *
  generalize reachR L ws = l at *
  go_enter Try.func68, Try.ntmps68
  go_wp2_with fail
  refine hc.out.mono ?_
  rintro e w1 ⟨a1, c1, rfl, hsl, hu⟩
  clear hc
  have HS := Lib.hid hsl
  have HU := Lib.hid hu
  clear hsl hu
  obtain ⟨k, hk⟩ : ∃ k, k = l.length := ⟨_, rfl⟩
  rw [← hk] at hl6
  have HK := Lib.hid hk
  rw [← hk]
  clear hk
  go_wp2_with fail
  go_loopw [5, 14] (fun s i wr => ∃ j : Nat, j ≤ k ∧ i = .int .i64 j ∧ s = .int .i64 (liveTo L l j) ∧ Hid (Upd [] w1 wr)) (fun _ i _ => k - (intOf i).toNat)
  case atStart => exact ⟨0, by omega, rfl, by simp [liveTo], Upd.refl _ _⟩
  case round =>
    obtain ⟨j, hj, rfl, rfl, hU⟩ := hrel
    by_cases hlt : j < k
    · have hjl : j < l.length := by rw [← HK.out]; exact hlt
      obtain ⟨b, o, rfl, hc⟩ := (HS.out.upd0 hU.out) j hjl
      have hst := Lib.hid (liveTo_succ (L := L) hjl)
      have hle := liveTo_le (l := l) hlen.out j
      have hl1 := hlen.out (l.getD j 0)
      obtain ⟨oi, ob, hob, hro⟩ := hmet.get (r := l.getD j 0) (by simp [List.getD_eq_getElem?_getD, hjl])
      have hla := lenR_at hob
      rw [← hro] at hla
      have hcl := Lib.hid (rat_in (H.out.upd0 (HU.out.then hU.out)) hob (l.getD j 0) hro)
      rw [hla] at hst hl1
      clear hjl hob hro hla
      generalize l.getD j 0 = r at *
      generalize ob.2.length = ln at *
      generalize liveTo L l j = s at *
      have hs6 : s ≤ 4295032832 := by omega
      go_wp2_with fail
      refine hcl.out.mono ?_
      rintro e w2 ⟨rfl, hu2⟩
      have hU2 := Lib.hid ((hU.out.then hu2).alloc (.cells #[.int .i64 r, .int .i64 ob.1, .slice (some ⟨bs.getD oi 0, 0, none⟩) ln ln] 61))
      clear hcl hc hu2 hU
      generalize ob.1 = kd at *
      generalize bs.getD oi 0 = bi at *
      go_wp2
      go_roundw
      case rel => exact ⟨j + 1, by omega, by go_num, by rw [hst.out]; go_num, hU2⟩
      case measure => simp [intOf]; omega
    · have hjm : j = k := by omega
      subst hjm
      have HF := Lib.hid (HU.out.then hU.out)
      clear hU
      go_wp2
      go_ret
      exact ⟨ret_int (by rw [HK.out]), HF.out⟩
theorem live_le {L : List HObj} (hs : HeapM.used L ≤ 65536) (ws : List Int) : liveR L ws ≤ 65536 := by
  have h1 := collect_live L ws
  have h2 := collect_le L ws
  omega
set_option maxRecDepth 100000 in
set_option maxHeartbeats 1000000 in
theorem rroom_calls {w : World} {p n base : Nat} {L : List HObj} {v : Value} {bs : List Nat} (h : RHeap w p n base L v bs) (a : Option Addr) (ws : List Int) (m c : Nat) (k : Int) (hn : ws.length = m) (hs : SlI w .u64 a ws) (hr : ∀ x ∈ ws, 0 ≤ x ∧ x < 18446744073709551616) (hnm : m ≤ 9223372036854775807) :
    Calls Try.prog 69 #[rptr p, .slice a m c, .int .i64 k] w fun e w' => e = .returned (.bool (decide (0 ≤ k ∧ k ≤ (n : Int) - liveR L ws))) ∧ Upd [] w w' := by
  have hd := (Upd.refl [] w).drew
  have hc := Lib.hid (rlive_calls (h.upd0 hd) a ws m c hn (hs.upd0 hd) hr hnm)
  have hb := live_le h.small ws
  have c0 := h.cells.1
  have hh := h.high
  clear h hn hs hr
  unfold rptr at *
  generalize liveR L ws = s at *
  have hw : IntKind.i64.wrap ((n : Int) - (s : Int)) = (n : Int) - (s : Int) := IntWalk.i64_in _ (by omega)
  have HD := Lib.hid hd
  clear hd
  by_cases hk : 0 ≤ k
  · have e0 : decide (0 ≤ k) = true := decide_eq_true hk
    by_cases hk2 : k ≤ (n : Int) - s
    · rw [decide_eq_true (And.intro hk hk2)]
      have e1 : decide (k ≤ (n : Int) - s) = true := decide_eq_true hk2
      go_enter Try.func69, Try.ntmps69
      go_wp2_with fail
      go_region_held3 (fun w' => w'.cell? ⟨p, 0, none⟩ = some (.int .i64 n)) (first | assumption | go_keep | exact (Upd.cell (by assumption) (by assumption) (by simp))) (first | (go_at_call 68; refine hc.out.mono ?_; rintro e w' ⟨rfl, hu⟩))
      go_wp2
      go_ret
      exact ⟨rfl, HD.out.then hu⟩
    · rw [decide_eq_false (fun hh => hk2 hh.2)]
      have e1 : decide (k ≤ (n : Int) - s) = false := decide_eq_false hk2
      go_enter Try.func69, Try.ntmps69
      go_wp2_with fail
      go_region_held3 (fun w' => w'.cell? ⟨p, 0, none⟩ = some (.int .i64 n)) (first | assumption | go_keep | exact (Upd.cell (by assumption) (by assumption) (by simp))) (first | (go_at_call 68; refine hc.out.mono ?_; rintro e w' ⟨rfl, hu⟩))
      go_wp2
      go_ret
      exact ⟨rfl, HD.out.then hu⟩
  · rw [decide_eq_false (fun hh => hk hh.1)]
    have e0 : decide (0 ≤ k) = false := decide_eq_false hk
    go_enter Try.func69, Try.ntmps69
    go_wp2_with fail
    go_quiet (fail)
    go_wp2
    go_ret
    exact ⟨rfl, (Upd.refl [] w).drewN _⟩

/-! ### move -/
set_option maxRecDepth 100000 in
set_option maxHeartbeats 1000000 in
theorem move_calls {w : World} {p n base : Nat} {L : List HObj} {v : Value} {bs : List Nat} (h : RHeap w p n base L v bs) {R : List Int} (hm : Met L R) (a a2 : Option Addr) (c c2 m : Nat) (hR : R.length = m) (hs : SlI w .i64 a R) (hs2 : SlI w .i64 a2 (posTo (newL L R) m)) (x : Int) (h0 : 0 ≤ x) (h1 : x ≤ 18446744073709551615) :
    Calls Try.prog 94 #[rptr p, .slice a m c, .slice a2 m c2, .int .u64 x] w fun e w' => e = .returned (.int .u64 (movedR L R x)) ∧ Upd [] w w' := by
  have hld := Lib.hid (lead_calls h x h0 h1)
  have hm6 : m ≤ 65536 := by rw [← hR]; exact hm.le h.small
  have HR := Lib.hid hR
  have HS := Lib.hid hs
  have HS2 := Lib.hid hs2
  clear h hR hs hs2
  unfold movedR
  by_cases hr : 0 < leadR L x
  · by_cases hin : leadR L x ∈ R
    · rw [if_pos ⟨hr, hin⟩]
      have hix := List.idxOf_lt_length_iff.2 hin
      have hpl : place R (leadR L x) = (R.idxOf (leadR L x) : Int) := by unfold place; rw [if_pos hin]
      have hhas := Lib.hid (fun w' (hu : Upd [] w w') => has_calls m c (leadR L x) HR.out (HS.out.upd0 hu) (by omega))
      rw [hpl] at hhas
      rw [HR.out] at hix
      have hpo : (posTo (newL L R) m).getD (R.idxOf (leadR L x)) 0 = (posOf (newL L R) (R.idxOf (leadR L x)) : Int) + 1 := by
        simp [posTo, List.getD_eq_getElem?_getD, hix]
      obtain ⟨pp, hpp⟩ : ∃ pp, pp = posOf (newL L R) (R.idxOf (leadR L x)) := ⟨_, rfl⟩
      rw [← hpp] at hpo ⊢
      have HPO := Lib.hid hpo
      clear hpl hpo hin hm hpp
      go_enter Try.func94, Try.ntmps94
      go_wp2_with fail
      refine hld.out.mono ?_
      rintro e w2 ⟨⟨v2, rfl, hv⟩, hu2⟩
      rcases hv with ⟨hpos, i, o', ho, hpo, rfl⟩ | ⟨hz, rfl⟩
      · have hU3 := hu2.alloc (.cells #[.int .i64 (leadR L x), .int .i64 o'.1, .slice (some ⟨bs.getD i 0, 0, none⟩) o'.2.length o'.2.length] 61)
        have hh2 := Lib.hid (hhas.out _ hU3)
        obtain ⟨b2, o2, rfl, hc2⟩ := (HS2.out.upd0 hU3) (R.idxOf (leadR L x)) (by rw [posTo_len]; exact hix)
        rw [HPO.out] at hc2
        have HU3 := Lib.hid hU3
        clear hU3 hu2 hpos ho hpo hhas hld
        have hb2 := World.block_lt_of_cell? _ _ hc2
        simp only at hb2
        generalize R.idxOf (leadR L x) = ix at *
        generalize leadR L x = r at *
        generalize o'.2.length = ln at *
        generalize o'.1 = kd at *
        generalize bs.getD i 0 = bi at *
        go_wp2_with fail
        refine hh2.out.mono ?_
        rintro e w3 ⟨rfl, rfl⟩
        clear hh2
        go_wp2_with fail
        refine (rref_calls _ _).mono ?_
        rintro e w3 ⟨rfl, rfl⟩
        go_wp2
        go_ret
        exact ⟨rfl, HU3.out⟩
      · omega
    · rw [if_neg (fun hh => hin hh.2)]
      have hpl : place R (leadR L x) = -1 := by unfold place; rw [if_neg hin]
      have hhas := Lib.hid (fun w' (hu : Upd [] w w') => has_calls m c (leadR L x) HR.out (HS.out.upd0 hu) (by omega))
      rw [hpl] at hhas
      clear hpl hin hm
      go_enter Try.func94, Try.ntmps94
      go_wp2_with fail
      refine hld.out.mono ?_
      rintro e w2 ⟨⟨v2, rfl, hv⟩, hu2⟩
      rcases hv with ⟨hpos, i, o', ho, hpo, rfl⟩ | ⟨hz, rfl⟩
      · have hU3 := hu2.alloc (.cells #[.int .i64 (leadR L x), .int .i64 o'.1, .slice (some ⟨bs.getD i 0, 0, none⟩) o'.2.length o'.2.length] 61)
        have hh2 := Lib.hid (hhas.out _ hU3)
        have HU3 := Lib.hid hU3
        clear hU3 hu2 hpos ho hpo hhas hld
        generalize leadR L x = r at *
        generalize o'.2.length = ln at *
        generalize o'.1 = kd at *
        generalize bs.getD i 0 = bi at *
        go_wp2_with fail
        refine hh2.out.mono ?_
        rintro e w3 ⟨rfl, rfl⟩
        clear hh2
        go_wp2
        go_ret
        exact ⟨rfl, HU3.out⟩
      · omega
  · rw [if_neg (fun hh => hr hh.1)]
    go_enter Try.func94, Try.ntmps94
    go_wp2_with fail
    refine hld.out.mono ?_
    rintro e w2 ⟨⟨v2, rfl, hv⟩, hu2⟩
    rcases hv with ⟨hpos, i, o', ho, hpo, rfl⟩ | ⟨hz, rfl⟩
    · omega
    · have HU3 := Lib.hid (hu2.alloc (.cells #[.int .i64 0, .int .i64 0, .slice none 0 0] 61))
      clear hu2
      go_wp2
      go_ret
      exact ⟨rfl, HU3.out⟩
end Go.Proofs.Ytkbnkpllbgofhaa
