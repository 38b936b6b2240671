/-
  Copy: Reached, Live, Room.
-/
import Derived.Test.YtkbnkpllbgofhaaCopyR
namespace Go.Proofs.Ytkbnkpllbgofhaa
open Go.RowKit HeapM

/-- What Reached gives. -/
def ReachedPost (l : List Int) (w : World) (e : Ending) (w' : World) : Prop := ∃ a c, e = .returned (.slice a l.length c) ∧ SlI w' .i64 a l ∧ Upd [] w w'
set_option maxHeartbeats 1000000 in
theorem reached_calls {w : World} {v : Value} {L : List HObj} (h : HV w v L) (a : Option Addr) (ws : List Int) (n c : Nat) (hn : ws.length = n) (hs : SlI w .u64 a ws) (hr : ∀ x ∈ ws, 0 ≤ x ∧ x < 18446744073709551616) (hnm : n ≤ 9223372036854775807) :
    Calls Try.prog 54 #[v, .slice a n c] w (ReachedPost (reachR L ws) w) := by
  have hc := Lib.hid (reach_calls h a ws n c hn hs hr hnm)
  clear h hn hs hr
  go_enter Try.func54, Try.ntmps54
  go_wp2_with fail
  refine hc.out.mono ?_
  rintro e w1 ⟨q, mb, rfl, hq⟩
  obtain ⟨a1, c1, p1, p0, p2, hsl⟩ := hq.parts
  have hP : Hid (ReachedPost (reachR L ws) w (.returned (.slice a1 (reachR L ws).length c1)) w1) := ⟨_, _, rfl, hsl, hq.upd⟩
  clear hq hsl p0 p2 hc
  generalize (reachR L ws).length = m at *
  go_wp2
  go_ret
  exact hP.out

/-- What the first so many take. -/
def liveTo (L : List HObj) (l : List Int) (j : Nat) : Nat := ((l.take j).map (fun r => lenR L r + 1)).sum
theorem liveTo_succ {L : List HObj} {l : List Int} {j : Nat} (h : j < l.length) : liveTo L l (j + 1) = liveTo L l j + (lenR L (l.getD j 0) + 1) := by
  unfold liveTo
  rw [List.take_succ_eq_append_getElem h, List.map_append, List.sum_append]
  simp [List.getD_eq_getElem?_getD, h]
theorem liveTo_le' {L : List HObj} {l : List Int} {B : Nat} (hl : ∀ r, lenR L r + 1 ≤ B) (j : Nat) : liveTo L l j ≤ j * B := by
  induction j with
  | zero => simp [liveTo]
  | succ j ih =>
    rw [Nat.succ_mul]
    rcases Nat.lt_or_ge j l.length with h | h
    · rw [liveTo_succ h]
      exact Nat.add_le_add ih (hl _)
    · have e : liveTo L l (j + 1) = liveTo L l j := by
        unfold liveTo
        rw [List.take_of_length_le (by omega), List.take_of_length_le h]
      rw [e]
      exact Nat.le_trans ih (Nat.le_add_right _ _)
theorem liveTo_le {L : List HObj} {l : List Int} (hl : ∀ r, lenR L r ≤ 65536) (j : Nat) : liveTo L l j ≤ j * 65537 :=
  liveTo_le' (fun r => Nat.succ_le_succ (hl r)) j
def liveR (L : List HObj) (ws : List Int) : Nat := liveTo L (reachR L ws) (reachR L ws).length
set_option maxHeartbeats 1000000 in
theorem live_calls {w : World} {v : Value} {L : List HObj} (h : HV w v L) (a : Option Addr) (ws : List Int) (n c : Nat) (hn : ws.length = n) (hs : SlI w .u64 a ws) (hr : ∀ x ∈ ws, 0 ≤ x ∧ x < 18446744073709551616) (hnm : n ≤ 9223372036854775807) :
    Calls Try.prog 55 #[v, .slice a n c] w fun e w' => e = .returned (.int .i64 (liveR L ws)) ∧ Upd [] w w' := by
  have hc := Lib.hid (reached_calls h a ws n c hn hs hr hnm)
  have hsm := h.small
  have hlen := Lib.hid h.lens
  have hll := (Met.bfs L ws L.length).len
  have hLu := length_used L
  have H := Lib.hid h
  clear h hn hs hr
  unfold liveR
  change (reachR L ws).length ≤ L.length at hll
  generalize reachR L ws = l at *
  go_enter Try.func55, Try.ntmps55
  go_wp2_with fail
  refine hc.out.mono ?_
  rintro e w1 ⟨a1, c1, rfl, hsl, hu⟩
  clear hc
  have HS := Lib.hid hsl
  have HU := Lib.hid hu
  clear hsl hu
  obtain ⟨m, hm⟩ : ∃ m, m = l.length := ⟨_, rfl⟩
  rw [← hm] at hll
  have HM := Lib.hid hm
  rw [← hm]
  clear hm
  go_wp2_with fail
  go_loopw [5, 12] (fun s i wr => ∃ j : Nat, j ≤ m ∧ i = .int .i64 j ∧ s = .int .i64 (liveTo L l j) ∧ Hid (Upd [] w1 wr)) (fun _ i _ => m - (intOf i).toNat)
  case atStart => exact ⟨0, by omega, rfl, by simp [liveTo], Upd.refl _ _⟩
  case round =>
    obtain ⟨j, hj, rfl, rfl, hU⟩ := hrel
    by_cases hlt : j < m
    · have hjl : j < l.length := by rw [← HM.out]; exact hlt
      obtain ⟨b, o, rfl, hc⟩ := (HS.out.upd0 hU.out) j hjl
      have hst := Lib.hid (liveTo_succ (L := L) hjl)
      have hle := liveTo_le (l := l) hlen.out j
      have hl1 := hlen.out (l.getD j 0)
      have hcl := Lib.hid ((H.out.upd0 (HU.out.then hU.out)).len (l.getD j 0))
      have hj6 : j ≤ 65536 := by omega
      clear hjl
      generalize l.getD j 0 = r at *
      generalize lenR L r = k at *
      generalize liveTo L l j = s at *
      have hs6 : s ≤ 4295032832 := by omega
      go_wp2_with fail
      refine hcl.out.mono ?_
      rintro e w' ⟨rfl, rfl⟩
      clear hcl hc
      go_wp2
      go_roundw
      case rel => exact ⟨j + 1, by omega, by go_num, by rw [hst.out]; go_num, hU⟩
      case measure => simp [intOf]; omega
    · have hjm : j = m := by omega
      subst hjm
      have HF := Lib.hid (HU.out.then hU.out)
      clear hU
      go_wp2
      go_ret
      exact ⟨ret_int (by rw [HM.out]), HF.out⟩
set_option maxHeartbeats 1000000 in
theorem room_calls {w : World} {p bw bk nn : Nat} {L : List HObj} (h : HeapA w p bw bk nn L) (a : Option Addr) (ws : List Int) (n c : Nat) (k : Int) (hn : ws.length = n) (hs : SlI w .u64 a ws) (hr : ∀ x ∈ ws, 0 ≤ x ∧ x < 18446744073709551616) (hnm : n ≤ 9223372036854775807) :
    Calls Try.prog 61 #[hptr p, .slice a n c, .int .i64 k] w fun e w' => e = .returned (.bool (decide (0 ≤ k ∧ k ≤ (nn : Int) - liveR L ws))) ∧ Upd [] w w' := by
  have hV : HV w (hptr p) L := .inr ⟨p, bw, bk, nn, rfl, h⟩
  have hc := Lib.hid (live_calls hV a ws n c hn hs hr hnm)
  have hwd := Lib.hid (words_A h)
  have hl := liveTo_le (l := reachR L ws) hV.lens (reachR L ws).length
  have hll := (Met.bfs L ws L.length).len
  change (reachR L ws).length ≤ L.length at hll
  have hLu := length_used L
  have hsm := hV.small
  have hroom := h.room
  have hb : liveR L ws ≤ 4295032832 := by
    unfold liveR
    omega
  clear h hV hn hs hr hl hll hLu
  generalize liveR L ws = s at *
  by_cases hk : 0 ≤ k
  · by_cases hk2 : k ≤ (nn : Int) - s
    · rw [decide_eq_true (And.intro hk hk2)]
      go_enter Try.func61, Try.ntmps61
      go_wp2_with fail
      refine hwd.out.mono ?_
      rintro e w1 ⟨rfl, rfl⟩
      go_wp2_with fail
      refine hc.out.mono ?_
      rintro e w1 ⟨rfl, hu⟩
      have hU := Lib.hid hu; clear hu
      go_wp2
      go_ret
      exact ⟨rfl, hU.out⟩
    · rw [decide_eq_false (fun hh => hk2 hh.2)]
      have hd := decide_eq_false hk2
      go_enter Try.func61, Try.ntmps61
      go_wp2_with fail
      refine hwd.out.mono ?_
      rintro e w1 ⟨rfl, rfl⟩
      go_wp2_with fail
      refine hc.out.mono ?_
      rintro e w1 ⟨rfl, hu⟩
      have hU := Lib.hid hu; clear hu
      go_wp2
      go_ret
      exact ⟨rfl, hU.out⟩
  · rw [decide_eq_false (fun hh => hk hh.1)]
    go_enter Try.func61, Try.ntmps61
    go_wp2
    go_ret
    exact ⟨rfl, Upd.refl _ _⟩
end Go.Proofs.Ytkbnkpllbgofhaa
