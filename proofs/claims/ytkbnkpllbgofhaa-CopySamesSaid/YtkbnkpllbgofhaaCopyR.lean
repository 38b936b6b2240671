/-
  Copy: reach.
-/
import Derived.Test.YtkbnkpllbgofhaaCopyV
namespace Go.Proofs.Ytkbnkpllbgofhaa
open Go.RowKit HeapM

/-- What reach gives. -/
def ReachPost (v : Value) (L : List HObj) (ws : List Int) (w : World) (e : Ending) (w' : World) : Prop := ∃ q mb, e = .returned (.pointer (some ⟨q, 0, none⟩)) ∧ Que w w' q mb v L (reachR L ws)
theorem meets_take {L : List HObj} {l xs : List Int} {j : Nat} (h : j < xs.length) : meetsR L l (xs.take (j + 1)) = meetR L (meetsR L l (xs.take j)) (xs.getD j 0) := by
  rw [List.take_succ_eq_append_getElem h, meets_snoc]
  simp [List.getD_eq_getElem?_getD, h]
theorem meet_len (L : List HObj) (l : List Int) (x : Int) : l.length ≤ (meetR L l x).length := by
  unfold meetR
  split <;> simp
theorem meets_len (L : List HObj) : ∀ (ws l : List Int), l.length ≤ (meetsR L l ws).length
  | [], _ => Nat.le_refl _
  | x :: ws, l => Nat.le_trans (meet_len L l x) (meets_len L ws (meetR L l x))
theorem scan_len (L : List HObj) (l : List Int) (r : Int) : l.length ≤ (scanR L l r).length := by
  unfold scanR
  split
  · exact meets_len _ _ _
  · exact Nat.le_refl _
theorem length_used (L : List HObj) : L.length ≤ HeapM.used L := by
  induction L with
  | nil => simp
  | cons a L ih => simp only [List.length_cons, HeapM.used]; omega
theorem Que.step {w0 w w' : World} {q mb : Nat} {v : Value} {L : List HObj} {l : List Int} (h : Que w0 w q mb v L l) (hu : Upd [] w w') : Que w0 w' q mb v L l := by
  obtain ⟨⟨lv, hb, hown⟩, h2, h3, h4, h5, h6, h7⟩ := h
  exact ⟨⟨lv, hu.blk hb (by simp), own_upd0 hown hu⟩, h2.kept (hu.block mb h2.lt (by simp)), h3, h4.then hu, h5, h6, h7⟩
theorem Que.new {w W : World} {v : Value} {L : List HObj} (hv : HV w v L) (hW : W = (w.alloc (.map #[] 0)).alloc (.cells #[v, .slice none 0 0, .map (some w.heap.size)] 133)) :
    Que w W (w.heap.size + 1) w.heap.size v L [] := by
  subst hW
  refine ⟨⟨.slice none 0 0, Blk.newAt (by simp), World.ownsRow_nil _ _ _ _⟩, ?_, Met.nil L, ((Upd.refl [] w).alloc _).alloc _, hv, by omega, Nat.le_refl _⟩
  have h := NumMap.made w
  have := h.lt
  exact h.kept (Below.heap_alloc _ _ _ this)
theorem Que.parts {w0 w : World} {q mb : Nat} {v : Value} {L : List HObj} {l : List Int} (h : Que w0 w q mb v L l) :
    ∃ a c, w.cell? ⟨q, 1, none⟩ = some (.slice a l.length c) ∧ w.cell? ⟨q, 0, none⟩ = some v ∧ w.cell? ⟨q, 2, none⟩ = some (.map (some mb)) ∧ SlI w .i64 a l := by
  obtain ⟨lv, hb, hown⟩ := h.blk
  obtain ⟨a, c, rfl, hl, hs⟩ := own_SlI hown
  exact ⟨a, c, hb.cell_some rfl, hb.cell_some rfl, hb.cell_some rfl, hs⟩
set_option maxRecDepth 100000 in
set_option maxHeartbeats 2000000 in
theorem reach_calls {w : World} {v : Value} {L : List HObj} (h : HV w v L) (a : Option Addr) (ws : List Int) (n c : Nat) (hn : ws.length = n) (hs : SlI w .u64 a ws) (hr : ∀ x ∈ ws, 0 ≤ x ∧ x < 18446744073709551616) (hnm : n ≤ 9223372036854775807) :
    Calls Try.prog 88 #[v, .slice a n c] w (ReachPost v L ws w) := by
  obtain ⟨pa, rfl⟩ : ∃ pa, v = .pointer pa := by
    rcases h with ⟨h | ⟨p, h, _⟩, _⟩ | ⟨p, bw, bk, n, h, _⟩
    · exact ⟨_, h⟩
    · exact ⟨_, h⟩
    · exact ⟨_, h⟩
  have hmm := @run_makeMap Try.prog
  obtain ⟨W1, hW1⟩ : ∃ W1, W1 = (w.alloc (.map #[] 0)).alloc (.cells #[.pointer pa, .slice none 0 0, .map (some w.heap.size)] 133) := ⟨_, rfl⟩
  have hQ0 := Lib.hid (Que.new h hW1)
  have HS := Lib.hid hs
  have HR := Lib.hid hr
  have HN := Lib.hid hn
  have hsm := h.small
  have HK := Lib.hid h.kinds
  have HWd := Lib.hid h.words
  clear h hs hr hn
  go_enter Try.func88, Try.ntmps88
  go_wp2_with fail
  rw [← hW1]
  clear hW1 hmm
  obtain ⟨q, hq⟩ : ∃ q, q = w.heap.size + 1 := ⟨_, rfl⟩
  obtain ⟨mb, hmb⟩ : ∃ mb, mb = w.heap.size := ⟨_, rfl⟩
  rw [← hq] at hQ0 ⊢
  rw [← hmb] at hQ0
  clear hq hmb
  go_loopw [18] (fun i wr => ∃ j : Nat, j ≤ n ∧ i = .int .i64 j ∧ Hid (Que w wr q mb (.pointer pa) L (meetsR L [] (ws.take j)))) (fun i _ => n - (intOf i).toNat)
  case atStart => exact ⟨0, by omega, rfl, by simpa [meetsR] using hQ0⟩
  case round =>
    obtain ⟨j, hj, rfl, hQ⟩ := hrel
    by_cases hlt : j < n
    · have hjl : j < ws.length := by rw [HN.out]; exact hlt
      obtain ⟨b, o, rfl, hc⟩ := (HS.out.upd0 hQ.out.upd) j hjl
      have hx := HR.out (ws.getD j 0) (by simp [List.getD_eq_getElem?_getD, hjl])
      have hm := meet_calls hQ.out (ws.getD j 0) hx.1 (by omega)
      rw [← meets_take hjl] at hm
      have HM := Lib.hid hm
      clear hm hjl
      generalize ws.getD j 0 = x at *
      go_wp2_with fail
      refine HM.out.mono ?_
      rintro e w' ⟨rfl, hQ', hKW⟩
      have HQ := Lib.hid hQ'
      clear hQ' hKW hc HM hQ
      go_wp2
      go_roundw
      case rel => exact ⟨j + 1, by omega, by go_num, HQ⟩
      case measure => simp [intOf]; omega
    · have hjn : j = n := by omega
      subst hjn
      have hQ1 : Hid (Que w wr q mb (.pointer pa) L (bfs L ws 0)) := by
        have := hQ.out
        rw [List.take_of_length_le (by rw [HN.out]; exact Nat.le_refl _)] at this
        exact this
      clear hQ
      go_wp2_with fail
      go_loopw [8] (fun i wr => ∃ j : Nat, i = .int .i64 j ∧ Hid (j ≤ (bfs L ws j).length) ∧ Hid (Que w wr q mb (.pointer pa) L (bfs L ws j))) (fun i _ => L.length - (intOf i).toNat)
      case atStart => exact ⟨0, rfl, Nat.zero_le _, hQ1⟩
      case round =>
        obtain ⟨i0, rfl, hi, hQ⟩ := hrel
        have hlenb := hQ.out.met.len
        by_cases hlt2 : i0 < (bfs L ws i0).length
        · obtain ⟨a1, c1, p1, p0, p2, hsl⟩ := hQ.out.parts
          obtain ⟨b, o, rfl, hc⟩ := hsl i0 hlt2
          have hnx := bfs_next hlt2
          have hil : i0 < L.length := by omega
          have hin : i0 + 1 ≤ (bfs L ws (i0 + 1)).length := by
            rw [hnx]
            exact Nat.le_trans hlt2 (scan_len _ _ _)
          have HNX := Lib.hid hnx
          have HIN := Lib.hid hin
          clear hnx hin
          obtain ⟨r, hr⟩ : ∃ r, r = (bfs L ws i0).getD i0 0 := ⟨_, rfl⟩
          rw [← hr] at hc HNX
          clear hr hsl
          obtain ⟨len, hlen⟩ : ∃ len, len = (bfs L ws i0).length := ⟨_, rfl⟩
          rw [← hlen] at p1 hlt2 hlenb
          clear hlen hlenb
          have hlb : (i0 : Int) < len := by omega
          have hLs : L.length ≤ 65536 := Nat.le_trans (length_used L) hsm
          have hk := Lib.hid ((hQ.out.hv.upd0 hQ.out.upd).kind r)
          go_wp2_with fail
          refine hk.out.mono ?_
          rintro e w' ⟨rfl, rfl⟩
          clear hk
          go_wp2_with fail
          refine (scanned_calls _ _).mono ?_
          rintro e w2 ⟨rfl, hu2⟩
          have hQ2 := Lib.hid (hQ.out.step hu2)
          clear p0 p1 p2 hc hQ hu2
          by_cases hsc : scanned (kindR L r) = true
          · rw [hsc]
            have hex : bfs L ws (i0 + 1) = meetsR L (bfs L ws i0) (wordsR L r) := by
              rw [HNX.out]
              unfold scanR
              rw [if_pos hsc]
            have HX := Lib.hid hex
            clear hex hsc HNX
            generalize kindR L r = kd at *
            go_wp2_with fail
            refine (words_calls (hQ2.out.hv.upd0 hQ2.out.upd) r).mono ?_
            rintro e w3 ⟨bb, rfl, hB, hbb, hu3⟩
            have hQ3 := Lib.hid (hQ2.out.step hu3)
            have hwl := wordsR_len L r
            have hwm := (hQ2.out.hv).lens r
            have hwr := Lib.hid (wordsR_range HWd.out r)
            generalize wordsR L r = wd at *
            have hwm' : wd.length ≤ 65536 := by omega
            have HB := Lib.hid hB
            clear hB hu3 hwl hwm hQ2
            go_wp2_with fail
            obtain ⟨wo, rfl⟩ : ∃ wo : World, wo = w3 := ⟨_, rfl⟩
            go_loopw [50] (fun i wr => ∃ j : Nat, j ≤ wd.length ∧ i = .int .i64 j ∧ Hid (Que w wr q mb (.pointer pa) L (meetsR L (bfs L ws i0) (wd.take j))) ∧ Hid (Blk wr bb (wd.map (.int .u64)) 31)) (fun i _ => wd.length - (intOf i).toNat)
            case atStart => exact ⟨0, by omega, rfl, by simpa [meetsR] using hQ3, HB⟩
            case round =>
              obtain ⟨j2, hj2, rfl, hQ, hB⟩ := hrel
              by_cases hlt3 : j2 < wd.length
              · have hx := hwr.out (wd.getD j2 0) (by simp [List.getD_eq_getElem?_getD, hlt3])
                have hc := hB.out.cell_some (i := j2) (v := .int .u64 (wd.getD j2 0)) (by
                  rw [map_int_get, List.getElem?_eq_getElem hlt3, List.getD_eq_getElem?_getD, List.getElem?_eq_getElem hlt3]
                  rfl)
                have hm := meet_calls hQ.out (wd.getD j2 0) hx.1 (by omega)
                rw [← meets_take hlt3] at hm
                have HM := Lib.hid hm
                clear hm
                generalize wd.getD j2 0 = x at *
                go_wp2_with fail
                refine HM.out.mono ?_
                rintro e w' ⟨rfl, hQ', hKW⟩
                have HQ := Lib.hid hQ'
                have HBn := Lib.hid (hKW _ _ hB.out)
                clear hQ' hKW hc HM hQ hB
                go_wp2
                go_roundw
                case rel => exact ⟨j2 + 1, by omega, by go_num, HQ, HBn⟩
                case measure => simp [intOf]; omega
              · have hjn2 : j2 = wd.length := by omega
                have hQ6 := hQ.out
                rw [hjn2, List.take_of_length_le (Nat.le_refl _), ← HX.out] at hQ6
                have hQ5 := Lib.hid hQ6
                clear hQ hB hj2 hQ6 hjn2
                go_wp2
                go_roundw
                case rel => exact ⟨i0 + 1, by go_num, HIN, hQ5⟩
                case measure => simp [intOf]; omega
          · have hsc' : scanned (kindR L r) = false := by simpa using hsc
            rw [hsc']
            have hQ5 : Hid (Que w w2 q mb (.pointer pa) L (bfs L ws (i0 + 1))) := by
              have := hQ2.out
              rw [HNX.out]
              unfold scanR
              rw [if_neg hsc]
              exact this
            clear hsc hsc' HNX hQ2
            generalize kindR L r = kd at *
            go_wp2
            go_roundw
            case rel => exact ⟨i0 + 1, by go_num, HIN, hQ5⟩
            case measure => simp [intOf]; omega
        · have hd := bfs_done hi.out (show (bfs L ws i0).length ≤ i0 by omega)
          have hP : Hid (ReachPost (.pointer pa) L ws w (.returned (.pointer (some ⟨q, 0, none⟩))) wr) := ⟨q, mb, rfl, by rw [← hd]; exact hQ.out⟩
          obtain ⟨a1, c1, p1, p0, p2, hsl⟩ := hQ.out.parts
          obtain ⟨len, hlen⟩ : ∃ len, len = (bfs L ws i0).length := ⟨_, rfl⟩
          rw [← hlen] at p1 hlt2
          clear hlen hd hsl hQ
          go_wp2
          go_ret
          exact hP.out
end Go.Proofs.Ytkbnkpllbgofhaa
