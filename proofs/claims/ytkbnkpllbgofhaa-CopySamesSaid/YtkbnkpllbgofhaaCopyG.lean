/-
  Copy: the document's Reached.
-/
import Derived.Test.YtkbnkpllbgofhaaCopyF
namespace Go.Proofs.Ytkbnkpllbgofhaa
open Go.RowKit HeapM

/-- A list in the call's own memory. -/
def IntRow (w0 w : World) (lv : Value) (l : List Int) : Prop := w.ownsRow w0.heap.size 3 1 lv l.length (l.map (.int .i64))
theorem IntRow.own {w0 w : World} {lv : Value} {l : List Int} (h : IntRow w0 w lv l) : w.ownsRow w0.heap.size 3 1 lv l.length (l.map (.int .i64)) := h
theorem IntRow.form {w0 w : World} {lv : Value} {l : List Int} (h : IntRow w0 w lv l) : ∃ a c, lv = .slice a l.length c ∧ SlI w .i64 a l := by
  obtain ⟨a, c, rfl, _, hs⟩ := own_SlI h
  exact ⟨a, c, rfl, hs⟩
theorem IntRow.step {w0 w w' : World} {lv : Value} {l : List Int} (h : IntRow w0 w lv l) (hu : Upd [] w w') : IntRow w0 w' lv l := own_upd0 h hu
theorem Met.le {L : List HObj} {l : List Int} (h : Met L l) (hs : HeapM.used L ≤ 65536) : l.length ≤ 65536 := Nat.le_trans h.len (Nat.le_trans (length_used L) hs)
theorem RHeap.small {w : World} {p n base : Nat} {L : List HObj} {v : Value} {bs : List Nat} (h : RHeap w p n base L v bs) : HeapM.used L ≤ 65536 := Nat.le_trans h.room h.high
theorem wordsR_at {L : List HObj} {i : Nat} {o : HObj} (h : L[i]? = some o) : wordsR L ((posOf L i : Int) + 1) = o.2 := by
  unfold wordsR
  rw [objR_pos h]
  rfl
theorem kindR_at {L : List HObj} {i : Nat} {o : HObj} (h : L[i]? = some o) : kindR L ((posOf L i : Int) + 1) = o.1 := by
  unfold kindR
  rw [objR_pos h]
  rfl
theorem lenR_at {L : List HObj} {i : Nat} {o : HObj} (h : L[i]? = some o) : lenR L ((posOf L i : Int) + 1) = o.2.length := by
  unfold lenR
  rw [objR_pos h]
  rfl
/-- An object that was met is there. -/
theorem Met.get {L : List HObj} {l : List Int} (h : Met L l) {r : Int} (hr : r ∈ l) : ∃ i o, L[i]? = some o ∧ r = (posOf L i : Int) + 1 := by
  have := h.sub r hr
  rw [objsR_pos] at this
  simp only [List.mem_map, List.mem_range] at this
  obtain ⟨i, hi, e⟩ := this
  exact ⟨i, _, List.getElem?_eq_getElem hi, e.symm⟩
theorem RHeap.row {w : World} {p n base : Nat} {L : List HObj} {v : Value} {bs : List Nat} (h : RHeap w p n base L v bs) {i : Nat} {o : HObj} (ho : L[i]? = some o) : SlI w .u64 (some ⟨bs.getD i 0, 0, none⟩) o.2 := fun k hk =>
  ⟨_, 0, rfl, by rw [Nat.zero_add]; exact (h.word ho hk).1⟩
/-- What Reached gives, and where it lies. -/
def ReachedPostT (l : List Int) (w : World) (e : Ending) (w' : World) : Prop := ∃ a c, e = .returned (.slice a l.length c) ∧ SlI w' .i64 a l ∧ Upd [] w w' ∧ ∀ b o, a = some ⟨b, o, none⟩ → ∃ cs, Blk w' b cs 3
theorem IntRow.post {w0 w : World} {lv : Value} {l : List Int} (h : IntRow w0 w lv l) (hu : Upd [] w0 w) : ReachedPostT l w0 (.returned lv) w := by
  have hb : ∀ k, lv.ownBlock = some k → ∃ cs, Blk w k cs 3 := fun k hk => own_blk h.own hk
  obtain ⟨a, c, rfl, hs⟩ := h.form
  exact ⟨a, c, rfl, hs, hu, fun b o e => hb b (by subst e; rfl)⟩
set_option maxRecDepth 100000 in
set_option maxHeartbeats 4000000 in
theorem rreached_T {w : World} {p n base : Nat} {L : List HObj} {v : Value} {bs : List Nat} (h : RHeap w p n base L v bs) (a : Option Addr) (ws : List Int) (m c : Nat) (hn : ws.length = m) (hs : SlI w .u64 a ws) (hr : ∀ x ∈ ws, 0 ≤ x ∧ x < 18446744073709551616) (hnm : m ≤ 9223372036854775807) :
    Calls Try.prog 67 #[rptr p, .slice a m c] w (ReachedPostT (reachR L ws) w) := by
  have hsm := h.small
  have hWd := Lib.hid h.words
  have H := Lib.hid h
  have HS := Lib.hid hs
  have HR := Lib.hid hr
  have HN := Lib.hid hn
  clear h hs hr hn
  unfold rptr
  go_enter Try.func67, Try.ntmps67
  go_wp2_with fail
  go_loopw [5, 19] (fun lv i wr => ∃ j : Nat, j ≤ m ∧ i = .int .i64 j ∧ Hid (Upd [] w wr) ∧ Hid (IntRow w wr lv (meetsR L [] (ws.take j)))) (fun _ i _ => m - (intOf i).toNat)
  case atStart => exact ⟨0, by omega, rfl, Upd.refl _ _, World.ownsRow_nil _ _ _ _⟩
  case round =>
    obtain ⟨j, hj, rfl, hU, hO⟩ := hrel
    by_cases hlt : j < m
    · have hjl : j < ws.length := by rw [HN.out]; exact hlt
      obtain ⟨b, o, rfl, hc⟩ := (HS.out.upd0 hU.out) j hjl
      have hx := HR.out (ws.getD j 0) (by simp [List.getD_eq_getElem?_getD, hjl])
      have hmt := Lib.hid (meets_take (L := L) (l := []) hjl)
      have hmet := (Met.nil L).meets (ws.take j)
      generalize meetsR L [] (ws.take j) = l at *
      have hl6 := hmet.le hsm
      clear hjl
      generalize ws.getD j 0 = x at *
      have hld := Lib.hid (lead_calls (H.out.upd0 hU.out) x hx.1 (by omega))
      go_wp2_with fail
      refine hld.out.mono ?_
      clear hld hc
      rintro e w2 ⟨⟨v2, rfl, hv⟩, hu2⟩
      have hO2 := hO.out.step hu2
      have hU2 := hU.out.then hu2
      clear hO hU
      rcases hv with ⟨hpos, i, o', ho, hpo, rfl⟩ | ⟨hz, rfl⟩
      · have hO3 := Lib.hid (hO2.step ((Upd.refl [] w2).alloc (.cells #[.int .i64 (leadR L x), .int .i64 o'.1, .slice (some ⟨bs.getD i 0, 0, none⟩) o'.2.length o'.2.length] 61)))
        have hU3 := Lib.hid (hU2.alloc (.cells #[.int .i64 (leadR L x), .int .i64 o'.1, .slice (some ⟨bs.getD i 0, 0, none⟩) o'.2.length o'.2.length] 61))
        obtain ⟨sa, sc, rfl, hss⟩ := hO3.out.form
        have hhas := Lib.hid (has_calls l.length sc (leadR L x) rfl hss (by omega))
        have hsz3 := hU3.out.size
        simp at hsz3
        clear hss hu2 hO2 hU2 ho hpo
        by_cases hin : leadR L x ∈ l
        · have e1 : decide (place l (leadR L x) < 0) = false := by
            have := place_nonneg l (leadR L x)
            rw [decide_eq_true hin, decide_eq_true_eq] at this
            simp
            exact this
          have hre : meetsR L [] (ws.take (j + 1)) = l := by
            rw [hmt.out]
            unfold meetR
            rw [if_neg (fun hh => hh.2 hin)]
          have HRE := Lib.hid hre
          clear hre hin hmt hmet
          generalize place l (leadR L x) = pl at *
          generalize leadR L x = r at *
          generalize o'.2.length = ln at *
          generalize o'.1 = kd at *
          generalize bs.getD i 0 = bi at *
          go_wp2_with fail
          refine hhas.out.mono ?_
          rintro e w3 ⟨rfl, rfl⟩
          clear hhas
          go_wp2
          go_roundw
          case rel => exact ⟨j + 1, by omega, by go_num, hU3, by rw [HRE.out]; exact hO3⟩
          case measure => simp [intOf]; omega
        · have e1 : decide (place l (leadR L x) < 0) = true := by
            have := place_nonneg l (leadR L x)
            rw [decide_eq_false hin, decide_eq_false_iff_not] at this
            simp
            omega
          have hre : meetsR L [] (ws.take (j + 1)) = l ++ [leadR L x] := by
            rw [hmt.out]
            unfold meetR
            rw [if_pos ⟨hpos, hin⟩]
          have HRE := Lib.hid hre
          clear hre hin hmt hmet
          generalize place l (leadR L x) = pl at *
          generalize leadR L x = r at *
          generalize o'.2.length = ln at *
          generalize o'.1 = kd at *
          generalize bs.getD i 0 = bi at *
          go_wp2_with fail
          refine hhas.out.mono ?_
          rintro e w3 ⟨rfl, rfl⟩
          clear hhas
          go_wp2_with (at_builtin; refine wpList_app rfl _ _ 41 rfl w.heap.size 3 (.int .i64 0) 1 8 Try.underlying41 info_int rfl (by decide) _ _ _ rfl (IntRow.own hO3.out) [.int .i64 r] 1 (by simp; rfl) rfl (one1 rfl) (by unfold maxLen; omega) (by omega) (by simp; omega) ?_; intro g cap w9 S hO9 hu9 hS9 hg9)
          have hU9 := Lib.hid (hU3.out.fresh hu9 (fun k hk => (hO3.out.lt k (hS9 k hk)).1))
          have HO9 : Hid (IntRow w w9 (.slice (some ⟨g, 0, none⟩) (l.length + 1) cap) (meetsR L [] (ws.take (j + 1)))) := by
            unfold IntRow
            rw [HRE.out, List.length_append, List.map_append]
            exact hO9
          clear hO9 hu9 hS9 hg9 hO3 hU3
          go_wp2
          go_roundw
          case rel => exact ⟨j + 1, by omega, by go_num, hU9, HO9⟩
          case measure => simp [intOf]; omega
      · have hre : meetsR L [] (ws.take (j + 1)) = l := by
          rw [hmt.out]
          unfold meetR
          rw [if_neg (by rw [hz]; omega)]
        have HRE := Lib.hid hre
        have hO3 := Lib.hid (hO2.step ((Upd.refl [] w2).alloc (.cells #[.int .i64 0, .int .i64 0, .slice none 0 0] 61)))
        have hU3 := Lib.hid (hU2.alloc (.cells #[.int .i64 0, .int .i64 0, .slice none 0 0] 61))
        clear hre hz hmt hmet hO2 hU2 hu2
        go_wp2
        go_roundw
        case rel => exact ⟨j + 1, by omega, by go_num, hU3, by rw [HRE.out]; exact hO3⟩
        case measure => simp [intOf]; omega
    · have hjm : j = m := by omega
      have hO0 := hO.out
      rw [hjm, List.take_of_length_le (by rw [HN.out]; exact Nat.le_refl _)] at hO0
      change IntRow w wr _ (bfs L ws 0) at hO0
      have hO1 := Lib.hid hO0
      clear hO hO0 hjm
      go_wp2_with fail
      go_loopw [5, 10] (fun lv i wr => ∃ j : Nat, i = .int .i64 j ∧ Hid (j ≤ (bfs L ws j).length) ∧ Hid (Upd [] w wr) ∧ Hid (IntRow w wr lv (bfs L ws j))) (fun _ i _ => L.length - (intOf i).toNat)
      case atStart => exact ⟨0, rfl, Nat.zero_le _, hU, hO1⟩
      case round =>
        obtain ⟨i0, rfl, hi, hU, hO⟩ := hrel
        have hmet := Met.bfs L ws i0
        have hl6 := hmet.le hsm
        have hlL := hmet.len
        by_cases hlt2 : i0 < (bfs L ws i0).length
        · obtain ⟨sa, sc, rfl, hss⟩ := hO.out.form
          obtain ⟨b, o, rfl, hc⟩ := hss i0 hlt2
          obtain ⟨oi, ob, hob, hro⟩ := hmet.get (r := (bfs L ws i0).getD i0 0) (by simp [List.getD_eq_getElem?_getD, hlt2])
          have hnx := Lib.hid (bfs_next hlt2)
          have hin : Hid (i0 + 1 ≤ (bfs L ws (i0 + 1)).length) := by
            rw [hnx.out]
            exact Nat.le_trans hlt2 (scan_len _ _ _)
          have hil : i0 < L.length := by omega
          have hka := Lib.hid (kindR_at hob)
          have hwa := Lib.hid (wordsR_at hob)
          rw [← hro] at hka hwa
          obtain ⟨l, hl⟩ : ∃ l, l = bfs L ws i0 := ⟨_, rfl⟩
          have hoR := objR_pos hob
          rw [← hro] at hoR
          obtain ⟨r, hr⟩ : ∃ r, r = (bfs L ws i0).getD i0 0 := ⟨_, rfl⟩
          rw [← hr] at hc hnx hka hwa hoR
          rw [← hl] at hlt2 hO hnx hl6 hlL hmet
          obtain ⟨len, hlen⟩ : ∃ len, len = l.length := ⟨_, rfl⟩
          have HLN := Lib.hid hlen
          rw [← hl]
          rw [← hlen] at hlt2 hl6 ⊢
          have HOR := Lib.hid hoR
          have HOB := Lib.hid hob
          clear hro hr hss hlen hlL hoR hob hi
          have hat := Lib.hid (rat_calls (H.out.upd0 hU.out) r)
          have hLs : L.length ≤ 65536 := Nat.le_trans (length_used L) hsm
          go_wp2_with fail
          refine hat.out.mono ?_
          clear hat hc
          rintro e w2 ⟨⟨v2, rfl, hv⟩, hu2⟩
          rcases hv with ⟨i2, o2, ho2, hr2, hro2, rfl⟩ | ⟨hro2, rfl⟩
          · obtain rfl : o2 = ob := by
              rw [HOR.out] at hro2
              exact (Option.some.inj hro2).symm
            have hU3 := (hU.out.then hu2).alloc (.cells #[.int .i64 r, .int .i64 o2.1, .slice (some ⟨bs.getD i2 0, 0, none⟩) o2.2.length o2.2.length] 61)
            have hO3 := (hO.out.step hu2).step ((Upd.refl [] w2).alloc (.cells #[.int .i64 r, .int .i64 o2.1, .slice (some ⟨bs.getD i2 0, 0, none⟩) o2.2.length o2.2.length] 61))
            have hB3 : Blk (w2.alloc (.cells #[.int .i64 r, .int .i64 o2.1, .slice (some ⟨bs.getD i2 0, 0, none⟩) o2.2.length o2.2.length] 61)) w2.heap.size [.int .i64 r, .int .i64 o2.1, .slice (some ⟨bs.getD i2 0, 0, none⟩) o2.2.length o2.2.length] 61 := Blk.newAt rfl
            have hlen2 := H.out.lens ho2
            have hwr := Lib.hid (fun x (hx : x ∈ o2.2) => hWd.out o2 (List.mem_of_getElem? ho2) x hx)
            have HO2 := Lib.hid ho2
            have hscan0 : bfs L ws (i0 + 1) = if scanned o2.1 = true then meetsR L l o2.2 else l := by
              rw [hnx.out]
              unfold scanR
              rw [hka.out, hwa.out]
            have hscan := Lib.hid hscan0
            clear hscan0
            have HU3 := Lib.hid hU3
            have HO3 := Lib.hid hO3
            have HB3 := Lib.hid hB3
            clear hU3 hO3 hB3 hro2 hr2 hU hO hu2 hnx hka hwa HOR HOB ho2
            have hRow := Lib.hid (fun w' (hu : Upd [] w w') => (H.out.upd0 hu).row HO2.out)
            clear HO2
            obtain ⟨W3, hW3⟩ : ∃ W3, W3 = w2.alloc (.cells #[.int .i64 r, .int .i64 o2.1, .slice (some ⟨bs.getD i2 0, 0, none⟩) o2.2.length o2.2.length] 61) := ⟨_, rfl⟩
            obtain ⟨ob3, hob3⟩ : ∃ ob3, ob3 = w2.heap.size := ⟨_, rfl⟩
            rw [← hW3] at HU3 HO3 HB3
            rw [← hob3] at HB3
            obtain ⟨xs, hxs⟩ : ∃ xs, xs = o2.2 := ⟨_, rfl⟩
            rw [← hxs] at hlen2 hwr hscan HB3 hRow hW3
            obtain ⟨kd, hkd⟩ : ∃ kd, kd = o2.1 := ⟨_, rfl⟩
            rw [← hkd] at hscan HB3 hW3
            obtain ⟨bi, hbi⟩ : ∃ bi, bi = bs.getD i2 0 := ⟨_, rfl⟩
            rw [← hbi] at HB3 hRow hW3
            rw [← hxs, ← hkd, ← hbi]
            clear hxs hkd hbi
            obtain ⟨ln, hln⟩ : ∃ ln, ln = xs.length := ⟨_, rfl⟩
            have HLN2 := Lib.hid hln
            rw [← hln] at hlen2 HB3 hW3 ⊢
            clear hln
            have c1 := HB3.out.cell_some (i := 1) rfl
            have c2 := HB3.out.cell_some (i := 2) rfl
            go_wp2_with fail
            rw [← hW3, ← hob3]
            clear hW3 hob3
            refine (rscanned_calls _ _).mono ?_
            rintro e w4 ⟨rfl, rfl⟩
            generalize scanned kd = sc2 at *
            cases sc2
            · have hex : bfs L ws (i0 + 1) = l := by rw [hscan.out]; simp
              have HEX := Lib.hid hex
              clear hex hscan
              go_wp2
              go_roundw
              case rel => exact ⟨i0 + 1, by go_num, hin, HU3, by rw [HEX.out, HLN.out]; exact HO3.out⟩
              case measure => simp [intOf]; omega
            · have hex : bfs L ws (i0 + 1) = meetsR L l xs := by rw [hscan.out]; simp
              have HEX := Lib.hid hex
              have hO6 : Hid (IntRow w W3 (.slice (some ⟨b, o, none⟩) len sc) (meetsR L l (xs.take 0))) := by
                rw [HLN.out]
                exact HO3.out
              clear hex hscan HO3
              go_wp2_with fail
              clear c1 c2
              obtain ⟨wo, rfl⟩ : ∃ wo : World, wo = W3 := ⟨_, rfl⟩
              go_loopw [5, 65] (fun lv i wr => ∃ j : Nat, j ≤ ln ∧ i = .int .i64 j ∧ Hid (Upd [] w wr) ∧ Hid (IntRow w wr lv (meetsR L l (xs.take j)))) (fun _ i _ => ln - (intOf i).toNat)
              case atStart => exact ⟨0, by omega, rfl, HU3, hO6⟩
              case round =>
                obtain ⟨j, hj, rfl, hU, hO⟩ := hrel
                by_cases hlt : j < ln
                · have hjl : j < xs.length := by rw [← HLN2.out]; exact hlt
                  obtain ⟨b9, o9, e9, hc⟩ := (hRow.out _ hU.out) j hjl
                  cases e9
                  rw [Nat.zero_add] at hc
                  have hx := hwr.out (xs.getD j 0) (by simp [List.getD_eq_getElem?_getD, hjl])
                  have hmt := Lib.hid (meets_take (L := L) (l := l) hjl)
                  have hmet2 := hmet.meets (xs.take j)
                  obtain ⟨l2, hl2⟩ : ∃ l2, l2 = meetsR L l (xs.take j) := ⟨_, rfl⟩
                  rw [← hl2] at hmt hmet2 hO
                  clear hl2
                  have hl62 := hmet2.le hsm
                  clear hjl
                  generalize xs.getD j 0 = x at *
                  have hld := Lib.hid (lead_calls (H.out.upd0 hU.out) x hx.1 (by omega))
                  go_wp2_with fail
                  refine hld.out.mono ?_
                  clear hld hc
                  rintro e w2 ⟨⟨v9, rfl, hv⟩, hu2⟩
                  have hO2 := hO.out.step hu2
                  have hU2 := hU.out.then hu2
                  clear hO hU
                  rcases hv with ⟨hpos, i9, o', ho, hpo, rfl⟩ | ⟨hz, rfl⟩
                  · have hO3 := Lib.hid (hO2.step ((Upd.refl [] w2).alloc (.cells #[.int .i64 (leadR L x), .int .i64 o'.1, .slice (some ⟨bs.getD i9 0, 0, none⟩) o'.2.length o'.2.length] 61)))
                    have hU3 := Lib.hid (hU2.alloc (.cells #[.int .i64 (leadR L x), .int .i64 o'.1, .slice (some ⟨bs.getD i9 0, 0, none⟩) o'.2.length o'.2.length] 61))
                    obtain ⟨sa2, sc2, rfl, hss⟩ := hO3.out.form
                    have hhas := Lib.hid (has_calls l2.length sc2 (leadR L x) rfl hss (by omega))
                    have hsz3 := hU3.out.size
                    simp at hsz3
                    clear hss hu2 hO2 hU2 ho hpo
                    by_cases hmem : leadR L x ∈ l2
                    · have e1 : decide (place l2 (leadR L x) < 0) = false := by
                        have := place_nonneg l2 (leadR L x)
                        rw [decide_eq_true hmem, decide_eq_true_eq] at this
                        simp
                        exact this
                      have hre : meetsR L l (xs.take (j + 1)) = l2 := by
                        rw [hmt.out]
                        unfold meetR
                        rw [if_neg (fun hh => hh.2 hmem)]
                      have HRE := Lib.hid hre
                      clear hre hmem hmt hmet2
                      generalize place l2 (leadR L x) = pl at *
                      generalize leadR L x = r at *
                      generalize o'.2.length = ln9 at *
                      generalize o'.1 = kd9 at *
                      generalize bs.getD i9 0 = bi9 at *
                      go_wp2_with fail
                      refine hhas.out.mono ?_
                      rintro e w3 ⟨rfl, rfl⟩
                      clear hhas
                      go_wp2
                      go_roundw
                      case rel => exact ⟨j + 1, by omega, by go_num, hU3, by rw [HRE.out]; exact hO3⟩
                      case measure => simp [intOf]; omega
                    · have e1 : decide (place l2 (leadR L x) < 0) = true := by
                        have := place_nonneg l2 (leadR L x)
                        rw [decide_eq_false hmem, decide_eq_false_iff_not] at this
                        simp
                        omega
                      have hre : meetsR L l (xs.take (j + 1)) = l2 ++ [leadR L x] := by
                        rw [hmt.out]
                        unfold meetR
                        rw [if_pos ⟨hpos, hmem⟩]
                      have HRE := Lib.hid hre
                      clear hre hmem hmt hmet2
                      generalize place l2 (leadR L x) = pl at *
                      generalize leadR L x = r at *
                      generalize o'.2.length = ln9 at *
                      generalize o'.1 = kd9 at *
                      generalize bs.getD i9 0 = bi9 at *
                      go_wp2_with fail
                      refine hhas.out.mono ?_
                      rintro e w3 ⟨rfl, rfl⟩
                      clear hhas
                      go_wp2_with (at_builtin; refine wpList_app rfl _ _ 41 rfl w.heap.size 3 (.int .i64 0) 1 8 Try.underlying41 info_int rfl (by decide) _ _ _ rfl (IntRow.own hO3.out) [.int .i64 r] 1 (by simp; rfl) rfl (one1 rfl) (by unfold maxLen; omega) (by omega) (by simp; omega) ?_; intro g cap w9 S hO9 hu9 hS9 hg9)
                      have hU9 := Lib.hid (hU3.out.fresh hu9 (fun k hk => (hO3.out.lt k (hS9 k hk)).1))
                      have HO9 : Hid (IntRow w w9 (.slice (some ⟨g, 0, none⟩) (l2.length + 1) cap) (meetsR L l (xs.take (j + 1)))) := by
                        unfold IntRow
                        rw [HRE.out, List.length_append, List.map_append]
                        exact hO9
                      clear hO9 hu9 hS9 hg9 hO3 hU3
                      go_wp2
                      go_roundw
                      case rel => exact ⟨j + 1, by omega, by go_num, hU9, HO9⟩
                      case measure => simp [intOf]; omega
                  · have hre : meetsR L l (xs.take (j + 1)) = l2 := by
                      rw [hmt.out]
                      unfold meetR
                      rw [if_neg (by rw [hz]; omega)]
                    have HRE := Lib.hid hre
                    have hO3 := Lib.hid (hO2.step ((Upd.refl [] w2).alloc (.cells #[.int .i64 0, .int .i64 0, .slice none 0 0] 61)))
                    have hU3 := Lib.hid (hU2.alloc (.cells #[.int .i64 0, .int .i64 0, .slice none 0 0] 61))
                    clear hre hz hmt hmet2 hO2 hU2 hu2
                    go_wp2
                    go_roundw
                    case rel => exact ⟨j + 1, by omega, by go_num, hU3, by rw [HRE.out]; exact hO3⟩
                    case measure => simp [intOf]; omega
                · have hjn : j = ln := by omega
                  have hO7 := hO.out
                  rw [hjn, HLN2.out, List.take_of_length_le (Nat.le_refl _), ← HEX.out] at hO7
                  have HO7 := Lib.hid hO7
                  clear hO7 hO hjn
                  go_wp2
                  go_roundw
                  case rel => exact ⟨i0 + 1, by go_num, hin, hU, HO7⟩
                  case measure => simp [intOf]; omega
          · rw [HOR.out] at hro2
            cases hro2
        · have hpost := hO.out.post hU.out
          obtain ⟨sa, sc, rfl, hss⟩ := hO.out.form
          have hd := bfs_done hi.out (show (bfs L ws i0).length ≤ i0 by omega)
          have HP : Hid (ReachedPostT (reachR L ws) w (.returned (.slice sa (bfs L ws i0).length sc)) wr) := by rw [← hd]; exact hpost
          clear hss hO hU hd hpost
          generalize (bfs L ws i0).length = len at *
          go_wp2
          go_ret
          exact HP.out
theorem rreached_calls {w : World} {p n base : Nat} {L : List HObj} {v : Value} {bs : List Nat} (h : RHeap w p n base L v bs) (a : Option Addr) (ws : List Int) (m c : Nat) (hn : ws.length = m) (hs : SlI w .u64 a ws) (hr : ∀ x ∈ ws, 0 ≤ x ∧ x < 18446744073709551616) (hnm : m ≤ 9223372036854775807) :
    Calls Try.prog 67 #[rptr p, .slice a m c] w (ReachedPost (reachR L ws) w) :=
  (rreached_T h a ws m c hn hs hr hnm).mono fun _ _ ⟨a, c, h1, h2, h3, _⟩ => ⟨a, c, h1, h2, h3⟩
end Go.Proofs.Ytkbnkpllbgofhaa
