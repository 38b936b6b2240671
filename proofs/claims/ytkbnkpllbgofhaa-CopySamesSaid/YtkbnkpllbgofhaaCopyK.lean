/-
  Copy: the document's Collect, its walk.
-/
import Derived.Test.YtkbnkpllbgofhaaCopyJ
namespace Go.Proofs.Ytkbnkpllbgofhaa
open Go.RowKit HeapM

def RCollectPost (L : List HObj) (R ws : List Int) (n : Nat) (w : World) (e : Ending) (w' : World) : Prop :=
  ∃ p v bs a c, e = .returned (.tuple #[rptr p, .slice a ws.length c]) ∧ RHeap w' p n w.heap.size (collectL L R) v bs ∧ SlI w' .u64 a (ws.map (movedR L R)) ∧ Upd [] w w'
set_option maxRecDepth 100000 in
set_option maxHeartbeats 1500000 in
theorem rcollect_calls {w : World} {p n base : Nat} {L : List HObj} {v : Value} {bs : List Nat} (h : RHeap w p n base L v bs) (a0 : Option Addr) (ws : List Int) (m0 c0 : Nat) (hn : ws.length = m0) (hs : SlI w .u64 a0 ws) (hr : ∀ x ∈ ws, 0 ≤ x ∧ x < 18446744073709551616) (hnm : m0 ≤ 4294967296) :
    Calls Try.prog 65 #[rptr p, .slice a0 m0 c0] w (RCollectPost L (reachR L ws) ws n w) := by
  have hsm := h.small
  have hlow := h.low
  have hhigh := h.high
  have hroom := h.room
  have c0' := h.cells.1
  have hLk := Lib.hid h.kinds
  have hLw := Lib.hid h.words
  have H := Lib.hid h
  have HS := Lib.hid hs
  have HR := Lib.hid hr
  have HN := Lib.hid hn
  clear h hs hr hn
  unfold rptr at *
  go_enter Try.func65, Try.ntmps65
  go_wp2_with fail
  refine (rnew_yes n _ hlow hhigh).mono ?_
  rintro e w1 ⟨px, rfl, hX, fx, hu1⟩
  have HX := Lib.hid hX
  have HU1 := Lib.hid hu1
  clear hX hu1 c0'
  unfold rptr at *
  go_wp2_with fail
  refine (rreached_T (H.out.upd0 HU1.out) a0 ws m0 c0 HN.out (HS.out.upd0 HU1.out) HR.out (by omega)).mono ?_
  rintro e w2 ⟨a, c, rfl, hsl, hu2, hty⟩
  have hmet : Met L (reachR L ws) := Met.bfs L ws L.length
  have hl6 := hmet.le hsm
  obtain ⟨R, hR⟩ : ∃ R, R = reachR L ws := ⟨_, rfl⟩
  rw [← hR] at hsl hmet hl6 ⊢
  have HRR := Lib.hid hR
  clear hR
  have hM0 : RCol w w2 w2.heap.size px n ((newL L R).take 0) (.slice none 0 0) [] a R (.slice none 0 0) (posTo (newL L R) 0) :=
    ⟨HX.out.upd0 hu2, (fun _ h => by cases h), fx, HU1.out.then hu2, hsl, fun b o e => by
      obtain ⟨cs, B⟩ := hty b o e
      exact ⟨⟨cs, B⟩, B.lt⟩, by have := (HU1.out.then hu2).size; omega, World.ownsRow_nil _ _ _ _, Nat.le_refl _⟩
  have HM0 := Lib.hid hM0
  have hB1 := hM0.hB
  obtain ⟨B1, hB1e⟩ : ∃ B1, B1 = w2.heap.size := ⟨_, rfl⟩
  rw [← hB1e] at HM0 hB1
  obtain ⟨m, hm⟩ : ∃ m, m = R.length := ⟨_, rfl⟩
  rw [← hm] at hl6 ⊢
  have HM := Lib.hid hm
  have HMET := Lib.hid hmet
  clear hM0 hsl hu2 hty hm hmet hB1e HX HU1
  go_wp2_with fail
  go_loopw [8, 34] (fun lv i wr => ∃ (j : Nat) (vx : Value) (bx : List Nat), j ≤ m ∧ i = .int .i64 j ∧ Hid (RCol w wr B1 px n ((newL L R).take j) vx bx a R lv (posTo (newL L R) j))) (fun _ i _ => m - (intOf i).toNat)
  case atStart => exact ⟨0, _, _, by omega, rfl, HM0⟩
  case round =>
    obtain ⟨j, vx, bx, hj, rfl, hC⟩ := hrel
    by_cases hlt : j < m
    · have hjR : j < R.length := by rw [← HM.out]; exact hlt
      obtain ⟨b, o, rfl, hc⟩ := hC.out.row j hjR
      obtain ⟨oi, ob, hob, hro⟩ := HMET.out.get (r := R.getD j 0) (by simp [List.getD_eq_getElem?_getD, hjR])
      have hka := kindR_at hob
      have hla := lenR_at hob
      rw [← hro] at hka hla
      have hfit := newL_fits hLk.out HMET.out hroom hjR
      have hnl := newL_take (L := L) hjR
      rw [hka, hla] at hfit hnl
      have hps := posTo_succ (newL L R) j
      have hpl := posTo_len (newL L R) j
      have hat := Lib.hid (rat_in (H.out.upd0 hC.out.upd) hob (R.getD j 0) hro)
      have Hfit := Lib.hid hfit
      have Hnl := Lib.hid hnl
      have Hps := Lib.hid hps
      have Hpl := Lib.hid hpl
      clear hjR hob hro hka hla hfit hnl hps hpl
      generalize R.getD j 0 = r at *
      generalize ob.2.length = ln at *
      generalize ob.1 = kd at *
      generalize bs.getD oi 0 = bi at *
      go_wp2_with fail
      refine hat.out.mono ?_
      rintro e w3 ⟨rfl, hu3⟩
      clear hat hc
      have hC4 := (hC.out.step hu3).step ((Upd.refl [] w3).alloc (.cells #[.int .i64 r, .int .i64 kd, .slice (some ⟨bi, 0, none⟩) ln ln] 61))
      have hal := ralloc_any hC4.x (by have := hC4.upd.size; omega) kd ln Hfit.out
      have Hal := Lib.hid hal
      have HC4 := Lib.hid hC4
      clear hal hC4 hu3 hC
      unfold rptr at *
      go_wp2_with fail
      refine Hal.out.mono ?_
      rintro e w5 ⟨v5, mk, rfl, hx5, hu5, hmk⟩
      have hC5 := HC4.out.xs hx5 (by
        intro b' hb'
        rcases List.mem_append.1 hb' with h1 | h1
        · exact HC4.out.fb b' h1
        · have h2 := HC4.out.upd.size
          have e1 : b' = mk := by simpa using h1
          omega) hu5 (fun k hk => .inl (by simpa using hk))
      rw [← Hnl.out] at hC5
      rw [show HeapM.used ((newL L R).take j) = posOf (newL L R) j from rfl]
      have HC5 := Lib.hid hC5
      have hO5 := hC5.own
      rw [Hpl.out] at hO5
      have hB5 := hC5.hle
      clear hx5 hu5 hmk Hal HC4 hC5
      generalize posOf (newL L R) j = pp at *
      go_wp2_with (at_builtin; refine wpList_app rfl _ _ 41 rfl B1 3 (.int .i64 0) 1 8 Try.underlying41 info_int rfl (by decide) _ _ _ rfl hO5 [.int .i64 ((pp : Int) + 1)] 1 rfl rfl (one1 rfl) (by unfold maxLen; omega) (by omega) (by omega) ?_; intro g cap w9 S hO9 hu9 hS9 hg9)
      have hO9' : w9.ownsRow B1 3 1 (.slice (some ⟨g, 0, none⟩) (j + 1) cap) (posTo (newL L R) (j + 1)).length ((posTo (newL L R) (j + 1)).map (.int .i64)) := by
        rw [Hps.out, List.length_append, Hpl.out, List.map_append]
        exact hO9
      have HC9 := Lib.hid (HC5.out.grow hu9 hS9 hO9')
      clear hO9 hO9' hu9 hS9 hg9 hO5 HC5
      go_wp2
      go_roundw
      case rel => exact ⟨j + 1, _, _, by omega, by go_num, HC9⟩
      case measure => simp [intOf]; omega
    · have hjm : j = R.length := by rw [← HM.out]; omega
      have hC1 := hC.out
      have hfs : (newL L R).take R.length = fillL L R 0 0 := by rw [List.take_of_length_le (by rw [newL_len]; exact Nat.le_refl _), fillL_start]
      rw [hjm, hfs, ← HM.out] at hC1
      have HC1 := Lib.hid hC1
      have hO1 := hC1.own
      rw [posTo_len] at hO1
      obtain ⟨ta, tc, rfl, -, -⟩ := own_SlI hO1
      clear hC hC1 hO1 hjm hfs
      go_wp2_with fail
      go_loopw [61] (fun i wr => ∃ i0 : Nat, i0 ≤ m ∧ i = .int .i64 i0 ∧ Hid (RCol w wr B1 px n (fillL L R i0 0) vx bx a R (.slice ta m tc) (posTo (newL L R) m))) (fun i _ => m - (intOf i).toNat)
      case atStart => exact ⟨0, by omega, rfl, HC1⟩
      case round =>
        obtain ⟨i0, hi0, rfl, hC⟩ := hrel
        by_cases hlt : i0 < m
        · have hiR : i0 < R.length := by rw [← HM.out]; exact hlt
          obtain ⟨b, o, rfl, hc⟩ := hC.out.row i0 hiR
          obtain ⟨oi, ob, hob, hro⟩ := HMET.out.get (r := R.getD i0 0) (by simp [List.getD_eq_getElem?_getD, hiR])
          have hka := kindR_at hob
          have hla := lenR_at hob
          have hwa := wordsR_at hob
          rw [← hro] at hka hla hwa
          have hset := Lib.hid (fun k => fillL_set (L := L) (k := k) hiR)
          have hnext := Lib.hid (fillL_next (L := L) hiR)
          have hat := Lib.hid (rat_in (H.out.upd0 hC.out.upd) hob (R.getD i0 0) hro)
          have hrow := Lib.hid (fun w' (hu : Upd [] w w') => (H.out.upd0 hu).row hob)
          have hwr := Lib.hid (wordsR_range hLw.out (R.getD i0 0))
          have how : outWords L R (R.getD i0 0) = if scanned (kindR L (R.getD i0 0)) = true then (wordsR L (R.getD i0 0)).map (movedR L R) else wordsR L (R.getD i0 0) := rfl
          have hl2 := H.out.lens hob
          rw [hka, hwa] at how
          rw [hwa] at hwr
          have Hla := Lib.hid hla
          clear hiR hob hro hka hla hwa
          generalize R.getD i0 0 = r at *
          obtain ⟨xs, hxs⟩ : ∃ xs, xs = ob.2 := ⟨_, rfl⟩
          rw [← hxs] at how hwr hat hrow hl2 Hla
          generalize ob.1 = kd at *
          generalize bs.getD oi 0 = bi at *
          obtain ⟨ln, hln⟩ : ∃ ln, ln = xs.length := ⟨_, rfl⟩
          rw [← hln] at hat hl2 Hla
          have HLN := Lib.hid hln
          have HOW := Lib.hid how
          clear hxs hln how
          go_wp2_with fail
          refine hat.out.mono ?_
          rintro e w3 ⟨rfl, hu3⟩
          clear hat hc
          have hU4 := (Upd.refl [] w3).alloc (.cells #[.int .i64 r, .int .i64 kd, .slice (some ⟨bi, 0, none⟩) ln ln] 61)
          have hB4 : Blk (w3.alloc (.cells #[.int .i64 r, .int .i64 kd, .slice (some ⟨bi, 0, none⟩) ln ln] 61)) w3.heap.size [.int .i64 r, .int .i64 kd, .slice (some ⟨bi, 0, none⟩) ln ln] 61 := Blk.newAt rfl
          have HC4 := Lib.hid ((hC.out.step hu3).step hU4)
          have HB4 := Lib.hid hB4
          clear hU4 hB4 hu3 hC
          go_wp2_with fail
          obtain ⟨W4, hW4⟩ : ∃ W4, W4 = w3.alloc (.cells #[.int .i64 r, .int .i64 kd, .slice (some ⟨bi, 0, none⟩) ln ln] 61) := ⟨_, rfl⟩
          obtain ⟨bo, hbo⟩ : ∃ bo, bo = w3.heap.size := ⟨_, rfl⟩
          rw [← hW4] at HC4 HB4 ⊢
          rw [← hbo] at HB4 ⊢
          clear hW4 hbo
          go_loopw [75] (fun i wr => ∃ k : Nat, k ≤ ln ∧ i = .int .i64 k ∧ Hid (RCol w wr B1 px n (fillL L R i0 k) vx bx (some ⟨b, o, none⟩) R (.slice ta m tc) (posTo (newL L R) m)) ∧ Hid (Blk wr bo [.int .i64 r, .int .i64 kd, .slice (some ⟨bi, 0, none⟩) ln ln] 61)) (fun i _ => ln - (intOf i).toNat)
          case atStart => exact ⟨0, by omega, rfl, HC4, HB4⟩
          case round =>
            obtain ⟨k, hk, rfl, hC, hB⟩ := hrel
            by_cases hlt3 : k < ln
            · have hkx : k < xs.length := by rw [← HLN.out]; exact hlt3
              have hx := hwr.out (xs.getD k 0) (by simp [List.getD_eq_getElem?_getD, hkx])
              obtain ⟨b9, o9, e9, hc⟩ := (hrow.out _ hC.out.upd) k hkx
              cases e9
              rw [Nat.zero_add] at hc
              have hkl : k < lenR L r := by rw [Hla.out]; exact hlt3
              obtain ⟨hs1, hs2⟩ := hset.out k hkl
              have d1 := hB.out.cell_some (i := 1) rfl
              have hs0 := HOW.out
              have hto : (posTo (newL L R) m).length = m := posTo_len _ _
              have hti : (posTo (newL L R) m).getD i0 0 = (posOf (newL L R) i0 : Int) + 1 := by
                simp [posTo, List.getD_eq_getElem?_getD, hlt]
              have Hto := Lib.hid hto
              have Hti := Lib.hid hti
              have Hs1 := Lib.hid hs1
              have Hs2 := Lib.hid hs2
              have HKX := Lib.hid hkx
              have HKL := Lib.hid hkl
              obtain ⟨x, hxe⟩ : ∃ x, x = xs.getD k 0 := ⟨_, rfl⟩
              rw [← hxe] at hx hc
              have HXE := Lib.hid hxe
              clear hs1 hs2 hkx hkl hto hti hxe
              go_wp2_with fail
              refine (rscanned_calls _ _).mono ?_
              rintro e w' ⟨rfl, rfl⟩
              clear hc d1
              generalize scanned kd = sc at *
              cases sc
              · have e1 : outWords L R r = xs := by simpa using hs0
                rw [e1] at Hs1 Hs2
                rw [← HXE.out] at Hs1
                have hg5 : getR (fillL L R i0 k) ((posOf (newL L R) i0 : Int) + 1) k = some ((fillTo xs k).getD k 0) := by
                  have hL : k < (fillTo xs k).length := by rw [fillTo_len (by have := HKX.out; omega)]; exact HKX.out
                  unfold getR
                  rw [objR_at Hs2.out]
                  simp [List.getD_eq_getElem?_getD, hL]
                have hrs := rset_calls hC.out.x ((posOf (newL L R) i0 : Int) + 1) k x hx
                unfold setR at hrs
                rw [hg5] at hrs
                simp only [Option.isSome_some, if_true, show ((posOf (newL L R) i0 : Int) + 1 - 1).toNat = posOf (newL L R) i0 by omega, Int.toNat_natCast, Hs1.out] at hrs
                have HRS := Lib.hid hrs
                have hO := hC.out.own
                rw [Hto.out] at hO
                obtain ⟨ta2, tc2, e2, hl2', hss⟩ := own_SlI hO
                injection e2 with e2 _ e3
                subst e2
                subst e3
                obtain ⟨b4, o4, rfl, hc4⟩ := hss i0 (by rw [hl2']; exact hlt)
                rw [Hti.out] at hc4
                clear hrs hg5 hO hl2' hss hs0 e1
                generalize posOf (newL L R) i0 = pp at *
                go_wp2_with fail
                refine HRS.out.mono ?_
                rintro e w6 ⟨rfl, hR6, hu6⟩
                have HCn := Lib.hid (hC.out.xs hR6 hC.out.fb hu6 (fun k hk => .inr hk))
                have HBn : Hid (Blk w6 bo [.int .i64 r, .int .i64 kd, .slice (some ⟨bi, 0, none⟩) ln ln] 61) := hu6.blk hB.out (fun hk => by
                  obtain ⟨i9, hi9, e9⟩ := List.getElem_of_mem hk
                  have hi2 : i9 < (fillL L R i0 k).length := by rw [← hC.out.x.bodies.len]; exact hi9
                  have B' := hC.out.x.bodies.blk i9 _ _ (List.getElem?_eq_getElem hi2) (List.getElem?_eq_getElem hi9)
                  rw [e9] at B'
                  exact hB.out.ne B' (by decide) rfl)
                clear hR6 hu6 HRS hC hB hc4
                go_wp2
                go_roundw
                case rel => exact ⟨k + 1, by omega, by go_num, HCn, HBn⟩
                case measure => simp [intOf]; omega
              · have e1 : outWords L R r = xs.map (movedR L R) := by simpa using hs0
                have e2 : (xs.map (movedR L R)).getD k 0 = movedR L R x := by
                  rw [HXE.out]
                  simp [List.getD_eq_getElem?_getD, HKX.out]
                rw [e1, e2] at Hs1
                rw [e1] at Hs2
                have hmr := movedR_range hsm HMET.out hx
                have hO := hC.out.own
                rw [Hto.out] at hO
                obtain ⟨ta2, tc2, e2', hl2', hss⟩ := own_SlI hO
                injection e2' with e2' _ e3
                subst e2'
                subst e3
                have hmv := Lib.hid (move_calls (H.out.upd0 hC.out.upd) HMET.out (some ⟨b, o, none⟩) ta c tc m HM.out.symm hC.out.row hss x hx.1 (by omega))
                clear hO hl2' hss hs0 e1 e2
                generalize movedR L R x = y at *
                go_wp2_with fail
                refine hmv.out.mono ?_
                rintro e w5 ⟨rfl, hu5⟩
                have hC5 := Lib.hid (hC.out.step hu5)
                have hB5 := Lib.hid (hu5.blk hB.out (by simp))
                clear hC hB hu5 hmv
                have hg5 : getR (fillL L R i0 k) ((posOf (newL L R) i0 : Int) + 1) k = some ((fillTo (xs.map (movedR L R)) k).getD k 0) := by
                  have hL : k < (fillTo (xs.map (movedR L R)) k).length := by rw [fillTo_len (by rw [List.length_map]; have := HKX.out; omega), List.length_map]; exact HKX.out
                  unfold getR
                  rw [objR_at Hs2.out]
                  simp [List.getD_eq_getElem?_getD, hL]
                have hrs := rset_calls hC5.out.x ((posOf (newL L R) i0 : Int) + 1) k y hmr
                unfold setR at hrs
                rw [hg5] at hrs
                simp only [Option.isSome_some, if_true, show ((posOf (newL L R) i0 : Int) + 1 - 1).toNat = posOf (newL L R) i0 by omega, Int.toNat_natCast, Hs1.out] at hrs
                have HRS := Lib.hid hrs
                have hO := hC5.out.own
                rw [Hto.out] at hO
                obtain ⟨ta2, tc2, e2, hl2', hss⟩ := own_SlI hO
                injection e2 with e2 _ e3
                subst e2
                subst e3
                obtain ⟨b4, o4, rfl, hc4⟩ := hss i0 (by rw [hl2']; exact hlt)
                rw [Hti.out] at hc4
                clear hrs hg5 hO hl2' hss
                generalize posOf (newL L R) i0 = pp at *
                go_wp2_with fail
                refine HRS.out.mono ?_
                rintro e w6 ⟨rfl, hR6, hu6⟩
                have HCn := Lib.hid (hC5.out.xs hR6 hC5.out.fb hu6 (fun k hk => .inr hk))
                have HBn : Hid (Blk w6 bo [.int .i64 r, .int .i64 kd, .slice (some ⟨bi, 0, none⟩) ln ln] 61) := hu6.blk hB5.out (fun hk => by
                  obtain ⟨i9, hi9, e9⟩ := List.getElem_of_mem hk
                  have hi2 : i9 < (fillL L R i0 k).length := by rw [← hC5.out.x.bodies.len]; exact hi9
                  have B' := hC5.out.x.bodies.blk i9 _ _ (List.getElem?_eq_getElem hi2) (List.getElem?_eq_getElem hi9)
                  rw [e9] at B'
                  exact hB5.out.ne B' (by decide) rfl)
                clear hR6 hu6 HRS hC5 hB5 hc4
                go_wp2
                go_roundw
                case rel => exact ⟨k + 1, by omega, by go_num, HCn, HBn⟩
                case measure => simp [intOf]; omega
            · have hkn : k = lenR L r := by rw [Hla.out]; omega
              have hCn := hC.out
              rw [hkn, hnext.out] at hCn
              have HCn := Lib.hid hCn
              clear hCn hC hB hkn
              go_wp2
              go_roundw
              case rel => exact ⟨i0 + 1, by omega, by go_num, HCn⟩
              case measure => simp [intOf]; omega
        · have him : i0 = R.length := by rw [← HM.out]; omega
          have hCn := hC.out
          have hfd : fillL L R i0 0 = collectL L R := by rw [him, fillL_done]
          rw [hfd] at hCn
          have HCn := Lib.hid hCn
          clear hCn hC him hfd
          go_wp2_with fail
          obtain ⟨wS, rfl⟩ : ∃ wS : World, wS = wr := ⟨_, rfl⟩
          go_loopw [21, 100] (fun lv i wr => ∃ k : Nat, k ≤ m0 ∧ i = .int .i64 k ∧ Hid (Upd [] wS wr) ∧ Hid (wr.ownsRow wS.heap.size 30 1 lv k (((ws.take k).map (movedR L R)).map (.int .u64)))) (fun _ i _ => m0 - (intOf i).toNat)
          case atStart => exact ⟨0, by omega, rfl, Upd.refl _ _, World.ownsRow_nil _ _ _ _⟩
          case round =>
            obtain ⟨k, hk, rfl, hU, hO⟩ := hrel
            by_cases hlt : k < m0
            · have hkl : k < ws.length := by rw [HN.out]; exact hlt
              obtain ⟨b9, o9, rfl, hc⟩ := (HS.out.upd0 (HCn.out.upd.then hU.out)) k hkl
              have hx := HR.out (ws.getD k 0) (by simp [List.getD_eq_getElem?_getD, hkl])
              have htk : ((ws.take (k + 1)).map (movedR L R)).map (Value.int .u64) = ((ws.take k).map (movedR L R)).map (Value.int .u64) ++ [.int .u64 (movedR L R (ws.getD k 0))] := by
                rw [List.take_succ_eq_append_getElem hkl, List.map_append, List.map_append]
                have e : ws.getD k 0 = ws[k] := by simp [List.getD_eq_getElem?_getD, hkl]
                rw [e]
                rfl
              have HT := Lib.hid htk
              have hCk := Lib.hid (HCn.out.step hU.out)
              have hOt := hCk.out.own
              have hto : (posTo (newL L R) m).length = m := posTo_len _ _
              rw [hto] at hOt
              obtain ⟨ta2, tc2, e2, hl2', hss⟩ := own_SlI hOt
              injection e2 with e2 _ e3
              subst e2
              subst e3
              have hmv := Lib.hid (move_calls (H.out.upd0 hCk.out.upd) HMET.out a ta c tc m HM.out.symm hCk.out.row hss (ws.getD k 0) hx.1 (by omega))
              clear hkl htk hOt hto hl2' hss
              generalize ws.getD k 0 = x at *
              generalize movedR L R x = y at *
              go_wp2_with fail
              refine hmv.out.mono ?_
              rintro e w8 ⟨rfl, hu8⟩
              have hsz := (hU.out.then hu8).size
              have hO8 := own_upd0 hO.out hu8
              have hU8 := Lib.hid (hU.out.then hu8)
              clear hO hU hc hmv hu8 hCk
              go_wp2_with (at_builtin; refine wpList_app rfl _ _ 59 rfl wS.heap.size 30 (.int .u64 0) 1 8 Try.underlying59 info_u64 rfl (by decide) _ _ _ rfl hO8 [.int .u64 y] 1 rfl rfl (one1 rfl) (by unfold maxLen; omega) (by omega) (by omega) ?_; intro g cap w9 S hO9 hu9 hS9 hg9)
              have hS9' : ∀ k, k ∈ S → wS.heap.size ≤ k := fun k hk => (hO8.lt k (hS9 k hk)).1
              have hU9 := Lib.hid (hU8.out.fresh hu9 hS9')
              rw [← HT.out] at hO9
              have HO9 := Lib.hid hO9
              clear hO9 hu9 hS9 hg9 hS9' hO8 hU8
              go_wp2
              go_roundw
              case rel => exact ⟨k + 1, by omega, by go_num, hU9, HO9⟩
              case measure => simp [intOf]; omega
            · have hkm : k = m0 := by omega
              have hF := HCn.out.step hU.out
              have hO1 := hO.out
              have hkk : k = ws.length := by rw [hkm, HN.out]
              rw [hkk, List.take_of_length_le (Nat.le_refl _)] at hO1
              obtain ⟨a9, c9, rfl, hl9, hs9⟩ := own_SlI hO1
              have HP : Hid (RCollectPost L R ws n w (.returned (.tuple #[.pointer (some ⟨px, 0, none⟩), .slice a9 ws.length c9])) wr) := ⟨px, vx, bx, a9, c9, rfl, hF.x, hs9, hF.upd⟩
              clear hF hO hO1 hU hl9 hs9 hkm hkk
              go_wp2
              go_ret2
              rw [← HRR.out]
              exact HP.out
end Go.Proofs.Ytkbnkpllbgofhaa
