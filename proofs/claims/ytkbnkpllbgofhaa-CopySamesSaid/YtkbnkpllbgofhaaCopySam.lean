/-
  CopySames.
-/
import Derived.Test.YtkbnkpllbgofhaaSameS
namespace Go.Proofs.Ytkbnkpllbgofhaa
open Go.RowKit HeapM Go.Sort

set_option maxRecDepth 100000 in
set_option maxHeartbeats 3000000 in
theorem sames_walk {w : World} {a a2 b b2 : Option Addr} {l m : List ObjD} {ws us : List WordD} (n n2 c c2 k k2 d d2 : Nat) (hn : l.length = n) (hn2 : ws.length = n2) (hl : MemO w a l) (hr : RngO l) (hl2 : MemW w a2 ws) (hr2 : RngW ws) (h1 : n ≤ 9223372036854775807) (h2 : n2 ≤ 9223372036854775807)
    (kn : m.length = k) (kn2 : us.length = k2) (kl : MemO w b m) (kr : RngO m) (kl2 : MemW w b2 us) (kr2 : RngW us) (g1 : k ≤ 9223372036854775807) (g2 : k2 ≤ 9223372036854775807) :
    Calls Try.prog 14 #[.slice a n c, .slice b k d, .agg #[.slice a2 n2 c2, .slice b2 k2 d2]] w fun e w' => e = .returned (.bool true) ∧ Upd [] w w' := by
  have hlA := Lib.hid (fun w' (hu : Upd [] w w') => light_calls (w := w') (a2 := a2) n n2 c c2 hn hn2 (hl.upd hu) hr h1 h2)
  have hlB := Lib.hid (fun w' (hu : Upd [] w w') => light_calls (w := w') (a2 := b2) k k2 d d2 kn kn2 (kl.upd hu) kr g1 g2)
  have HL := Lib.hid hl
  have HR := Lib.hid hr
  have HL2 := Lib.hid hl2
  have HR2 := Lib.hid hr2
  have HN := Lib.hid hn
  have HN2 := Lib.hid hn2
  have KL := Lib.hid kl
  have KR := Lib.hid kr
  have KL2 := Lib.hid kl2
  have KR2 := Lib.hid kr2
  have KN := Lib.hid kn
  have KN2 := Lib.hid kn2
  clear hl hr hl2 hr2 hn hn2 kl kr kl2 kr2 kn kn2
  have hU1 := (Upd.refl [] w).alloc (.cells #[.slice a2 n2 c2, .slice b2 k2 d2] 110)
  have hB1 : Blk (w.alloc (.cells #[.slice a2 n2 c2, .slice b2 k2 d2] 110)) w.heap.size [.slice a2 n2 c2, .slice b2 k2 d2] 110 := Blk.newAt rfl
  go_enter Try.func14, Try.ntmps14
  go_wp2_with fail
  obtain ⟨W1, hW1⟩ : ∃ W1, W1 = w.alloc (.cells #[.slice a2 n2 c2, .slice b2 k2 d2] 110) := ⟨_, rfl⟩
  obtain ⟨bt, hbt⟩ : ∃ bt, bt = w.heap.size := ⟨_, rfl⟩
  rw [← hW1] at hU1 hB1 ⊢
  rw [← hbt] at hB1 ⊢
  clear hW1 hbt
  have HU1 := Lib.hid hU1
  have HB1 := Lib.hid hB1
  clear hU1 hB1
  refine (hlA.out _ HU1.out).mono ?_
  rintro e w2 ⟨rfl, hu2⟩
  have HU2 := Lib.hid (HU1.out.then hu2)
  have HB2 := Lib.hid (hu2.blk HB1.out (by simp))
  clear hu2 HU1 HB1 hlA
  cases hb : lightB l ws with
  | false =>
    clear hb
    go_wp2_with fail
    refine (lives18 _).mono ?_
    rintro e w3 ⟨rfl, hu3⟩
    go_wp2
    go_ret
    exact ⟨rfl, HU2.out.then hu3⟩
  | true =>
    obtain ⟨b1, b2', b3⟩ := light_big hb
    have B3 := Lib.hid b3
    rw [HN.out] at b1
    rw [HN2.out] at b2'
    clear hb b3
    have q1 := HB2.out.cell_some (i := 1) rfl
    go_wp2_with fail
    clear q1
    refine (hlB.out _ HU2.out).mono ?_
    rintro e w3 ⟨rfl, hu3⟩
    have HU3 := Lib.hid (HU2.out.then hu3)
    have HB3 := Lib.hid (hu3.blk HB2.out (by simp))
    clear hu3 HU2 HB2 hlB
    cases hb : lightB m us with
    | false =>
      clear hb
      go_wp2_with fail
      refine (lives18 _).mono ?_
      rintro e w4 ⟨rfl, hu4⟩
      go_wp2
      go_ret
      exact ⟨rfl, HU3.out.then hu4⟩
    | true =>
      obtain ⟨e1, e2, e3⟩ := light_big hb
      have E3 := Lib.hid e3
      rw [KN.out] at e1
      rw [KN2.out] at e2
      clear hb e3
      go_wp2_with fail
      refine (made_calls n c HN.out (HL.out.upd HU3.out) HR.out b1 B3.out).mono ?_
      rintro e w4 ⟨p, bw, bk, pr, v, bs, sa, sc, rfl, hD, hsa⟩
      have hatl := madeAt_len l
      generalize madeL l = LA at *
      generalize madeAt l = at_ at *
      have HD := Lib.hid hD
      have HSA := Lib.hid hsa
      have HU4 := Lib.hid (HU3.out.then hD.upd)
      have HB4 := Lib.hid (hD.upd.blk HB3.out (by simp))
      obtain ⟨am, ham⟩ : ∃ am, am = at_.length := ⟨_, rfl⟩
      have ham40 : am ≤ 40 := by rw [ham, hatl, HN.out]; exact b1
      rw [← ham]
      have HAM := Lib.hid ham
      clear hD hsa hatl ham HU3 HB3
      unfold hptr rptr
      go_wp2_with fail
      refine (made_calls k d KN.out (KL.out.upd HU4.out) KR.out e1 E3.out).mono ?_
      rintro e w5 ⟨p2, bw2, bk2, pr2, v2, bs2, sb, sd, rfl, hD2, hsb⟩
      have hatl := madeAt_len m
      generalize madeL m = LB at *
      generalize madeAt m = at2 at *
      have HD2 := Lib.hid hD2
      have HSB := Lib.hid hsb
      have HU5 := Lib.hid (HU4.out.then hD2.upd)
      have HB5 := Lib.hid (hD2.upd.blk HB4.out (by simp))
      have HDA := Lib.hid (HD.out.step hD2.upd)
      have HSA5 := Lib.hid (HSA.out.upd0 hD2.upd)
      obtain ⟨bm, hbm⟩ : ∃ bm, bm = at2.length := ⟨_, rfl⟩
      have hbm40 : bm ≤ 40 := by rw [hbm, hatl, KN.out]; exact e1
      rw [← hbm]
      have HBM := Lib.hid hbm
      clear hD2 hsb hatl hbm HU4 HB4 HD HSA
      unfold hptr rptr
      have hva : ∀ x, x ∈ ws.map (wordVal at_) → 0 ≤ x ∧ x < 18446744073709551616 := by
        intro x hx
        obtain ⟨z, hz, rfl⟩ := List.mem_map.1 hx
        exact wordVal_range _ (HR2.out z hz)
      have hvb : ∀ x, x ∈ us.map (wordVal at2) → 0 ≤ x ∧ x < 18446744073709551616 := by
        intro x hx
        obtain ⟨z, hz, rfl⟩ := List.mem_map.1 hx
        exact wordVal_range _ (KR2.out z hz)
      have hla : (ws.map (wordVal at_)).length = n2 := by rw [List.length_map, HN2.out]
      have hlb : (us.map (wordVal at2)).length = k2 := by rw [List.length_map, KN2.out]
      have hwa := Lib.hid (fun w' (hu : Upd [] w5 w') => words18_calls n2 c2 am sc HN2.out HAM.out.symm (HL2.out.upd (HU5.out.then hu)) HR2.out (HSA5.out.upd0 hu) (by omega) (by omega))
      have hwb := Lib.hid (fun w' (hu : Upd [] w5 w') => words18_calls k2 d2 bm sd KN2.out HBM.out.symm (KL2.out.upd (HU5.out.then hu)) KR2.out (HSB.out.upd0 hu) (by omega) (by omega))
      generalize ws.map (wordVal at_) = xs at *
      generalize us.map (wordVal at2) = ys at *
      have HVA := Lib.hid hva
      have HVB := Lib.hid hvb
      have HLA := Lib.hid hla
      have HLB := Lib.hid hlb
      have q0 := HB5.out.drew.cell_some (i := 0) rfl
      have q1 := HB5.out.drew.cell_some (i := 1) rfl
      clear hva hvb hla hlb
      go_wp2_with fail
      go_region_held3 (fun w' => w'.cell? ⟨bt, 0, none⟩ = some (.slice a2 n2 c2) ∧ w'.cell? ⟨bt, 1, none⟩ = some (.slice b2 k2 d2)) (first | exact ⟨by assumption, by assumption⟩ | exact ⟨Upd.cell (by assumption) (by assumption) (by simp), Upd.cell (by assumption) (by assumption) (by simp)⟩ | exact ⟨Upd.cell hu7 (Upd.cell hu6 q0 (by simp)) (by simp), Upd.cell hu7 (Upd.cell hu6 q1 (by simp)) (by simp)⟩) (first
        | (go_at_call_of 60 (Value.slice a2 n2 c2); refine (hwa.out _ (Upd.refl [] w5).drew).mono ?_; rintro e w6 ⟨a6, c6, rfl, hs6, hu6, -⟩)
        | (go_at_call_of 60 (Value.slice b2 k2 d2); refine (hwb.out _ ((Upd.refl [] w5).drew.then hu6)).mono ?_; rintro e w7 ⟨a7, c7, rfl, hs7, hu7, -⟩))
      have hs6' := hs6.upd0 hu7
      have hu57 := ((Upd.refl [] w5).drew.then hu6).then hu7
      have HX := Lib.hid hs6'
      have HY := Lib.hid hs7
      have HDA7 := Lib.hid (HDA.out.step hu57)
      have HDB7 := Lib.hid (HD2.out.step hu57)
      have HU7 := Lib.hid (HU5.out.then hu57)
      rw [HLA.out, HLB.out]
      clear hs6 hs6' hs7 hu6 hu7 hu57 q0 q1 hwa hwb HDA HD2 HU5 HB5 HSA5 HSB
      obtain ⟨B, hB⟩ : ∃ B : Bool, B = true ↔ SameP LA LB (reachR LA xs) (reachR LB ys) xs ys := by
        by_cases hp : SameP LA LB (reachR LA xs) (reachR LB ys) xs ys
        · exact ⟨true, by simp [hp]⟩
        · exact ⟨false, by simp [hp]⟩
      have HB := Lib.hid hB
      clear hB
      have eb : (B == B) = true := by simp
      go_wp2_with fail
      refine (roots_calls n2 c6 HLA.out HX.out (by omega)).mono ?_
      rintro e w8 ⟨a8, c8, rfl, hs8, hu8, -⟩
      have HX8 := Lib.hid (HX.out.upd0 hu8)
      have HY8 := Lib.hid (HY.out.upd0 hu8)
      have HDA8 := Lib.hid (HDA7.out.step hu8)
      have HDB8 := Lib.hid (HDB7.out.step hu8)
      have HU8 := Lib.hid (HU7.out.then hu8)
      have HS8 := Lib.hid hs8
      rw [HLA.out]
      clear hs8 hu8 HX HY HDA7 HDB7 HU7
      go_wp2_with fail
      refine (roots_calls k2 c7 HLB.out HY8.out (by omega)).mono ?_
      rintro e w9 ⟨a9, c9, rfl, hs9, hu9, -⟩
      have HX9 := Lib.hid (HX8.out.upd0 hu9)
      have HY9 := Lib.hid (HY8.out.upd0 hu9)
      have HDA9 := Lib.hid (HDA8.out.step hu9)
      have HDB9 := Lib.hid (HDB8.out.step hu9)
      have HU9 := Lib.hid (HU8.out.then hu9)
      have HS9 := Lib.hid (HS8.out.upd0 hu9)
      have HT9 := Lib.hid hs9
      rw [HLB.out]
      clear hs9 hu9 HX8 HY8 HDA8 HDB8 HU8 HS8
      have hca : HV w9 (.pointer (some ⟨p, 0, none⟩)) LA := .inr ⟨p, bw, bk, 3000, rfl, HDA9.out.A⟩
      have hcb : HV w9 (.pointer (some ⟨p2, 0, none⟩)) LB := .inr ⟨p2, bw2, bk2, 3000, rfl, HDB9.out.A⟩
      have HCS := Lib.hid (copy_same_calls hca hcb a8 a9 xs ys n2 c8 k2 c9 HLA.out HLB.out HS9.out HT9.out HVA.out HVB.out (by omega) (by omega) B HB.out)
      clear hca hcb
      go_wp2_with fail
      refine HCS.out.mono ?_
      rintro e w10 ⟨rfl, hu10⟩
      have HX10 := Lib.hid (HX9.out.upd0 hu10)
      have HY10 := Lib.hid (HY9.out.upd0 hu10)
      have HDA10 := Lib.hid (HDA9.out.step hu10)
      have HDB10 := Lib.hid (HDB9.out.step hu10)
      have HU10 := Lib.hid (HU9.out.then hu10)
      clear hu10 HCS HX9 HY9 HDA9 HDB9 HU9 HS9 HT9
      have HRS := Lib.hid (ref_same_calls HDA10.out.R HDB10.out.R a6 a7 xs ys n2 c6 k2 c7 HLA.out HLB.out HX10.out HY10.out HVA.out HVB.out (by omega) (by omega) B HB.out)
      unfold rptr at HRS
      go_wp2_with fail
      refine HRS.out.mono ?_
      rintro e w11 ⟨rfl, hu11⟩
      have HX11 := Lib.hid (HX10.out.upd0 hu11)
      have HDA11 := Lib.hid (HDA10.out.step hu11)
      have HU11 := Lib.hid (HU10.out.then hu11)
      clear hu11 HRS HX10 HY10 HDA10 HDB10 HU10
      go_wp2_with fail
      refine (roots_calls n2 c6 HLA.out HX11.out (by omega)).mono ?_
      rintro e w12 ⟨a12, c12, rfl, hs12, hu12, -⟩
      have HX12 := Lib.hid (HX11.out.upd0 hu12)
      have HDA12 := Lib.hid (HDA11.out.step hu12)
      have HU12 := Lib.hid (HU11.out.then hu12)
      have HS12 := Lib.hid hs12
      rw [HLA.out]
      clear hs12 hu12 HX11 HDA11 HU11
      go_wp2_with fail
      refine (roots_calls n2 c6 HLA.out HX12.out (by omega)).mono ?_
      rintro e w13 ⟨a13, c13, rfl, hs13, hu13, -⟩
      have HDA13 := Lib.hid (HDA12.out.step hu13)
      have HU13 := Lib.hid (HU12.out.then hu13)
      have HS13 := Lib.hid (HS12.out.upd0 hu13)
      have HT13 := Lib.hid hs13
      rw [HLA.out]
      clear hs13 hu13 HX12 HDA12 HU12 HS12
      have hca : HV w13 (.pointer (some ⟨p, 0, none⟩)) LA := .inr ⟨p, bw, bk, 3000, rfl, HDA13.out.A⟩
      have HCS := Lib.hid (copy_same_calls hca hca a12 a13 xs xs n2 c12 n2 c13 HLA.out HLA.out HS13.out HT13.out HVA.out HVA.out (by omega) (by omega) true (by simp [same_self]))
      clear hca
      go_wp2_with fail
      refine HCS.out.mono ?_
      rintro e w14 ⟨rfl, hu14⟩
      have HU14 := Lib.hid (HU13.out.then hu14)
      clear hu14 HCS
      go_wp2_with fail
      refine (lives18 _).mono ?_
      rintro e w15 ⟨rfl, hu15⟩
      go_wp2
      go_ret
      exact ⟨rfl, HU14.out.then hu15⟩
set_option maxRecDepth 100000 in
theorem law_CopySames (v v2 v3 : Value) (w : World) (h : ArgS Try.prog w 92 v) (h2 : ArgS Try.prog w 92 v2) (h3 : ArgS Try.prog w 110 v3) :
    Calls Try.prog 14 #[v, v2, v3] w fun e w' => e = .returned (.bool true) ∧ Upd [] w w' := by
  obtain ⟨a, len, cap, n, rfl, hr⟩ := h.slice Try.underlying92
  obtain ⟨b, len2, cap2, n2, rfl, hr2⟩ := h2.slice Try.underlying92
  obtain ⟨cs, n3, rfl, hr3⟩ := h3.agg (by rw [Try.underlying110])
  obtain ⟨m, _, hlen, hel⟩ := hr3.array Try.underlying110
  have c1 : Program.cellsOf Try.prog 93 = 1 := by kernel_rfl
  have c2 : Program.cellsOf Try.prog 110 = 2 := by kernel_rfl
  rw [c2] at hlen
  have e0 := hel 0 (by omega)
  have e1 := hel 1 (by omega)
  obtain ⟨cl, hcl⟩ : ∃ cl, cl = cs.toList := ⟨_, rfl⟩
  rw [← hcl] at hlen e0 e1
  match cl, hlen with
  | [x0, x1], _ =>
    obtain rfl : cs = #[x0, x1] := by
      apply Array.ext'
      rw [← hcl]
    simp [c1] at e0 e1
    have hx : ∀ x, RdS Try.prog w m 93 [x] → ∃ a n c l, x = .slice a n c ∧ l.length = n ∧ MemW w a l ∧ RngW l ∧ n ≤ 140737488351232 := by
      intro x h
      rcases h.slice Try.underlying93 (by rw [cells_word]; omega) with e | ⟨a', len', cap', m', _, e, _⟩
      · injection e with e _
        subst e
        obtain ⟨l, h1, h2, h3, h4⟩ := words_open h
        exact ⟨_, _, _, l, rfl, h1, h2, h3, h4⟩
      · injection e with e _
        subst e
        obtain ⟨l, h1, h2, h3, h4⟩ := words_open h
        exact ⟨_, _, _, l, rfl, h1, h2, h3, h4⟩
    obtain ⟨a3, n3', c3, ws, rfl, k1, k2, k3, k4⟩ := hx x0 e0
    obtain ⟨a4, n4, c4, us, rfl, g1, g2, g3, g4⟩ := hx x1 e1
    obtain ⟨l, l1, l2, l3, l4⟩ := objs_open hr
    obtain ⟨o, o1, o2, o3, o4⟩ := objs_open hr2
    exact sames_walk len n3' cap c3 len2 n4 cap2 c4 l1 k1 l2 l3 k2 k3 (by unfold maxLen at l4; omega) (by omega) o1 g1 o2 o3 g2 g3 (by unfold maxLen at o4; omega) (by omega)
end Go.Proofs.Ytkbnkpllbgofhaa
