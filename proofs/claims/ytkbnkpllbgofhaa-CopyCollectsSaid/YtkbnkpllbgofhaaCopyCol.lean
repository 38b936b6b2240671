/-
  CopyCollects.
-/
import Derived.Test.YtkbnkpllbgofhaaCopyS
namespace Go.Proofs.Ytkbnkpllbgofhaa
open Go.RowKit HeapM

set_option maxRecDepth 100000 in
set_option maxHeartbeats 3000000 in
theorem collects_walk {w : World} {a a2 : Option Addr} {l : List ObjD} {ws : List WordD} (n n2 c c2 : Nat) (kk : Int) (hn : l.length = n) (hn2 : ws.length = n2) (hl : MemO w a l) (hr : RngO l) (hl2 : MemW w a2 ws) (hr2 : RngW ws) (h1 : n ≤ 9223372036854775807) (h2 : n2 ≤ 9223372036854775807) :
    Calls Try.prog 13 #[.slice a n c, .slice a2 n2 c2, .int .i64 kk] w fun e w' => e = .returned (.bool true) ∧ Upd [] w w' := by
  have hlight := Lib.hid (light_calls (w := w) (a2 := a2) n n2 c c2 hn hn2 hl hr h1 h2)
  have HL := Lib.hid hl
  have HR := Lib.hid hr
  have HL2 := Lib.hid hl2
  have HR2 := Lib.hid hr2
  have HN := Lib.hid hn
  have HN2 := Lib.hid hn2
  clear hl hr hl2 hr2 hn hn2
  cases hb : lightB l ws with
  | false =>
    rw [hb] at hlight
    clear hb
    go_enter Try.func13, Try.ntmps13
    go_wp2_with fail
    refine hlight.out.mono ?_
    rintro e w1 ⟨rfl, hu1⟩
    have HU1 := Lib.hid hu1
    clear hu1
    go_wp2_with fail
    refine (lives18 _).mono ?_
    rintro e w2 ⟨rfl, hu2⟩
    go_wp2
    go_ret
    exact ⟨rfl, HU1.out.then hu2⟩
  | true =>
    rw [hb] at hlight
    obtain ⟨b1, b2, b3⟩ := light_big hb
    rw [HN.out] at b1
    rw [HN2.out] at b2
    have B3 := Lib.hid b3
    clear hb b3
    go_enter Try.func13, Try.ntmps13
    go_wp2_with fail
    refine hlight.out.mono ?_
    rintro e w1 ⟨rfl, hu1⟩
    have HU1 := Lib.hid hu1
    clear hu1 hlight
    go_wp2_with fail
    refine (made_calls n c HN.out (HL.out.upd HU1.out) HR.out b1 B3.out).mono ?_
    rintro e w2 ⟨p, bw, bk, pr, v, bs, sa, sc, rfl, hD, hsa⟩
    have hatl := madeAt_len l
    have hU2 := Lib.hid (HU1.out.then hD.upd)
    generalize madeL l = L at *
    generalize madeAt l = at_ at *
    have HD := Lib.hid hD
    have HSA := Lib.hid hsa
    have HAL := Lib.hid hatl
    have hmet : Hid (∀ xs, Met L (reachR L xs)) := fun xs => Met.bfs L xs L.length
    have hsmall := hD.R.small
    clear hD hsa hatl
    obtain ⟨m, hm⟩ : ∃ m, m = at_.length := ⟨_, rfl⟩
    have hm40 : m ≤ 40 := by rw [hm, HAL.out, HN.out]; exact b1
    rw [← hm]
    have HM := Lib.hid hm
    clear hm
    unfold hptr rptr
    go_wp2_with fail
    refine (words18_calls n2 c2 m sc HN2.out HM.out.symm (HL2.out.upd hU2.out) HR2.out HSA.out (by omega) (by omega)).mono ?_
    rintro e w3 ⟨a3, c3, rfl, hs3, hu3, -⟩
    have hvr : ∀ x, x ∈ ws.map (wordVal at_) → 0 ≤ x ∧ x < 18446744073709551616 := by
      intro x hx
      obtain ⟨z, hz, rfl⟩ := List.mem_map.1 hx
      exact wordVal_range _ (HR2.out z hz)
    have hvl : (ws.map (wordVal at_)).length = n2 := by rw [List.length_map, HN2.out]
    generalize ws.map (wordVal at_) = xs at *
    have HD3 := Lib.hid (HD.out.step hu3)
    have HU3 := Lib.hid (hU2.out.then hu3)
    have HS3 := Lib.hid hs3
    have HVR := Lib.hid hvr
    have HVL := Lib.hid hvl
    rw [hvl]
    clear hs3 hu3 hvr hvl hU2 HD HSA
    go_wp2_with fail
    refine (roots_calls n2 c3 HVL.out HS3.out (by omega)).mono ?_
    rintro e w4 ⟨a4, c4, rfl, hs4, hu4, -⟩
    have HD4 := Lib.hid (HD3.out.step hu4)
    have HU4 := Lib.hid (HU3.out.then hu4)
    have HW4 := Lib.hid (HS3.out.upd0 hu4)
    rw [HVL.out]
    go_wp2_with fail
    refine (collect_calls HD4.out.A a4 xs n2 c4 HVL.out hs4 HVR.out (by omega)).mono ?_
    rintro e w5 ⟨p5, bw5, bk5, a5, c5, rfl, hX, hy, hu5, -, -, -⟩
    have HD5 := Lib.hid (HD4.out.step hu5)
    have HU5 := Lib.hid (HU4.out.then hu5)
    have HW5 := Lib.hid (HW4.out.upd0 hu5)
    have HX := Lib.hid hX
    have HY := Lib.hid hy
    rw [HVL.out]
    clear hs4 hu4 HD3 HU3 HS3 HD4 HU4 HW4 hX hy hu5
    unfold hptr
    go_wp2_with fail
    refine (rcollect_calls HD5.out.R a3 xs n2 c3 HVL.out HW5.out HVR.out (by omega)).mono ?_
    rintro e w6 ⟨p6, v6, bs6, a6, c6, rfl, hX6, hy6, hu6⟩
    have HD6 := Lib.hid (HD5.out.step hu6)
    have HU6 := Lib.hid (HU5.out.then hu6)
    have HW6 := Lib.hid (HW5.out.upd0 hu6)
    have HXA := Lib.hid (HX.out.upd0 hu6)
    have HYA := Lib.hid (HY.out.upd0 hu6)
    have HXR := Lib.hid hX6
    have HYR := Lib.hid hy6
    rw [HVL.out]
    clear HD5 HU5 HW5 HX HY hX6 hy6 hu6
    have eln : ((n2 : Int) != (n2 : Int)) = false := by simp
    unfold rptr
    go_wp2_with fail
    refine (same_calls HXA.out HXR.out).mono ?_
    rintro e w7 ⟨rfl, hu7⟩
    have HU67 := Lib.hid hu7
    clear hu7
    go_wp2_with fail
    refine (same_calls (HD6.out.step HU67.out).A (HD6.out.step HU67.out).R).mono ?_
    rintro e w8 ⟨rfl, hu8⟩
    have HU68 := Lib.hid (HU67.out.then hu8)
    clear hu8 HU67
    go_wp2_with fail
    go_loopw [72] (fun i wr => ∃ k : Nat, k ≤ n2 ∧ i = .int .i64 k ∧ Hid (Upd [] w6 wr)) (fun i _ => n2 - (intOf i).toNat)
    case atStart => exact ⟨0, by omega, rfl, HU68⟩
    case round =>
      obtain ⟨k, hk, rfl, hU⟩ := hrel
      by_cases hlt : k < n2
      · have hkl : k < (xs.map (movedR L (reachR L xs))).length := by rw [List.length_map, HVL.out]; exact hlt
        obtain ⟨b5, o5, rfl, hc5⟩ := (HYA.out.upd0 hU.out) k hkl
        obtain ⟨b6, o6, rfl, hc6⟩ := (HYR.out.upd0 hU.out) k hkl
        generalize (xs.map (movedR L (reachR L xs))).getD k 0 = y at *
        have i1 : (0 : Int) ≤ k := by omega
        have i2 : (k : Int) < n2 := by omega
        have e1 : (y != y) = false := by simp
        clear hkl
        go_wp2_with fail
        go_quiet (fail)
        have hU2 := Lib.hid (hU.out.drewN nq)
        clear hU hc5 hc6 e1
        go_wp2
        go_roundw
        case rel => exact ⟨k + 1, by omega, by go_num, hU2⟩
        case measure => simp [intOf]; omega
      · clear HYA HYR HXA HXR
        have HDr := Lib.hid (HD6.out.step hU.out)
        have HWr := Lib.hid (HW6.out.upd0 hU.out)
        have HUr := Lib.hid (HU6.out.then hU.out)
        clear hU HD6 HU6 HW6 HU68
        go_wp2_with fail
        refine (roots_calls n2 c3 HVL.out HWr.out (by omega)).mono ?_
        rintro e w9 ⟨a9, c9, rfl, hs9, hu9, -⟩
        have HD9 := Lib.hid (HDr.out.step hu9)
        have HW9 := Lib.hid (HWr.out.upd0 hu9)
        have HU9 := Lib.hid (HUr.out.then hu9)
        have HS9 := Lib.hid hs9
        rw [HVL.out]
        clear hs9 hu9 HDr HWr HUr
        go_wp2_with fail
        have hv9 : HV w9 (.pointer (some ⟨p, 0, none⟩)) L := .inr ⟨p, bw, bk, 3000, rfl, HD9.out.A⟩
        refine (reached_calls hv9 a9 xs n2 c9 HVL.out HS9.out HVR.out (by omega)).mono ?_
        rintro e w10 ⟨a10, c10, rfl, hs10, hu10⟩
        have HD10 := Lib.hid (HD9.out.step hu10)
        have HW10 := Lib.hid (HW9.out.upd0 hu10)
        have HU10 := Lib.hid (HU9.out.then hu10)
        have HS10 := Lib.hid hs10
        clear hs10 hu10 HD9 HW9 HU9 HS9 hv9
        have hrl := (hmet.out xs).le hsmall
        obtain ⟨R, hR⟩ : ∃ R, R = reachR L xs := ⟨_, rfl⟩
        rw [← hR] at HS10 hrl ⊢
        have HRR := Lib.hid hR
        clear hR
        go_wp2_with fail
        refine (rreached_calls HD10.out.R a3 xs n2 c3 HVL.out HW10.out HVR.out (by omega)).mono ?_
        rw [← HRR.out]
        rintro e w11 ⟨a11, c11, rfl, hs11, hu11⟩
        have HD11 := Lib.hid (HD10.out.step hu11)
        have HW11 := Lib.hid (HW10.out.upd0 hu11)
        have HU11 := Lib.hid (HU10.out.then hu11)
        have HI := Lib.hid (ints_calls R.length R.length c10 c11 rfl rfl (HS10.out.upd0 hu11) hs11 (by omega) (by omega) rfl)
        clear hs11 hu11 HD10 HW10 HU10 HS10
        go_wp2_with fail
        refine HI.out.mono ?_
        rintro e w12 ⟨rfl, hu12⟩
        have HD12 := Lib.hid (HD11.out.step hu12)
        have HW12 := Lib.hid (HW11.out.upd0 hu12)
        have HU12 := Lib.hid (HU11.out.then hu12)
        clear hu12 HD11 HW11 HU11 HI
        go_wp2_with fail
        refine (roots_calls n2 c3 HVL.out HW12.out (by omega)).mono ?_
        rintro e w13 ⟨a13, c13, rfl, hs13, hu13, -⟩
        have HD13 := Lib.hid (HD12.out.step hu13)
        have HW13 := Lib.hid (HW12.out.upd0 hu13)
        have HU13 := Lib.hid (HU12.out.then hu13)
        have HS13 := Lib.hid hs13
        rw [HVL.out]
        clear hs13 hu13 HD12 HW12 HU12
        go_wp2_with fail
        have hv13 : HV w13 (.pointer (some ⟨p, 0, none⟩)) L := .inr ⟨p, bw, bk, 3000, rfl, HD13.out.A⟩
        refine (live_calls hv13 a13 xs n2 c13 HVL.out HS13.out HVR.out (by omega)).mono ?_
        obtain ⟨lv, hlv⟩ : ∃ lv, lv = liveR L xs := ⟨_, rfl⟩
        rw [← hlv]
        have HLV := Lib.hid hlv
        clear hlv
        rintro e w14 ⟨rfl, hu14⟩
        have HD14 := Lib.hid (HD13.out.step hu14)
        have HW14 := Lib.hid (HW13.out.upd0 hu14)
        have HU14 := Lib.hid (HU13.out.then hu14)
        clear hu14 HD13 HW13 HU13 hv13 HS13
        have el : ((lv : Int) == (lv : Int)) = true := by simp
        go_wp2_with fail
        refine (rlive_calls HD14.out.R a3 xs n2 c3 HVL.out HW14.out HVR.out (by omega)).mono ?_
        rw [← HLV.out]
        rintro e w15 ⟨rfl, hu15⟩
        have HD15 := Lib.hid (HD14.out.step hu15)
        have HW15 := Lib.hid (HW14.out.upd0 hu15)
        have HU15 := Lib.hid (HU14.out.then hu15)
        clear hu15 HD14 HW14 HU14 
        go_wp2_with fail
        refine (roots_calls n2 c3 HVL.out HW15.out (by omega)).mono ?_
        rintro e w16 ⟨a16, c16, rfl, hs16, hu16, -⟩
        have HD16 := Lib.hid (HD15.out.step hu16)
        have HW16 := Lib.hid (HW15.out.upd0 hu16)
        have HU16 := Lib.hid (HU15.out.then hu16)
        have HS16 := Lib.hid hs16
        rw [HVL.out]
        clear hs16 hu16 HD15 HW15 HU15
        go_wp2_with fail
        refine (room_calls HD16.out.A a16 xs n2 c16 kk HVL.out HS16.out HVR.out (by omega)).mono ?_
        obtain ⟨B, hB⟩ : ∃ B, B = decide (0 ≤ kk ∧ kk ≤ ((3000 : Nat) : Int) - liveR L xs) := ⟨_, rfl⟩
        rw [← hB]
        have HB := Lib.hid hB
        clear hB
        rintro e w17 ⟨rfl, hu17⟩
        have HD17 := Lib.hid (HD16.out.step hu17)
        have HW17 := Lib.hid (HW16.out.upd0 hu17)
        have HU17 := Lib.hid (HU16.out.then hu17)
        clear hu17 HD16 HW16 HU16 HS16
        have eb : (B == B) = true := by simp
        go_wp2_with fail
        refine (rroom_calls HD17.out.R a3 xs n2 c3 kk HVL.out HW17.out HVR.out (by omega)).mono ?_
        rw [← HB.out]
        rintro e w18 ⟨rfl, hu18⟩
        have HD18 := Lib.hid (HD17.out.step hu18)
        have HW18 := Lib.hid (HW17.out.upd0 hu18)
        have HU18 := Lib.hid (HU17.out.then hu18)
        clear hu18 HD17 HW17 HU17 
        go_wp2_with fail
        refine (lives18 _).mono ?_
        rintro e w19 ⟨rfl, hu19⟩
        go_wp2
        go_ret
        exact ⟨rfl, HU18.out.then hu19⟩
theorem law_CopyCollects (v v2 : Value) (kk : Int) (w : World) (h : ArgS Try.prog w 92 v) (h2 : ArgS Try.prog w 93 v2) (_hk : (Lit.int .i64 kk).wf = true) :
    Calls Try.prog 13 #[v, v2, .int .i64 kk] w fun e w' => e = .returned (.bool true) ∧ Upd [] w w' := by
  obtain ⟨a, len, cap, n, rfl, hr⟩ := h.slice Try.underlying92
  obtain ⟨a2, len2, cap2, n2, rfl, hr2⟩ := h2.slice Try.underlying93
  obtain ⟨l, l1, l2, l3, l4⟩ := objs_open hr
  obtain ⟨ws, k1, k2, k3, k4⟩ := words_open hr2
  exact collects_walk len len2 cap cap2 kk l1 k1 l2 l3 k2 k3 (by unfold maxLen at l4; omega) (by omega)
end Go.Proofs.Ytkbnkpllbgofhaa
