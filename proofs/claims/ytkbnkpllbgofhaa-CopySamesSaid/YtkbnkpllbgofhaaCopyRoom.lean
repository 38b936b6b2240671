/-
  CopyRoom.
-/
import Derived.Test.YtkbnkpllbgofhaaMadeC
namespace Go.Proofs.Ytkbnkpllbgofhaa
open Go.RowKit HeapM

theorem collect_live (L : List HObj) (ws : List Int) : HeapM.used (collectL L (reachR L ws)) = liveR L ws := by
  unfold liveR liveTo collectL
  rw [used_sum, List.map_map, List.take_of_length_le (Nat.le_refl _)]
  congr 1
  apply List.map_congr_left
  intro r _
  simp [outWords_len]
theorem collect_le (L : List HObj) (ws : List Int) : HeapM.used (collectL L (reachR L ws)) ≤ HeapM.used L := by
  have h := newL_used (Met.bfs L ws L.length)
  have e : HeapM.used (collectL L (reachR L ws)) = HeapM.used (newL L (reachR L ws)) := by
    rw [used_sum, used_sum]
    unfold collectL newL
    rw [List.map_map, List.map_map]
    congr 1
    apply List.map_congr_left
    intro r _
    simp [outWords_len]
  rw [e]
  exact h
theorem light_big {l : List ObjD} {ws : List WordD} (h : lightB l ws = true) : l.length ≤ 40 ∧ ws.length ≤ 40 ∧ sizeTo l l.length ≤ 300 := by
  have := of_decide_eq_true h
  omega
set_option maxRecDepth 100000 in
set_option maxHeartbeats 4000000 in
theorem room_walk {w : World} {a a2 : Option Addr} {l : List ObjD} {ws : List WordD} (n n2 c c2 : Nat) (hn : l.length = n) (hn2 : ws.length = n2) (hl : MemO w a l) (hr : RngO l) (hl2 : MemW w a2 ws) (hr2 : RngW ws) (h1 : n ≤ 9223372036854775807) (h2 : n2 ≤ 9223372036854775807) :
    Calls Try.prog 11 #[.slice a n c, .slice a2 n2 c2] w fun e w' => e = .returned (.bool true) ∧ Upd [] w w' := by
  have hlight := Lib.hid (light_calls (w := w) (a2 := a2) n n2 c c2 hn hn2 hl hr h1 h2)
  have HL := Lib.hid hl
  have HR := Lib.hid hr
  have HL2 := Lib.hid hl2
  have HR2 := Lib.hid hr2
  have HN := Lib.hid hn
  have HN2 := Lib.hid hn2
  clear hl hr hl2 hr2 hn hn2
  cases hb : lightB l ws with
  | false =>
    rw [hb] at hlight
    clear hb
    go_enter Try.func11, Try.ntmps11
    go_wp2_with fail
    refine hlight.out.mono ?_
    rintro e w1 ⟨rfl, hu1⟩
    have HU1 := Lib.hid hu1
    clear hu1
    go_wp2_with fail
    refine (lives18 _).mono ?_
    rintro e w2 ⟨rfl, hu2⟩
    go_wp2
    go_ret
    exact ⟨rfl, HU1.out.then hu2⟩
  | true =>
    rw [hb] at hlight
    obtain ⟨b1, b2, b3⟩ := light_big hb
    rw [HN.out] at b1
    rw [HN2.out] at b2
    have B3 := Lib.hid b3
    clear hb b3
    go_enter Try.func11, Try.ntmps11
    go_wp2_with fail
    refine hlight.out.mono ?_
    rintro e w1 ⟨rfl, hu1⟩
    have HU1 := Lib.hid hu1
    clear hu1 hlight
    go_wp2_with fail
    refine (made_calls n c HN.out (HL.out.upd HU1.out) HR.out b1 B3.out).mono ?_
    rintro e w2 ⟨p, bw, bk, pr, v, bs, sa, sc, rfl, hD, hsa⟩
    have hatl := madeAt_len l
    have huse := madeL_used l
    have hU2 := Lib.hid (HU1.out.then hD.upd)
    generalize madeL l = L at *
    generalize madeAt l = at_ at *
    have HD := Lib.hid hD
    have HSA := Lib.hid hsa
    have HAL := Lib.hid hatl
    have huL : HeapM.used L ≤ 300 := by rw [huse]; exact B3.out
    clear hD hsa hatl huse
    obtain ⟨m, hm⟩ : ∃ m, m = at_.length := ⟨_, rfl⟩
    have hm40 : m ≤ 40 := by rw [hm, HAL.out, HN.out]; exact b1
    rw [← hm]
    have HM := Lib.hid hm
    clear hm
    unfold hptr rptr
    go_wp2_with fail
    refine (words18_calls n2 c2 m sc HN2.out HM.out.symm (HL2.out.upd hU2.out) HR2.out HSA.out (by omega) (by omega)).mono ?_
    rintro e w3 ⟨a3, c3, rfl, hs3, hu3, -⟩
    have hvr : ∀ x, x ∈ ws.map (wordVal at_) → 0 ≤ x ∧ x < 18446744073709551616 := by
      intro x hx
      obtain ⟨z, hz, rfl⟩ := List.mem_map.1 hx
      exact wordVal_range _ (HR2.out z hz)
    have hvl : (ws.map (wordVal at_)).length = n2 := by rw [List.length_map, HN2.out]
    generalize ws.map (wordVal at_) = xs at *
    have HD3 := Lib.hid (HD.out.step hu3)
    have HU3 := Lib.hid (hU2.out.then hu3)
    have HS3 := Lib.hid hs3
    have HVR := Lib.hid hvr
    have HVL := Lib.hid hvl
    rw [hvl]
    clear hs3 hu3 hvr hvl hU2 HD
    go_wp2_with fail
    refine (roots_calls n2 c3 HVL.out HS3.out (by omega)).mono ?_
    rintro e w4 ⟨a4, c4, rfl, hs4, hu4, -⟩
    have HD4 := Lib.hid (HD3.out.step hu4)
    have HU4 := Lib.hid (HU3.out.then hu4)
    have HS4 := Lib.hid hs4
    rw [HVL.out]
    clear hs4 hu4 HD3 HU3 HS3
    go_wp2_with fail
    refine (collect_calls HD4.out.A a4 xs n2 c4 HVL.out HS4.out HVR.out (by omega)).mono ?_
    rintro e w5 ⟨p5, bw5, bk5, a5, c5, rfl, hX, -, hu5, g1, g2, g3⟩
    have hcl := collect_live L xs
    have hcle := collect_le L xs
    rw [hcl] at hcle
    have HX := Lib.hid hX
    have HU45 := Lib.hid hu5
    have HCL := Lib.hid hcl
    clear hu5 hcl hX
    obtain ⟨s, hs⟩ : ∃ s, s = liveR L xs := ⟨_, rfl⟩
    rw [← hs] at HCL hcle
    have HSS := Lib.hid hs
    clear hs
    have hs3 : s ≤ 300 := by omega
    unfold hptr
    go_wp2_with fail
    refine (words_A HX.out).mono ?_
    rintro e w' ⟨rfl, rfl⟩
    go_wp2_with fail
    refine (used_A HX.out s (by rw [HCL.out])).mono ?_
    rintro e w' ⟨rfl, rfl⟩
    go_wp2_with fail
    have hno : ¬ fits (collectL L (reachR L xs)) 3000 1 ((3000 : Int) - (s : Int)) := by
      unfold fits
      rw [HCL.out]
      omega
    refine (alloc_full HX.out 1 _ hno).mono ?_
    clear hno
    rintro e w6 ⟨rfl, nd, rfl⟩
    have HX6 := Lib.hid (HX.out.upd0 ((Upd.refl [] w5).drewN nd))
    have HU46 := Lib.hid (HU45.out.drewN nd)
    clear HX HU45
    generalize w5.drewN nd = w6 at *
    go_wp2_with fail
    have hyes : fits (collectL L (reachR L xs)) 3000 1 ((3000 : Int) - (s : Int) - 1) := by
      unfold fits
      rw [HCL.out]
      omega
    refine (alloc_I HX6.out 1 _ hyes _ rfl).mono ?_
    clear hyes
    rintro e w7 ⟨rfl, hX7, hu7⟩
    have HU47 := Lib.hid (HU46.out.fresh hu7 (by simp; omega))
    clear hX7 hu7 HX6 HU46 g1 g2 g3 HCL
    have HA7 := Lib.hid (HD4.out.A.upd0 HU47.out)
    have HS7 := Lib.hid (HS4.out.upd0 HU47.out)
    go_wp2_with fail
    refine (room_calls HA7.out a4 xs n2 c4 ((3000 : Int) - (s : Int)) HVL.out HS7.out HVR.out (by omega)).mono ?_
    rw [← HSS.out, decide_eq_true (by omega)]
    rintro e w8 ⟨rfl, hu8⟩
    have HA8 := Lib.hid (HA7.out.upd0 hu8)
    have HS8 := Lib.hid (HS7.out.upd0 hu8)
    have HU48 := Lib.hid (HU47.out.then hu8)
    clear hu8 HA7 HS7 HU47
    go_wp2_with fail
    refine (room_calls HA8.out a4 xs n2 c4 ((3000 : Int) - (s : Int) + 1) HVL.out HS8.out HVR.out (by omega)).mono ?_
    rw [← HSS.out, decide_eq_false (by omega)]
    rintro e w9 ⟨rfl, hu9⟩
    have HA9 := Lib.hid (HA8.out.upd0 hu9)
    have HS9 := Lib.hid (HS8.out.upd0 hu9)
    have HU49 := Lib.hid (HU48.out.then hu9)
    clear hu9 HA8 HS8 HU48
    go_wp2_with fail
    refine (room_calls HA9.out a4 xs n2 c4 (-1) HVL.out HS9.out HVR.out (by omega)).mono ?_
    rw [← HSS.out, decide_eq_false (by omega)]
    rintro e w10 ⟨rfl, hu10⟩
    have HU10 := Lib.hid (HU4.out.then (HU49.out.then hu10))
    clear hu10 HA9 HS9 HU49
    go_wp2_with fail
    refine (lives18 _).mono ?_
    rintro e w11 ⟨rfl, hu11⟩
    go_wp2
    go_ret
    exact ⟨rfl, HU10.out.then hu11⟩
theorem law_CopyRoom (v v2 : Value) (w : World) (h : ArgS Try.prog w 92 v) (h2 : ArgS Try.prog w 93 v2) :
    Calls Try.prog 11 #[v, v2] w fun e w' => e = .returned (.bool true) ∧ Upd [] w w' := by
  obtain ⟨a, len, cap, n, rfl, hr⟩ := h.slice Try.underlying92
  obtain ⟨a2, len2, cap2, n2, rfl, hr2⟩ := h2.slice Try.underlying93
  obtain ⟨l, l1, l2, l3, l4⟩ := objs_open hr
  obtain ⟨ws, k1, k2, k3, k4⟩ := words_open hr2
  exact room_walk len len2 cap cap2 l1 k1 l2 l3 k2 k3 (by unfold maxLen at l4; omega) (by omega)
end Go.Proofs.Ytkbnkpllbgofhaa
