/-
  Texts of this claim, merged: SamX. Lemmas and contracts; no conditions of our own.
-/
import Derived.Test.YthmpaepdbjldfaaG18
import Derived.Deep.RegionHeld3

/-
  nat.Cmp and whole.Cmp of any numbers: whether they are alike.
-/
namespace Go.Proofs.Ythmpaepdbjldfaa
set_option linter.unusedVariables false
set_option linter.unusedSimpArgs false
open Go.RowKit

def cmp3 (x y : Int) : Int := if x < y then -1 else if y < x then 1 else 0
theorem cmp3_zero {x y : Int} : cmp3 x y = 0 ↔ x = y := by
  unfold cmp3
  split
  · constructor <;> intro h <;> omega
  · split
    · constructor <;> intro h <;> omega
    · constructor <;> intro h <;> omega
set_option maxRecDepth 100000 in
theorem nanInt_calls (x : Int) (w : World) : Calls Try.prog 114 #[.int .i64 x] w fun e w' => e = .returned (.bool false) ∧ w' = w := by
  go_enter Try.func114, Try.ntmps114
  go_wp2
  go_ret
  exact ⟨rfl, rfl⟩
set_option maxRecDepth 100000 in
theorem nanU32_calls (x : Int) (w : World) : Calls Try.prog 115 #[.int .u32 x] w fun e w' => e = .returned (.bool false) ∧ w' = w := by
  go_enter Try.func115, Try.ntmps115
  go_wp2
  go_ret
  exact ⟨rfl, rfl⟩
set_option maxRecDepth 100000 in
set_option maxHeartbeats 1500000 in
theorem cmpInt_calls (x y : Int) (w : World) : Calls Try.prog 112 #[.int .i64 x, .int .i64 y] w fun e w' => e = .returned (.int .i64 (cmp3 x y)) ∧ w' = w := by
  have h1 := Lib.hid (nanInt_calls x w)
  have h2 := Lib.hid (nanInt_calls y w)
  have HC : Hid (cmp3 x y = if x < y then -1 else if y < x then 1 else 0) := Lib.hid rfl
  generalize cmp3 x y = r at *
  go_enter Try.func112, Try.ntmps112
  go_wp2_with fail
  refine h1.out.mono ?_
  rintro e w2 ⟨rfl, rfl⟩
  go_wp2_with fail
  refine h2.out.mono ?_
  rintro e w3 ⟨rfl, rfl⟩
  clear h1 h2
  by_cases hx : x < y
  · have HX : Hid (r = -1) := Lib.hid (by rw [HC.out, if_pos hx])
    clear HC
    go_wp2
    go_ret
    exact ⟨by rw [HX.out]; rfl, rfl⟩
  · by_cases hy : y < x
    · have HX : Hid (r = 1) := Lib.hid (by rw [HC.out, if_neg hx, if_pos hy])
      clear HC
      go_wp2
      go_ret
      exact ⟨by rw [HX.out]; rfl, rfl⟩
    · have HX : Hid (r = 0) := Lib.hid (by rw [HC.out, if_neg hx, if_neg hy])
      clear HC
      go_wp2
      go_ret
      exact ⟨by rw [HX.out]; rfl, rfl⟩
set_option maxRecDepth 100000 in
set_option maxHeartbeats 1500000 in
theorem cmpU32_calls (x y : Int) (w : World) : Calls Try.prog 113 #[.int .u32 x, .int .u32 y] w fun e w' => e = .returned (.int .i64 (cmp3 x y)) ∧ w' = w := by
  have h1 := Lib.hid (nanU32_calls x w)
  have h2 := Lib.hid (nanU32_calls y w)
  have HC : Hid (cmp3 x y = if x < y then -1 else if y < x then 1 else 0) := Lib.hid rfl
  generalize cmp3 x y = r at *
  go_enter Try.func113, Try.ntmps113
  go_wp2_with fail
  refine h1.out.mono ?_
  rintro e w2 ⟨rfl, rfl⟩
  go_wp2_with fail
  refine h2.out.mono ?_
  rintro e w3 ⟨rfl, rfl⟩
  clear h1 h2
  by_cases hx : x < y
  · have HX : Hid (r = -1) := Lib.hid (by rw [HC.out, if_pos hx])
    clear HC
    go_wp2
    go_ret
    exact ⟨by rw [HX.out]; rfl, rfl⟩
  · by_cases hy : y < x
    · have HX : Hid (r = 1) := Lib.hid (by rw [HC.out, if_neg hx, if_pos hy])
      clear HC
      go_wp2
      go_ret
      exact ⟨by rw [HX.out]; rfl, rfl⟩
    · have HX : Hid (r = 0) := Lib.hid (by rw [HC.out, if_neg hx, if_neg hy])
      clear HC
      go_wp2
      go_ret
      exact ⟨by rw [HX.out]; rfl, rfl⟩
theorem take_eq {xs ys : List Int} {k : Nat} (hx : k ≤ xs.length) (hy : k ≤ ys.length) (h : ∀ i, i < k → xs.getD i 0 = ys.getD i 0) : xs.take k = ys.take k := by
  apply List.ext_getElem (by rw [List.length_take, List.length_take]; omega)
  intro i h1 h2
  rw [List.length_take] at h1
  have := h i (by omega)
  rw [List.getElem_take, List.getElem_take]
  rw [List.getD_eq_getElem?_getD, List.getD_eq_getElem?_getD, List.getElem?_eq_getElem (by omega), List.getElem?_eq_getElem (by omega)] at this
  exact this
theorem take_ne {xs ys : List Int} {k i : Nat} (hi : i < k) (hx : k ≤ xs.length) (hy : k ≤ ys.length) (h : xs.getD i 0 ≠ ys.getD i 0) : xs.take k ≠ ys.take k := by
  intro e
  have := congrArg (fun l => l.getD i 0) e
  simp only [List.getD_eq_getElem?_getD, List.getElem?_take, if_pos hi] at this
  exact h (by rw [List.getD_eq_getElem?_getD, List.getD_eq_getElem?_getD]; exact this)
set_option maxRecDepth 100000 in
set_option maxHeartbeats 1500000 in
theorem natCmpX_calls {P P' : Nat → Prop} {w : World} {a a' : Option Addr} {xs ys : List Int} (m m' c c' : Nat) (hm : xs.length = m) (hm' : ys.length = m') (h : LimbsOf w P a xs) (h' : LimbsOf w P' a' ys) (hc : m ≤ c) (hc' : m' ≤ c') (hb : m ≤ 35184372088832) (hb' : m' ≤ 35184372088832) (hx : ∀ x ∈ xs, 0 ≤ x ∧ x < 4294967296) (hy : ∀ x ∈ ys, 0 ≤ x ∧ x < 4294967296) :
    Calls Try.prog 111 #[.slice a m c, .slice a' m' c'] w fun e w' => (∃ r : Int, e = .returned (.int .i64 r) ∧ (r = 0 ↔ trimL xs = trimL ys)) ∧ Upd [] w w' := by
  have hT := Lib.hid (trim_calls m c hm h hc hb hx)
  have hT' := Lib.hid (trim_calls m' c' hm' h' hc' hb' hy)
  have HL := Lib.hid h
  have HL' := Lib.hid h'
  have HM := Lib.hid hm
  have HM' := Lib.hid hm'
  clear h h' hm hx hm' hy
  go_enter Try.func111, Try.ntmps111
  go_wp2_with fail
  refine hT.out.mono ?_
  rintro e w' ⟨⟨k, hk, rfl, ht⟩, rfl⟩
  go_wp2_with fail
  refine hT'.out.mono ?_
  rintro e w2 ⟨⟨k2, hk2, rfl, ht2⟩, rfl⟩
  have HT := Lib.hid ht
  have HT2 := Lib.hid ht2
  clear ht ht2 hT hT'
  by_cases hkk : k = k2
  · subst hkk
    have HE : Hid (trimL xs = trimL ys ↔ xs.take k = ys.take k) := Lib.hid (by rw [HT.out, HT2.out])
    clear HT HT2
    have hw0 : IntKind.i64.wrap (((k : Nat) : Int) - 1) = ((k : Nat) : Int) - 1 := IntWalk.i64_in _ (by omega)
    go_wp2_with fail
    obtain ⟨W0, rfl⟩ : ∃ W0 : World, W0 = w2 := ⟨_, rfl⟩
    go_loopw [5] (fun i wr => ∃ j : Nat, j ≤ k ∧ i = .int .i64 ((j : Int) - 1) ∧ Hid (∀ i, j ≤ i → i < k → xs.getD i 0 = ys.getD i 0) ∧ Hid (Upd [] W0 wr)) (fun i _ => (intOf i + 1).toNat)
    case atStart => exact ⟨k, Nat.le_refl _, rfl, Lib.hid (fun i h1 h2 => by omega), Lib.hid (Upd.refl _ _)⟩
    case round =>
      obtain ⟨j, hj, rfl, hG, hU⟩ := hrel
      cases j with
      | zero =>
        have HX : Hid (trimL xs = trimL ys) := Lib.hid (HE.out.2 (take_eq (by rw [HM.out]; exact hk) (by rw [HM'.out]; exact hk2) (fun i hi => hG.out i (by omega) hi)))
        clear hG
        go_wp2
        go_ret
        exact ⟨⟨0, rfl, by simp [HX.out]⟩, hU.out⟩
      | succ j =>
        have hjl : j < xs.length := by rw [HM.out]; omega
        have hjl' : j < ys.length := by rw [HM'.out]; omega
        obtain ⟨b, o, rfl, hc1⟩ := HL.out.cell hjl
        obtain ⟨b', o', rfl, hc2⟩ := HL'.out.cell hjl'
        have c1 := hU.out.cell hc1 (by simp)
        have c2 := hU.out.cell hc2 (by simp)
        have HN : Hid (xs.getD j 0 ≠ ys.getD j 0 → ¬ trimL xs = trimL ys) := Lib.hid (fun h e => take_ne (k := k) (by omega) (by rw [HM.out]; exact hk) (by rw [HM'.out]; exact hk2) h (HE.out.1 e))
        have HS : Hid (xs.getD j 0 = ys.getD j 0 → ∀ i, j ≤ i → i < k → xs.getD i 0 = ys.getD i 0) := Lib.hid (fun h i h1 h2 => by
          by_cases e : i = j
          · rw [e]; exact h
          · exact hG.out i (by omega) h2)
        clear hc1 hc2 hG
        obtain ⟨x, hx⟩ : ∃ x, x = xs.getD j 0 := ⟨_, rfl⟩
        obtain ⟨y, hy⟩ : ∃ y, y = ys.getD j 0 := ⟨_, rfl⟩
        rw [← hx] at c1 HN HS
        rw [← hy] at c2 HN HS
        clear hx hy
        rw [show ((j + 1 : Nat) : Int) - 1 = (j : Int) by omega]
        have hj0 : (0 : Int) ≤ (j : Int) := by omega
        have hjk : (j : Int) < (k : Int) := by omega
        have hw1 : IntKind.i64.wrap ((j : Int) - 1) = (j : Int) - 1 := IntWalk.i64_in _ (by omega)
        by_cases hxy : x = y
        · subst hxy
          have HX := Lib.hid (HS.out rfl)
          clear HN HS
          go_wp2_with fail
          go_quiet (fail)
          go_wp2
          go_roundw
          case rel => exact ⟨j, by omega, rfl, HX, Lib.hid (Upd.drewN hU.out _)⟩
          case measure => simp [intOf]
        · have HX := Lib.hid (HN.out hxy)
          clear HN HS
          go_wp2_with fail
          go_quiet (fail)
          go_wp2_with fail
          have HUd := Lib.hid (Upd.drewN hU.out nq)
          have d1 : (wr.drewN nq).cell? ⟨b, o + j, none⟩ = some (.int .u32 x) := c1
          have d2 : (wr.drewN nq).cell? ⟨b', o' + j, none⟩ = some (.int .u32 y) := c2
          obtain ⟨W1, hW1⟩ : ∃ W1, W1 = wr.drewN nq := ⟨_, rfl⟩
          rw [← hW1] at HUd d1 d2 ⊢
          have HCP := Lib.hid (fun W => cmpU32_calls x y W)
          have HZ : Hid (cmp3 x y = 0 ↔ trimL xs = trimL ys) := Lib.hid (by rw [cmp3_zero]; exact ⟨fun h => absurd h hxy, fun h => absurd h HX.out⟩)
          generalize cmp3 x y = r at *
          clear hW1 c1 c2 HX HE hU
          go_region_held3 (fun w' => w'.cell? ⟨b, o + j, none⟩ = some (.int .u32 x) ∧ w'.cell? ⟨b', o' + j, none⟩ = some (.int .u32 y)) (first | with_reducible exact ⟨d1, d2⟩ | go_keep) (first | (go_at_call 113; refine ((HCP.out _).mono ?_); rintro e w9 ⟨rfl, rfl⟩))
          go_wp2
          go_ret
          exact ⟨⟨r, rfl, HZ.out⟩, HUd.out.drew⟩
  · have HCP := Lib.hid (fun W => cmpInt_calls (k : Int) (k2 : Int) W)
    have HZ : Hid (cmp3 (k : Int) (k2 : Int) = 0 ↔ trimL xs = trimL ys) := Lib.hid (by
      rw [cmp3_zero]
      constructor
      · intro h; omega
      · intro h
        have h2 := congrArg List.length h
        rw [HT.out, HT2.out, List.length_take, List.length_take, HM.out, HM'.out] at h2
        omega)
    clear HT HT2
    generalize cmp3 (k : Int) (k2 : Int) = r at *
    have hkk' : ¬ (k : Int) = (k2 : Int) := by omega
    go_wp2_with fail
    refine (HCP.out _).mono ?_
    rintro e w3 ⟨rfl, rfl⟩
    go_wp2
    go_ret
    exact ⟨⟨r, rfl, HZ.out⟩, Upd.refl _ _⟩
theorem dropWhile_idem {α : Type} (p : α → Bool) : ∀ l : List α, (l.dropWhile p).dropWhile p = l.dropWhile p
  | [] => rfl
  | x :: l => by
    rw [List.dropWhile_cons]
    split
    · exact dropWhile_idem p l
    · rename_i h
      rw [List.dropWhile_cons, if_neg h]
theorem trimL_idem (xs : List Int) : trimL (trimL xs) = trimL xs := by
  unfold trimL
  rw [List.reverse_reverse, dropWhile_idem]
/-- A number's sign and limbs as they must be. -/
def normI (ng : Bool) (xs : List Int) : Bool × List Int := (ng && decide (0 < (trimL xs).length), trimL xs)
set_option maxRecDepth 100000 in
set_option maxHeartbeats 1500000 in
theorem wholeCmpX_calls {P P' : Nat → Prop} {w : World} {a a' : Option Addr} {xs ys : List Int} (ng ng' : Bool) (m m' c c' : Nat) (hm : xs.length = m) (hm' : ys.length = m') (h : LimbsOf w P a xs) (h' : LimbsOf w P' a' ys) (hc : m ≤ c) (hc' : m' ≤ c') (hb : m ≤ 35184372088832) (hb' : m' ≤ 35184372088832) (hx : ∀ x ∈ xs, 0 ≤ x ∧ x < 4294967296) (hy : ∀ x ∈ ys, 0 ≤ x ∧ x < 4294967296) :
    Calls Try.prog 107 #[.agg #[.bool ng, .slice a m c], .agg #[.bool ng', .slice a' m' c']] w fun e w' => (∃ r : Int, e = .returned (.int .i64 r) ∧ (r = 0 ↔ normI ng xs = normI ng' ys)) ∧ Upd [] w w' := by
  obtain ⟨hts, htl⟩ := trimL_sub hx
  obtain ⟨hus, hul⟩ := trimL_sub hy
  have hN1 := Lib.hid (fun (W : World) (hu : Upd [] w W) => wholeNorm_calls ng m c hm (h.upd0 hu) hc hb hx)
  have hN2 := Lib.hid (fun (W : World) (hu : Upd [] w W) => wholeNorm_calls ng' m' c' hm' (h'.upd0 hu) hc' hb' hy)
  have htb : (trimL xs).length ≤ 35184372088832 := by omega
  have hub : (trimL ys).length ≤ 35184372088832 := by omega
  have HEQ : Hid (normI ng xs = normI ng' ys ↔ (ng && decide (0 < (trimL xs).length)) = (ng' && decide (0 < (trimL ys).length)) ∧ trimL (trimL xs) = trimL (trimL ys)) := Lib.hid (by rw [trimL_idem, trimL_idem]; unfold normI; rw [Prod.mk.injEq])
  obtain ⟨ts, hts'⟩ : ∃ ts, ts = trimL xs := ⟨_, rfl⟩
  rw [← hts'] at hN1 hts htb HEQ
  obtain ⟨us, hus'⟩ : ∃ us, us = trimL ys := ⟨_, rfl⟩
  rw [← hus'] at hN2 hus hub HEQ
  have HUS := Lib.hid hus
  have HTS := Lib.hid hts
  obtain ⟨W2, hW2⟩ : ∃ W2, W2 = (w.alloc (.cells #[.bool ng, .slice a m c] 24)).alloc (.cells #[.bool ng', .slice a' m' c'] 24) := ⟨_, rfl⟩
  have hu2 : Upd [] w W2 := by rw [hW2]; exact ((Upd.refl [] w).alloc _).alloc _
  have hb2 : Blk W2 w.heap.size [.bool ng, .slice a m c] 24 := by rw [hW2]; exact (Blk.newAt rfl).alloc _
  have hb3 : Blk W2 (w.heap.size + 1) [.bool ng', .slice a' m' c'] 24 := by rw [hW2]; exact Blk.newAt (by simp)
  have hW2' := Lib.hid hW2
  clear h h' hm hm' hx hy hts htl hts' hus hul hus' hW2
  go_enter Try.func107, Try.ntmps107
  go_wp2_with fail
  rw [← hW2'.out]
  obtain ⟨x0, x1⟩ : W2.cell? ⟨w.heap.size, 0, none⟩ = _ ∧ W2.cell? ⟨w.heap.size, 1, none⟩ = _ := ⟨hb2.cell_some rfl, hb2.cell_some rfl⟩
  obtain ⟨y0, y1⟩ : W2.cell? ⟨w.heap.size + 1, 0, none⟩ = _ ∧ W2.cell? ⟨w.heap.size + 1, 1, none⟩ = _ := ⟨hb3.cell_some rfl, hb3.cell_some rfl⟩
  have HU2 := Lib.hid hu2
  have HB2 := Lib.hid hb2
  have HB3 := Lib.hid hb3
  clear hu2 hb2 hb3 hW2'
  obtain ⟨nb, hnb⟩ : ∃ nb, nb = (ng && decide (0 < ts.length)) := ⟨_, rfl⟩
  have HNB := Lib.hid hnb
  obtain ⟨nb', hnb'⟩ : ∃ nb, nb = (ng' && decide (0 < us.length)) := ⟨_, rfl⟩
  have HNB' := Lib.hid hnb'
  rw [← hnb, ← hnb'] at HEQ
  clear hnb hnb'
  go_region_with (first
    | (go_at_call_of 63 (Value.agg #[.bool ng, .slice a m c]); refine (hN1.out _ (by first | exact HU2.out.drew | exact HU8.out)).mono ?_; rintro e w7 ⟨⟨a7, c7, rfl, hL7, hc7⟩, hu7⟩; rw [← HNB.out]; have hv : Upd [] W2 w7 := (by first | exact Upd.then (Upd.refl [] W2).drew hu7 | exact HV8.out.then hu7); have HV7 := Lib.hid hv; have HU7 := Lib.hid (HU2.out.then hv); have HQ7 := Lib.hid hu7; have HL7 := Lib.hid hL7; have HC7 := Lib.hid hc7; have x0 := (hv.blk HB2.out (by simp)).cell_some (i := 0) rfl; have x1 := (hv.blk HB2.out (by simp)).cell_some (i := 1) rfl; have y0 := (hv.blk HB3.out (by simp)).cell_some (i := 0) rfl; have y1 := (hv.blk HB3.out (by simp)).cell_some (i := 1) rfl; have f0 := (hv.blk HB2.out (by simp)).free 0; have f1 := (hv.blk HB2.out (by simp)).free 1; have g0 := (hv.blk HB3.out (by simp)).free 0; have g1 := (hv.blk HB3.out (by simp)).free 1; clear hv hL7 hc7 hu7)
    | (go_at_call_of 63 (Value.agg #[.bool ng', .slice a' m' c']); refine (hN2.out _ (by first | exact HU2.out.drew | exact HU7.out)).mono ?_; rintro e w8 ⟨⟨a8, c8, rfl, hL8, hc8⟩, hu8⟩; rw [← HNB'.out]; have hv : Upd [] W2 w8 := (by first | exact Upd.then (Upd.refl [] W2).drew hu8 | exact HV7.out.then hu8); have HV8 := Lib.hid hv; have HU8 := Lib.hid (HU2.out.then hv); have HQ8 := Lib.hid hu8; have HL8 := Lib.hid hL8; have HC8 := Lib.hid hc8; have x0 := (hv.blk HB2.out (by simp)).cell_some (i := 0) rfl; have x1 := (hv.blk HB2.out (by simp)).cell_some (i := 1) rfl; have y0 := (hv.blk HB3.out (by simp)).cell_some (i := 0) rfl; have y1 := (hv.blk HB3.out (by simp)).cell_some (i := 1) rfl; have f0 := (hv.blk HB2.out (by simp)).free 0; have f1 := (hv.blk HB2.out (by simp)).free 1; have g0 := (hv.blk HB3.out (by simp)).free 0; have g1 := (hv.blk HB3.out (by simp)).free 1; clear hv hL8 hc8 hu8))
  all_goals
    have hz : w.heap.size + 1 < W2.heap.size := HB3.out.lt
    have hr2 := HV8.out.blk HB2.out (by simp)
    have hr3 := HV8.out.blk HB3.out (by simp)
    obtain ⟨W9, hW9⟩ : ∃ W9, W9 = (((w8.setCell ⟨w.heap.size, 0, none⟩ (.bool nb)).setCell ⟨w.heap.size, 1, none⟩ (.slice a7 ts.length c7)).setCell ⟨w.heap.size + 1, 0, none⟩ (.bool nb')).setCell ⟨w.heap.size + 1, 1, none⟩ (.slice a8 us.length c8) := ⟨_, rfl⟩
    have h9a : Blk W9 w.heap.size [.bool nb, .slice a7 ts.length c7] 24 := by
      rw [hW9]
      exact (((hr2.set 0 _).set 1 _).set_other _ (by simp)).set_other _ (by simp)
    have h9b : Blk W9 (w.heap.size + 1) [.bool nb', .slice a8 us.length c8] 24 := by
      rw [hW9]
      exact (((hr3.set_other _ (by simp)).set_other _ (by simp)).set 0 _).set 1 _
    have hU9 : Upd [] w W9 := by
      rw [hW9]
      exact (((HU8.out.setCell _ (.inr (Nat.le_refl _))).setCell _ (.inr (Nat.le_refl _))).setCell _ (.inr (Nat.le_succ _))).setCell _ (.inr (Nat.le_succ _))
    have hset : ∀ {a : Option Addr} {zs : List Int}, LimbsOf w8 (fun b => w.heap.size + 1 < b) a zs → LimbsOf W9 (fun b => w.heap.size + 1 < b) a zs := by
      intro a zs hl
      rw [hW9]
      exact (((hl.set_other _ _ (fun b hb => by simp; omega)).set_other _ _ (fun b hb => by simp; omega)).set_other _ _ (fun b hb => by simp; omega)).set_other _ _ (fun b hb => by simp; omega)
    have hl7 := hset ((HL7.out.upd0 HQ8.out).mono fun b hb => by have hb' : W2.heap.size ≤ b := hb; omega)
    have hl8 := hset (HL8.out.mono fun b hb => by have := HV7.out.size; have hb' : w7.heap.size ≤ b := hb; omega)
    have hA := Lib.hid (natCmpX_calls ts.length us.length c7 c8 rfl rfl hl7 hl8 HC7.out HC8.out htb hub HTS.out HUS.out)
    have hB := Lib.hid (natCmpX_calls us.length ts.length c8 c7 rfl rfl hl8 hl7 HC8.out HC7.out hub htb HUS.out HTS.out)
    have v0 := h9a.cell_some (i := 0) rfl
    have v1 := h9a.cell_some (i := 1) rfl
    have u0 := h9b.cell_some (i := 0) rfl
    have u1 := h9b.cell_some (i := 1) rfl
    rw [← hW9]
    have HU9 := Lib.hid hU9
    clear hW9 h9a h9b hU9 hset hl7 hl8 hr2 hr3 x0 x1 y0 y1 f0 f1 g0 g1 HL7 HL8 HC7 HC8 HQ7 HQ8 HV7 HV8 HU7 HU8 hN1 hN2
    cases nb with
    | true =>
      cases nb' with
      | true =>
        go_wp2_with fail
        refine hB.out.mono ?_
        rintro e w10 ⟨⟨r, rfl, hr⟩, hu10⟩
        have HR := Lib.hid hr
        clear hr
        go_wp2
        go_ret
        exact ⟨⟨r, rfl, by rw [HR.out, HEQ.out]; exact ⟨fun h => ⟨by simp, h.symm⟩, fun h => h.2.symm⟩⟩, HU9.out.then hu10⟩
      | false =>
        go_wp2
        go_ret
        exact ⟨⟨-1, rfl, by rw [HEQ.out]; simp⟩, HU9.out⟩
    | false =>
      cases nb' with
      | true =>
        go_wp2
        go_ret
        exact ⟨⟨1, rfl, by rw [HEQ.out]; simp⟩, HU9.out⟩
      | false =>
        go_wp2_with fail
        refine hA.out.mono ?_
        rintro e w10 ⟨⟨r, rfl, hr⟩, hu10⟩
        have HR := Lib.hid hr
        clear hr
        go_wp2
        go_ret
        exact ⟨⟨r, rfl, by rw [HR.out, HEQ.out]; exact ⟨fun h => ⟨by simp, h⟩, fun h => h.2⟩⟩, HU9.out.then hu10⟩
end Go.Proofs.Ythmpaepdbjldfaa
