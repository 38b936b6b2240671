/-
  Texts of this claim, merged: ChI, ChJ, ChK. Lemmas and contracts; no conditions of our own.
-/
import Derived.Test.YtknbgbeepachgaaDoorG12
import Derived.Deep.RegionLaw
import Derived.Deep.AppendLies

/-
  The methods of check.places.
-/
namespace Go.Proofs.YtknbgbeepachgaaDoor
open Go.RowKit

theorem m_push (n L : Nat) (w : World) : (method (n + 1) 80 (.pointer (some ⟨L, 12, none⟩)) "Push").run Tryd.prog w = .ok (90, .pointer (some ⟨L, 12, none⟩)) w := by kernel_rfl
theorem m_pop (n L : Nat) (w : World) : (method (n + 1) 80 (.pointer (some ⟨L, 12, none⟩)) "Pop").run Tryd.prog w = .ok (89, .pointer (some ⟨L, 12, none⟩)) w := by kernel_rfl
theorem m_less0 (n L : Nat) (w : World) : (method (n + 1) 80 (.pointer (some ⟨L, 12, none⟩)) "Less").run Tryd.prog w = (do let v ← load ⟨L, 12, none⟩; pure (87, v)).run Tryd.prog w := by kernel_rfl
theorem m_swap0 (n L : Nat) (w : World) : (method (n + 1) 80 (.pointer (some ⟨L, 12, none⟩)) "Swap").run Tryd.prog w = (do let v ← load ⟨L, 12, none⟩; pure (88, v)).run Tryd.prog w := by kernel_rfl
theorem m_len0 (n L : Nat) (w : World) : (method (n + 1) 80 (.pointer (some ⟨L, 12, none⟩)) "Len").run Tryd.prog w = (do let v ← load ⟨L, 12, none⟩; pure (29, v)).run Tryd.prog w := by kernel_rfl
theorem m_less {n L : Nat} {w : World} {v : Value} (hc : w.cell? ⟨L, 12, none⟩ = some v) : (method (n + 1) 80 (.pointer (some ⟨L, 12, none⟩)) "Less").run Tryd.prog w = .ok (87, v) w := by
  rw [m_less0]
  simp [go_sem, hc]
theorem m_swap {n L : Nat} {w : World} {v : Value} (hc : w.cell? ⟨L, 12, none⟩ = some v) : (method (n + 1) 80 (.pointer (some ⟨L, 12, none⟩)) "Swap").run Tryd.prog w = .ok (88, v) w := by
  rw [m_swap0]
  simp [go_sem, hc]
theorem m_len {n L : Nat} {w : World} {v : Value} (hc : w.cell? ⟨L, 12, none⟩ = some v) : (method (n + 1) 80 (.pointer (some ⟨L, 12, none⟩)) "Len").run Tryd.prog w = .ok (29, v) w := by
  rw [m_len0]
  simp [go_sem, hc]

set_option maxRecDepth 100000 in
set_option maxHeartbeats 1500000 in
theorem plen_calls (w : World) (a : Option Addr) (n cap : Nat) : Calls Tryd.prog 29 #[.slice a n cap] w fun e w' => e = .returned (.int .i64 n) ∧ w' = w := by
  go_enter Tryd.func29, Tryd.ntmps29
  go_wp2
  go_ret
  exact ⟨rfl, rfl⟩
set_option maxRecDepth 100000 in
set_option maxHeartbeats 1500000 in
theorem pless_calls {w : World} {base g n cap : Nat} {xs : List Int} (h : w.ownsRow base 3 1 (.slice (some ⟨g, 0, none⟩) n cap) n (xs.map (.int .i64))) {i j : Nat} (hi : i < n) (hj : j < n) :
    Calls Tryd.prog 87 #[.slice (some ⟨g, 0, none⟩) n cap, .int .i64 i, .int .i64 j] w fun e w' => e = .returned (.bool (decide (xs.getD i 0 < xs.getD j 0))) ∧ ∃ k, w' = w.drewN k := by
  have c1 := IRow.at h hi
  have c2 := IRow.at h hj
  have hi' : (i : Int) < n := by omega
  have hj' : (j : Int) < n := by omega
  generalize xs.getD i 0 = x at *
  generalize xs.getD j 0 = y at *
  clear h
  go_enter Tryd.func87, Tryd.ntmps87
  go_wp2_with fail
  go_quiet (fail)
  go_wp2
  go_ret
  exact ⟨rfl, _, rfl⟩
set_option maxRecDepth 100000 in
set_option maxHeartbeats 1500000 in
theorem pswap_calls {w : World} {base g n cap : Nat} {xs : List Int} (h : w.ownsRow base 3 1 (.slice (some ⟨g, 0, none⟩) n cap) n (xs.map (.int .i64))) {i j : Nat} (hi : i < n) (hj : j < n) :
    Calls Tryd.prog 88 #[.slice (some ⟨g, 0, none⟩) n cap, .int .i64 i, .int .i64 j] w fun e w' => e = .returned (.tuple #[]) ∧ w'.ownsRow base 3 1 (.slice (some ⟨g, 0, none⟩) n cap) n ((swapL xs i j).map (.int .i64)) ∧ Upd [g] w w' := by
  have c1 := IRow.at h hi
  have c2 := IRow.at h hj
  have f1 := h.frozenAt i
  have f2 := h.frozenAt j
  have hi' : (i : Int) < n := by omega
  have hj' : (j : Int) < n := by omega
  obtain ⟨x, hx⟩ : ∃ x, x = xs.getD i 0 := ⟨_, rfl⟩
  obtain ⟨y, hy⟩ : ∃ y, y = xs.getD j 0 := ⟨_, rfl⟩
  rw [← hx] at c1
  rw [← hy] at c2
  have HX := Lib.hid hx
  have HY := Lib.hid hy
  have H := Lib.hid h
  clear hx hy h
  go_enter Tryd.func88, Tryd.ntmps88
  go_wp2_with fail
  obtain ⟨v', hv'⟩ := cell?_setCell_some (w := w) (p := ⟨g, i, none⟩) (x := .int .i64 y) (q := ⟨g, j, none⟩) (v := .int .i64 y) c2
  go_region
  go_wp2
  go_end0
  refine ⟨rfl, ?_, ?_⟩
  · have h1 := (H.out.stored i (.int .i64 y)).1
    have h2 := (h1.stored j (.int .i64 x)).1
    rw [map_int_set, map_int_set] at h2
    have e : swapL xs i j = (xs.set i y).set j x := by rw [HX.out, HY.out]; rfl
    rw [e]
    exact h2.drew
  · exact (((Upd.refl [g] w).setCell _ (.inl (by simp))).setCell _ (.inl (by simp))).drew
/-- The append of one number, at a step of a region. -/
theorem step_int {W : World} {base bx n : Nat} {v y : Value} {xs : List Value} {ops : Array Oper} {o : Oper} {a : Act} {K : Act → World → Prop} {Q : Exit → Act → World → Prop} {E : Prop} (hgd : o.guard = none) (s x : Operand)
    (ho : o.op = .call { callee := .builtin .append, args := #[s, x], argTypes := #[70, 70] })
    (hs : a.eval s = v) (hx : a.eval x = .slice (some ⟨bx, 0, none⟩) 1 1) (hO : W.ownsRow base 3 1 v n xs) (hB : Blk W bx [y] 3) (h1 : y.oneCell' = true) (hn : n ≤ 1000000) (hb : base ≤ W.heap.size)
    (h : ∀ g cap w', w'.ownsRow base 3 1 (.slice (some ⟨g, 0, none⟩) (n + 1) cap) (n + 1) (xs ++ [y]) → W.grownBy w' v.ownBlock → (v.ownBlock = some g ∨ g = W.heap.size) → K (a.put o.dst (.slice (some ⟨g, 0, none⟩) (n + 1) cap)) w') :
    if Region.wanted o (yielded ops a.tmps) = true then Oper.wp Tryd.prog o a W K Q else E := by
  obtain ⟨i0, hi, hz0, hz1, hz2⟩ := info_parts info_int
  exact step_append_lies _ hgd s x 70 ho base 3 i0 _ 1 8 Tryd.underlying70 hi hz0 hz1 hz2 (by rfl) (by decide) v n xs hs hO ⟨bx, 0, none⟩ 1 1 [y] hx (by rfl) (World.news_of_block hB) (by simpa using h1) (by omega) (by unfold maxLen; omega) (by omega) hb _ rfl (fun g cap w' h1 h2 h3 _ => h g cap w' h1 h2 h3)
/-- What Push leaves. -/
def PushPost (w : World) (base L : Nat) (cs : List Value) (t : TypeId) (xs : List Int) (x : Int) (e : Ending) (w' : World) : Prop :=
  ∃ v', e = .returned (.tuple #[]) ∧ Blk w' L (cs.set 12 v') t ∧ IRow w' base v' (xs ++ [x]) ∧ Kb base [L] w w'
set_option maxRecDepth 100000 in
set_option maxHeartbeats 1500000 in
theorem ppush_calls {w : World} {base L : Nat} {cs : List Value} {t : TypeId} {v : Value} {xs : List Int} (x : Int) (hB : Blk w L cs t) (hv : cs[12]? = some v) (hR : IRow w base v xs) (hL : L < base) (hb : base ≤ w.heap.size) (hn : xs.length ≤ 100000) :
    Calls Tryd.prog 90 #[.pointer (some ⟨L, 12, none⟩), .iface 3 (.int .i64 x)] w (PushPost w base L cs t xs x) := by
  have c12 := hB.cell_some hv
  have f12 := hB.free 12
  have HB := Lib.hid hB
  have HR := Lib.hid hR
  have hlo := hR.lt
  have HLO := Lib.hid hlo
  have HV := Lib.hid hv
  have hl := hB.lt
  have hta : ∀ w, (Instr.typeAssert (.iface 3 (.int .i64 x)) 20 3 false).run Tryd.prog w = .ok (.int .i64 x) w := fun _ => by kernel_rfl
  clear hB hR hlo hv
  go_enter Tryd.func90, Tryd.ntmps90
  go_wp2_with fail
  have hUd : Upd [] w w.drew := (Upd.refl [] w).drew
  have HUD := Lib.hid hUd
  clear hUd
  go_region_law (refine' step_int (W := w.drew.alloc (.cells #[.int .i64 x] 3)) (base := base) (bx := w.heap.size) (v := v) (y := .int .i64 x) (n := xs.length) (xs := xs.map (.int .i64)) rfl (.tmp 7) (.tmp 10) rfl rfl rfl (own_upd0 HR.out (HUD.out.alloc _)) (Blk.newAt rfl) rfl (by omega) (by simp; omega) ?_; intro g cap w10 hO10 hgr10 hg10; have hB10 := ((Blk.drew HB.out).alloc (.cells #[.int .i64 x] 3)).of_eq (hgr10.block _ ((Blk.drew HB.out).alloc (.cells #[.int .i64 x] 3)).lt (fun e => by have := (HLO.out _ e.symm).1; omega)); have c10 := hB10.free 12; have d10 := hB10.cell_some HV.out)
  all_goals
    have h1 := hB10.set 12 (.slice (some ⟨g, 0, none⟩) (xs.length + 1) cap)
    have h2 : IRow (w10.setCell ⟨L, 12, none⟩ (.slice (some ⟨g, 0, none⟩) (xs.length + 1) cap)) base (.slice (some ⟨g, 0, none⟩) (xs.length + 1) cap) (xs ++ [x]) := by
      have := own_upd hO10 ((Upd.refl [L] w10).setCell (p := ⟨L, 12, none⟩) (.slice (some ⟨g, 0, none⟩) (xs.length + 1) cap) (.inl (by simp))) (fun g9 e => by
        have e2 : g = g9 := by simpa [Value.ownBlock] using e
        subst e2
        rcases hg10 with h | h
        · have := (HLO.out _ h).1
          simp; omega
        · simp at h
          simp; omega)
      unfold IRow
      simpa using this
    have h3 : Kb base [L] w (w10.setCell ⟨L, 12, none⟩ (.slice (some ⟨g, 0, none⟩) (xs.length + 1) cap)) := by
      have hu : Upd v.ownBlock.toList w w10 := ((Upd.refl _ w).drew.alloc _).then (Upd.of_grown hgr10 (fun k hk => by simp [hk]))
      refine (Kb.of_upd hu hb (fun k hk hlt => ?_) (fun k hk => .inr (own_int HR.out k (by simpa using hk)))).trans (Kb.of_set 12 _ (by have := hu.size; omega) (by simp))
      have := (HLO.out k (by simpa using hk)).1
      omega
    have H9 := Lib.hid (And.intro h1 (And.intro h2 h3))
    clear h1 h2 h3 hO10 hgr10 hg10 hB10 c10 d10
    go_wp2
    go_end0
    exact ⟨_, rfl, H9.out.1, H9.out.2.1, H9.out.2.2⟩
/-- What Pop of the places leaves. -/
def PopPost (w : World) (base L : Nat) (cs : List Value) (t : TypeId) (xs : List Int) (e : Ending) (w' : World) : Prop :=
  ∃ v', e = .returned (.iface 3 (.int .i64 (xs.getD (xs.length - 1) 0))) ∧ Blk w' L (cs.set 12 v') t ∧ IRow w' base v' (xs.take (xs.length - 1)) ∧ Kb base [L] w w'
theorem row_cut {w : World} {base g n cap m : Nat} {xs : List Int} (h : w.ownsRow base 3 1 (.slice (some ⟨g, 0, none⟩) n cap) n (xs.map (.int .i64))) (hm : m ≤ n) : w.ownsRow base 3 1 (.slice (some ⟨g, 0, none⟩) m cap) m ((xs.take m).map (.int .i64)) := by
  have hl : xs.length = n := by have := h.1; simpa using this
  refine ⟨by simp; omega, ?_⟩
  rcases h.2 with ⟨h', _⟩ | ⟨g', cap', cur, h', hb, hg, hnc, hcm, hcs, htake⟩
  · simp at h'
  · simp only [Value.slice.injEq, Option.some.injEq, Addr.mk.injEq, and_true, true_and] at h'
    obtain ⟨rfl, rfl⟩ := h'
    refine .inr ⟨g, cap, cur, rfl, hb, hg, by omega, hcm, hcs, ?_⟩
    rw [List.map_take, ← htake, List.take_take, Nat.min_eq_left (by omega)]
    simp
set_option maxRecDepth 100000 in
set_option maxHeartbeats 1500000 in
theorem ppop_calls {w : World} {base L g n cap : Nat} {cs : List Value} {t : TypeId} {xs : List Int} (hB : Blk w L cs t) (hv : cs[12]? = some (.slice (some ⟨g, 0, none⟩) n cap)) (hR : w.ownsRow base 3 1 (.slice (some ⟨g, 0, none⟩) n cap) n (xs.map (.int .i64))) (h0 : 0 < n) (hL : L < base) (hb : base ≤ w.heap.size) (hn : n ≤ 100000) :
    Calls Tryd.prog 89 #[.pointer (some ⟨L, 12, none⟩)] w (PopPost w base L cs t xs) := by
  have hl : xs.length = n := by have := hR.1; simpa using this
  have c12 := hB.cell_some hv
  have f12 := hB.free 12
  have cl := IRow.at hR (j := n - 1) (by omega)
  have hcap : n ≤ cap ∧ cap ≤ maxLen := by
    rcases hR.2 with ⟨h', _⟩ | ⟨g', cap', cur, h', _, _, h1, h2, _⟩
    · cases h'
    · injection h' with _ _ h'
      omega
  have hmk : (n : Int) - 1 = ((n - 1 : Nat) : Int) := by omega
  have hcut := row_cut hR (m := n - 1) (by omega)
  have hlo := hR.lt
  have hg := (hlo g rfl).1
  have HB := Lib.hid hB
  have HC := Lib.hid hcut
  have HL := Lib.hid hl
  obtain ⟨x, hx⟩ : ∃ x, x = xs.getD (n - 1) 0 := ⟨_, rfl⟩
  rw [← hx] at cl
  have HX := Lib.hid hx
  clear hx hB hR hv hcut hlo hl
  obtain ⟨m, hm⟩ : ∃ m, m = n - 1 := ⟨_, rfl⟩
  rw [← hm] at cl hmk
  have hmn : m < n := by omega
  have HM := Lib.hid hm
  unfold maxLen at hcap
  have hc1 := hcap.1
  have hc2 := hcap.2
  clear hm hcap
  go_enter Tryd.func89, Tryd.ntmps89
  go_wp2_with fail
  go_ret
  have hx : x = xs.getD (xs.length - 1) 0 := by rw [HL.out]; exact HX.out
  refine ⟨.slice (some ⟨g, 0, none⟩) m cap, by rw [hx]; rfl, HB.out.set 12 _, ?_, Kb.of_set 12 _ hb (by simp)⟩
  have hc := HC.out
  rw [← HM.out] at hc
  have h2 := own_upd hc ((Upd.refl [L] w).setCell (p := ⟨L, 12, none⟩) (.slice (some ⟨g, 0, none⟩) m cap) (.inl (by simp))) (fun g9 e => by
    have e2 : g = g9 := by simpa [Value.ownBlock] using e
    subst e2
    simp; omega)
  unfold IRow
  rw [HL.out, ← HM.out, List.length_take, Nat.min_eq_left (by rw [HL.out]; omega)]
  exact h2
end Go.Proofs.YtknbgbeepachgaaDoor

/-
  container/heap over check.places.
-/
namespace Go.Proofs.YtknbgbeepachgaaDoor
open Go.RowKit

/-- What up and down leave. -/
def HeapPost (w : World) (base L g n cap : Nat) (cs : List Value) (t : TypeId) (xs : List Int) (m : Nat) (w' : World) : Prop :=
  ∃ ys : List Int, Blk w' L cs t ∧ w'.ownsRow base 3 1 (.slice (some ⟨g, 0, none⟩) n cap) n (ys.map (.int .i64)) ∧ ys.Perm xs ∧ HeapN ys m ∧ (∀ k, m ≤ k → ys.getD k 0 = xs.getD k 0) ∧ Upd [g] w w'
set_option maxRecDepth 100000 in
set_option maxHeartbeats 1500000 in
theorem hup_calls {w : World} {base L g n cap j : Nat} {cs : List Value} {t : TypeId} {xs : List Int} (hB : Blk w L cs t) (hv : cs[12]? = some (.slice (some ⟨g, 0, none⟩) n cap)) (hR : w.ownsRow base 3 1 (.slice (some ⟨g, 0, none⟩) n cap) n (xs.map (.int .i64))) (hL : L < base) (hn : n ≤ 1000000) (hj : j < n) (hU : UpOk xs n j) :
    Calls Tryd.prog 54 #[.iface 80 (.pointer (some ⟨L, 12, none⟩)), .int .i64 j] w fun e w' => e = .returned (.tuple #[]) ∧ HeapPost w base L g n cap cs t xs n w' := by
  have hg := (hR.lt g rfl).1
  have hl : xs.length = n := by have := hR.1; simpa using this
  have HB := Lib.hid hB
  have HV := Lib.hid hv
  have HR := Lib.hid hR
  have HU := Lib.hid hU
  have HL := Lib.hid hl
  clear hB hv hR hU hl
  go_enter Tryd.func54, Tryd.ntmps54
  go_wp2_with fail
  go_loopw [1] (fun j wr => ∃ (i : Nat) (ys : List Int), i < n ∧ j = .int .i64 i ∧ Hid (wr.ownsRow base 3 1 (.slice (some ⟨g, 0, none⟩) n cap) n (ys.map (.int .i64))) ∧ Hid (ys.Perm xs) ∧ Hid (UpOk ys n i) ∧ Hid (Upd [g] w wr)) (fun j _ => (intOf j).toNat)
  case atStart => exact ⟨j, xs, hj, rfl, HR, Lib.hid (List.Perm.refl _), HU, Lib.hid (Upd.refl _ _)⟩
  case round =>
    obtain ⟨i, ys, hi, rfl, hR, hP, hU, hW⟩ := hrel
    have hbl := hW.out.blk HB.out (by simp; omega)
    have hc := hbl.cell_some HV.out
    have hyl : ys.length = n := by rw [hP.out.length_eq]; exact HL.out
    have hend : ∀ wz, Upd [] wr wz → HeapN ys n → HeapPost w base L g n cap cs t xs n wz := fun wz hz hh =>
      ⟨ys, hz.blk hbl (by simp), own_upd hR.out hz (by simp), hP.out, hh, fun k hk => by
        rw [List.getD_eq_getElem?_getD, List.getD_eq_getElem?_getD, List.getElem?_eq_none (by omega), List.getElem?_eq_none (by rw [HL.out]; exact hk)], hW.out.then0 hz⟩
    have HEND := Lib.hid hend
    have HBL := Lib.hid hbl
    have HYL := Lib.hid hyl
    have hml : ∀ f, (method (f + 1) 80 (.pointer (some ⟨L, 12, none⟩)) "Less").run Tryd.prog wr = .ok (87, .slice (some ⟨g, 0, none⟩) n cap) wr := fun f => m_less hc
    by_cases h0 : i = 0
    · have HH := Lib.hid (HEND.out wr (Upd.refl _ _) (hU.out.done (.inl h0)))
      have q0 : ((i : Int) - 1).tdiv 2 = (i : Int) := by subst h0; rfl
      have hi0 : ¬ (0 : Int) ≤ (i : Int) - 1 := by omega
      clear h0 hbl hyl hend HEND hml hc
      go_wp2
      go_end0
      exact ⟨rfl, HH.out⟩
    · obtain ⟨p, hp⟩ : ∃ p, p = (i - 1) / 2 := ⟨_, rfl⟩
      have hpi : p < i := by omega
      have q0 : ((i : Int) - 1) / 2 = (p : Int) := by omega
      have q1 : ¬ (p : Int) = (i : Int) := by omega
      have hless := pless_calls hR.out hi (show p < n by omega)
      have HP := Lib.hid hp
      by_cases hlt : ys.getD i 0 < ys.getD p 0
      · rw [decide_eq_true hlt] at hless
        have hst := hU.out.step (by omega) (by omega) hi (by rw [← hp]; exact hlt)
        rw [← hp] at hst
        have HS := Lib.hid hst
        have HLESS := Lib.hid hless
        have hpos : (0 : Int) ≤ (i : Int) - 1 := by omega
        clear hbl hyl hend HEND hp hst hless hlt h0
        go_wp2_with fail
        refine HLESS.out.mono ?_
        rintro e w2 ⟨rfl, k, rfl⟩
        have hc2 : (wr.drewN k).cell? ⟨L, 12, none⟩ = some (.slice (some ⟨g, 0, none⟩) n cap) := hc
        have hms : ∀ f, (method (f + 1) 80 (.pointer (some ⟨L, 12, none⟩)) "Swap").run Tryd.prog (wr.drewN k) = .ok (88, .slice (some ⟨g, 0, none⟩) n cap) (wr.drewN k) := fun f => m_swap hc2
        have hsw := pswap_calls (own_upd0 hR.out ((Upd.refl [] wr).drewN k)) (show p < n by omega) hi
        have HSW := Lib.hid hsw
        clear hml hc hsw HLESS
        go_wp2_with fail
        refine HSW.out.mono ?_
        rintro e w3 ⟨rfl, hR3, hU3⟩
        have HR3 := Lib.hid hR3
        have HU3 := Lib.hid (hW.out.then ((((Upd.refl [g] wr).drewN k)).then hU3))
        have HP3 : Hid ((swapL ys p i).Perm xs) := Lib.hid ((swapL_perm (by rw [HYL.out]; omega) (by rw [HYL.out]; omega)).trans hP.out)
        clear hR3 hU3 HSW hms hc2
        go_wp2
        go_roundw
        case rel => exact ⟨p, _, by omega, rfl, HR3, HP3, HS, HU3⟩
        case measure => simp [intOf]; omega
      · rw [decide_eq_false hlt] at hless
        have HH := Lib.hid (fun k => HEND.out (wr.drewN k) ((Upd.refl [] wr).drewN k) (hU.out.done (.inr (by rw [← hp]; exact hlt))))
        have HLESS := Lib.hid hless
        have hpos : (0 : Int) ≤ (i : Int) - 1 := by omega
        clear hbl hyl hend HEND hp hless hlt h0
        go_wp2_with fail
        refine HLESS.out.mono ?_
        rintro e w2 ⟨rfl, k, rfl⟩
        clear HLESS
        go_wp2
        go_end0
        exact ⟨rfl, HH.out k⟩
theorem pless_calls' {w : World} {base g n cap : Nat} {xs : List Int} (h : w.ownsRow base 3 1 (.slice (some ⟨g, 0, none⟩) n cap) n (xs.map (.int .i64))) {i j : Nat} (hi : i < n) (hj : j < n) :
    Calls Tryd.prog 87 #[.slice (some ⟨g, 0, none⟩) n cap, .int .i64 i, .int .i64 j] w fun e w' => e = .returned (.bool (decide (xs.getD i 0 < xs.getD j 0))) ∧ Upd [] w w' :=
  (pless_calls h hi hj).mono fun _ _ ⟨h1, k, h2⟩ => ⟨h1, by rw [h2]; exact (Upd.refl [] w).drewN k⟩
set_option maxRecDepth 100000 in
set_option maxHeartbeats 1500000 in
theorem hdown_calls {w : World} {base L g n cap m : Nat} {cs : List Value} {t : TypeId} {xs : List Int} (hB : Blk w L cs t) (hv : cs[12]? = some (.slice (some ⟨g, 0, none⟩) n cap)) (hR : w.ownsRow base 3 1 (.slice (some ⟨g, 0, none⟩) n cap) n (xs.map (.int .i64))) (hL : L < base) (hn : n ≤ 1000000) (hm : m ≤ n) (hD : DownOk xs m 0) :
    Calls Tryd.prog 44 #[.iface 80 (.pointer (some ⟨L, 12, none⟩)), .int .i64 0, .int .i64 m] w fun e w' => (∃ r, e = .returned (.bool r)) ∧ HeapPost w base L g n cap cs t xs m w' := by
  have hg := (hR.lt g rfl).1
  have hl : xs.length = n := by have := hR.1; simpa using this
  have HB := Lib.hid hB
  have HV := Lib.hid hv
  have HR := Lib.hid hR
  have HD := Lib.hid hD
  have HL := Lib.hid hl
  clear hB hv hR hD hl
  go_enter Tryd.func44, Tryd.ntmps44
  go_wp2_with fail
  go_loopw [7] (fun j wr => ∃ (i : Nat) (ys : List Int), i ≤ m ∧ j = .int .i64 i ∧ Hid (wr.ownsRow base 3 1 (.slice (some ⟨g, 0, none⟩) n cap) n (ys.map (.int .i64))) ∧ Hid (ys.Perm xs) ∧ Hid (DownOk ys m i) ∧ Hid (∀ k, m ≤ k → ys.getD k 0 = xs.getD k 0) ∧ Hid (Upd [g] w wr)) (fun j _ => m - (intOf j).toNat)
  case atStart => exact ⟨0, xs, by omega, rfl, HR, Lib.hid (List.Perm.refl _), HD, Lib.hid (fun _ _ => rfl), Lib.hid (Upd.refl _ _)⟩
  case round =>
    obtain ⟨i, ys, hi, rfl, hR, hP, hD, hT, hW⟩ := hrel
    have hbl := hW.out.blk HB.out (by simp; omega)
    have hc := hbl.cell_some HV.out
    have hyl : ys.length = n := by rw [hP.out.length_eq]; exact HL.out
    have hend : ∀ wz, Upd [] wr wz → HeapN ys m → HeapPost w base L g n cap cs t xs m wz := fun wz hz hh =>
      ⟨ys, hz.blk hbl (by simp), own_upd hR.out hz (by simp), hP.out, hh, hT.out, hW.out.then0 hz⟩
    have HEND := Lib.hid hend
    have HBL := Lib.hid hbl
    have HYL := Lib.hid hyl
    clear hbl hend hyl
    obtain ⟨a, ha⟩ : ∃ a, a = 2 * i + 1 := ⟨_, rfl⟩
    obtain ⟨b, hb⟩ : ∃ b, b = a + 1 := ⟨_, rfl⟩
    have hj1 : (2 : Int) * (i : Int) + 1 = (a : Int) := by omega
    have hj2 : (a : Int) + 1 = (b : Int) := by omega
    have ha1 : a ≤ 2 * i + 1 := by omega
    have ha2 : 2 * i + 1 ≤ a := by omega
    have hb1 : b ≤ a + 1 := by omega
    have hb2 : a + 1 ≤ b := by omega
    clear ha hb
    by_cases h1 : m ≤ a
    · have HF := Lib.hid (HEND.out wr (Upd.refl _ _) (hD.out.done (fun k h1 h2 h3 => by omega)))
      have h1' : (m : Int) ≤ (a : Int) := by omega
      clear h1
      go_wp2
      go_ret
      exact ⟨⟨_, rfl⟩, HF.out⟩
    · have h1a : ¬ (m : Int) ≤ (a : Int) := by omega
      have h1b : ¬ (a : Int) < 0 := by omega
      have hml : ∀ f, (method (f + 1) 80 (.pointer (some ⟨L, 12, none⟩)) "Less").run Tryd.prog wr = .ok (87, .slice (some ⟨g, 0, none⟩) n cap) wr := fun f => m_less hc
      by_cases h2 : b < m
      · have h2a : (b : Int) < (m : Int) := by omega
        have hless := pless_calls' hR.out (i := b) (j := a) (by omega) (by omega)
        by_cases hlt : ys.getD (b) 0 < ys.getD (a) 0
        · rw [decide_eq_true hlt] at hless
          have hle : ∀ k, 0 < k → k < m → (k - 1) / 2 = i → ys.getD (b) 0 ≤ ys.getD k 0 := by
            intro k h3 h4 h5
            have : k = a ∨ k = b := by omega
            rcases this with e | e
            · rw [e]; omega
            · rw [e]; exact Int.le_refl _
          have HLE := Lib.hid hle
          have HLESS := Lib.hid hless
          clear hle hless hlt
          go_wp2_with fail
          refine HLESS.out.mono ?_
          rintro e w2 ⟨rfl, hu2⟩
          have HUw := Lib.hid hu2
          clear hu2 HLESS hml
          have hRw := own_upd0 hR.out HUw.out
          have hcw := HUw.out.cell hc (by simp)
          have hml2 : ∀ f, (method (f + 1) 80 (.pointer (some ⟨L, 12, none⟩)) "Less").run Tryd.prog w2 = .ok (87, .slice (some ⟨g, 0, none⟩) n cap) w2 := fun f => m_less hcw
          have hless2 := pless_calls' hRw (i := b) (j := i) (by omega) (by omega)
          by_cases hlt2 : ys.getD (b) 0 < ys.getD i 0
          · rw [decide_eq_true hlt2] at hless2
            have hst := hD.out.step (j := b) (by rw [HYL.out]; exact hm) (by omega) (by omega) (by omega) HLE.out hlt2
            have HS := Lib.hid hst
            have HLESS2 := Lib.hid hless2
            clear hst hless2 hlt2 hRw
            go_wp2_with fail
            refine HLESS2.out.mono ?_
            rintro e w4 ⟨rfl, hu4⟩
            have HU4 := Lib.hid (HUw.out.then hu4)
            have hc4 := HU4.out.cell hc (by simp)
            have hms : ∀ f, (method (f + 1) 80 (.pointer (some ⟨L, 12, none⟩)) "Swap").run Tryd.prog w4 = .ok (88, .slice (some ⟨g, 0, none⟩) n cap) w4 := fun f => m_swap hc4
            have hsw := pswap_calls (own_upd0 hR.out HU4.out) (i := i) (j := b) (by omega) (by omega)
            have HSW := Lib.hid hsw
            clear hml2 hsw HLESS2 hu4 hcw
            go_wp2_with fail
            refine HSW.out.mono ?_
            rintro e w5 ⟨rfl, hR5, hU5⟩
            have HR5 := Lib.hid hR5
            have HU5 := Lib.hid (hW.out.then ((HU4.out.mono (by simp)).then hU5))
            have HP5 : Hid ((swapL ys i (b)).Perm xs) := Lib.hid ((swapL_perm (by rw [HYL.out]; omega) (by rw [HYL.out]; omega)).trans hP.out)
            have HT5 : Hid (∀ k, m ≤ k → (swapL ys i (b)).getD k 0 = xs.getD k 0) := Lib.hid (fun k hk => by
              rw [swapL_get (by rw [HYL.out]; omega) (by rw [HYL.out]; omega), if_neg (by omega), if_neg (by omega)]
              exact hT.out k hk)
            clear hR5 hU5 HSW hms hc4
            go_wp2
            go_roundw
            case rel => exact ⟨b, _, by omega, by go_num, HR5, HP5, HS, HT5, HU5⟩
            case measure => simp [intOf]; omega
          · rw [decide_eq_false hlt2] at hless2
            have hfin := hD.out.done (fun k h1 h2 h3 => Int.le_trans (Int.not_lt.1 hlt2) (HLE.out k h1 h2 h3))
            have HF := Lib.hid hfin
            have HLESS2 := Lib.hid hless2
            clear hfin hless2 hlt2 hRw
            go_wp2_with fail
            refine HLESS2.out.mono ?_
            rintro e w4 ⟨rfl, hu4⟩
            have HH := Lib.hid (HEND.out w4 (HUw.out.then hu4) HF.out)
            clear hml2 HLESS2 hu4 hcw
            go_wp2
            go_ret
            exact ⟨⟨_, rfl⟩, HH.out⟩
        · rw [decide_eq_false hlt] at hless
          have hle : ∀ k, 0 < k → k < m → (k - 1) / 2 = i → ys.getD (a) 0 ≤ ys.getD k 0 := by
            intro k h3 h4 h5
            have : k = a ∨ k = b := by omega
            rcases this with e | e
            · rw [e]; exact Int.le_refl _
            · rw [e]; omega
          have HLE := Lib.hid hle
          have HLESS := Lib.hid hless
          clear hle hless hlt
          go_wp2_with fail
          refine HLESS.out.mono ?_
          rintro e w2 ⟨rfl, hu2⟩
          have HUw := Lib.hid hu2
          clear hu2 HLESS hml
          have hRw := own_upd0 hR.out HUw.out
          have hcw := HUw.out.cell hc (by simp)
          have hml2 : ∀ f, (method (f + 1) 80 (.pointer (some ⟨L, 12, none⟩)) "Less").run Tryd.prog w2 = .ok (87, .slice (some ⟨g, 0, none⟩) n cap) w2 := fun f => m_less hcw
          have hless2 := pless_calls' hRw (i := a) (j := i) (by omega) (by omega)
          by_cases hlt2 : ys.getD (a) 0 < ys.getD i 0
          · rw [decide_eq_true hlt2] at hless2
            have hst := hD.out.step (j := a) (by rw [HYL.out]; exact hm) (by omega) (by omega) (by omega) HLE.out hlt2
            have HS := Lib.hid hst
            have HLESS2 := Lib.hid hless2
            clear hst hless2 hlt2 hRw
            go_wp2_with fail
            refine HLESS2.out.mono ?_
            rintro e w4 ⟨rfl, hu4⟩
            have HU4 := Lib.hid (HUw.out.then hu4)
            have hc4 := HU4.out.cell hc (by simp)
            have hms : ∀ f, (method (f + 1) 80 (.pointer (some ⟨L, 12, none⟩)) "Swap").run Tryd.prog w4 = .ok (88, .slice (some ⟨g, 0, none⟩) n cap) w4 := fun f => m_swap hc4
            have hsw := pswap_calls (own_upd0 hR.out HU4.out) (i := i) (j := a) (by omega) (by omega)
            have HSW := Lib.hid hsw
            clear hml2 hsw HLESS2 hu4 hcw
            go_wp2_with fail
            refine HSW.out.mono ?_
            rintro e w5 ⟨rfl, hR5, hU5⟩
            have HR5 := Lib.hid hR5
            have HU5 := Lib.hid (hW.out.then ((HU4.out.mono (by simp)).then hU5))
            have HP5 : Hid ((swapL ys i (a)).Perm xs) := Lib.hid ((swapL_perm (by rw [HYL.out]; omega) (by rw [HYL.out]; omega)).trans hP.out)
            have HT5 : Hid (∀ k, m ≤ k → (swapL ys i (a)).getD k 0 = xs.getD k 0) := Lib.hid (fun k hk => by
              rw [swapL_get (by rw [HYL.out]; omega) (by rw [HYL.out]; omega), if_neg (by omega), if_neg (by omega)]
              exact hT.out k hk)
            clear hR5 hU5 HSW hms hc4
            go_wp2
            go_roundw
            case rel => exact ⟨a, _, by omega, by go_num, HR5, HP5, HS, HT5, HU5⟩
            case measure => simp [intOf]; omega
          · rw [decide_eq_false hlt2] at hless2
            have hfin := hD.out.done (fun k h1 h2 h3 => Int.le_trans (Int.not_lt.1 hlt2) (HLE.out k h1 h2 h3))
            have HF := Lib.hid hfin
            have HLESS2 := Lib.hid hless2
            clear hfin hless2 hlt2 hRw
            go_wp2_with fail
            refine HLESS2.out.mono ?_
            rintro e w4 ⟨rfl, hu4⟩
            have HH := Lib.hid (HEND.out w4 (HUw.out.then hu4) HF.out)
            clear hml2 HLESS2 hu4 hcw
            go_wp2
            go_ret
            exact ⟨⟨_, rfl⟩, HH.out⟩
      · have h2a : ¬ (b : Int) < (m : Int) := by omega
        have hle : ∀ k, 0 < k → k < m → (k - 1) / 2 = i → ys.getD (a) 0 ≤ ys.getD k 0 := by
          intro k h3 h4 h5
          have : k = a := by omega
          rw [this]
          exact Int.le_refl _
        have HLE := Lib.hid hle
        have HUw := Lib.hid (Upd.refl [] wr)
        clear hle hml
        have hRw := own_upd0 hR.out HUw.out
        have hcw := HUw.out.cell hc (by simp)
        have hml2 : ∀ f, (method (f + 1) 80 (.pointer (some ⟨L, 12, none⟩)) "Less").run Tryd.prog wr = .ok (87, .slice (some ⟨g, 0, none⟩) n cap) wr := fun f => m_less hcw
        have hless2 := pless_calls' hRw (i := a) (j := i) (by omega) (by omega)
        by_cases hlt2 : ys.getD (a) 0 < ys.getD i 0
        · rw [decide_eq_true hlt2] at hless2
          have hst := hD.out.step (j := a) (by rw [HYL.out]; exact hm) (by omega) (by omega) (by omega) HLE.out hlt2
          have HS := Lib.hid hst
          have HLESS2 := Lib.hid hless2
          clear hst hless2 hlt2 hRw
          go_wp2_with fail
          refine HLESS2.out.mono ?_
          rintro e w4 ⟨rfl, hu4⟩
          have HU4 := Lib.hid (HUw.out.then hu4)
          have hc4 := HU4.out.cell hc (by simp)
          have hms : ∀ f, (method (f + 1) 80 (.pointer (some ⟨L, 12, none⟩)) "Swap").run Tryd.prog w4 = .ok (88, .slice (some ⟨g, 0, none⟩) n cap) w4 := fun f => m_swap hc4
          have hsw := pswap_calls (own_upd0 hR.out HU4.out) (i := i) (j := a) (by omega) (by omega)
          have HSW := Lib.hid hsw
          clear hml2 hsw HLESS2 hu4 hcw
          go_wp2_with fail
          refine HSW.out.mono ?_
          rintro e w5 ⟨rfl, hR5, hU5⟩
          have HR5 := Lib.hid hR5
          have HU5 := Lib.hid (hW.out.then ((HU4.out.mono (by simp)).then hU5))
          have HP5 : Hid ((swapL ys i (a)).Perm xs) := Lib.hid ((swapL_perm (by rw [HYL.out]; omega) (by rw [HYL.out]; omega)).trans hP.out)
          have HT5 : Hid (∀ k, m ≤ k → (swapL ys i (a)).getD k 0 = xs.getD k 0) := Lib.hid (fun k hk => by
            rw [swapL_get (by rw [HYL.out]; omega) (by rw [HYL.out]; omega), if_neg (by omega), if_neg (by omega)]
            exact hT.out k hk)
          clear hR5 hU5 HSW hms hc4
          go_wp2
          go_roundw
          case rel => exact ⟨a, _, by omega, by go_num, HR5, HP5, HS, HT5, HU5⟩
          case measure => simp [intOf]; omega
        · rw [decide_eq_false hlt2] at hless2
          have hfin := hD.out.done (fun k h1 h2 h3 => Int.le_trans (Int.not_lt.1 hlt2) (HLE.out k h1 h2 h3))
          have HF := Lib.hid hfin
          have HLESS2 := Lib.hid hless2
          clear hfin hless2 hlt2 hRw
          go_wp2_with fail
          refine HLESS2.out.mono ?_
          rintro e w4 ⟨rfl, hu4⟩
          have HH := Lib.hid (HEND.out w4 (HUw.out.then hu4) HF.out)
          clear hml2 HLESS2 hu4 hcw
          go_wp2
          go_ret
          exact ⟨⟨_, rfl⟩, HH.out⟩
end Go.Proofs.YtknbgbeepachgaaDoor

/-
  container/heap's Push and Pop over check.places.
-/
namespace Go.Proofs.YtknbgbeepachgaaDoor
open Go.RowKit

/-- What heap.Push leaves. -/
def HPushPost (w : World) (base L : Nat) (cs : List Value) (t : TypeId) (xs : List Int) (x : Int) (w' : World) : Prop :=
  ∃ v' ys, Blk w' L (cs.set 12 v') t ∧ IRow w' base v' ys ∧ ys.Perm (x :: xs) ∧ HeapN ys ys.length ∧ Kb base [L] w w'
theorem set_set12 {cs : List Value} {v v' : Value} : (cs.set 12 v).set 12 v' = cs.set 12 v' := by simp
set_option maxRecDepth 100000 in
set_option maxHeartbeats 1500000 in
theorem hpush_calls {w : World} {base L : Nat} {cs : List Value} {t : TypeId} {v : Value} {xs : List Int} (x : Int) (hB : Blk w L cs t) (hv : cs[12]? = some v) (hR : IRow w base v xs) (hL : L < base) (hb : base ≤ w.heap.size) (hn : xs.length ≤ 100000) (hH : HeapN xs xs.length) :
    Calls Tryd.prog 43 #[.iface 80 (.pointer (some ⟨L, 12, none⟩)), .iface 3 (.int .i64 x)] w fun e w' => e = .returned (.tuple #[]) ∧ HPushPost w base L cs t xs x w' := by
  have hp := ppush_calls x hB hv hR hL hb hn
  have h12 : 12 < cs.length := by
    rcases List.getElem?_eq_some_iff.1 hv with ⟨h, _⟩
    exact h
  have HP := Lib.hid hp
  have HH := Lib.hid hH
  have hm := m_push
  clear hp hH hB hv hR
  go_enter Tryd.func43, Tryd.ntmps43
  go_wp2_with fail
  refine HP.out.mono ?_
  rintro e w2 ⟨v', rfl, hB2, hR2, hK2⟩
  obtain ⟨g, cap, rfl, hg, _⟩ := hR2.shape (by simp)
  have hl2 : (xs ++ [x]).length = xs.length + 1 := by simp
  have hv2 : (cs.set 12 (.slice (some ⟨g, 0, none⟩) (xs ++ [x]).length cap))[12]? = some (.slice (some ⟨g, 0, none⟩) (xs ++ [x]).length cap) := by
    rw [List.getElem?_set]
    simp [h12]
  have hup : UpOk (xs ++ [x]) (xs ++ [x]).length xs.length := by
    rw [hl2]
    refine UpOk.start (HH.out.take fun k hk => ?_)
    rw [List.getD_eq_getElem?_getD, List.getD_eq_getElem?_getD, List.getElem?_append_left hk]
  have hu := hup_calls hB2 hv2 hR2 hL (by rw [hl2]; omega) (j := xs.length) (by rw [hl2]; omega) hup
  have hc2 := hB2.cell_some hv2
  have hlen := fun f => m_len (n := f) hc2
  obtain ⟨n, hn2⟩ : ∃ n, n = (xs ++ [x]).length := ⟨_, rfl⟩
  obtain ⟨m, hm2⟩ : ∃ m, m = xs.length := ⟨_, rfl⟩
  have hnm : n = m + 1 := by omega
  have hn1 : (n : Int) - 1 = (m : Int) := by omega
  rw [← hn2] at hlen hu hR2
  rw [← hm2] at hu
  have hn9 : m ≤ 100000 := by omega
  have hn8 : n ≤ 100001 := by omega
  have HU := Lib.hid hu
  have HN2 := Lib.hid hn2
  have HK2 := Lib.hid hK2
  have HI2 := Lib.hid (own_int hR2 g rfl)
  have HPL := Lib.hid (plen_calls w2 (some ⟨g, 0, none⟩) n cap)
  clear hB2 hR2 hK2 hv2 hup hu hc2 hl2 hm hn2 hm2 hnm hn HP HH
  go_wp2_with fail
  refine HPL.out.mono ?_
  rintro e w3 ⟨rfl, rfl⟩
  clear HPL hlen
  go_wp2_with fail
  refine HU.out.mono ?_
  rintro e w4 ⟨rfl, ys, h1, h2, h3, h4, _, h6⟩
  have H1 := Lib.hid h1
  have H2 := Lib.hid h2
  have H3 := Lib.hid h3
  have H4 := Lib.hid h4
  have H6 := Lib.hid h6
  clear HU h1 h2 h3 h4 h6
  go_wp2
  go_end0
  have hyl : ys.length = n := by rw [H3.out.length_eq, HN2.out]
  refine ⟨rfl, _, ys, H1.out, ?_, H3.out.trans (List.perm_append_comm (l₁ := xs) (l₂ := [x])), ?_, HK2.out.trans (Kb.of_upd H6.out (by have := HK2.out.size; omega) (fun k hk hlt => by
    have : k = g := by simpa using hk
    omega) (fun k hk => .inr (by
      have : k = g := by simpa using hk
      subst this
      exact HI2.out)))⟩
  · unfold IRow
    rw [hyl]
    exact H2.out
  · rw [hyl]
    exact H4.out
/-- What heap.Pop leaves. -/
def HPopPost (w : World) (base L : Nat) (cs : List Value) (t : TypeId) (xs : List Int) (w' : World) : Prop :=
  ∃ v' ys, Blk w' L (cs.set 12 v') t ∧ IRow w' base v' ys ∧ (xs.getD 0 0 :: ys).Perm xs ∧ HeapN ys ys.length ∧ Kb base [L] w w'
set_option maxRecDepth 100000 in
set_option maxHeartbeats 1500000 in
theorem hpop_calls {w : World} {base L : Nat} {cs : List Value} {t : TypeId} {v : Value} {xs : List Int} (hB : Blk w L cs t) (hv : cs[12]? = some v) (hR : IRow w base v xs) (h0 : 0 < xs.length) (hL : L < base) (hb : base ≤ w.heap.size) (hn : xs.length ≤ 100000) (hH : HeapN xs xs.length) :
    Calls Tryd.prog 30 #[.iface 80 (.pointer (some ⟨L, 12, none⟩))] w fun e w' => e = .returned (.iface 3 (.int .i64 (xs.getD 0 0))) ∧ HPopPost w base L cs t xs w' := by
  obtain ⟨g, cap, rfl, hg, _⟩ := hR.shape h0
  have h12 : 12 < cs.length := by
    rcases List.getElem?_eq_some_iff.1 hv with ⟨h, _⟩
    exact h
  obtain ⟨n, hn2⟩ : ∃ n, n = xs.length := ⟨_, rfl⟩
  obtain ⟨m, hm2⟩ : ∃ m, m = n - 1 := ⟨_, rfl⟩
  unfold IRow at hR
  rw [← hn2] at hR hH hv h0 hn
  have hc := hB.cell_some hv
  have hlen := fun f => m_len (n := f) hc
  have hswp := fun f => m_swap (n := f) hc
  have hsw := pswap_calls hR (i := 0) (j := m) (by omega) (by omega)
  have hmn : (n : Int) - 1 = (m : Int) := by omega
  have hmn2 : m < n := by omega
  have hmn3 : n = m + 1 := by omega
  have hds := DownOk.start (xs := xs) (n := m) (by rw [← hmn3]; exact hH) (by omega)
  have HPL := Lib.hid (plen_calls w (some ⟨g, 0, none⟩) n cap)
  have HSW := Lib.hid hsw
  have HDS := Lib.hid hds
  have HB := Lib.hid hB
  have HV := Lib.hid hv
  have HN2 := Lib.hid hn2
  have HM3 := Lib.hid hmn3
  have HI2 := Lib.hid (own_int hR g rfl)
  clear hB hR hH hsw hds hv hn2 hm2 hmn3 hc
  go_enter Tryd.func30, Tryd.ntmps30
  go_wp2_with fail
  refine HPL.out.mono ?_
  rintro e w3 ⟨rfl, rfl⟩
  clear HPL hlen
  go_wp2_with fail
  refine HSW.out.mono ?_
  rintro e w4 ⟨rfl, hR4, hU4⟩
  have hB4 := hU4.blk HB.out (by simp; omega)
  have hd := hdown_calls hB4 HV.out hR4 hL (by omega) (m := m) (by omega) HDS.out
  have HD := Lib.hid hd
  have HU4 := Lib.hid hU4
  clear hR4 hU4 hB4 hd HSW hswp
  go_wp2_with fail
  refine HD.out.mono ?_
  rintro e w5 ⟨⟨r, rfl⟩, ys, h1, h2, h3, h4, h5, h6⟩
  have hyl : ys.length = n := by rw [h3.length_eq, swapL_len, HN2.out]
  have hpop := ppop_calls h1 HV.out h2 (by omega) hL (by have := (HU4.out.then h6).size; omega) hn
  have hlast : ys.getD m 0 = xs.getD 0 0 := by
    rw [h5 m (Nat.le_refl _), swapL_get (by rw [← HN2.out]; omega) (by rw [← HN2.out]; omega), if_pos rfl]
  have hperm : (xs.getD 0 0 :: ys.take m).Perm xs := by
    have e : ys.take m ++ [ys.getD m 0] = ys := by
      rw [List.getD_eq_getElem?_getD, List.getElem?_eq_getElem (by omega), Option.getD_some, List.take_append_getElem, List.take_of_length_le (by omega)]
    have h : (ys.take m ++ [ys.getD m 0]).Perm xs := by
      rw [e]
      exact h3.trans (swapL_perm (by rw [← HN2.out]; omega) (by rw [← HN2.out]; omega))
    rw [hlast] at h
    exact (List.perm_append_comm (l₁ := [xs.getD 0 0]) (l₂ := ys.take m)).trans h
  have hheap : HeapN (ys.take m) (ys.take m).length := by
    have hl : (ys.take m).length = m := by rw [List.length_take]; omega
    rw [hl]
    exact h4.take fun k hk => by rw [List.getD_eq_getElem?_getD, List.getD_eq_getElem?_getD, List.getElem?_take, if_pos hk]
  have hyl1 : ys.length - 1 = m := by rw [hyl, HM3.out]; omega
  unfold PopPost at hpop
  rw [hyl1, hlast] at hpop
  have hmp := m_pop
  have HPOP := Lib.hid hpop
  have HPE := Lib.hid hperm
  have HHE := Lib.hid hheap
  have HU6 := Lib.hid (HU4.out.then h6)
  clear hpop hperm hheap h1 h2 h3 h4 h5 h6 hlast hyl hyl1 HD HU4
  go_wp2_with fail
  refine HPOP.out.mono ?_
  rintro e w6 ⟨v', rfl, k1, k2, k3⟩
  have K1 := Lib.hid k1
  have K2 := Lib.hid k2
  have K3 := Lib.hid k3
  clear k1 k2 k3 HPOP hmp
  go_wp2
  go_ret
  exact ⟨rfl, v', _, K1.out, K2.out, HPE.out, HHE.out, (Kb.of_upd HU6.out hb (fun k hk hlt => by
    have : k = g := by simpa using hk
    omega) (fun k hk => .inr (by
      have : k = g := by simpa using hk
      subst this
      exact HI2.out))).trans K3.out⟩
end Go.Proofs.YtknbgbeepachgaaDoor
