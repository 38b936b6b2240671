/-
  Texts of this claim, merged: RcE. Lemmas and contracts; no conditions of our own.
-/
import Derived.Test.YtknbgbeepachgaaDoorG21

/-
  CheckCodes, the document's side: come.
-/
namespace Go.Proofs.YtknbgbeepachgaaDoor
open Go.RowKit Go.Shelf

/-- The document's look, as it lies there. -/
structure RS (w : World) (base F D nD : Nat) (f : Flow) : Prop where
  ex : ∃ v, Blk w F [.slice (some ⟨D, 0, none⟩) nD nD, v, .bool f.bad] 65 ∧ SO w base v f.opn
  deep : Blk w D (f.deep.map (.int .i64)) 3
  len : f.deep.length = nD
  few : f.opn.length ≤ 100000
  F : F < base
  D : D < base
  base : base ≤ w.heap.size
theorem RS.ne {w : World} {base F D nD : Nat} {f : Flow} (h : RS w base F D nD f) : D ≠ F := by
  obtain ⟨v, h1, _⟩ := h.ex
  exact h.deep.ne h1 (by decide)
theorem RS.upd {w w' : World} {base F D nD : Nat} {f : Flow} (h : RS w base F D nD f) (hu : Upd [] w w') : RS w' base F D nD f := by
  obtain ⟨v, h1, h2⟩ := h.ex
  exact ⟨⟨v, hu.blk h1 (by simp), h2.updS hu (by simp)⟩, hu.blk h.deep (by simp), h.len, h.few, h.F, h.D, Nat.le_trans h.base hu.size⟩
theorem own_mono {w : World} {base base' : Nat} {e : TypeId} {size : Nat} {v : Value} {n : Nat} {xs : List Value} (h : w.ownsRow base e size v n xs) (hb : base' ≤ base) : w.ownsRow base' e size v n xs :=
  ⟨h.1, h.2.imp id fun ⟨g, cap, cur, h1, h2, h3⟩ => ⟨g, cap, cur, h1, Nat.le_trans hb h2, h3⟩⟩
set_option maxRecDepth 100000 in
set_option maxHeartbeats 3000000 in
theorem rcome_calls {w : World} {base F D nD : Nat} {lo hi : Int} {f : Flow} (at' on : Int) (h : RS w base F D nD f) (hlo : 0 ≤ lo) (hhi : hi ≤ nD) (hf : f.opn.length < 100000) :
    Calls Tryd.prog 23 #[.pointer (some ⟨F, 0, none⟩), .int .i64 at', .int .i64 lo, .int .i64 hi, .int .i64 on] w fun e w' => e = .returned (.tuple #[]) ∧ RS w' base F D nD (comeF lo hi f at' on) ∧ Upd [F, D] w w' := by
  obtain ⟨v, h1, h2⟩ := h.ex
  have c0 := h1.cell_some (i := 0) rfl
  have c1 := h1.cell_some (i := 1) rfl
  have c2 := h1.cell_some (i := 2) rfl
  have f2 := h1.free 2
  have hne := h.ne
  have hFb := h.F
  have hDb := h.D
  by_cases ha : at' < lo ∨ hi ≤ at'
  · have e : comeF lo hi f at' on = { f with bad := true } := if_pos ha
    rw [e]
    have hu : Upd [F, D] w (w.setCell ⟨F, 2, none⟩ (.bool true)) := (Upd.refl _ w).setCell (p := ⟨F, 2, none⟩) _ (.inl (by simp))
    have hS : RS (w.setCell ⟨F, 2, none⟩ (.bool true)) base F D nD { f with bad := true } :=
      ⟨⟨v, h1.set 2 (.bool true), h2.updS hu (by intro x hx; simp at hx; omega)⟩, h.deep.set_other _ (by simpa using hne), h.len, h.few, h.F, h.D, by simpa [World.setCell] using h.base⟩
    have H := Lib.hid (And.intro hS hu)
    clear h h1 h2 e hS hu c0 c1
    rcases ha with ha | ha
    · go_enter Tryd.func23, Tryd.ntmps23
      go_wp2
      go_end0
      exact ⟨rfl, H.out⟩
    · by_cases ha2 : at' < lo
      · go_enter Tryd.func23, Tryd.ntmps23
        go_wp2
        go_end0
        exact ⟨rfl, H.out⟩
      · go_enter Tryd.func23, Tryd.ntmps23
        go_wp2
        go_end0
        exact ⟨rfl, H.out⟩
  · obtain ⟨i, rfl⟩ : ∃ i : Nat, at' = i := ⟨at'.toNat, by omega⟩
    have hi1 : ¬ (i : Int) < lo := by omega
    have hi2 : ¬ hi ≤ (i : Int) := by omega
    have hiD : i < nD := by omega
    have hiD2 : (i : Int) < (nD : Int) := by omega
    have hfl := h.len
    have cD : w.cell? ⟨D, i, none⟩ = some (.int .i64 (f.deep.getD i 0)) := h.deep.cell_some (by rw [map_int_get, List.getElem?_eq_getElem (by omega)]; simp [List.getD_eq_getElem?_getD, List.getElem?_eq_getElem (show i < f.deep.length by omega)])
    have fD := h.deep.free i
    obtain ⟨d, hd9⟩ : ∃ d, d = f.deep.getD i 0 := ⟨_, rfl⟩
    rw [← hd9] at cD
    by_cases hneg : d < 0
    · have e : comeF lo hi f i on = ⟨f.deep.set i on, insS i f.opn, f.bad⟩ := by
        unfold comeF
        rw [if_neg ha, Int.toNat_natCast, ← hd9, if_pos hneg]
      rw [e]
      have hneg2 : ¬ 0 ≤ d := by omega
      have hu1 : Upd [F, D] w (w.setCell ⟨D, i, none⟩ (.int .i64 on)) := (Upd.refl [F, D] w).setCell _ (.inl (by simp))
      have hB1 : Blk (w.setCell ⟨D, i, none⟩ (.int .i64 on)) F [.slice (some ⟨D, 0, none⟩) nD nD, v, .bool f.bad] 65 := h1.set_other _ (by simpa using hne.symm)
      have hD1 : Blk (w.setCell ⟨D, i, none⟩ (.int .i64 on)) D ((f.deep.set i on).map (.int .i64)) 3 := by
        rw [← map_int_set]
        exact h.deep.set i _
      have hO1 : SO (w.setCell ⟨D, i, none⟩ (.int .i64 on)) base v f.opn := h2.updS hu1 (by intro x hx; simp at hx; omega)
      have hbs : base ≤ (w.setCell ⟨D, i, none⟩ (.int .i64 on)).heap.size := by simpa [World.setCell] using h.base
      have hlen2 : (f.deep.set i on).length = nD := by simpa using hfl
      have HU1 := Lib.hid hu1
      have HB1 := Lib.hid hB1
      have HD1 := Lib.hid hD1
      have HO1 := Lib.hid hO1
      have HBS := Lib.hid hbs
      have HL2 := Lib.hid hlen2
      obtain ⟨aO, capO, hv, o2, o3, o4, o5, o6⟩ := h2.ex
      rw [hv] at c1
      obtain ⟨n, hn⟩ : ∃ n, n = f.opn.length := ⟨_, rfl⟩
      rw [← hn] at c1 o2 hf
      generalize f.deep.set i on = deep2 at *
      obtain ⟨w1, hw1⟩ : ∃ w1, w1 = w.setCell ⟨D, i, none⟩ (.int .i64 on) := ⟨_, rfl⟩
      rw [← hw1] at HU1 HB1 HD1 HO1 HBS
      have hrow : ∀ k : Nat, k < n → ∃ g o, aO = some ⟨g, o, none⟩ ∧ w1.cell? ⟨g, o + k, none⟩ = some (.int .i64 (f.opn.getD k 0)) := by
        intro k hk
        obtain ⟨g, o, e, hc⟩ := o6 k (by omega)
        refine ⟨g, o, e, ?_⟩
        have hgb := (o5 g o none e).2
        rw [hw1]
        exact (Upd.cell ((Upd.refl [D] w).setCell (p := ⟨D, i, none⟩) (.int .i64 on) (.inl (by simp))) hc (by simp; omega))
      have HR := Lib.hid hrow
      have HE := Lib.hid e
      have HV := Lib.hid hv
      have c1' := HB1.out.cell_some (i := 1) rfl
      rw [hv] at c1'
      rw [← hn] at c1'
      have HN := Lib.hid hn
      clear hn
      clear h h1 h2 hu1 hB1 hD1 hO1 hbs hlen2 hrow e ha hd9 c2 f2 hfl o2 o3 o4 o5 o6 hv
      go_enter Tryd.func23, Tryd.ntmps23
      go_wp2_with fail
      rw [← hw1]
      clear hw1
      go_loopw [10] (fun s wr => ∃ k : Nat, s = .int .i64 k ∧ k ≤ n ∧ Hid (∀ j, j < k → f.opn.getD j 0 < (i : Int)) ∧ wr = w1) (fun s _ => n - (intOf s).toNat)
      case atStart => exact ⟨0, rfl, by omega, Lib.hid (fun j hj => absurd hj (by omega)), rfl⟩
      case round =>
        obtain ⟨k, rfl, hk, HK, rfl⟩ := hrel
        have hn := HN.out
        have hbs := HBS.out
        by_cases hcase : k < n ∧ f.opn.getD k 0 < (i : Int)
        · obtain ⟨hkn, hlt⟩ := hcase
          obtain ⟨g, o, rfl, ck⟩ := HR.out k hkn
          obtain ⟨y, hy⟩ : ∃ y, y = f.opn.getD k 0 := ⟨_, rfl⟩
          rw [← hy] at ck hlt
          have hkn' : (k : Int) < (n : Int) := by omega
          have HK2 : Hid (∀ j, j < k + 1 → f.opn.getD j 0 < (i : Int)) := Lib.hid (fun j hj => by
            by_cases e : j = k
            · rw [e, ← hy]; exact hlt
            · exact HK.out j (by omega))
          clear hy HK hn
          go_wp2
          go_roundw
          case rel => exact ⟨k + 1, by go_num, by omega, HK2, trivial⟩
          case measure => simp [intOf]; omega
        · have hstop : k < f.opn.length → ¬ f.opn.getD k 0 < (i : Int) := fun h1 h2 => hcase ⟨by omega, h2⟩
          have hins := insS_at (i : Int) f.opn k (by omega) HK.out hstop
          obtain ⟨a1, r1, s1, s1n, s1b⟩ := run_cut HO1.out (i := k) (by omega)
          obtain ⟨a2, c2, r2, s2⟩ := run_rest HO1.out (i := k) (by omega)
          obtain ⟨a2', c2', e2, _, _, _, b2, l2⟩ := s2.ex
          injection e2 with e2 e2n e2c
          subst e2
          subst e2c
          clear e2n
          have hdl : (f.opn.drop k).length = n - k := by simp; omega
          have hW0 : Upd [] wr (wr.alloc (.cells #[.int .i64 (i : Int)] 3)).drew := ((Upd.refl [] wr).alloc _).drew
          obtain ⟨g, cap, w3, hr3, hown3, hu3⟩ := tail_run (W := (wr.alloc (.cells #[.int .i64 (i : Int)] 3)).drew) (base := wr.heap.size) (B := wr.heap.size) (m := n - k) (c2 := c2) (a2 := a2) (y := (i : Int)) (ys := f.opn.drop k) (Blk.drew (Blk.newAt rfl)) (Nat.le_refl _) hdl.symm (l2.upd0 hW0) (by omega)
          obtain ⟨_, _, e3, _, s3⟩ := own_SlI hown3
          injection e3 with e3 e3n e3c
          subst e3
          clear e3n e3c
          have hu03 : Upd [] wr w3 := hW0.onto hu3 (by simp)
          have hsz3 := hu03.size
          obtain ⟨cap4, w4, hr4, hown4, hu4⟩ := ins_run (W := w3) (i := k) (m := n - k + 1) (c := cap) (a1 := a1) (xs := f.opn.take k) (ys := (i : Int) :: f.opn.drop k) (by simp; omega) (s1.upd0 hu03) s1n (by simp [hdl]) (by omega) s3 (by omega)
          have hu04 : Upd [] wr w4 := hu03.then hu4
          have hFs : F < wr.heap.size := by omega
          have q0 := (((HB1.out.alloc (.cells #[.int .i64 (i : Int)] 3))).cell_some (i := 1) rfl)
          have q3 := (hu03.blk HB1.out (by simp)).cell_some (i := 1) rfl
          have q4 := (hu04.blk HB1.out (by simp)).cell_some (i := 1) rfl
          have g4 := (hu04.blk HB1.out (by simp)).free 1
          have hfin : RS (w4.setCell ⟨F, 1, none⟩ (.slice (some ⟨w3.heap.size, 0, none⟩) (k + (n - k + 1)) cap4)) base F D nD ⟨deep2, insS i f.opn, f.bad⟩ ∧ Upd [F, D] w (w4.setCell ⟨F, 1, none⟩ (.slice (some ⟨w3.heap.size, 0, none⟩) (k + (n - k + 1)) cap4)) := by
            have hs4 := hu04.size
            refine ⟨⟨⟨_, (hu04.blk HB1.out (by simp)).set 1 _, ?_⟩, (hu04.blk HD1.out (by simp)).set_other _ (by simpa using hne), HL2.out, ?_, hFb, hDb, ?_⟩, ?_⟩
            · have h9 := SO.of_own (own_mono (base' := base) hown4 (by omega))
              rw [← hins] at h9
              exact h9.updS ((Upd.refl [F] w4).setCell (p := ⟨F, 1, none⟩) _ (.inl (by simp))) (by intro x hx; simp at hx; omega)
            · show (insS (i : Int) f.opn).length ≤ 100000
              have := (insS_perm (i : Int) f.opn).length_eq
              simp at this
              omega
            · simp [World.setCell]; omega
            · exact (HU1.out.then0 hu04).setCell (p := ⟨F, 1, none⟩) _ (.inl (by simp))
          have HF := Lib.hid hfin
          have HR3 := Lib.hid hr3
          have HR4 := Lib.hid hr4
          rw [HV.out] at q0 q3 q4 r1 r2
          rw [← hn] at q0 q3 q4 r1 r2
          clear hfin hr3 hr4 hstop hins HK s1 s1n s1b s2 b2 l2 hdl hW0 hown3 hu3 s3 hown4 hu4 hsz3 HU1 HB1 HD1 HO1 HL2 hn hbs
          by_cases hkn : k < n
          · obtain ⟨g9, o9, rfl, ck⟩ := HR.out k hkn
            obtain ⟨y, hy⟩ : ∃ y, y = f.opn.getD k 0 := ⟨_, rfl⟩
            rw [← hy] at ck
            have hlt : ¬ y < (i : Int) := fun h => hcase ⟨hkn, by rw [← hy]; exact h⟩
            have hkn' : (k : Int) < (n : Int) := by omega
            clear hy hcase HR
            go_wp2_with fail
            go_region_law ((try dsimp (config := { proj := false }) only [List.getElem_toArray, List.getElem_cons_succ, List.getElem_cons_zero]); first | (refine step_run (v := .slice (some ⟨wr.heap.size, 0, none⟩) 1 1) (u := .slice a2 (n - k) c2) (by rfl) (.tmp 47) (.tmp 53) 39 (by rfl) (by rfl) (by rfl) HR3.out ?_) | (refine step_run (v := .slice a1 k k) (u := .slice (some ⟨g, 0, none⟩) (n - k + 1) cap) (by rfl) (.tmp 45) (.tmp 54) 39 (by rfl) (by rfl) (by rfl) HR4.out ?_))
            all_goals
              go_wp2
              go_end0
              exact ⟨rfl, HF.out⟩
          · have hkn' : ¬ (k : Int) < (n : Int) := by omega
            clear hcase HR
            go_wp2_with fail
            go_region_law ((try dsimp (config := { proj := false }) only [List.getElem_toArray, List.getElem_cons_succ, List.getElem_cons_zero]); first | (refine step_run (v := .slice (some ⟨wr.heap.size, 0, none⟩) 1 1) (u := .slice a2 (n - k) c2) (by rfl) (.tmp 47) (.tmp 53) 39 (by rfl) (by rfl) (by rfl) HR3.out ?_) | (refine step_run (v := .slice a1 k k) (u := .slice (some ⟨g, 0, none⟩) (n - k + 1) cap) (by rfl) (.tmp 45) (.tmp 54) 39 (by rfl) (by rfl) (by rfl) HR4.out ?_))
            all_goals
              go_wp2
              go_end0
              exact ⟨rfl, HF.out⟩
    · have hneg2 : 0 ≤ d := by omega
      have e : comeF lo hi f i on = if d ≠ on then { f with bad := true } else f := by
        unfold comeF
        rw [if_neg ha, Int.toNat_natCast, ← hd9, if_neg hneg]
      have hS : ∀ bb, bb = (f.bad || d != on) → RS (w.setCell ⟨F, 2, none⟩ (.bool bb)) base F D nD (comeF lo hi f i on) ∧ Upd [F, D] w (w.setCell ⟨F, 2, none⟩ (.bool bb)) := by
        intro bb hbb
        have hu : Upd [F, D] w (w.setCell ⟨F, 2, none⟩ (.bool bb)) := (Upd.refl _ w).setCell (p := ⟨F, 2, none⟩) _ (.inl (by simp))
        have hS : RS (w.setCell ⟨F, 2, none⟩ (.bool bb)) base F D nD { f with bad := bb } :=
          ⟨⟨v, h1.set 2 (.bool bb), h2.updS hu (by intro x hx; simp at hx; omega)⟩, h.deep.set_other _ (by simpa using hne), h.len, h.few, h.F, h.D, by simpa [World.setCell] using h.base⟩
        refine ⟨?_, hu⟩
        rw [e]
        by_cases hon : d = on
        · rw [if_neg (by simpa using hon)]
          have : bb = f.bad := by rw [hbb]; simp [hon]
          rw [this] at hS ⊢
          exact hS
        · rw [if_pos hon]
          have : bb = true := by rw [hbb]; simp [hon]
          rw [this] at hS ⊢
          exact hS
      have HS := Lib.hid hS
      generalize f.bad = fb at *
      clear h h1 h2 e ha hd9 hS c1 hfl hneg
      cases fb with
      | true =>
        have HF := Lib.hid (HS.out true rfl)
        clear HS
        go_enter Tryd.func23, Tryd.ntmps23
        go_wp2
        go_end0
        exact ⟨rfl, HF.out⟩
      | false =>
        by_cases hon : d = on
        · have HF := Lib.hid (HS.out false (by simp [hon]))
          have hon2 : (d != on) = false := by simp [hon]
          subst hon
          clear HS
          go_enter Tryd.func23, Tryd.ntmps23
          go_wp2
          go_end0
          exact ⟨rfl, HF.out⟩
        · have HF := Lib.hid (HS.out true (by simp [hon]))
          have hon2 : (d != on) = true := by simpa using hon
          clear HS
          go_enter Tryd.func23, Tryd.ntmps23
          go_wp2
          go_end0
          exact ⟨rfl, HF.out⟩
end Go.Proofs.YtknbgbeepachgaaDoor
