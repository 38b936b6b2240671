/-
  Texts of this claim, merged: TZ, TX. Lemmas and contracts; no conditions of our own.
-/
import Derived.Test.YthmpaepdbjldfaaG13
import Derived.Test.YthmpaepdbjldfaaG36

/-
  Templates: what is filled is well formed (plain).
-/
namespace Go.Proofs.Ythmpaepdbjldfaa
set_option linter.unusedVariables false
set_option linter.unusedSimpArgs false
open Go.RowKit Go.Shelf

theorem szN_ge1 (n : Nat) (d : Dat) : 1 ≤ szN n d := by
  cases n <;> (simp only [szN]; omega)
theorem len_szL (n : Nat) : ∀ l : List Dat, l.length ≤ szL (szN n) l
  | [] => Nat.le_refl 0
  | x :: l => by
    have := szN_ge1 n x
    have := len_szL n l
    simp only [szL, List.length_cons]
    omega
theorem row_size (n : Nat) : ∀ (l : List Dat) (i : Nat), i < l.length → szN n (l.getD i default) + (l.length - (i + 1)) ≤ szL (szN n) l
  | [], i, h => absurd h (by simp)
  | x :: l, 0, _ => by
    have := len_szL n l
    simp only [szL, List.length_cons, List.getD_cons_zero]
    omega
  | x :: l, i + 1, h => by
    have := row_size n l i (by simpa using h)
    simp only [szL, List.length_cons, List.getD_cons_succ]
    omega
theorem dots_in {pl : Bool} {xs : List Dat} {i D : Nat} (hD : D = dotsRun pl (xs.drop (i + 1))) (j : Nat) (hj : j ≤ D) : (!pl && (decide (i + j + 1 < xs.length) && isF (xs.getD (i + j + 1) default) dotsB)) = decide (j < D) := by
  have h := dots_run pl (xs.drop (i + 1)) j (by omega)
  rw [← hD] at h
  rw [← h, List.length_drop]
  have e1 : decide (i + j + 1 < xs.length) = decide (j < xs.length - (i + 1)) := by
    by_cases q : i + j + 1 < xs.length
    · rw [decide_eq_true q, decide_eq_true (by omega)]
    · rw [decide_eq_false q, decide_eq_false (by omega)]
  have e2 : xs.getD (i + j + 1) default = (xs.drop (i + 1)).getD j default := by
    rw [List.getD_eq_getElem?_getD, List.getD_eq_getElem?_getD, List.getElem?_drop, show i + 1 + j = i + j + 1 by omega]
  rw [e1, e2]
theorem wfD_list {n : Nat} {is ts : List Dat} (h1 : is.length ≤ 1000000) (h2 : ts.length ≤ 1000000) (hi : ∀ x ∈ is, wfD n x) (ht : ∀ x ∈ ts, wfD n x) : wfD (n + 1) (.mk 5 false [] false ByteArray.empty is ts) := by
  refine ⟨⟨by simp [Dat.kind], by simp [Dat.kind]⟩, by simp [Dat.limbs], by simp [Dat.limbs], by simp [Dat.s], ?_, ?_, hi, ht⟩
  · show is.length ≤ _
    omega
  · show ts.length ≤ _
    omega
theorem normD_wf : ∀ (n : Nat) (d : Dat), szN n d ≤ 1000000 → wfD n d → wfD n (normD n d)
  | 0, _, _, h => h.elim
  | n + 1, d, hs, h => by
    obtain ⟨hk, hl, hll, hss, hi, ht, wi, wt⟩ := h
    have hsz : szN (n + 1) d = 1 + szL (szN n) d.items + szL (szN n) d.tail := rfl
    have li := len_szL n d.items
    unfold normD
    split
    · obtain ⟨k, hk', e⟩ := trimL_prefix d.limbs
      refine ⟨⟨by simp [Dat.kind], by simp [Dat.kind]⟩, fun x hx => hl x ?_, ?_, by simp [Dat.s], by simp [Dat.items], by simp [Dat.tail], by simp [Dat.items], by simp [Dat.tail]⟩
      · have hx' : x ∈ trimL d.limbs := hx
        rw [e] at hx'
        exact List.mem_of_mem_take hx'
      · show (trimL d.limbs).length ≤ _
        rw [e, List.length_take]
        omega
    · split
      · exact ⟨⟨by simp [Dat.kind], by simp [Dat.kind]⟩, by simp [Dat.limbs], by simp [Dat.limbs], by simp [Dat.s], by simp [Dat.items], by simp [Dat.tail], by simp [Dat.items], by simp [Dat.tail]⟩
      · split
        · exact ⟨hk, by simp [Dat.limbs], by simp [Dat.limbs], hss, by simp [Dat.items], by simp [Dat.tail], by simp [Dat.items], by simp [Dat.tail]⟩
        · split
          · have wm : ∀ x ∈ d.items.map (normD n), wfD n x := fun x hx => by
              obtain ⟨y, hy, rfl⟩ := List.mem_map.1 hx
              have := szL_mem (f := szN n) hy
              exact normD_wf n y (by omega) (wi y hy)
            split
            · exact wfD_list (by rw [List.length_map]; omega) (by simp) wm (by simp)
            · rename_i hne
              have ht0 : d.tail.getD 0 default ∈ d.tail := by
                rw [List.getD_eq_getElem?_getD, List.getElem?_eq_getElem (List.length_pos_iff.2 hne)]
                exact List.getElem_mem _
              have hzt := szL_mem (f := szN n) ht0
              have wt0 := normD_wf n _ (by omega) (wt _ ht0)
              have hz0 := normD_sz n (d.tail.getD 0 default) (by omega)
              generalize normD n (d.tail.getD 0 default) = y at wt0 hz0 ⊢
              unfold joinD
              split
              · exact wfD_le wt0 (by omega)
              · split
                · cases n with
                  | zero => exact wt0.elim
                  | succ n =>
                    obtain ⟨_, _, _, _, _, _, yi, yt⟩ := wt0
                    have hy : szN (n + 1) y = 1 + szL (szN n) y.items + szL (szN n) y.tail := rfl
                    have l1 := len_szL n y.items
                    have l2 := len_szL n y.tail
                    refine wfD_list (by rw [List.length_append, List.length_map]; omega) (by omega) (fun x hx => ?_) (fun x hx => wfD_le (yt x hx) (by omega))
                    rcases List.mem_append.1 hx with hx | hx
                    · exact wm x hx
                    · exact wfD_le (yi x hx) (by omega)
                · exact wfD_list (by rw [List.length_map]; omega) (by simp) wm (by simpa using wt0)
          · exact ⟨hk, by simp [Dat.limbs], by simp [Dat.limbs], by simp [Dat.s], by simp [Dat.items], by simp [Dat.tail], by simp [Dat.items], by simp [Dat.tail]⟩
theorem rowF_wf {n m N L : Nat} {F : Dat → Nat} {f : List Bd → St → Dat × St} {nm : List Bd → List ByteArray} (hc : ∀ s st, wfS m N s → st.e = 0 → -5000 ≤ st.left → st.left ≤ 5000 → Cost n (F (f s st).1) st (f s st).2) (hf : ∀ s st, wfS m N s → st.e = 0 → -5000 ≤ st.left → st.left ≤ 5000 → wfD L (f s st).1) : ∀ (k : Nat) (s : List Bd) (st : St), wfS m N s → st.left ≤ 5000 → (st.e = 0 → -5000 ≤ st.left) → ∀ x ∈ (rowF f nm k s st).1, wfD L x
  | 0, s, st, hw, h5, h, x, hx => by
    unfold rowF at hx
    by_cases he : st.e ≠ 0
    · rw [if_pos he] at hx
      simp at hx
    · rw [if_neg he] at hx
      have he' : st.e = 0 := by simpa using he
      simp only [List.mem_singleton] at hx
      rw [hx]
      exact hf s st hw he' (h he') h5
  | k + 1, s, st, hw, h5, h, x, hx => by
    unfold rowF at hx
    by_cases he : st.e ≠ 0
    · rw [if_pos he] at hx
      simp at hx
    · rw [if_neg he] at hx
      cases hkn : kidsN s (nm s) with
      | none =>
        rw [hkn] at hx
        simp at hx
      | some c =>
        rw [hkn] at hx
        have key : ∀ (is : List Nat) (a : List Dat × St), (∀ i ∈ is, i < c) → (∀ x ∈ a.1, wfD L x) → a.2.left ≤ 5000 → (a.2.e = 0 → -5000 ≤ a.2.left) → ∀ x ∈ (is.foldl (fun a i => (a.1 ++ (rowF f nm k (inner s (nm s) i ++ s) a.2).1, (rowF f nm k (inner s (nm s) i ++ s) a.2).2)) a).1, wfD L x := by
          intro is
          induction is with
          | nil => intro a _ ha _ _; exact ha
          | cons i is ih =>
            intro a hi ha h1 h2
            rw [List.foldl_cons]
            have hwi := inner_wf hw hkn (hi i (by simp))
            have hco := rowF_cost (nm := nm) hc k (inner s (nm s) i ++ s) a.2 hwi h1 h2
            refine ih _ (fun j hj => hi j (by simp [hj])) (fun x hx => ?_) (by have := hco.sz; show (rowF f nm k (inner s (nm s) i ++ s) a.2).2.left ≤ 5000; omega) hco.e0
            rcases List.mem_append.1 hx with hx | hx
            · exact ha x hx
            · exact rowF_wf hc hf k _ _ hwi h1 h2 x hx
        exact key (List.range c) ([], st) (fun i hi => List.mem_range.1 hi) (by simp) h5 h x hx
theorem itemsF_wf {n L : Nat} {F : Dat → Nat} {g : Dat → Nat → St → List Dat × St} {pl : Bool} : ∀ (m : Nat) (xs : List Dat) (st : St), (∀ x ∈ xs, ∀ k st, st.left ≤ 5000 → (st.e = 0 → -5000 ≤ st.left) → CostL n (szL F (g x k st).1) st (g x k st).2) → (∀ x ∈ xs, ∀ k st, st.left ≤ 5000 → (st.e = 0 → -5000 ≤ st.left) → ∀ y ∈ (g x k st).1, wfD L y) → st.left ≤ 5000 → (st.e = 0 → -5000 ≤ st.left) → ∀ y ∈ (itemsF g pl m xs st).1, wfD L y
  | 0, xs, st, _, _, _, _, y, hy => by simp [itemsF] at hy
  | m + 1, [], st, _, _, _, _, y, hy => by simp [itemsF] at hy
  | m + 1, x :: xs, st, hc, hg, h5, h, y, hy => by
    unfold itemsF at hy
    by_cases he : st.e ≠ 0
    · rw [if_pos he] at hy
      simp at hy
    · rw [if_neg he] at hy
      rcases List.mem_append.1 hy with hy | hy
      · exact hg x (by simp) _ _ h5 h y hy
      · have h1 := hc x (by simp) (dotsRun pl xs) st h5 h
        exact itemsF_wf m _ _ (fun z hz => hc z (by simp [List.mem_of_mem_drop hz])) (fun z hz => hg z (by simp [List.mem_of_mem_drop hz])) (by have := h1.sz; omega) h1.e0 y hy
theorem fillN_wf {m N : Nat} : ∀ (n : Nat) (t : Dat) (s : List Bd) (pl : Bool) (st : St), n ≤ 100000 → goodN n t = true → wfD n t → wfS m N s → st.left ≤ 5000 → (st.e = 0 → -5000 ≤ st.left) → -500000 ≤ st.left → wfD (m + n) (fillN m n t s pl st).1
  | 0, _, _, _, _, _, h, _, _, _, _, _ => by simp [goodN] at h
  | n + 1, t, s, pl, st, hn, hg, hwt, hw, h5, h, hlow => by
    have hwt' := hwt
    obtain ⟨_, _, _, _, _, _, wi, wt⟩ := hwt'
    obtain ⟨st', hst'⟩ : ∃ st', st' = (if (⟨st.left - 1, st.e⟩ : St).left < 0 then (⟨st.left - 1, st.e⟩ : St).fail 12 else ⟨st.left - 1, st.e⟩) := ⟨_, rfl⟩
    have hleft : st'.left = st.left - 1 := by
      rw [hst']
      split
      · exact (fail_e (by decide)).2
      · rfl
    have hz : st'.e = 0 → st.e = 0 ∧ 0 ≤ st.left - 1 := fun q => by
      rw [hst'] at q
      split at q
      · exact absurd q (fail_e (by decide)).1
      · exact ⟨q, by simpa using ‹¬ (⟨st.left - 1, st.e⟩ : St).left < 0›⟩
    have hz0 : wfD (m + (n + 1)) zeroD := zeroD_wf (m + n)
    have hsame : wfD (m + (n + 1)) t := wfD_le hwt (by omega)
    unfold fillN
    simp only []
    rw [← hst']
    by_cases he : st'.e ≠ 0
    · rw [if_pos he]
      exact hz0
    · rw [if_neg he]
      have he' : st'.e = 0 := by simpa using he
      obtain ⟨he0, hpos⟩ := hz he'
      by_cases hd : (!pl && isF t dotsB) = true
      · rw [if_pos hd]
        exact hz0
      · rw [if_neg hd]
        by_cases h3 : t.kind = 3
        · rw [if_pos h3]
          cases ha : atF s t.s with
          | none => exact hsame
          | some x =>
            obtain ⟨b, hb, hbx⟩ := atF_mem ha
            have hx := hw b hb
            rw [hbx] at hx
            cases N with
            | zero => exact hx.elim
            | succ N => exact wfD_le hx.1.1 (by omega)
        · rw [if_neg h3]
          by_cases hk : t.kind ≠ 5
          · rw [if_pos hk]
            exact hsame
          · rw [if_neg hk]
            have hk' : t.kind = 5 := by simpa using hk
            obtain ⟨_, hsub⟩ := good_list hg hk'
            by_cases hesc : (!pl && escF t) = true
            · rw [if_pos hesc]
              have hlen : t.items.length = 2 := by
                simp only [Bool.and_eq_true, escF, decide_eq_true_eq] at hesc
                exact hesc.2.2.1
              have hm1 : t.items.getD 1 default ∈ t.items := by rw [List.getD_eq_getElem?_getD, List.getElem?_eq_getElem (by omega)]; exact List.getElem_mem _
              exact wfD_le (fillN_wf (m := m) (N := N) n _ s true st' (by omega) (hsub _ (List.mem_append_left _ hm1)) (wi _ hm1) hw (by omega) (fun _ => by omega) (by omega)) (by omega)
            · rw [if_neg hesc]
              have c1 : ∀ x ∈ t.items, ∀ s st, wfS m N s → st.e = 0 → -5000 ≤ st.left → st.left ≤ 5000 → Cost n (szN (m + n) (fillN m n x s pl st).1) st (fillN m n x s pl st).2 := fun x hx s st hw q1 q2 q3 => fillN_cost (m := m) (N := N) n x s pl st (by omega) (hsub x (List.mem_append_left _ hx)) hw q3 (fun _ => q2) (by omega)
              have c2 : ∀ x ∈ t.items, ∀ k st, st.left ≤ 5000 → (st.e = 0 → -5000 ≤ st.left) → CostL n (szL (szN (m + n)) (gF m n s pl x k st).1) st (gF m n s pl x k st).2 := fun x hx k st2 h2 h3 => rowF_cost (m := m) (N := N) (c1 x hx) k s st2 hw h2 h3
              have hI := itemsF_cost (n := n) (F := szN (m + n)) (g := gF m n s pl) (pl := pl) t.items.length t.items st' c2 (by omega) (fun _ => by omega)
              have hW := itemsF_wf (n := n) (L := m + n) (F := szN (m + n)) (g := gF m n s pl) (pl := pl) t.items.length t.items st' c2 (fun x hx k st2 h2 h3 => rowF_wf (m := m) (N := N) (c1 x hx) (fun s st hw q1 q2 q3 => fillN_wf (m := m) (N := N) n x s pl st (by omega) (hsub x (List.mem_append_left _ hx)) (wi x hx) hw q3 (fun _ => q2) (by omega)) k s st2 hw h2 h3) (by omega) (fun _ => by omega)
              show wfD (m + (n + 1)) (if t.tail = [] then (mkL (itemsF (gF m n s pl) pl t.items.length t.items st').1 [], (itemsF (gF m n s pl) pl t.items.length t.items st').2) else _).1
              generalize itemsF (gF m n s pl) pl t.items.length t.items st' = r at hI hW ⊢
              have hsz := hI.sz
              have hlo := hI.lo he'
              have hlen := len_szL (m + n) r.1
              by_cases ht : t.tail = []
              · rw [if_pos ht]
                exact wfD_list (by omega) (by simp) hW (by simp)
              · rw [if_neg ht]
                have hm1 : t.tail.getD 0 default ∈ t.tail := by rw [List.getD_eq_getElem?_getD, List.getElem?_eq_getElem (List.length_pos_iff.2 ht)]; exact List.getElem_mem _
                have hg1 := hsub _ (List.mem_append_right _ hm1)
                have ih := fillN_cost (m := m) (N := N) n (t.tail.getD 0 default) s pl r.2 (by omega) hg1 hw (by omega) hI.e0 (by omega)
                have iw := fillN_wf (m := m) (N := N) n (t.tail.getD 0 default) s pl r.2 (by omega) hg1 (wt _ hm1) hw (by omega) hI.e0 (by omega)
                show wfD (m + n + 1) (normD (m + n + 1) (mkL r.1 [(fillN m n (t.tail.getD 0 default) s pl r.2).1]))
                generalize fillN m n (t.tail.getD 0 default) s pl r.2 = y at ih iw ⊢
                have i1 := ih.sz
                have i2 := ih.lo
                refine normD_wf _ _ ?_ (wfD_list (by omega) (by simp) hW (by simpa using iw))
                have e1 : szN (m + n + 1) (mkL r.1 [y.1]) = 1 + szL (szN (m + n)) r.1 + szN (m + n) y.1 := by
                  rw [szN]
                  rfl
                rw [e1]
                omega
end Go.Proofs.Ythmpaepdbjldfaa

/-
  (*match.filler).fill, told by trees.
-/
namespace Go.Proofs.Ythmpaepdbjldfaa
set_option linter.unusedVariables false
set_option linter.unusedSimpArgs false
open Go.RowKit Go.Shelf
set_option linter.unusedSimpArgs false

set_option maxRecDepth 100000 in
set_option maxHeartbeats 4000000 in
theorem fill_step (n : Nat) (ih : FillSaid n) (ihr : FRowSaid n) : FillSaid (n + 1) := by
  intro m N t s pl st h
  obtain ⟨hn, hw, hg, hz, hs, hl, he, hlo, hhi, hm1⟩ := h
  obtain ⟨r, hr⟩ : ∃ r, r = fillN m (n + 1) t s pl st := ⟨_, rfl⟩
  rw [← hr]
  have hwr : IntKind.i64.wrap (st.left - 1) = st.left - 1 := IntWalk.i64_in _ (by omega)
  refine RFun.enter Try.func52 rfl _ Try.ntmps52 (by simp) ?_
  have F := And.intro qr (And.intro @enc_eq (And.intro stC.eq_1 hwr))
  have y := And.intro ty_1 (And.intro ty_3 (And.intro ty_4 (And.intro ty_5 (And.intro ty_8 (And.intro ty_9 (And.intro ty_12 (And.intro ty_25 (And.intro ty_27 (And.intro ty_46 (And.intro ty_54 (And.intro ty_91 (And.intro ty_93 (And.intro ty_122 (And.intro ty_136 (And.intro ty_142 (And.intro ty_40 (And.intro ty_50 (And.intro ty_48 (And.intro ty_66 (And.intro ty_64 (And.intro ty_62 (And.intro ty_24 (And.intro ty_22 (And.intro ty_60 (And.intro ty_2 (ty_6))))))))))))))))))))))))))
  repeat' with_reducible first | (refine L.nil ?_; try dsimp only [thenK, blockK]) | refine G.ops ?_ | refine G.last ?_ | refine G.take ?_ | refine G.pass ?_ | refine G.passU ?_ | refine G.pickT ?_ | refine G.pickF ?_ | refine G.alloc ?_ | refine G.box ?_ | refine G.store ?_ | refine G.build ?_ | refine G.quiet ?_ | refine G.then ?_ | refine G.else ?_ | (refine CodeT.skip ?_; dsimp only [thenK, blockK, reduceIte, Nat.reduceEqDiff]) | (refine CodeT.exit ?_; dsimp only [thenK, blockK, reduceIte, Nat.reduceEqDiff]) | refine G.ifT ?_ | refine G.ifF ?_ | refine CodeT.seq ?_ | refine CodeT.block ?_ | fail
  by_cases h1 : st.left - 1 < 0
  · have hfe := fail_e (st := ⟨st.left - 1, st.e⟩) (e := 12) (by decide)
    have hR : r = (zeroD, (⟨st.left - 1, st.e⟩ : St).fail 12) := by
      rw [hr]
      unfold fillN
      simp only []
      rw [if_pos h1, if_pos hfe.1]
    have F := And.intro F (And.intro (decide_eq_true h1) (bne_iff_ne.2 hfe.1))
    repeat' with_reducible first | (refine L.nil ?_; try dsimp only [thenK, blockK]) | refine G.ops ?_ | refine G.last ?_ | refine G.take ?_ | refine G.pass ?_ | refine G.passU ?_ | refine G.pickT ?_ | refine G.pickF ?_ | refine G.alloc ?_ | refine G.box ?_ | refine G.store ?_ | refine G.build ?_ | refine G.quiet ?_ | refine G.then ?_ | refine G.else ?_ | (refine CodeT.skip ?_; dsimp only [thenK, blockK, reduceIte, Nat.reduceEqDiff]) | (refine CodeT.exit ?_; dsimp only [thenK, blockK, reduceIte, Nat.reduceEqDiff]) | refine G.ifT ?_ | refine G.ifF ?_ | refine CodeT.seq ?_ | refine CodeT.block ?_ | fail
    refine G.rcall (g := 0) (enters_of Try.func78 (by kernel_rfl) rfl) (fail_rf (st := ⟨st.left - 1, st.e⟩) 12) ?_
    rintro X cs' ⟨rfl, rfl⟩
    repeat' with_reducible first | (refine L.nil ?_; try dsimp only [thenK, blockK]) | refine G.ops ?_ | refine G.last ?_ | refine G.take ?_ | refine G.pass ?_ | refine G.passU ?_ | refine G.pickT ?_ | refine G.pickF ?_ | refine G.alloc ?_ | refine G.box ?_ | refine G.store ?_ | refine G.build ?_ | refine G.quiet ?_ | refine G.then ?_ | refine G.else ?_ | (refine CodeT.skip ?_; dsimp only [thenK, blockK, reduceIte, Nat.reduceEqDiff]) | (refine CodeT.exit ?_; dsimp only [thenK, blockK, reduceIte, Nat.reduceEqDiff]) | refine G.ifT ?_ | refine G.ifF ?_ | refine CodeT.seq ?_ | refine CodeT.block ?_ | fail
    refine CodeT.ret ⟨.a (.agg zeroDC), .a (.agg (enc r.1)), stC r.2, ?_, ?_, ?_, rfl, rfl, ?_⟩
    · simp only [Try.results52, resT, resL, resV, q0, y, F, Nat.reduceLT, Nat.reduceAdd, Nat.reduceEqDiff, Nat.reduceLeDiff, Nat.reduceBNe, Int.reduceToNat, reduceIte, reduceCtorEq, zeroDC]
    · rw [hR]
      exact .a zeroD_le
    · rw [hR]
      simp only [q0, y, F, Nat.reduceLT, Nat.reduceAdd, Nat.reduceEqDiff, Nat.reduceLeDiff, Nat.reduceBNe, Int.reduceToNat, reduceIte, reduceCtorEq]
    · rw [hR]
      exact zeroD_wf (m + n)
  · have F := And.intro F (decide_eq_false h1)
    repeat' with_reducible first | (refine L.nil ?_; try dsimp only [thenK, blockK]) | refine G.ops ?_ | refine G.last ?_ | refine G.take ?_ | refine G.pass ?_ | refine G.passU ?_ | refine G.pickT ?_ | refine G.pickF ?_ | refine G.alloc ?_ | refine G.box ?_ | refine G.store ?_ | refine G.build ?_ | refine G.quiet ?_ | refine G.then ?_ | refine G.else ?_ | (refine CodeT.skip ?_; dsimp only [thenK, blockK, reduceIte, Nat.reduceEqDiff]) | (refine CodeT.exit ?_; dsimp only [thenK, blockK, reduceIte, Nat.reduceEqDiff]) | refine G.ifT ?_ | refine G.ifF ?_ | refine CodeT.seq ?_ | refine CodeT.block ?_ | fail
    by_cases he0 : st.e = 0
    · have hF5 := fail_e (st := ⟨st.left - 1, st.e⟩) (e := 5) (by decide)
      have F := And.intro F (And.intro (show (st.e != 0) = false by simp [he0]) (And.intro zeroDC.eq_1 (@Bool.false_and)))
      repeat' with_reducible first | (refine L.nil ?_; try dsimp only [thenK, blockK]) | refine G.ops ?_ | refine G.last ?_ | refine G.take ?_ | refine G.pass ?_ | refine G.passU ?_ | refine G.pickT ?_ | refine G.pickF ?_ | refine G.alloc ?_ | refine G.box ?_ | refine G.store ?_ | refine G.build ?_ | refine G.quiet ?_ | refine G.then ?_ | refine G.else ?_ | (refine CodeT.skip ?_; dsimp only [thenK, blockK, reduceIte, Nat.reduceEqDiff]) | (refine CodeT.exit ?_; dsimp only [thenK, blockK, reduceIte, Nat.reduceEqDiff]) | refine G.ifT ?_ | refine G.ifF ?_ | refine CodeT.seq ?_ | refine CodeT.block ?_ | fail
      refine L.mid (tsL [(0, ptX 0), (2, one (.sl 10 (s.map encB))), (3, bX pl), (5, ptX 1), (8, ptX 2), (33, bX (!pl && isF t dotsB))] [(0, .cells 93 (cP (stC ⟨st.left - 1, st.e⟩))), (1, .cells 27 (cP (enc t))), (2, .cells 27 (cP zeroDC))] [] 3 0 142) ?_ ?_
      · cases pl with
        | true =>
          repeat' with_reducible first | (refine L.nil ?_; try dsimp only [thenK, blockK]) | refine G.ops ?_ | refine G.last ?_ | refine G.take ?_ | refine G.pass ?_ | refine G.passU ?_ | refine G.pickT ?_ | refine G.pickF ?_ | refine G.alloc ?_ | refine G.box ?_ | refine G.store ?_ | refine G.build ?_ | refine G.quiet ?_ | refine G.then ?_ | refine G.else ?_ | (refine CodeT.skip ?_; dsimp only [thenK, blockK, reduceIte, Nat.reduceEqDiff]) | (refine CodeT.exit ?_; dsimp only [thenK, blockK, reduceIte, Nat.reduceEqDiff]) | refine G.ifT ?_ | refine G.ifF ?_ | refine CodeT.seq ?_ | refine CodeT.block ?_ | fail
          exact G.wkM
        | false =>
          repeat' with_reducible first | (refine L.nil ?_; try dsimp only [thenK, blockK]) | refine G.ops ?_ | refine G.last ?_ | refine G.take ?_ | refine G.pass ?_ | refine G.passU ?_ | refine G.pickT ?_ | refine G.pickF ?_ | refine G.alloc ?_ | refine G.box ?_ | refine G.store ?_ | refine G.build ?_ | refine G.quiet ?_ | refine G.then ?_ | refine G.else ?_ | (refine CodeT.skip ?_; dsimp only [thenK, blockK, reduceIte, Nat.reduceEqDiff]) | (refine CodeT.exit ?_; dsimp only [thenK, blockK, reduceIte, Nat.reduceEqDiff]) | refine G.ifT ?_ | refine G.ifF ?_ | refine CodeT.seq ?_ | refine CodeT.block ?_ | fail
          refine G.pcall (enters_of Try.func79 (by kernel_rfl) rfl) (is_pf (d := t) dotsB) ?_ (hargs := (by simp only [q0, y, F, Nat.reduceLT, Nat.reduceAdd, Nat.reduceEqDiff, Nat.reduceLeDiff, Nat.reduceBNe, Int.reduceToNat, reduceIte, reduceCtorEq, dotsB]; first | done | fail))
          rintro X rfl
          repeat' with_reducible first | (refine L.nil ?_; try dsimp only [thenK, blockK]) | refine G.ops ?_ | refine G.last ?_ | refine G.take ?_ | refine G.pass ?_ | refine G.passU ?_ | refine G.pickT ?_ | refine G.pickF ?_ | refine G.alloc ?_ | refine G.box ?_ | refine G.store ?_ | refine G.build ?_ | refine G.quiet ?_ | refine G.then ?_ | refine G.else ?_ | (refine CodeT.skip ?_; dsimp only [thenK, blockK, reduceIte, Nat.reduceEqDiff]) | (refine CodeT.exit ?_; dsimp only [thenK, blockK, reduceIte, Nat.reduceEqDiff]) | refine G.ifT ?_ | refine G.ifF ?_ | refine CodeT.seq ?_ | refine CodeT.block ?_ | fail
          exact G.wkM
      · by_cases hD : (!pl && isF t dotsB) = true
        · have hR : r = (zeroD, (⟨st.left - 1, st.e⟩ : St).fail 5) := by
            rw [hr]
            unfold fillN
            simp only []
            rw [if_neg h1, if_neg (by simpa using he0), if_pos hD]
          have F := And.intro F hD
          repeat' with_reducible first | (refine L.nil ?_; try dsimp only [thenK, blockK]) | refine G.ops ?_ | refine G.last ?_ | refine G.take ?_ | refine G.pass ?_ | refine G.passU ?_ | refine G.pickT ?_ | refine G.pickF ?_ | refine G.alloc ?_ | refine G.box ?_ | refine G.store ?_ | refine G.build ?_ | refine G.quiet ?_ | refine G.then ?_ | refine G.else ?_ | (refine CodeT.skip ?_; dsimp only [thenK, blockK, reduceIte, Nat.reduceEqDiff]) | (refine CodeT.exit ?_; dsimp only [thenK, blockK, reduceIte, Nat.reduceEqDiff]) | refine G.ifT ?_ | refine G.ifF ?_ | refine CodeT.seq ?_ | refine CodeT.block ?_ | fail
          refine G.rcall (g := 0) (enters_of Try.func78 (by kernel_rfl) rfl) (fail_rf (st := ⟨st.left - 1, st.e⟩) 5) ?_
          rintro X cs' ⟨rfl, rfl⟩
          repeat' with_reducible first | (refine L.nil ?_; try dsimp only [thenK, blockK]) | refine G.ops ?_ | refine G.last ?_ | refine G.take ?_ | refine G.pass ?_ | refine G.passU ?_ | refine G.pickT ?_ | refine G.pickF ?_ | refine G.alloc ?_ | refine G.box ?_ | refine G.store ?_ | refine G.build ?_ | refine G.quiet ?_ | refine G.then ?_ | refine G.else ?_ | (refine CodeT.skip ?_; dsimp only [thenK, blockK, reduceIte, Nat.reduceEqDiff]) | (refine CodeT.exit ?_; dsimp only [thenK, blockK, reduceIte, Nat.reduceEqDiff]) | refine G.ifT ?_ | refine G.ifF ?_ | refine CodeT.seq ?_ | refine CodeT.block ?_ | fail
          refine CodeT.ret ⟨.a (.agg zeroDC), .a (.agg (enc r.1)), stC r.2, ?_, ?_, ?_, rfl, rfl, ?_⟩
          · simp only [Try.results52, resT, resL, resV, q0, y, F, Nat.reduceLT, Nat.reduceAdd, Nat.reduceEqDiff, Nat.reduceLeDiff, Nat.reduceBNe, Int.reduceToNat, reduceIte, reduceCtorEq]
          · rw [hR]
            exact .a zeroD_le
          · rw [hR]
            simp only [q0, y, F, Nat.reduceLT, Nat.reduceAdd, Nat.reduceEqDiff, Nat.reduceLeDiff, Nat.reduceBNe, Int.reduceToNat, reduceIte, reduceCtorEq]
          · rw [hR]
            exact zeroD_wf (m + n)
        · by_cases hk3 : t.kind = 3
          · have hR : r = symF m s t ⟨st.left - 1, st.e⟩ := by
              rw [hr]
              unfold fillN symF
              simp only []
              rw [if_neg h1, if_neg (by simpa using he0), if_neg hD, if_pos hk3]
              cases atF s t.s <;> rfl
            have F := And.intro F (And.intro (Bool.eq_false_iff.2 hD) (show (t.kind == 3) = true by simp [hk3]))
            repeat' with_reducible first | (refine L.nil ?_; try dsimp only [thenK, blockK]) | refine G.ops ?_ | refine G.last ?_ | refine G.take ?_ | refine G.pass ?_ | refine G.passU ?_ | refine G.pickT ?_ | refine G.pickF ?_ | refine G.alloc ?_ | refine G.box ?_ | refine G.store ?_ | refine G.build ?_ | refine G.quiet ?_ | refine G.then ?_ | refine G.else ?_ | (refine CodeT.skip ?_; dsimp only [thenK, blockK, reduceIte, Nat.reduceEqDiff]) | (refine CodeT.exit ?_; dsimp only [thenK, blockK, reduceIte, Nat.reduceEqDiff]) | refine G.ifT ?_ | refine G.ifF ?_ | refine CodeT.seq ?_ | refine CodeT.block ?_ | fail
            refine G.rcall (g := 0) (enters_of Try.func80 (by kernel_rfl) rfl) (symbol_rf (n := n + 1) (m := m) (N := N) (s := s) (t := t) (st := ⟨st.left - 1, st.e⟩) hs (by omega) hw ⟨by show -1000000000 ≤ st.left - 1; omega, by show st.left - 1 ≤ 1000000000; omega⟩) ?_
            rintro X cs' ⟨rfl, rfl, hwS⟩
            repeat' with_reducible first | (refine L.nil ?_; try dsimp only [thenK, blockK]) | refine G.ops ?_ | refine G.last ?_ | refine G.take ?_ | refine G.pass ?_ | refine G.passU ?_ | refine G.pickT ?_ | refine G.pickF ?_ | refine G.alloc ?_ | refine G.box ?_ | refine G.store ?_ | refine G.build ?_ | refine G.quiet ?_ | refine G.then ?_ | refine G.else ?_ | (refine CodeT.skip ?_; dsimp only [thenK, blockK, reduceIte, Nat.reduceEqDiff]) | (refine CodeT.exit ?_; dsimp only [thenK, blockK, reduceIte, Nat.reduceEqDiff]) | refine G.ifT ?_ | refine G.ifF ?_ | refine CodeT.seq ?_ | refine CodeT.block ?_ | fail
            refine CodeT.ret ⟨.a (.agg (enc (symF m s t ⟨st.left - 1, st.e⟩).1)), .a (.agg (enc r.1)), stC r.2, ?_, ?_, ?_, rfl, rfl, ?_⟩
            · simp only [Try.results52, resT, resL, resV, q0, y, F, Nat.reduceLT, Nat.reduceAdd, Nat.reduceEqDiff, Nat.reduceLeDiff, Nat.reduceBNe, Int.reduceToNat, reduceIte, reduceCtorEq]
            · rw [hR]
              exact .a (PA.le_refl _)
            · rw [hR]
              simp only [q0, y, F, Nat.reduceLT, Nat.reduceAdd, Nat.reduceEqDiff, Nat.reduceLeDiff, Nat.reduceBNe, Int.reduceToNat, reduceIte, reduceCtorEq]
            · rw [hR]
              exact hwS
          · by_cases hk5 : t.kind = 5
            · have F := And.intro F (And.intro (Bool.eq_false_iff.2 hD) (And.intro (show (t.kind == 3) = false by simp [hk3]) (show (t.kind != 5) = false by simp [hk5])))
              repeat' with_reducible first | (refine L.nil ?_; try dsimp only [thenK, blockK]) | refine G.ops ?_ | refine G.last ?_ | refine G.take ?_ | refine G.pass ?_ | refine G.passU ?_ | refine G.pickT ?_ | refine G.pickF ?_ | refine G.alloc ?_ | refine G.box ?_ | refine G.store ?_ | refine G.build ?_ | refine G.quiet ?_ | refine G.then ?_ | refine G.else ?_ | (refine CodeT.skip ?_; dsimp only [thenK, blockK, reduceIte, Nat.reduceEqDiff]) | (refine CodeT.exit ?_; dsimp only [thenK, blockK, reduceIte, Nat.reduceEqDiff]) | refine G.ifT ?_ | refine G.ifF ?_ | refine CodeT.seq ?_ | refine CodeT.block ?_ | fail
              refine L.mid (tsL [(0, ptX 0), (2, one (.sl 10 (s.map encB))), (3, bX pl), (5, ptX 1), (8, ptX 2), (55, bX (!pl && escF t))] [(0, .cells 93 (cP (stC ⟨st.left - 1, st.e⟩))), (1, .cells 27 (cP (enc t))), (2, .cells 27 (cP zeroDC))] [] 3 0 142) ?_ ?_
              · cases pl with
                | true =>
                  repeat' with_reducible first | (refine L.nil ?_; try dsimp only [thenK, blockK]) | refine G.ops ?_ | refine G.last ?_ | refine G.take ?_ | refine G.pass ?_ | refine G.passU ?_ | refine G.pickT ?_ | refine G.pickF ?_ | refine G.alloc ?_ | refine G.box ?_ | refine G.store ?_ | refine G.build ?_ | refine G.quiet ?_ | refine G.then ?_ | refine G.else ?_ | (refine CodeT.skip ?_; dsimp only [thenK, blockK, reduceIte, Nat.reduceEqDiff]) | (refine CodeT.exit ?_; dsimp only [thenK, blockK, reduceIte, Nat.reduceEqDiff]) | refine G.ifT ?_ | refine G.ifF ?_ | refine CodeT.seq ?_ | refine CodeT.block ?_ | fail
                  exact G.wkM
                | false =>
                  repeat' with_reducible first | (refine L.nil ?_; try dsimp only [thenK, blockK]) | refine G.ops ?_ | refine G.last ?_ | refine G.take ?_ | refine G.pass ?_ | refine G.passU ?_ | refine G.pickT ?_ | refine G.pickF ?_ | refine G.alloc ?_ | refine G.box ?_ | refine G.store ?_ | refine G.build ?_ | refine G.quiet ?_ | refine G.then ?_ | refine G.else ?_ | (refine CodeT.skip ?_; dsimp only [thenK, blockK, reduceIte, Nat.reduceEqDiff]) | (refine CodeT.exit ?_; dsimp only [thenK, blockK, reduceIte, Nat.reduceEqDiff]) | refine G.ifT ?_ | refine G.ifF ?_ | refine CodeT.seq ?_ | refine CodeT.block ?_ | fail
                  refine G.pcall (enters_of Try.func81 (by kernel_rfl) rfl) (esc_pf hw) ?_
                  rintro X rfl
                  repeat' with_reducible first | (refine L.nil ?_; try dsimp only [thenK, blockK]) | refine G.ops ?_ | refine G.last ?_ | refine G.take ?_ | refine G.pass ?_ | refine G.passU ?_ | refine G.pickT ?_ | refine G.pickF ?_ | refine G.alloc ?_ | refine G.box ?_ | refine G.store ?_ | refine G.build ?_ | refine G.quiet ?_ | refine G.then ?_ | refine G.else ?_ | (refine CodeT.skip ?_; dsimp only [thenK, blockK, reduceIte, Nat.reduceEqDiff]) | (refine CodeT.exit ?_; dsimp only [thenK, blockK, reduceIte, Nat.reduceEqDiff]) | refine G.ifT ?_ | refine G.ifF ?_ | refine CodeT.seq ?_ | refine CodeT.block ?_ | fail
                  exact G.wkM
              · by_cases hE : (!pl && escF t) = true
                · have hlen : t.items.length = 2 := by
                    simp only [Bool.and_eq_true, escF, decide_eq_true_eq] at hE
                    exact hE.2.2.1
                  obtain ⟨x1, hx1⟩ : ∃ x1, x1 = t.items.getD 1 default := ⟨_, rfl⟩
                  have hxm : x1 ∈ t.items := by
                    rw [hx1, List.getD_eq_getElem?_getD, List.getElem?_eq_getElem (by omega)]
                    exact List.getElem_mem _
                  have hR : r = fillN m n x1 s true ⟨st.left - 1, st.e⟩ := by
                    rw [hr, hx1]
                    unfold fillN
                    simp only []
                    rw [if_neg h1, if_neg (by simpa using he0), if_neg hD, if_neg hk3, if_neg (by simpa using hk5), if_pos hE]
                    cases n <;> rfl
                  have F := And.intro F (And.intro hE (And.intro (show (List.map enc t.items).getD 1 [] = enc x1 by rw [hx1]; exact getD_enc (by omega)) (by simp [hlen] : ((t.items.length : Nat) : Int) = 2)))
                  repeat' with_reducible first | (refine L.nil ?_; try dsimp only [thenK, blockK]) | refine G.ops ?_ | refine G.last ?_ | refine G.take ?_ | refine G.pass ?_ | refine G.passU ?_ | refine G.pickT ?_ | refine G.pickF ?_ | refine G.alloc ?_ | refine G.box ?_ | refine G.store ?_ | refine G.build ?_ | refine G.quiet ?_ | refine G.then ?_ | refine G.else ?_ | (refine CodeT.skip ?_; dsimp only [thenK, blockK, reduceIte, Nat.reduceEqDiff]) | (refine CodeT.exit ?_; dsimp only [thenK, blockK, reduceIte, Nat.reduceEqDiff]) | refine G.ifT ?_ | refine G.ifF ?_ | refine CodeT.seq ?_ | refine CodeT.block ?_ | fail
                  refine G.rcall (g := 0) (enters_of Try.func52 (by kernel_rfl) rfl) (ih m N x1 s true ⟨st.left - 1, st.e⟩ (FillPre.sub hm1 hn hw hg hz hs hl hk5 (.inl hxm) (fun _ => by show _ ≤ st.left - 1; omega) (by show _ ≤ st.left - 1; omega) (by show st.left - 1 ≤ _; omega))) ?_
                  rintro X cs' ⟨rfl, rfl, hwS⟩
                  rw [← hR]
                  rw [← hR] at hwS
                  repeat' with_reducible first | (refine L.nil ?_; try dsimp only [thenK, blockK]) | refine G.ops ?_ | refine G.last ?_ | refine G.take ?_ | refine G.pass ?_ | refine G.passU ?_ | refine G.pickT ?_ | refine G.pickF ?_ | refine G.alloc ?_ | refine G.box ?_ | refine G.store ?_ | refine G.build ?_ | refine G.quiet ?_ | refine G.then ?_ | refine G.else ?_ | (refine CodeT.skip ?_; dsimp only [thenK, blockK, reduceIte, Nat.reduceEqDiff]) | (refine CodeT.exit ?_; dsimp only [thenK, blockK, reduceIte, Nat.reduceEqDiff]) | refine G.ifT ?_ | refine G.ifF ?_ | refine CodeT.seq ?_ | refine CodeT.block ?_ | fail
                  refine CodeT.ret ⟨.a (.agg (enc r.1)), .a (.agg (enc r.1)), stC r.2, ?_, ?_, ?_, rfl, rfl, ?_⟩
                  · simp only [Try.results52, resT, resL, resV, q0, y, F, Nat.reduceLT, Nat.reduceAdd, Nat.reduceEqDiff, Nat.reduceLeDiff, Nat.reduceBNe, Int.reduceToNat, reduceIte, reduceCtorEq]
                  · exact .a (PA.le_refl _)
                  · simp only [q0, y, F, Nat.reduceLT, Nat.reduceAdd, Nat.reduceEqDiff, Nat.reduceLeDiff, Nat.reduceBNe, Int.reduceToNat, reduceIte, reduceCtorEq]
                  · exact wfD_le hwS (by omega)
                · have F := And.intro F (Bool.eq_false_iff.2 hE)
                  refine C.else (by simp only [q0, y, F, Nat.reduceLT, Nat.reduceAdd, Nat.reduceEqDiff, Nat.reduceLeDiff, Nat.reduceBNe, Int.reduceToNat, reduceIte, reduceCtorEq]; first | done | fail) ?_
                  refine CodeT.skip ?_
                  dsimp only [thenK, blockK]
                  have hw6 : ∀ x ∈ t.items, wfD n x := by
                    obtain ⟨_, _, _, _, _, _, wi, _⟩ := hw
                    exact wi
                  repeat' with_reducible first | (refine L.nil ?_; try dsimp only [thenK, blockK]) | refine G.ops ?_ | refine G.last ?_ | refine G.take ?_ | refine G.pass ?_ | refine G.passU ?_ | refine G.pickT ?_ | refine G.pickF ?_ | refine G.alloc ?_ | refine G.box ?_ | refine G.store ?_ | refine G.build ?_ | refine G.quiet ?_ | refine G.then ?_ | refine G.else ?_ | (refine CodeT.skip ?_; dsimp only [thenK, blockK, reduceIte, Nat.reduceEqDiff]) | (refine CodeT.exit ?_; dsimp only [thenK, blockK, reduceIte, Nat.reduceEqDiff]) | refine G.ifT ?_ | refine G.ifF ?_ | fail
                  refine CodeT.adopt (l := 3) (by simp only [q0, y, F, Nat.reduceLT, Nat.reduceAdd, Nat.reduceEqDiff, Nat.reduceLeDiff, Nat.reduceBNe, Int.reduceToNat, reduceIte, reduceCtorEq]; first | done | rfl) 5 (by simp only [q0, y, F, Nat.reduceLT, Nat.reduceAdd, Nat.reduceEqDiff, Nat.reduceLeDiff, Nat.reduceBNe, Int.reduceToNat, reduceIte, reduceCtorEq]; first | done | fail) (by simp only [q0, y, F, Nat.reduceLT, Nat.reduceAdd, Nat.reduceEqDiff, Nat.reduceLeDiff, Nat.reduceBNe, Int.reduceToNat, reduceIte, reduceCtorEq]; first | done | fail) 27 7 ?_
                  obtain ⟨st1, hst1⟩ : ∃ st1 : St, st1 = ⟨st.left - 1, st.e⟩ := ⟨_, rfl⟩
                  have hlen6 : t.items.length ≤ 5000 := by
                    have := len_szL n t.items
                    have hsz : szN (n + 1) t = 1 + szL (szN n) t.items + szL (szN n) t.tail := rfl
                    omega
                  have c2 : ∀ x ∈ t.items, ∀ k st, st.left ≤ 5000 → (st.e = 0 → -5000 ≤ st.left) → CostL n (szL (szN (m + n)) (gF m n s pl x k st).1) st (gF m n s pl x k st).2 := fun x hx k st2 h2 h3 => rowF_cost (m := m) (N := N) (fun s st hw q1 q2 q3 => fillN_cost (m := m) (N := N) n x s pl st (by omega) ((good_list hg hk5).2 x (List.mem_append_left _ hx)) hw q3 (fun _ => q2) (by omega)) k s st2 hs h2 h3
                  have w2 : ∀ x ∈ t.items, ∀ k st, st.left ≤ 5000 → (st.e = 0 → -5000 ≤ st.left) → ∀ y ∈ (gF m n s pl x k st).1, wfD (m + n) y := fun x hx k st2 h2 h3 => rowF_wf (m := m) (N := N) (F := szN (m + n)) (n := n) (fun s st hw q1 q2 q3 => fillN_cost (m := m) (N := N) n x s pl st (by omega) ((good_list hg hk5).2 x (List.mem_append_left _ hx)) hw q3 (fun _ => q2) (by omega)) (fun s st hw q1 q2 q3 => fillN_wf (m := m) (N := N) n x s pl st (by omega) ((good_list hg hk5).2 x (List.mem_append_left _ hx)) (hw6 x hx) hw q3 (fun _ => q2) (by omega)) k s st2 hs h2 h3
                  refine C.midE (ι := {p : Nat × List Dat × St // LF m n s pl t st1 p.2.1 p.2.2}) (fun p => stI s pl t p.1.2.2 p.1.1 p.1.2.1 []) ?_ ?_
                  · have F := And.intro F (And.intro stI.eq_1 (And.intro (rfl : ((0 : Nat) : Int) = 0) hst1))
                    repeat' with_reducible first | (refine L.nil ?_; try dsimp only [thenK, blockK]) | refine G.ops ?_ | refine G.last ?_ | refine G.take ?_ | refine G.pass ?_ | refine G.passU ?_ | refine G.pickT ?_ | refine G.pickF ?_ | refine G.alloc ?_ | refine G.box ?_ | refine G.store ?_ | refine G.build ?_ | refine G.quiet ?_ | refine G.then ?_ | refine G.else ?_ | (refine CodeT.skip ?_; dsimp only [thenK, blockK, reduceIte, Nat.reduceEqDiff]) | (refine CodeT.exit ?_; dsimp only [thenK, blockK, reduceIte, Nat.reduceEqDiff]) | refine G.ifT ?_ | refine G.ifF ?_ | fail
                    refine CodeT.block ?_
                    refine CodeT.loop (ι := {p : Nat × Nat × Nat × List Dat × St // LP m n s pl t st1 p.1 p.2.1 p.2.2.2.1 p.2.2.2.2}) (fun p => stI s pl t p.1.2.2.2.2 p.1.2.2.1 p.1.2.2.2.1 [(10, iX (p.1.1 : Int))]) (fun p => t.items.length - p.1.1) ⟨(0, t.items.length, 0, [], st1), ⟨Nat.zero_le _, by simp, by simp, CostL.refl n (fun _ => by rw [hst1]; show _ ≤ st.left - 1; omega), by simp⟩⟩ (by show Weak _ _ (stI s pl t st1 0 [] [(10, iX 0)]); dsimp only [stI]; exact G.wkM) ?_
                    rintro ⟨⟨i, f, v, acc, st2⟩, hP⟩
                    dsimp only at hP ⊢
                    have hP5 : st2.left ≤ 5000 := by
                      have := hP.hc.sz
                      rw [hst1] at this
                      have : st2.left ≤ st.left - 1 := by
                        have q : (0 : Int) ≤ ((szL (szN (m + n)) acc : Nat) : Int) := Int.natCast_nonneg _
                        have q2 : (szL (szN (m + n)) acc : Int) ≤ st.left - 1 - st2.left := this
                        omega
                      omega
                    refine CodeT.seq ?_
                    by_cases hi : i < t.items.length
                    · have F := And.intro F (decide_eq_true (show (i : Int) < (t.items.length : Int) by omega))
                      by_cases he2 : st2.e = 0
                      · have F := And.intro F (show (st2.e == 0) = true by simp [he2])
                        repeat' with_reducible first | (refine L.nil ?_; try dsimp only [thenK, blockK]) | refine G.ops ?_ | refine G.last ?_ | refine G.take ?_ | refine G.pass ?_ | refine G.passU ?_ | refine G.pickT ?_ | refine G.pickF ?_ | refine G.alloc ?_ | refine G.box ?_ | refine G.store ?_ | refine G.build ?_ | refine G.quiet ?_ | refine G.then ?_ | refine G.else ?_ | (refine CodeT.skip ?_; dsimp only [thenK, blockK, reduceIte, Nat.reduceEqDiff]) | (refine CodeT.exit ?_; dsimp only [thenK, blockK, reduceIte, Nat.reduceEqDiff]) | refine G.ifT ?_ | refine G.ifF ?_ | fail
                        refine CodeT.block ?_
                        repeat' with_reducible first | (refine L.nil ?_; try dsimp only [thenK, blockK]) | refine G.ops ?_ | refine G.last ?_ | refine G.take ?_ | refine G.pass ?_ | refine G.passU ?_ | refine G.pickT ?_ | refine G.pickF ?_ | refine G.alloc ?_ | refine G.box ?_ | refine G.store ?_ | refine G.build ?_ | refine G.quiet ?_ | refine G.then ?_ | refine G.else ?_ | (refine CodeT.skip ?_; dsimp only [thenK, blockK, reduceIte, Nat.reduceEqDiff]) | (refine CodeT.exit ?_; dsimp only [thenK, blockK, reduceIte, Nat.reduceEqDiff]) | refine G.ifT ?_ | refine G.ifF ?_ | fail
                        obtain ⟨kD, hD'⟩ : ∃ kD, kD = dotsRun pl (t.items.drop (i + 1)) := ⟨_, rfl⟩
                        have hDl : kD ≤ t.items.length - (i + 1) := by
                          rw [hD']
                          have := dots_len pl (t.items.drop (i + 1))
                          simpa using this
                        refine C.mid (stI s pl t st2 v acc [(10, iX i), (11, iX kD)]) ?_ ?_
                        · refine CodeT.block ?_
                          refine CodeT.loop (ι := {j : Nat // j ≤ kD}) (fun j => stI s pl t st2 v acc [(10, iX i), (11, iX (j.1 : Int))]) (fun j => kD - j.1) ⟨0, Nat.zero_le _⟩ (by show Weak _ _ (stI s pl t st2 v acc [(10, iX i), (11, iX 0)]); dsimp only [stI]; exact G.wkM) ?_
                          rintro ⟨j, hj⟩
                          dsimp only
                          refine CodeT.seq ?_
                          have hdj := dots_in hD' j hj
                          have F := And.intro F (And.intro (IntWalk.i64_in ((i : Int) + (j : Int)) (by omega)) (And.intro (IntWalk.i64_in ((i : Int) + (j : Int) + 1) (by omega)) (And.intro (IntWalk.i64_in ((j : Int) + 1) (by omega)) (show ((i : Int) + (j : Int) + 1).toNat = i + j + 1 by omega))))
                          by_cases hjd : j < kD
                          · rw [decide_eq_true hjd] at hdj
                            simp only [Bool.and_eq_true, decide_eq_true_eq] at hdj
                            obtain ⟨hpl, hlt, hisd⟩ := hdj
                            have hpl' : pl = false := by simpa using hpl
                            subst hpl'
                            have F := And.intro F (And.intro (decide_eq_true (show (i : Int) + (j : Int) + 1 < (t.items.length : Int) by omega)) (And.intro (getD_enc hlt) (show ((j + 1 : Nat) : Int) = (j : Int) + 1 by omega)))
                            repeat' with_reducible first | (refine L.nil ?_; try dsimp only [thenK, blockK]) | refine G.ops ?_ | refine G.last ?_ | refine G.take ?_ | refine G.pass ?_ | refine G.passU ?_ | refine G.pickT ?_ | refine G.pickF ?_ | refine G.alloc ?_ | refine G.box ?_ | refine G.store ?_ | refine G.build ?_ | refine G.quiet ?_ | refine G.then ?_ | refine G.else ?_ | (refine CodeT.skip ?_; dsimp only [thenK, blockK, reduceIte, Nat.reduceEqDiff]) | (refine CodeT.exit ?_; dsimp only [thenK, blockK, reduceIte, Nat.reduceEqDiff]) | refine G.ifT ?_ | refine G.ifF ?_ | fail
                            refine G.pcall (enters_of Try.func79 (by kernel_rfl) rfl) (is_pf (d := t.items.getD (i + j + 1) default) dotsB) ?_ (hargs := (by simp only [q0, y, F, Nat.reduceLT, Nat.reduceAdd, Nat.reduceEqDiff, Nat.reduceLeDiff, Nat.reduceBNe, Int.reduceToNat, reduceIte, reduceCtorEq, dotsB]; first | done | fail))
                            rintro X rfl
                            have F := And.intro F hisd
                            repeat' with_reducible first | (refine L.nil ?_; try dsimp only [thenK, blockK]) | refine G.ops ?_ | refine G.last ?_ | refine G.take ?_ | refine G.pass ?_ | refine G.passU ?_ | refine G.pickT ?_ | refine G.pickF ?_ | refine G.alloc ?_ | refine G.box ?_ | refine G.store ?_ | refine G.build ?_ | refine G.quiet ?_ | refine G.then ?_ | refine G.else ?_ | (refine CodeT.skip ?_; dsimp only [thenK, blockK, reduceIte, Nat.reduceEqDiff]) | (refine CodeT.exit ?_; dsimp only [thenK, blockK, reduceIte, Nat.reduceEqDiff]) | refine G.ifT ?_ | refine G.ifF ?_ | fail
                            refine CodeT.block ?_
                            repeat' with_reducible first | (refine L.nil ?_; try dsimp only [thenK, blockK]) | refine G.ops ?_ | refine G.last ?_ | refine G.take ?_ | refine G.pass ?_ | refine G.passU ?_ | refine G.pickT ?_ | refine G.pickF ?_ | refine G.alloc ?_ | refine G.box ?_ | refine G.store ?_ | refine G.build ?_ | refine G.quiet ?_ | refine G.then ?_ | refine G.else ?_ | (refine CodeT.skip ?_; dsimp only [thenK, blockK, reduceIte, Nat.reduceEqDiff]) | (refine CodeT.exit ?_; dsimp only [thenK, blockK, reduceIte, Nat.reduceEqDiff]) | refine G.ifT ?_ | refine G.ifF ?_ | fail
                            exact ⟨⟨j + 1, hjd⟩, by show kD - (j + 1) < kD - j; omega, (by dsimp only [stI]; exact G.wkM)⟩
                          · have e : j = kD := by omega
                            subst e
                            rw [decide_eq_false hjd] at hdj
                            cases pl with
                            | true =>
                              repeat' with_reducible first | (refine L.nil ?_; try dsimp only [thenK, blockK]) | refine G.ops ?_ | refine G.last ?_ | refine G.take ?_ | refine G.pass ?_ | refine G.passU ?_ | refine G.pickT ?_ | refine G.pickF ?_ | refine G.alloc ?_ | refine G.box ?_ | refine G.store ?_ | refine G.build ?_ | refine G.quiet ?_ | refine G.then ?_ | refine G.else ?_ | (refine CodeT.skip ?_; dsimp only [thenK, blockK, reduceIte, Nat.reduceEqDiff]) | (refine CodeT.exit ?_; dsimp only [thenK, blockK, reduceIte, Nat.reduceEqDiff]) | refine G.ifT ?_ | refine G.ifF ?_ | fail
                              exact (by dsimp only [stI]; exact G.wkM)
                            | false =>
                              by_cases hlt : i + j + 1 < t.items.length
                              · rw [decide_eq_true hlt] at hdj
                                have hisd : isF (t.items.getD (i + j + 1) default) dotsB = false := by simpa using hdj
                                have F := And.intro F (And.intro (decide_eq_true (show (i : Int) + (j : Int) + 1 < (t.items.length : Int) by omega)) (getD_enc hlt))
                                repeat' with_reducible first | (refine L.nil ?_; try dsimp only [thenK, blockK]) | refine G.ops ?_ | refine G.last ?_ | refine G.take ?_ | refine G.pass ?_ | refine G.passU ?_ | refine G.pickT ?_ | refine G.pickF ?_ | refine G.alloc ?_ | refine G.box ?_ | refine G.store ?_ | refine G.build ?_ | refine G.quiet ?_ | refine G.then ?_ | refine G.else ?_ | (refine CodeT.skip ?_; dsimp only [thenK, blockK, reduceIte, Nat.reduceEqDiff]) | (refine CodeT.exit ?_; dsimp only [thenK, blockK, reduceIte, Nat.reduceEqDiff]) | refine G.ifT ?_ | refine G.ifF ?_ | fail
                                refine G.pcall (enters_of Try.func79 (by kernel_rfl) rfl) (is_pf (d := t.items.getD (i + j + 1) default) dotsB) ?_ (hargs := (by simp only [q0, y, F, Nat.reduceLT, Nat.reduceAdd, Nat.reduceEqDiff, Nat.reduceLeDiff, Nat.reduceBNe, Int.reduceToNat, reduceIte, reduceCtorEq, dotsB]; first | done | fail))
                                rintro X rfl
                                have F := And.intro F hisd
                                repeat' with_reducible first | (refine L.nil ?_; try dsimp only [thenK, blockK]) | refine G.ops ?_ | refine G.last ?_ | refine G.take ?_ | refine G.pass ?_ | refine G.passU ?_ | refine G.pickT ?_ | refine G.pickF ?_ | refine G.alloc ?_ | refine G.box ?_ | refine G.store ?_ | refine G.build ?_ | refine G.quiet ?_ | refine G.then ?_ | refine G.else ?_ | (refine CodeT.skip ?_; dsimp only [thenK, blockK, reduceIte, Nat.reduceEqDiff]) | (refine CodeT.exit ?_; dsimp only [thenK, blockK, reduceIte, Nat.reduceEqDiff]) | refine G.ifT ?_ | refine G.ifF ?_ | fail
                                exact (by dsimp only [stI]; exact G.wkM)
                              · have F := And.intro F (decide_eq_false (show ¬ (i : Int) + (j : Int) + 1 < (t.items.length : Int) by omega))
                                repeat' with_reducible first | (refine L.nil ?_; try dsimp only [thenK, blockK]) | refine G.ops ?_ | refine G.last ?_ | refine G.take ?_ | refine G.pass ?_ | refine G.passU ?_ | refine G.pickT ?_ | refine G.pickF ?_ | refine G.alloc ?_ | refine G.box ?_ | refine G.store ?_ | refine G.build ?_ | refine G.quiet ?_ | refine G.then ?_ | refine G.else ?_ | (refine CodeT.skip ?_; dsimp only [thenK, blockK, reduceIte, Nat.reduceEqDiff]) | (refine CodeT.exit ?_; dsimp only [thenK, blockK, reduceIte, Nat.reduceEqDiff]) | refine G.ifT ?_ | refine G.ifF ?_ | fail
                                exact (by dsimp only [stI]; exact G.wkM)
                        · have hxm : t.items.getD i default ∈ t.items := by rw [List.getD_eq_getElem?_getD, List.getElem?_eq_getElem hi]; exact List.getElem_mem _
                          obtain ⟨a, ha⟩ : ∃ a, a = gF m n s pl (t.items.getD i default) kD st2 := ⟨_, rfl⟩
                          have hca := c2 (t.items.getD i default) hxm kD st2 hP5 hP.hc.e0
                          have hwa := w2 (t.items.getD i default) hxm kD st2 hP5 hP.hc.e0
                          rw [← ha] at hca hwa
                          have hnext := hP.next hi he2 (a := a) (by rw [← hD']; exact ha) hca hwa (by rw [← hD']; exact hDl)
                          rw [← hD'] at hnext
                          have hsz : szN (n + 1) t = 1 + szL (szN n) t.items + szL (szN n) t.tail := rfl
                          have hrs := row_size n t.items i hi
                          have hl1 := len_szL (m + n) acc
                          have hl2 := len_szL (m + n) a.1
                          have hs1 := hP.hc.sz
                          have hs2 := hca.sz
                          have hs3 : -5000 - 1 - (n : Int) ≤ a.2.left := hca.lo he2
                          have hs4 : st1.left ≤ 5000 := by rw [hst1]; show st.left - 1 ≤ 5000; omega
                          have hpre : RowPre m N n kD (t.items.getD i default) s st2 := ⟨by omega, hw6 _ hxm, (good_list hg hk5).2 _ (List.mem_append_left _ hxm), by omega, hs, by omega, hP.hc.e0, by have := hP.hc.e0 he2; omega, hP5, hm1⟩
                          have F := And.intro F (And.intro (getD_enc hi) (And.intro (show ((i : Nat) : Int).toNat = i by omega) (And.intro (IntWalk.i64_in ((kD : Int) + 1) (by omega)) (And.intro (IntWalk.i64_in ((i : Int) + ((kD : Int) + 1)) (by omega)) (And.intro (show ((i + (kD + 1) : Nat) : Int) = (i : Int) + ((kD : Int) + 1) by omega) (@List.map_append Dat (List PV) enc))))))
                          refine G.any ?_
                          iterate 11 refine H.quiet ?_
                          refine E.cons (D.rcall (L := 0) (by simp only [qq, F, Nat.reduceLT]; first | done | fail) (enters_of Try.func82 (by kernel_rfl) rfl) (ihr m N kD (t.items.getD i default) s pl st2 a hpre ha) (fun X cs' hR => ⟨hR.1, hR.2.1⟩) (by simp only [q0, y, F, Nat.reduceLT, Nat.reduceAdd, Nat.reduceEqDiff, Nat.reduceLeDiff, Nat.reduceBNe, Int.reduceToNat, reduceIte, reduceCtorEq]; first | done | fail) (by simp only [q0, y, F, Nat.reduceLT, Nat.reduceAdd, Nat.reduceEqDiff, Nat.reduceLeDiff, Nat.reduceBNe, Int.reduceToNat, reduceIte, reduceCtorEq]; first | done | fail)) ?_
                          refine H.append ?_
                          refine H.quiet ?_
                          refine H.store ?_
                          refine E.nil ⟨rfl, ?_⟩
                          repeat' with_reducible first | (refine L.nil ?_; try dsimp only [thenK, blockK]) | refine G.ops ?_ | refine G.last ?_ | refine G.take ?_ | refine G.pass ?_ | refine G.passU ?_ | refine G.pickT ?_ | refine G.pickF ?_ | refine G.alloc ?_ | refine G.box ?_ | refine G.store ?_ | refine G.build ?_ | refine G.quiet ?_ | refine G.then ?_ | refine G.else ?_ | (refine CodeT.skip ?_; dsimp only [thenK, blockK, reduceIte, Nat.reduceEqDiff]) | (refine CodeT.exit ?_; dsimp only [thenK, blockK, reduceIte, Nat.reduceEqDiff]) | refine G.ifT ?_ | refine G.ifF ?_ | fail
                          exact ⟨⟨(i + (kD + 1), f - 1, v + 1, acc ++ a.1, a.2), hnext⟩, by show t.items.length - (i + (kD + 1)) < t.items.length - i; omega, (by dsimp only [stI]; exact G.wkM)⟩
                      · have F := And.intro F (show (st2.e == 0) = false by simp [he2])
                        repeat' with_reducible first | (refine L.nil ?_; try dsimp only [thenK, blockK]) | refine G.ops ?_ | refine G.last ?_ | refine G.take ?_ | refine G.pass ?_ | refine G.passU ?_ | refine G.pickT ?_ | refine G.pickF ?_ | refine G.alloc ?_ | refine G.box ?_ | refine G.store ?_ | refine G.build ?_ | refine G.quiet ?_ | refine G.then ?_ | refine G.else ?_ | (refine CodeT.skip ?_; dsimp only [thenK, blockK, reduceIte, Nat.reduceEqDiff]) | (refine CodeT.exit ?_; dsimp only [thenK, blockK, reduceIte, Nat.reduceEqDiff]) | refine G.ifT ?_ | refine G.ifF ?_ | fail
                        exact ⟨⟨(v, acc, st2), hP.stop (.inr he2)⟩, (by dsimp only [stI]; exact G.wkM)⟩
                    · have F := And.intro F (decide_eq_false (show ¬ (i : Int) < (t.items.length : Int) by omega))
                      repeat' with_reducible first | (refine L.nil ?_; try dsimp only [thenK, blockK]) | refine G.ops ?_ | refine G.last ?_ | refine G.take ?_ | refine G.pass ?_ | refine G.passU ?_ | refine G.pickT ?_ | refine G.pickF ?_ | refine G.alloc ?_ | refine G.box ?_ | refine G.store ?_ | refine G.build ?_ | refine G.quiet ?_ | refine G.then ?_ | refine G.else ?_ | (refine CodeT.skip ?_; dsimp only [thenK, blockK, reduceIte, Nat.reduceEqDiff]) | (refine CodeT.exit ?_; dsimp only [thenK, blockK, reduceIte, Nat.reduceEqDiff]) | refine G.ifT ?_ | refine G.ifF ?_ | fail
                      exact ⟨⟨(v, acc, st2), hP.stop (.inl (by omega))⟩, (by dsimp only [stI]; exact G.wkM)⟩
                  · rintro ⟨⟨v, acc, st2⟩, hF⟩
                    dsimp only at hF ⊢
                    obtain ⟨yy, hyy⟩ : ∃ yy, yy = fillN m n (t.tail.getD 0 default) s pl st2 := ⟨_, rfl⟩
                    have hresl : r = (if t.tail = [] then (mkL acc [], st2) else (normD (m + n + 1) (mkL acc [yy.1]), yy.2)) := by
                      rw [hr]
                      unfold fillN
                      simp only []
                      rw [if_neg h1, if_neg (by simpa using he0), if_neg hD, if_neg hk3, if_neg (by simpa using hk5), if_neg hE, ← hst1]
                      have q := hF.hr
                      unfold gF at q
                      rw [q, hyy]
                    have hsz1 := hF.hc.sz
                    have hs4 : st1.left ≤ 5000 := by rw [hst1]; show st.left - 1 ≤ 5000; omega
                    have hlo1 : -5000 - 1 - (n : Int) ≤ st2.left := hF.hc.lo (by rw [hst1]; exact he0)
                    have hl1 := len_szL (m + n) acc
                    have F0 := F
                    have F := And.intro F (And.intro stI.eq_1 qf)
                    refine CodeT.frz (t := 0) (by simp only [q0, y, F, Nat.reduceLT, Nat.reduceAdd, Nat.reduceEqDiff, Nat.reduceLeDiff, Nat.reduceBNe, Int.reduceToNat, reduceIte, reduceCtorEq]; first | done | rfl) ?_
                    refine CodeT.weak (S2 := tsL [(0, ptX 0), (2, one (.sl 10 (s.map encB))), (3, bX pl), (5, ptX 1), (8, ptX 2), (9, ptX 3)] [(0, .cells 93 (cP (stC st2))), (1, .cells 27 (cP (enc t))), (2, .cells 27 (cP zeroDC)), (3, .cells 27 (cP [.raw (.int .i64 5), .raw (.bool false), .raw (.slice none 0 0), .raw (.bool false), .raw (.string ByteArray.empty), .sl 7 (acc.map enc), .raw (.slice none 0 0)]))] [] 4 0 142) (G.wkM) ?_
                    by_cases ht : t.tail = []
                    · rw [if_pos ht] at hresl
                      have F := And.intro F0 (decide_eq_false (show ¬ ((t.tail.length : Nat) : Int) > 0 by simp [ht]))
                      repeat' with_reducible first | (refine L.nil ?_; try dsimp only [thenK, blockK]) | refine G.ops ?_ | refine G.last ?_ | refine G.take ?_ | refine G.pass ?_ | refine G.passU ?_ | refine G.pickT ?_ | refine G.pickF ?_ | refine G.alloc ?_ | refine G.box ?_ | refine G.store ?_ | refine G.build ?_ | refine G.quiet ?_ | refine G.then ?_ | refine G.else ?_ | (refine CodeT.skip ?_; dsimp only [thenK, blockK, reduceIte, Nat.reduceEqDiff]) | (refine CodeT.exit ?_; dsimp only [thenK, blockK, reduceIte, Nat.reduceEqDiff]) | refine G.ifT ?_ | refine G.ifF ?_ | refine CodeT.seq ?_ | refine CodeT.block ?_ | fail
                      refine CodeT.ret ⟨.a (.agg [.raw (.int .i64 5), .raw (.bool false), .raw (.slice none 0 0), .raw (.bool false), .raw (.string ByteArray.empty), .sl 7 (acc.map enc), .raw (.slice none 0 0)]), .a (.agg (enc r.1)), stC r.2, ?_, ?_, ?_, rfl, rfl, ?_⟩
                      · simp only [Try.results52, resT, resL, resV, q0, y, F, Nat.reduceLT, Nat.reduceAdd, Nat.reduceEqDiff, Nat.reduceLeDiff, Nat.reduceBNe, Int.reduceToNat, reduceIte, reduceCtorEq]
                      · rw [hresl, enc_eq]
                        exact .a (.agg (.cons (.refl _) (.cons (.refl _) (.cons (.nil 1) (.cons (.refl _) (.cons (.refl _) (.cons (.refl _) (.cons (.nil 7) .nil))))))))
                      · rw [hresl]
                        simp only [q0, y, F, Nat.reduceLT, Nat.reduceAdd, Nat.reduceEqDiff, Nat.reduceLeDiff, Nat.reduceBNe, Int.reduceToNat, reduceIte, reduceCtorEq]
                      · rw [hresl]
                        exact wfD_list (by omega) (by simp) hF.hw (by simp)
                    · rw [if_neg ht] at hresl
                      have htl : 0 < t.tail.length := List.length_pos_iff.2 ht
                      have hm0 : t.tail.getD 0 default ∈ t.tail := by rw [List.getD_eq_getElem?_getD, List.getElem?_eq_getElem htl]; exact List.getElem_mem _
                      have hst2 : st2.left ≤ 5000 := by
                        have q : (0 : Int) ≤ ((szL (szN (m + n)) acc : Nat) : Int) := Int.natCast_nonneg _
                        omega
                      have icost := fillN_cost (m := m) (N := N) n (t.tail.getD 0 default) s pl st2 (by omega) ((good_list hg hk5).2 _ (List.mem_append_right _ hm0)) hs hst2 hF.hc.e0 (by omega)
                      rw [← hyy] at icost
                      have i1 := icost.sz
                      have i2 := icost.lo
                      have F := And.intro F0 (And.intro (decide_eq_true (show ((t.tail.length : Nat) : Int) > 0 by omega)) (getD_enc htl))
                      repeat' with_reducible first | (refine L.nil ?_; try dsimp only [thenK, blockK]) | refine G.ops ?_ | refine G.last ?_ | refine G.take ?_ | refine G.pass ?_ | refine G.passU ?_ | refine G.pickT ?_ | refine G.pickF ?_ | refine G.alloc ?_ | refine G.box ?_ | refine G.store ?_ | refine G.build ?_ | refine G.quiet ?_ | refine G.then ?_ | refine G.else ?_ | (refine CodeT.skip ?_; dsimp only [thenK, blockK, reduceIte, Nat.reduceEqDiff]) | (refine CodeT.exit ?_; dsimp only [thenK, blockK, reduceIte, Nat.reduceEqDiff]) | refine G.ifT ?_ | refine G.ifF ?_ | refine CodeT.seq ?_ | refine CodeT.block ?_ | fail
                      refine G.rcall (g := 0) (enters_of Try.func52 (by kernel_rfl) rfl) (ih m N (t.tail.getD 0 default) s pl st2 (FillPre.sub hm1 hn hw hg hz hs hl hk5 (.inr hm0) hF.hc.e0 (by omega) hst2)) ?_
                      rintro X cs' ⟨rfl, rfl, hwy⟩
                      rw [← hyy]
                      rw [← hyy] at hwy
                      refine G.listed ?_
                      repeat' with_reducible first | (refine L.nil ?_; try dsimp only [thenK, blockK]) | refine G.ops ?_ | refine G.last ?_ | refine G.take ?_ | refine G.pass ?_ | refine G.passU ?_ | refine G.pickT ?_ | refine G.pickF ?_ | refine G.alloc ?_ | refine G.box ?_ | refine G.store ?_ | refine G.build ?_ | refine G.quiet ?_ | refine G.then ?_ | refine G.else ?_ | (refine CodeT.skip ?_; dsimp only [thenK, blockK, reduceIte, Nat.reduceEqDiff]) | (refine CodeT.exit ?_; dsimp only [thenK, blockK, reduceIte, Nat.reduceEqDiff]) | refine G.ifT ?_ | refine G.ifF ?_ | refine CodeT.seq ?_ | refine CodeT.block ?_ | fail
                      refine G.pcall (args := [.agg [.raw (.int .i64 5), .raw (.bool false), .raw (.slice none 0 0), .raw (.bool false), .raw (.string ByteArray.empty), .sl 7 (acc.map enc), .sl 7 [enc yy.1]]]) (enters_of Try.func14 (by kernel_rfl) rfl) (PFun.args (Norm_pf (n := m + n + 1) (d := mkL acc [yy.1]) (wfD_list (by omega) (by simp) hF.hw (by simpa using hwy)) ?_ (Nat.le_trans (dpN_lv _ _) (by omega))) (by rw [enc_mkL]; exact .cons (.agg (.cons (.refl _) (.cons (.refl _) (.cons (.nil 1) (.cons (.refl _) (.cons (.refl _) (.cons (.refl _) (.cons (.refl _) .nil)))))))) .nil)) ?_
                      · have e1 : szN (m + n + 1) (mkL acc [yy.1]) = 1 + szL (szN (m + n)) acc + szN (m + n) yy.1 := by
                          rw [szN]
                          rfl
                        rw [e1]
                        omega
                      · rintro X rfl
                        repeat' with_reducible first | (refine L.nil ?_; try dsimp only [thenK, blockK]) | refine G.ops ?_ | refine G.last ?_ | refine G.take ?_ | refine G.pass ?_ | refine G.passU ?_ | refine G.pickT ?_ | refine G.pickF ?_ | refine G.alloc ?_ | refine G.box ?_ | refine G.store ?_ | refine G.build ?_ | refine G.quiet ?_ | refine G.then ?_ | refine G.else ?_ | (refine CodeT.skip ?_; dsimp only [thenK, blockK, reduceIte, Nat.reduceEqDiff]) | (refine CodeT.exit ?_; dsimp only [thenK, blockK, reduceIte, Nat.reduceEqDiff]) | refine G.ifT ?_ | refine G.ifF ?_ | refine CodeT.seq ?_ | refine CodeT.block ?_ | fail
                        refine CodeT.ret ⟨.a (.agg (enc (normD (m + n + 1) (mkL acc [yy.1])))), .a (.agg (enc r.1)), stC r.2, ?_, ?_, ?_, rfl, rfl, ?_⟩
                        · simp only [Try.results52, resT, resL, resV, q0, y, F, Nat.reduceLT, Nat.reduceAdd, Nat.reduceEqDiff, Nat.reduceLeDiff, Nat.reduceBNe, Int.reduceToNat, reduceIte, reduceCtorEq]
                        · rw [hresl]
                          exact .a (PA.le_refl _)
                        · rw [hresl]
                          simp only [q0, y, F, Nat.reduceLT, Nat.reduceAdd, Nat.reduceEqDiff, Nat.reduceLeDiff, Nat.reduceBNe, Int.reduceToNat, reduceIte, reduceCtorEq]
                        · rw [hresl]
                          have e1 : szN (m + n + 1) (mkL acc [yy.1]) = 1 + szL (szN (m + n)) acc + szN (m + n) yy.1 := by
                            rw [szN]
                            rfl
                          exact normD_wf (m + n + 1) (mkL acc [yy.1]) (by rw [e1]; omega) (wfD_list (by omega) (by simp) hF.hw (by simpa using hwy))
            · have hR : r = (t, ⟨st.left - 1, st.e⟩) := by
                rw [hr]
                unfold fillN
                simp only []
                rw [if_neg h1, if_neg (by simpa using he0), if_neg hD, if_neg hk3, if_pos hk5]
              have F := And.intro F (And.intro (Bool.eq_false_iff.2 hD) (And.intro (show (t.kind == 3) = false by simp [hk3]) (show (t.kind != 5) = true by simp [hk5])))
              repeat' with_reducible first | (refine L.nil ?_; try dsimp only [thenK, blockK]) | refine G.ops ?_ | refine G.last ?_ | refine G.take ?_ | refine G.pass ?_ | refine G.passU ?_ | refine G.pickT ?_ | refine G.pickF ?_ | refine G.alloc ?_ | refine G.box ?_ | refine G.store ?_ | refine G.build ?_ | refine G.quiet ?_ | refine G.then ?_ | refine G.else ?_ | (refine CodeT.skip ?_; dsimp only [thenK, blockK, reduceIte, Nat.reduceEqDiff]) | (refine CodeT.exit ?_; dsimp only [thenK, blockK, reduceIte, Nat.reduceEqDiff]) | refine G.ifT ?_ | refine G.ifF ?_ | refine CodeT.seq ?_ | refine CodeT.block ?_ | fail
              refine CodeT.ret ⟨.a (.agg (enc t)), .a (.agg (enc r.1)), stC r.2, ?_, ?_, ?_, rfl, rfl, ?_⟩
              · simp only [Try.results52, resT, resL, resV, q0, y, F, Nat.reduceLT, Nat.reduceAdd, Nat.reduceEqDiff, Nat.reduceLeDiff, Nat.reduceBNe, Int.reduceToNat, reduceIte, reduceCtorEq]
              · rw [hR]
                exact .a (PA.le_refl _)
              · rw [hR]
                simp only [q0, y, F, Nat.reduceLT, Nat.reduceAdd, Nat.reduceEqDiff, Nat.reduceLeDiff, Nat.reduceBNe, Int.reduceToNat, reduceIte, reduceCtorEq]
              · rw [hR]
                exact wfD_le hw (by omega)
    · have F := And.intro F (bne_iff_ne.2 he0)
      have hR : r = (zeroD, ⟨st.left - 1, st.e⟩) := by
        rw [hr]
        unfold fillN
        simp only []
        rw [if_neg h1, if_pos he0]
      repeat' with_reducible first | (refine L.nil ?_; try dsimp only [thenK, blockK]) | refine G.ops ?_ | refine G.last ?_ | refine G.take ?_ | refine G.pass ?_ | refine G.passU ?_ | refine G.pickT ?_ | refine G.pickF ?_ | refine G.alloc ?_ | refine G.box ?_ | refine G.store ?_ | refine G.build ?_ | refine G.quiet ?_ | refine G.then ?_ | refine G.else ?_ | (refine CodeT.skip ?_; dsimp only [thenK, blockK, reduceIte, Nat.reduceEqDiff]) | (refine CodeT.exit ?_; dsimp only [thenK, blockK, reduceIte, Nat.reduceEqDiff]) | refine G.ifT ?_ | refine G.ifF ?_ | refine CodeT.seq ?_ | refine CodeT.block ?_ | fail
      refine CodeT.ret ⟨.a (.agg zeroDC), .a (.agg (enc r.1)), stC r.2, ?_, ?_, ?_, rfl, rfl, ?_⟩
      · simp only [Try.results52, resT, resL, resV, q0, y, F, Nat.reduceLT, Nat.reduceAdd, Nat.reduceEqDiff, Nat.reduceLeDiff, Nat.reduceBNe, Int.reduceToNat, reduceIte, reduceCtorEq, zeroDC]
      · rw [hR]
        exact .a zeroD_le
      · rw [hR]
        simp only [q0, y, F, Nat.reduceLT, Nat.reduceAdd, Nat.reduceEqDiff, Nat.reduceLeDiff, Nat.reduceBNe, Int.reduceToNat, reduceIte, reduceCtorEq]
      · rw [hR]
        exact zeroD_wf (m + n)
end Go.Proofs.Ythmpaepdbjldfaa
