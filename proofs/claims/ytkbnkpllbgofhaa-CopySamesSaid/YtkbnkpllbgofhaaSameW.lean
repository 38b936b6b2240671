/-
  Copy: the walk of Same.
-/
import Derived.Test.YtkbnkpllbgofhaaSameM
import Derived.Lib.QuietBelow
namespace Go.Proofs.Ytkbnkpllbgofhaa
open Go.RowKit HeapM Go.Sort

theorem upd_regrown {w w' : World} (h : ∃ p : Regrown, w' = grow (redrawn w p.d) p.os) : Upd [] w w' := by
  obtain ⟨p, rfl⟩ := h
  exact Upd.of_below (below_regrown w _ _) (Nat.le_refl _) []
theorem idx_lt {l : List Int} {i : Nat} (h : i < l.length) : l.getD i 0 ∈ l := by simp [List.getD_eq_getElem?_getD, h]
set_option maxRecDepth 100000 in
set_option maxHeartbeats 1200000 in
theorem copy_same_calls {w : World} {va vb : Value} {LA LB : List HObj} (ha : HV w va LA) (hb : HV w vb LB) (a1 a2 : Option Addr) (xs ys : List Int) (n1 c1 n2 c2 : Nat) (hn1 : xs.length = n1) (hn2 : ys.length = n2) (hs1 : SlI w .u64 a1 xs) (hs2 : SlI w .u64 a2 ys)
    (hr1 : ∀ x ∈ xs, 0 ≤ x ∧ x < 18446744073709551616) (hr2 : ∀ x ∈ ys, 0 ≤ x ∧ x < 18446744073709551616) (hm1 : n1 ≤ 4294967296) (hm2 : n2 ≤ 4294967296) (B : Bool) (hB : B = true ↔ SameP LA LB (reachR LA xs) (reachR LB ys) xs ys) :
    Calls Try.prog 70 #[va, .slice a1 n1 c1, vb, .slice a2 n2 c2] w fun e w' => e = .returned (.bool B) ∧ Upd [] w w' := by
  have hsa := ha.small
  have hsb := hb.small
  have hwda := Lib.hid ha.words
  have hwdb := Lib.hid hb.words
  have hla := Lib.hid ha.lens
  have hlb := Lib.hid hb.lens
  have HVB := Lib.hid hb
  have HVA := Lib.hid ha
  have HN1 := Lib.hid hn1
  have HN2 := Lib.hid hn2
  have HS1 := Lib.hid hs1
  have HS2 := Lib.hid hs2
  have HR1 := Lib.hid hr1
  have HR2 := Lib.hid hr2
  have HB := Lib.hid hB
  clear ha hb hn1 hn2 hs1 hs2 hr1 hr2 hB
  go_enter Try.func70, Try.ntmps70
  go_wp2_with fail
  refine (reach_calls HVA.out a1 xs n1 c1 HN1.out HS1.out HR1.out (by omega)).mono ?_
  rintro e w2 ⟨qa, ma, rfl, hqa⟩
  have hqa0 := Lib.hid hqa
  clear hqa
  go_wp2_with fail
  refine (reach_calls (HVB.out.upd0 hqa0.out.upd) a2 ys n2 c2 HN2.out (HS2.out.upd0 hqa0.out.upd) HR2.out (by omega)).mono ?_
  rintro e w3 ⟨qb, mb, rfl, hqb⟩
  have hQ : Ques w w2 w3 qa ma qb mb va vb LA LB (reachR LA xs) (reachR LB ys) := ⟨hqa0.out.step hqb.upd, hqb⟩
  have HU3 := Lib.hid (hqa0.out.upd.then hqb.upd)
  have hlp := (hQ.a.met).le hsa
  have hlq := (hQ.b.met).le hsb
  generalize reachR LA xs = P at *
  generalize reachR LB ys = Q at *
  have HQ := Lib.hid hQ
  clear hqa0 hqb hQ
  obtain ⟨m1, hm1e⟩ : ∃ m1, m1 = P.length := ⟨_, rfl⟩
  obtain ⟨m2, hm2e⟩ : ∃ m2, m2 = Q.length := ⟨_, rfl⟩
  have hp := HQ.out.a.parts
  have hq := HQ.out.b.parts
  rw [← hm1e] at hp hlp
  rw [← hm2e] at hq hlq
  have HM1 := Lib.hid hm1e
  have HM2 := Lib.hid hm2e
  clear hm1e hm2e
  obtain ⟨pa, pc, p1, p0, p2, hpl⟩ := hp
  obtain ⟨qa', qc, q1, q0, q2, hql⟩ := hq
  have HPL := Lib.hid hpl
  have HQL := Lib.hid hql
  clear hpl hql p0 p2 q0 q2
  by_cases hne : ¬ (n1 = n2 ∧ m1 = m2)
  · have hBf : B = false := by
      cases hBB : B with
      | false => rfl
      | true =>
        obtain ⟨s1, s2, _⟩ := HB.out.1 hBB
        exact absurd ⟨by rw [← HN1.out, ← HN2.out]; exact s1, by rw [HM1.out, HM2.out]; exact s2⟩ hne
    have HBF := Lib.hid hBf
    have e1 : ((n1 : Int) != (n2 : Int)) = true ∨ (((n1 : Int) != (n2 : Int)) = false ∧ ((m1 : Int) != (m2 : Int)) = true) := by
      simp only [bne_iff_ne, bne_eq_false_iff_eq]
      omega
    clear hne hBf
    rcases e1 with e1 | ⟨e1, e2⟩
    · go_wp2_with fail
      go_quiet (fail)
      go_wp2
      go_ret
      exact ⟨by rw [HBF.out]; rfl, HU3.out.drewN _⟩
    · go_wp2_with fail
      go_quiet (fail)
      go_wp2
      go_ret
      exact ⟨by rw [HBF.out]; rfl, HU3.out.drewN _⟩
  · have hnm : n1 = n2 ∧ m1 = m2 := Classical.byContradiction hne
    clear hne
    obtain ⟨rfl, rfl⟩ := hnm
    have e1 : ((n1 : Int) != (n1 : Int)) = false := by simp
    have e2 : ((m1 : Int) != (m1 : Int)) = false := by simp
    go_wp2_with fail
    go_quiet (fail)
    obtain ⟨W4, hW4⟩ : ∃ W4, W4 = w3.drewN nq := ⟨_, rfl⟩
    have HQ4 := Lib.hid (HQ.out.step ((Upd.refl [] w3).drewN nq))
    have HU4 := Lib.hid (HU3.out.drewN nq)
    have HPL4 := Lib.hid (HPL.out.upd0 ((Upd.refl [] w3).drewN nq))
    have HQL4 := Lib.hid (HQL.out.upd0 ((Upd.refl [] w3).drewN nq))
    have hc4 : W4.cell? ⟨qa, 1, none⟩ = some (.slice pa m1 pc) ∧ W4.cell? ⟨qb, 1, none⟩ = some (.slice qa' m1 qc) := by rw [hW4]; exact ⟨p1, q1⟩
    rw [← hW4] at HQ4 HU4 HPL4 HQL4 ⊢
    clear hW4 p1 q1 HPL HQL HQ HU3 e1 e2
    have HC4 := Lib.hid hc4
    clear hc4
    go_wp2_with fail
    go_loopw [45] (fun i wr => ∃ j : Nat, j ≤ n1 ∧ i = .int .i64 j ∧ Hid (Upd [] W4 wr) ∧ Hid (∀ i, i < j → alikeR LA LB P Q (xs.getD i 0) (ys.getD i 0) = true)) (fun i _ => n1 - (intOf i).toNat)
    case atStart => exact ⟨0, by omega, rfl, Upd.refl _ _, fun i hi => absurd hi (by omega)⟩
    case round =>
      obtain ⟨j, hj, rfl, hU, hall⟩ := hrel
      by_cases hlt : j < n1
      · have hj1 : j < xs.length := by rw [HN1.out]; exact hlt
        have hj2 : j < ys.length := by rw [HN2.out]; exact hlt
        have hUd := (HU4.out.then hU.out).drew
        obtain ⟨b1, o1, rfl, k1⟩ := (HS1.out.upd0 hUd) j hj1
        obtain ⟨b2, o2, rfl, k2⟩ := (HS2.out.upd0 hUd) j hj2
        have hx1 := HR1.out _ (idx_lt hj1)
        have hx2 := HR2.out _ (idx_lt hj2)
        have hal := Lib.hid (alike_calls (HQ4.out.step hU.out.drew) (xs.getD j 0) (ys.getD j 0) hx1.1 (by omega) hx2.1 (by omega))
        have i1 : (0 : Int) ≤ j := by omega
        have i2 : (j : Int) < n1 := by omega
        have hUd2 := Lib.hid hU.out.drew
        have HJ1 := Lib.hid hj1
        obtain ⟨r, hr⟩ : ∃ r, r = alikeR LA LB P Q (xs.getD j 0) (ys.getD j 0) := ⟨_, rfl⟩
        rw [← hr] at hal
        have HR := Lib.hid hr
        clear hj1 hj2 hx1 hx2 hr hUd
        generalize hxe : xs.getD j 0 = x at *
        generalize hye : ys.getD j 0 = y at *
        have HXE := Lib.hid hxe
        have HYE := Lib.hid hye
        clear hxe hye
        cases r
        · have hBf : B = false := by
            cases hBB : B with
            | false => rfl
            | true =>
              obtain ⟨_, _, s3, _⟩ := HB.out.1 hBB
              have h9 := s3 j HJ1.out
              rw [HXE.out, HYE.out, ← HR.out] at h9
              cases h9
          have HBF := Lib.hid hBf
          clear hBf
          go_wp2_with fail
          go_region_held3 (fun w' => w'.cell? ⟨b1, o1 + j, none⟩ = some (.int .u64 x) ∧ w'.cell? ⟨b2, o2 + j, none⟩ = some (.int .u64 y)) (first | exact ⟨by assumption, by assumption⟩ | exact ⟨Upd.cell (by assumption) (by assumption) (by simp), Upd.cell (by assumption) (by assumption) (by simp)⟩) (first
            | (go_at_call 97; refine hal.out.mono ?_; rintro e w' ⟨rfl, hu⟩))
          have hF := Lib.hid ((HU4.out.then hUd2.out).then hu)
          clear hu hal k1 k2
          go_wp2
          go_ret
          exact ⟨by rw [HBF.out]; rfl, hF.out⟩
        · have hall' : Hid (∀ i, i < j + 1 → alikeR LA LB P Q (xs.getD i 0) (ys.getD i 0) = true) := by
            intro i hi
            rcases Nat.lt_or_ge i j with h | h
            · exact hall.out i h
            · have : i = j := by omega
              subst this
              rw [HXE.out, HYE.out]
              exact HR.out.symm
          go_wp2_with fail
          go_region_held3 (fun w' => w'.cell? ⟨b1, o1 + j, none⟩ = some (.int .u64 x) ∧ w'.cell? ⟨b2, o2 + j, none⟩ = some (.int .u64 y)) (first | exact ⟨by assumption, by assumption⟩ | exact ⟨Upd.cell (by assumption) (by assumption) (by simp), Upd.cell (by assumption) (by assumption) (by simp)⟩) (first
            | (go_at_call 97; refine hal.out.mono ?_; rintro e w' ⟨rfl, hu⟩))
          have hF := Lib.hid (hUd2.out.then hu)
          clear hu hal k1 k2 hall
          go_wp2
          go_roundw
          case rel => exact ⟨j + 1, by omega, by go_num, hF, hall'⟩
          case measure => simp [intOf]; omega
      · have hjn : j = xs.length := by rw [HN1.out]; omega
        have hall2 : Hid (∀ i, i < xs.length → alikeR LA LB P Q (xs.getD i 0) (ys.getD i 0) = true) := by rw [← hjn]; exact hall.out
        have hc1 := hU.out.cell HC4.out.1 (by simp)
        clear hjn hall
        go_wp2_with fail
        clear hc1
        go_loopw [66] (fun i wr => ∃ j : Nat, j ≤ m1 ∧ i = .int .i64 j ∧ Hid (Upd [] W4 wr) ∧ Hid (∀ i, i < j → kindR LA (P.getD i 0) = kindR LB (Q.getD i 0) ∧ lenR LA (P.getD i 0) = lenR LB (Q.getD i 0) ∧
    ∀ k, k < lenR LA (P.getD i 0) → if scanned (kindR LA (P.getD i 0)) = true then alikeR LA LB P Q ((wordsR LA (P.getD i 0)).getD k 0) ((wordsR LB (Q.getD i 0)).getD k 0) = true else (wordsR LA (P.getD i 0)).getD k 0 = (wordsR LB (Q.getD i 0)).getD k 0)) (fun i _ => m1 - (intOf i).toNat)
        case atStart => exact ⟨0, by omega, rfl, hU, fun i hi => absurd hi (by omega)⟩
        case round =>
          obtain ⟨j, hj, rfl, hU, hall⟩ := hrel
          by_cases hlt : j < m1
          · have hj1 : j < P.length := by rw [← HM1.out]; exact hlt
            have hj2 : j < Q.length := by rw [← HM2.out]; exact hlt
            obtain ⟨b1, o1, rfl, k1⟩ := (HPL4.out.upd0 hU.out) j hj1
            obtain ⟨b2, o2, rfl, k2⟩ := (HQL4.out.upd0 hU.out) j hj2
            have hc2 := hU.out.cell HC4.out.2 (by simp)
            have hkA := Lib.hid (fun w' (hu : Upd [] wr w') => ((HQ4.out.step hU.out).step hu).wa.kind (P.getD j 0))
            have hkB := Lib.hid (fun w' (hu : Upd [] wr w') => ((HQ4.out.step hU.out).step hu).wb.kind (Q.getD j 0))
            have hlA := Lib.hid (fun w' (hu : Upd [] wr w') => ((HQ4.out.step hU.out).step hu).wa.len (P.getD j 0))
            have hlB := Lib.hid (fun w' (hu : Upd [] wr w') => ((HQ4.out.step hU.out).step hu).wb.len (Q.getD j 0))
            have hwA := Lib.hid (fun w' (hu : Upd [] wr w') => words_calls ((HQ4.out.step hU.out).step hu).wa (P.getD j 0))
            have hwB := Lib.hid (fun w' (hu : Upd [] wr w') => words_calls ((HQ4.out.step hU.out).step hu).wb (Q.getD j 0))
            have hrA := Lib.hid (wordsR_range hwda.out (P.getD j 0))
            have hrB := Lib.hid (wordsR_range hwdb.out (Q.getD j 0))
            have hnA := wordsR_len LA (P.getD j 0)
            have hnB := wordsR_len LB (Q.getD j 0)
            have hl6 := hla.out (P.getD j 0)
            have hOKj : Hid (B = true → kindR LA (P.getD j 0) = kindR LB (Q.getD j 0) ∧ lenR LA (P.getD j 0) = lenR LB (Q.getD j 0) ∧ ∀ k, k < lenR LA (P.getD j 0) → if scanned (kindR LA (P.getD j 0)) = true then alikeR LA LB P Q ((wordsR LA (P.getD j 0)).getD k 0) ((wordsR LB (Q.getD j 0)).getD k 0) = true else (wordsR LA (P.getD j 0)).getD k 0 = (wordsR LB (Q.getD j 0)).getD k 0) :=
              fun h => (HB.out.1 h).2.2.2 j hj1
            obtain ⟨r, hr⟩ : ∃ r, r = P.getD j 0 := ⟨_, rfl⟩
            obtain ⟨t, ht⟩ : ∃ t, t = Q.getD j 0 := ⟨_, rfl⟩
            rw [← hr] at k1 hkA hlA hwA hrA hnA hl6 hOKj
            rw [← ht] at k2 hkB hlB hwB hrB hnB hOKj
            have hall' : Hid ((kindR LA r = kindR LB t ∧ lenR LA r = lenR LB t ∧ ∀ k, k < lenR LA r → if scanned (kindR LA r) = true then alikeR LA LB P Q ((wordsR LA r).getD k 0) ((wordsR LB t).getD k 0) = true else (wordsR LA r).getD k 0 = (wordsR LB t).getD k 0) →
                ∀ i, i < j + 1 → kindR LA (P.getD i 0) = kindR LB (Q.getD i 0) ∧ lenR LA (P.getD i 0) = lenR LB (Q.getD i 0) ∧ ∀ k, k < lenR LA (P.getD i 0) → if scanned (kindR LA (P.getD i 0)) = true then alikeR LA LB P Q ((wordsR LA (P.getD i 0)).getD k 0) ((wordsR LB (Q.getD i 0)).getD k 0) = true else (wordsR LA (P.getD i 0)).getD k 0 = (wordsR LB (Q.getD i 0)).getD k 0) := by
              intro h0 i hi
              rcases Nat.lt_or_ge i j with h | h
              · exact hall.out i h
              · have : i = j := by omega
                subst this
                rw [← hr, ← ht]
                exact h0
            clear hj1 hj2 hr ht hall
            generalize wordsR LA r = wdA at *
            generalize wordsR LB t = wdB at *
            generalize kindR LA r = kA at *
            generalize kindR LB t = kB at *
            generalize lenR LA r = lA at *
            generalize lenR LB t = lB at *
            have HNA := Lib.hid hnA
            have HNB := Lib.hid hnB
            clear hnA hnB
            go_wp2_with fail
            refine (hkA.out _ (Upd.refl _ _)).mono ?_
            rintro e w' ⟨rfl, rfl⟩
            go_wp2_with fail
            refine (hkB.out _ (Upd.refl _ _)).mono ?_
            rintro e w' ⟨rfl, rfl⟩
            by_cases hkk : kA = kB
            · have e1 : (kA != kB) = false := by rw [bne_eq_false_iff_eq]; exact hkk
              go_wp2_with fail
              refine (hlA.out _ (Upd.refl _ _)).mono ?_
              rintro e w' ⟨rfl, rfl⟩
              go_wp2_with fail
              refine (hlB.out _ (Upd.refl _ _)).mono ?_
              rintro e w' ⟨rfl, rfl⟩
              by_cases hll : lA = lB
              · have e2 : ((lA : Int) != (lB : Int)) = false := by rw [bne_eq_false_iff_eq]; omega
                have HKK := Lib.hid hkk
                have HLL := Lib.hid hll
                clear hkk hll
                go_wp2_with fail
                refine (hkA.out _ (Upd.refl _ _)).mono ?_
                rintro e w' ⟨rfl, rfl⟩
                clear e1 e2 k1 k2 hc2
                go_wp2_with fail
                refine (scanned_calls _ _).mono ?_
                rintro e w5 ⟨rfl, hu5⟩
                have HU5 := Lib.hid hu5
                clear hu5
                go_wp2_with fail
                refine (hwA.out _ HU5.out).mono ?_
                rintro e w6 ⟨bA, rfl, hbA, hszA, hu6⟩
                have HU6 := Lib.hid (HU5.out.then hu6)
                have HBA := Lib.hid hbA
                clear hbA hszA hu6
                go_wp2_with fail
                refine (hwB.out _ HU6.out).mono ?_
                rintro e w7 ⟨bB, rfl, hbB, hszB, hu7⟩
                have HBA7 := Lib.hid (hu7.blk HBA.out (by simp))
                have HBB7 := Lib.hid hbB
                have HU7 := Lib.hid (HU6.out.then hu7)
                have hU7 := Lib.hid (hU.out.then HU7.out)
                clear hbB hszB hu7 HU6 HU5 HBA hkA hkB hlA hlB hwA hwB
                rw [HNA.out, HNB.out]
                generalize scanned kA = sc at *
                go_wp2_with fail
                obtain ⟨wo, rfl⟩ : ∃ wo : World, wo = w7 := ⟨_, rfl⟩
                go_loopw [106] (fun i wr => ∃ k : Nat, k ≤ lA ∧ i = .int .i64 k ∧ Hid (Upd [] wo wr) ∧ Hid (∀ i, i < k → if sc = true then alikeR LA LB P Q (wdA.getD i 0) (wdB.getD i 0) = true else wdA.getD i 0 = wdB.getD i 0)) (fun i _ => lA - (intOf i).toNat)
                case atStart => exact ⟨0, by omega, rfl, Upd.refl _ _, fun i hi => absurd hi (by omega)⟩
                case round =>
                  obtain ⟨k, hk, rfl, hV, hwords⟩ := hrel
                  by_cases hlt3 : k < lA
                  · have hk1 : k < wdA.length := by rw [HNA.out]; exact hlt3
                    have hk2 : k < wdB.length := by rw [HNB.out, ← HLL.out]; exact hlt3
                    have hkB : (k : Int) < lB := by have := HLL.out; omega
                    have i1 : (0 : Int) ≤ k := by omega
                    have i2 : (k : Int) < lA := by omega
                    have hxA := hrA.out _ (idx_lt hk1)
                    have hxB := hrB.out _ (idx_lt hk2)
                    have hA1 := (hV.out.blk HBA7.out (by simp)).cell_some (i := k) (v := .int .u64 (wdA.getD k 0)) (by
                      rw [map_int_get, List.getElem?_eq_getElem hk1, List.getD_eq_getElem?_getD, List.getElem?_eq_getElem hk1]
                      rfl)
                    have hB1 := (hV.out.blk HBB7.out (by simp)).cell_some (i := k) (v := .int .u64 (wdB.getD k 0)) (by
                      rw [map_int_get, List.getElem?_eq_getElem hk2, List.getD_eq_getElem?_getD, List.getElem?_eq_getElem hk2]
                      rfl)
                    have hal := Lib.hid (fun w' (hu : Upd [] wr w') => alike_calls (HQ4.out.step ((hU7.out.then hV.out).then hu)) (wdA.getD k 0) (wdB.getD k 0) hxA.1 (by omega) hxB.1 (by omega))
                    have hVd := Lib.hid hV.out.drew
                    have hnext : Hid ((if sc = true then alikeR LA LB P Q (wdA.getD k 0) (wdB.getD k 0) = true else wdA.getD k 0 = wdB.getD k 0) → ∀ i, i < k + 1 → if sc = true then alikeR LA LB P Q (wdA.getD i 0) (wdB.getD i 0) = true else wdA.getD i 0 = wdB.getD i 0) := by
                      intro h0 i hi
                      rcases Nat.lt_or_ge i k with h | h
                      · exact hwords.out i h
                      · have : i = k := by omega
                        subst this
                        exact h0
                    have hbad : Hid (B = true → if sc = true then alikeR LA LB P Q (wdA.getD k 0) (wdB.getD k 0) = true else wdA.getD k 0 = wdB.getD k 0) := fun h => (hOKj.out h).2.2 k hlt3
                    obtain ⟨rr, hrr⟩ : ∃ rr, rr = alikeR LA LB P Q (wdA.getD k 0) (wdB.getD k 0) := ⟨_, rfl⟩
                    rw [← hrr] at hal hnext hbad
                    clear hk1 hk2 hxA hxB hrr hwords
                    generalize wdA.getD k 0 = xa at *
                    generalize wdB.getD k 0 = xb at *
                    cases sc
                    · by_cases hxe : xa = xb
                      · have e3 : (xa != xb) = false := by rw [bne_eq_false_iff_eq]; exact hxe
                        have hn2 := Lib.hid (hnext.out (by simpa using hxe))
                        clear hxe hnext hbad hal
                        go_wp2_with fail
                        go_quiet (fail)
                        have hF := Lib.hid (hV.out.drewN nq)
                        clear hV hA1 hB1 e3
                        go_wp2
                        go_roundw
                        case rel => exact ⟨k + 1, by omega, by go_num, hF, hn2⟩
                        case measure => simp [intOf]; omega
                      · have hBf : B = false := by
                          cases hBB : B with
                          | false => rfl
                          | true => exact absurd (by simpa using hbad.out hBB) hxe
                        have HBF := Lib.hid hBf
                        have e3 : (xa != xb) = true := by rw [bne_iff_ne]; exact hxe
                        clear hxe hnext hbad hal hBf
                        go_wp2_with fail
                        go_quiet (fail)
                        have hF := Lib.hid ((HU4.out.then (hU7.out.then hV.out)).drewN nq)
                        clear hV hA1 hB1 e3
                        go_wp2
                        go_ret
                        exact ⟨by rw [HBF.out]; rfl, hF.out⟩
                    · cases rr
                      · have hBf : B = false := by
                          cases hBB : B with
                          | false => rfl
                          | true => exact absurd (hbad.out hBB) (by simp)
                        have HBF := Lib.hid hBf
                        clear hnext hbad hBf
                        go_wp2_with fail
                        have gA : ∀ d os, (grow (redrawn wr d) os).cell? ⟨bA, k, none⟩ = some (.int .u64 xa) := fun d os => cell_regrown hA1 d os
                        have gB : ∀ d os, (grow (redrawn wr d) os).cell? ⟨bB, k, none⟩ = some (.int .u64 xb) := fun d os => cell_regrown hB1 d os
                        refine wp_region_quiet_below (by kernel_rfl) (by kernel_rfl) ?_
                        repeat (first | go_big_quiet_skip | quiet_step ((go_at_call 97; exact Calls.regrown_of ((hal.out _ (Upd.of_below (below_regrown wr _ _) (Nat.le_refl _) [])).mono fun _ _ ⟨a, b⟩ => ⟨a, b.below⟩))))
                        refine wpQuiet_nil ?_
                        intro w9 hw9
                        have hF := Lib.hid ((HU4.out.then hU7.out).then (hV.out.then (upd_regrown hw9)))
                        clear hal hA1 hB1 hV gA gB hw9
                        go_wp2
                        go_ret
                        exact ⟨by rw [HBF.out]; rfl, hF.out⟩
                      · have hn2 := Lib.hid (hnext.out (by simp))
                        clear hnext hbad
                        go_wp2_with fail
                        have gA : ∀ d os, (grow (redrawn wr d) os).cell? ⟨bA, k, none⟩ = some (.int .u64 xa) := fun d os => cell_regrown hA1 d os
                        have gB : ∀ d os, (grow (redrawn wr d) os).cell? ⟨bB, k, none⟩ = some (.int .u64 xb) := fun d os => cell_regrown hB1 d os
                        refine wp_region_quiet_below (by kernel_rfl) (by kernel_rfl) ?_
                        repeat (first | go_big_quiet_skip | quiet_step ((go_at_call 97; exact Calls.regrown_of ((hal.out _ (Upd.of_below (below_regrown wr _ _) (Nat.le_refl _) [])).mono fun _ _ ⟨a, b⟩ => ⟨a, b.below⟩))))
                        refine wpQuiet_nil ?_
                        intro w9 hw9
                        have hF := Lib.hid (hV.out.then (upd_regrown hw9))
                        clear hal hA1 hB1 hV gA gB hw9
                        go_wp2
                        go_roundw
                        case rel => exact ⟨k + 1, by omega, by go_num, hF, hn2⟩
                        case measure => simp [intOf]; omega
                  · have hkl : k = lA := by omega
                    have hn2 := Lib.hid (hall'.out ⟨HKK.out, HLL.out, by rw [← hkl]; exact hwords.out⟩)
                    have hF := Lib.hid (hU7.out.then hV.out)
                    clear hkl hwords hV
                    go_wp2
                    go_roundw
                    case rel => exact ⟨j + 1, by omega, by go_num, hF, hn2⟩
                    case measure => simp [intOf]; omega
              · have hBf : B = false := by
                  cases hBB : B with
                  | false => rfl
                  | true => exact absurd (hOKj.out hBB).2.1 hll
                have HBF := Lib.hid hBf
                have e2 : ((lA : Int) != (lB : Int)) = true := by rw [bne_iff_ne]; omega
                have hF := Lib.hid (HU4.out.then hU.out)
                clear hkk hll hBf hkA hkB hlA hlB hwA hwB
                go_wp2
                go_ret
                exact ⟨by rw [HBF.out]; rfl, hF.out⟩
            · have hBf : B = false := by
                cases hBB : B with
                | false => rfl
                | true => exact absurd (hOKj.out hBB).1 hkk
              have HBF := Lib.hid hBf
              have e1 : (kA != kB) = true := by rw [bne_iff_ne]; exact hkk
              have hF := Lib.hid (HU4.out.then hU.out)
              clear hkk hBf hkA hkB hlA hlB hwA hwB
              go_wp2
              go_ret
              exact ⟨by rw [HBF.out]; rfl, hF.out⟩
          · have hjm : j = P.length := by rw [← HM1.out]; omega
            have hBt : B = true := by
              refine HB.out.2 ⟨by rw [HN1.out, HN2.out], by rw [← HM1.out, ← HM2.out], hall2.out, fun i hi => hall.out i (by omega)⟩
            have HBT := Lib.hid hBt
            have hF := Lib.hid (HU4.out.then hU.out)
            clear hjm hBt hall hU
            go_wp2
            go_ret
            exact ⟨by rw [HBT.out]; rfl, hF.out⟩
end Go.Proofs.Ytkbnkpllbgofhaa
