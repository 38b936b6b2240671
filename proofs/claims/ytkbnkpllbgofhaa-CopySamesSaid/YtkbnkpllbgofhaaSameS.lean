/-
  Copy: the walk of the document's Same.
-/
import Derived.Test.YtkbnkpllbgofhaaSameR
namespace Go.Proofs.Ytkbnkpllbgofhaa
open Go.RowKit HeapM Go.Sort

/-- What stays known through the document's Same. -/
structure RTwo (w0 w : World) (pa na ba pb nb bb : Nat) (va vb : Value) (bsa bsb : List Nat) (LA LB : List HObj) : Prop where
  a : RHeap w pa na ba LA va bsa
  b : RHeap w pb nb bb LB vb bsb
  upd : Upd [] w0 w
theorem RTwo.step {w0 w w' : World} {pa na ba pb nb bb : Nat} {va vb : Value} {bsa bsb : List Nat} {LA LB : List HObj} (h : RTwo w0 w pa na ba pb nb bb va vb bsa bsb LA LB) (hu : Upd [] w w') : RTwo w0 w' pa na ba pb nb bb va vb bsa bsb LA LB := ⟨h.a.upd0 hu, h.b.upd0 hu, h.upd.then hu⟩
set_option maxRecDepth 100000 in
set_option maxHeartbeats 1500000 in
theorem ref_same_calls {w : World} {pa na ba pb nb bb : Nat} {va vb : Value} {bsa bsb : List Nat} {LA LB : List HObj} (ha : RHeap w pa na ba LA va bsa) (hb : RHeap w pb nb bb LB vb bsb) (a1 a2 : Option Addr) (xs ys : List Int) (n1 c1 n2 c2 : Nat) (hn1 : xs.length = n1) (hn2 : ys.length = n2) (hs1 : SlI w .u64 a1 xs) (hs2 : SlI w .u64 a2 ys)
    (hr1 : ∀ x ∈ xs, 0 ≤ x ∧ x < 18446744073709551616) (hr2 : ∀ x ∈ ys, 0 ≤ x ∧ x < 18446744073709551616) (hm1 : n1 ≤ 4294967296) (hm2 : n2 ≤ 4294967296) (B : Bool) (hB : B = true ↔ SameP LA LB (reachR LA xs) (reachR LB ys) xs ys) :
    Calls Try.prog 71 #[rptr pa, .slice a1 n1 c1, rptr pb, .slice a2 n2 c2] w fun e w' => e = .returned (.bool B) ∧ Upd [] w w' := by
  have hsa := ha.small
  have hsb := hb.small
  have hwda := Lib.hid ha.words
  have hwdb := Lib.hid hb.words
  have HT := Lib.hid (show RTwo w w pa na ba pb nb bb va vb bsa bsb LA LB from ⟨ha, hb, Upd.refl _ _⟩)
  have HN1 := Lib.hid hn1
  have HN2 := Lib.hid hn2
  have HS1 := Lib.hid hs1
  have HS2 := Lib.hid hs2
  have HR1 := Lib.hid hr1
  have HR2 := Lib.hid hr2
  have HB := Lib.hid hB
  clear ha hb hn1 hn2 hs1 hs2 hr1 hr2 hB
  unfold rptr
  go_enter Try.func71, Try.ntmps71
  go_wp2_with fail
  refine (rreached_calls HT.out.a a1 xs n1 c1 HN1.out HS1.out HR1.out (by omega)).mono ?_
  rintro e w2 ⟨pp, pc, rfl, hpl, hu2⟩
  have HPL2 := Lib.hid hpl
  have HT2 := Lib.hid (HT.out.step hu2)
  clear hpl hu2
  go_wp2_with fail
  refine (rreached_calls HT2.out.b a2 ys n2 c2 HN2.out (HS2.out.upd0 HT2.out.upd) HR2.out (by omega)).mono ?_
  rintro e w3 ⟨qq, qc, rfl, hql, hu3⟩
  have HPL := Lib.hid (HPL2.out.upd0 hu3)
  have HQL := Lib.hid hql
  have HT3 := Lib.hid (HT2.out.step hu3)
  have hmp : Met LA (reachR LA xs) := Met.bfs LA xs LA.length
  have hmq : Met LB (reachR LB ys) := Met.bfs LB ys LB.length
  have hlp := hmp.le hsa
  have hlq := hmq.le hsb
  generalize reachR LA xs = P at *
  generalize reachR LB ys = Q at *
  have HMP := Lib.hid hmp
  have HMQ := Lib.hid hmq
  clear hql hu3 HPL2 HT2 hmp hmq
  obtain ⟨m1, hm1e⟩ : ∃ m1, m1 = P.length := ⟨_, rfl⟩
  obtain ⟨m2, hm2e⟩ : ∃ m2, m2 = Q.length := ⟨_, rfl⟩
  rw [← hm1e] at hlp ⊢
  rw [← hm2e] at hlq ⊢
  have HM1 := Lib.hid hm1e
  have HM2 := Lib.hid hm2e
  clear hm1e hm2e
  by_cases hne : ¬ (n1 = n2 ∧ m1 = m2)
  · have hBf : B = false := by
      cases hBB : B with
      | false => rfl
      | true =>
        obtain ⟨s1, s2, _⟩ := HB.out.1 hBB
        exact absurd ⟨by rw [← HN1.out, ← HN2.out]; exact s1, by rw [HM1.out, HM2.out]; exact s2⟩ hne
    have HBF := Lib.hid hBf
    have e1 : ((n1 : Int) != (n2 : Int)) = true ∨ (((n1 : Int) != (n2 : Int)) = false ∧ ((m1 : Int) != (m2 : Int)) = true) := by
      simp only [bne_iff_ne, bne_eq_false_iff_eq]
      omega
    clear hne hBf
    rcases e1 with e1 | ⟨e1, e2⟩
    all_goals
      go_wp2
      go_ret
      exact ⟨by rw [HBF.out]; rfl, HT3.out.upd⟩
  · have hnm : n1 = n2 ∧ m1 = m2 := Classical.byContradiction hne
    clear hne
    obtain ⟨rfl, rfl⟩ := hnm
    have e1 : ((n1 : Int) != (n1 : Int)) = false := by simp
    have e2 : ((m1 : Int) != (m1 : Int)) = false := by simp
    go_wp2_with fail
    clear e1 e2
    go_loopw [38] (fun i wr => ∃ j : Nat, j ≤ n1 ∧ i = .int .i64 j ∧ Hid (Upd [] w3 wr) ∧ Hid (∀ i, i < j → alikeR LA LB P Q (xs.getD i 0) (ys.getD i 0) = true)) (fun i _ => n1 - (intOf i).toNat)
    case atStart => exact ⟨0, by omega, rfl, Upd.refl _ _, fun i hi => absurd hi (by omega)⟩
    case round =>
      obtain ⟨j, hj, rfl, hU, hall⟩ := hrel
      by_cases hlt : j < n1
      · have hj1 : j < xs.length := by rw [HN1.out]; exact hlt
        have hj2 : j < ys.length := by rw [HN2.out]; exact hlt
        have hUd := (HT3.out.upd.then hU.out).drew
        obtain ⟨b1, o1, rfl, k1⟩ := (HS1.out.upd0 hUd) j hj1
        obtain ⟨b2, o2, rfl, k2⟩ := (HS2.out.upd0 hUd) j hj2
        have hx1 := HR1.out _ (idx_lt hj1)
        have hx2 := HR2.out _ (idx_lt hj2)
        have hTd := HT3.out.step hU.out.drew
        have hal := Lib.hid (like_calls hTd.a hTd.b pp qq P Q m1 pc m1 qc HM1.out.symm HM2.out.symm (HPL.out.upd0 hU.out.drew) (HQL.out.upd0 hU.out.drew) hlp hlp (xs.getD j 0) (ys.getD j 0) hx1.1 (by omega) hx2.1 (by omega))
        have i1 : (0 : Int) ≤ j := by omega
        have i2 : (j : Int) < n1 := by omega
        have hUd2 := Lib.hid hU.out.drew
        have HJ1 := Lib.hid hj1
        obtain ⟨r, hr⟩ : ∃ r, r = alikeR LA LB P Q (xs.getD j 0) (ys.getD j 0) := ⟨_, rfl⟩
        rw [← hr] at hal
        have HR := Lib.hid hr
        clear hj1 hj2 hx1 hx2 hr hUd hTd
        generalize hxe : xs.getD j 0 = x at *
        generalize hye : ys.getD j 0 = y at *
        have HXE := Lib.hid hxe
        have HYE := Lib.hid hye
        clear hxe hye
        unfold rptr at hal
        cases r
        · have hBf : B = false := by
            cases hBB : B with
            | false => rfl
            | true =>
              obtain ⟨_, _, s3, _⟩ := HB.out.1 hBB
              have h9 := s3 j HJ1.out
              rw [HXE.out, HYE.out, ← HR.out] at h9
              cases h9
          have HBF := Lib.hid hBf
          clear hBf
          go_wp2_with fail
          go_region_held3 (fun w' => w'.cell? ⟨b1, o1 + j, none⟩ = some (.int .u64 x) ∧ w'.cell? ⟨b2, o2 + j, none⟩ = some (.int .u64 y)) (first | exact ⟨by assumption, by assumption⟩ | exact ⟨Upd.cell (by assumption) (by assumption) (by simp), Upd.cell (by assumption) (by assumption) (by simp)⟩) (first
            | (go_at_call 98; refine hal.out.mono ?_; rintro e w' ⟨rfl, hu⟩))
          have hF := Lib.hid ((HT3.out.upd.then hUd2.out).then hu)
          clear hu hal k1 k2
          go_wp2
          go_ret
          exact ⟨by rw [HBF.out]; rfl, hF.out⟩
        · have hall' : Hid (∀ i, i < j + 1 → alikeR LA LB P Q (xs.getD i 0) (ys.getD i 0) = true) := by
            intro i hi
            rcases Nat.lt_or_ge i j with h | h
            · exact hall.out i h
            · have : i = j := by omega
              subst this
              rw [HXE.out, HYE.out]
              exact HR.out.symm
          go_wp2_with fail
          go_region_held3 (fun w' => w'.cell? ⟨b1, o1 + j, none⟩ = some (.int .u64 x) ∧ w'.cell? ⟨b2, o2 + j, none⟩ = some (.int .u64 y)) (first | exact ⟨by assumption, by assumption⟩ | exact ⟨Upd.cell (by assumption) (by assumption) (by simp), Upd.cell (by assumption) (by assumption) (by simp)⟩) (first
            | (go_at_call 98; refine hal.out.mono ?_; rintro e w' ⟨rfl, hu⟩))
          have hF := Lib.hid (hUd2.out.then hu)
          clear hu hal k1 k2 hall
          go_wp2
          go_roundw
          case rel => exact ⟨j + 1, by omega, by go_num, hF, hall'⟩
          case measure => simp [intOf]; omega
      · have hjn : j = xs.length := by rw [HN1.out]; omega
        have hall2 : Hid (∀ i, i < xs.length → alikeR LA LB P Q (xs.getD i 0) (ys.getD i 0) = true) := by rw [← hjn]; exact hall.out
        clear hjn hall
        go_wp2_with fail
        go_loopw [58] (fun i wr => ∃ j : Nat, j ≤ m1 ∧ i = .int .i64 j ∧ Hid (Upd [] w3 wr) ∧ Hid (∀ i, i < j → kindR LA (P.getD i 0) = kindR LB (Q.getD i 0) ∧ lenR LA (P.getD i 0) = lenR LB (Q.getD i 0) ∧
    ∀ k, k < lenR LA (P.getD i 0) → if scanned (kindR LA (P.getD i 0)) = true then alikeR LA LB P Q ((wordsR LA (P.getD i 0)).getD k 0) ((wordsR LB (Q.getD i 0)).getD k 0) = true else (wordsR LA (P.getD i 0)).getD k 0 = (wordsR LB (Q.getD i 0)).getD k 0)) (fun i _ => m1 - (intOf i).toNat)
        case atStart => exact ⟨0, by omega, rfl, hU, fun i hi => absurd hi (by omega)⟩
        case round =>
          obtain ⟨j, hj, rfl, hU, hall⟩ := hrel
          by_cases hlt : j < m1
          · have hj1 : j < P.length := by rw [← HM1.out]; exact hlt
            have hj2 : j < Q.length := by rw [← HM2.out]; exact hlt
            obtain ⟨b1, o1, rfl, k1⟩ := (HPL.out.upd0 hU.out) j hj1
            obtain ⟨b2, o2, rfl, k2⟩ := (HQL.out.upd0 hU.out) j hj2
            obtain ⟨ia, oa, hoa, hra⟩ := HMP.out.get (r := P.getD j 0) (idx_lt hj1)
            obtain ⟨ib, ob, hob, hrb⟩ := HMQ.out.get (r := Q.getD j 0) (idx_lt hj2)
            have hkA := kindR_at hoa
            have hkB := kindR_at hob
            have hlA := lenR_at hoa
            have hlB := lenR_at hob
            have hwA := wordsR_at hoa
            have hwB := wordsR_at hob
            rw [← hra] at hkA hlA hwA
            rw [← hrb] at hkB hlB hwB
            have hatA := Lib.hid (rat_in (HT3.out.step hU.out).a hoa (P.getD j 0) hra)
            have hatB := Lib.hid (fun w' (hu : Upd [] wr w') => rat_in ((HT3.out.step hU.out).step hu).b hob (Q.getD j 0) hrb)
            have hrowA := Lib.hid (fun w' (hu : Upd [] w3 w') => (HT3.out.step hu).a.row hoa)
            have hrowB := Lib.hid (fun w' (hu : Upd [] w3 w') => (HT3.out.step hu).b.row hob)
            have hl6 := (HT3.out.a).lens hoa
            have hrA := wordsR_range hwda.out (P.getD j 0)
            have hrB := wordsR_range hwdb.out (Q.getD j 0)
            have hOKj : Hid (B = true → kindR LA (P.getD j 0) = kindR LB (Q.getD j 0) ∧ lenR LA (P.getD j 0) = lenR LB (Q.getD j 0) ∧ ∀ k, k < lenR LA (P.getD j 0) → if scanned (kindR LA (P.getD j 0)) = true then alikeR LA LB P Q ((wordsR LA (P.getD j 0)).getD k 0) ((wordsR LB (Q.getD j 0)).getD k 0) = true else (wordsR LA (P.getD j 0)).getD k 0 = (wordsR LB (Q.getD j 0)).getD k 0) :=
              fun h => (HB.out.1 h).2.2.2 j hj1
            rw [hwA] at hrA
            rw [hwB] at hrB
            have HRA := Lib.hid hrA
            have HRB := Lib.hid hrB
            have hall' : Hid ((kindR LA (P.getD j 0) = kindR LB (Q.getD j 0) ∧ lenR LA (P.getD j 0) = lenR LB (Q.getD j 0) ∧ ∀ k, k < lenR LA (P.getD j 0) → if scanned (kindR LA (P.getD j 0)) = true then alikeR LA LB P Q ((wordsR LA (P.getD j 0)).getD k 0) ((wordsR LB (Q.getD j 0)).getD k 0) = true else (wordsR LA (P.getD j 0)).getD k 0 = (wordsR LB (Q.getD j 0)).getD k 0) →
                ∀ i, i < j + 1 → kindR LA (P.getD i 0) = kindR LB (Q.getD i 0) ∧ lenR LA (P.getD i 0) = lenR LB (Q.getD i 0) ∧ ∀ k, k < lenR LA (P.getD i 0) → if scanned (kindR LA (P.getD i 0)) = true then alikeR LA LB P Q ((wordsR LA (P.getD i 0)).getD k 0) ((wordsR LB (Q.getD i 0)).getD k 0) = true else (wordsR LA (P.getD i 0)).getD k 0 = (wordsR LB (Q.getD i 0)).getD k 0) := by
              intro h0 i hi
              rcases Nat.lt_or_ge i j with h | h
              · exact hall.out i h
              · have : i = j := by omega
                subst this
                exact h0
            rw [hkA, hkB, hlA, hlB, hwA, hwB] at hOKj
            have hall2' := hall'.out
            rw [hkA, hkB, hlA, hlB, hwA, hwB] at hall2'
            have HALL := Lib.hid hall2'
            clear hall' hall2' hall hj1 hj2 hoa hob hra hrb hkA hkB hlA hlB hwA hwB hrA hrB
            generalize P.getD j 0 = r at *
            generalize Q.getD j 0 = t at *
            generalize oa.1 = kA at *
            generalize ob.1 = kB at *
            generalize oa.2 = wdA at *
            generalize ob.2 = wdB at *
            generalize bsa.getD ia 0 = bA at *
            generalize bsb.getD ib 0 = bB at *
            generalize hlAe : wdA.length = lA at *
            generalize hlBe : wdB.length = lB at *
            have HNA := Lib.hid hlAe
            have HNB := Lib.hid hlBe
            clear hlAe hlBe
            unfold rptr at hatA hatB
            go_wp2_with fail
            refine hatA.out.mono ?_
            rintro e w4 ⟨rfl, hu4⟩
            have hU5 := hu4.alloc (.cells #[.int .i64 r, .int .i64 kA, .slice (some ⟨bA, 0, none⟩) lA lA] 61)
            have hB5 : Blk (w4.alloc (.cells #[.int .i64 r, .int .i64 kA, .slice (some ⟨bA, 0, none⟩) lA lA] 61)) w4.heap.size [.int .i64 r, .int .i64 kA, .slice (some ⟨bA, 0, none⟩) lA lA] 61 := Blk.newAt rfl
            have k2' := hU5.cell k2 (by simp)
            have HU5 := Lib.hid hU5
            have HB5 := Lib.hid hB5
            obtain ⟨W5, hW5⟩ : ∃ W5, W5 = w4.alloc (.cells #[.int .i64 r, .int .i64 kA, .slice (some ⟨bA, 0, none⟩) lA lA] 61) := ⟨_, rfl⟩
            obtain ⟨xA, hxA⟩ : ∃ xA, xA = w4.heap.size := ⟨_, rfl⟩
            rw [← hW5] at k2' HU5 HB5
            rw [← hxA] at HB5
            have k24 := hu4.cell k2 (by simp)
            have hb2 := World.block_lt_of_cell? _ _ k24
            simp only at hb2
            clear k1 k2 hatA hU5 hB5
            go_wp2_with fail
            rw [← hW5, ← hxA]
            clear hW5 hxA k2' k24 hb2 hu4
            refine (hatB.out _ HU5.out).mono ?_
            rintro e w6 ⟨rfl, hu6⟩
            have hU7 := (HU5.out.then hu6).alloc (.cells #[.int .i64 t, .int .i64 kB, .slice (some ⟨bB, 0, none⟩) lB lB] 61)
            have hB7 : Blk (w6.alloc (.cells #[.int .i64 t, .int .i64 kB, .slice (some ⟨bB, 0, none⟩) lB lB] 61)) w6.heap.size [.int .i64 t, .int .i64 kB, .slice (some ⟨bB, 0, none⟩) lB lB] 61 := Blk.newAt rfl
            have hA7 := (hu6.blk HB5.out (by simp)).alloc (.cells #[.int .i64 t, .int .i64 kB, .slice (some ⟨bB, 0, none⟩) lB lB] 61)
            obtain ⟨W7, hW7⟩ : ∃ W7, W7 = w6.alloc (.cells #[.int .i64 t, .int .i64 kB, .slice (some ⟨bB, 0, none⟩) lB lB] 61) := ⟨_, rfl⟩
            obtain ⟨xB, hxB⟩ : ∃ xB, xB = w6.heap.size := ⟨_, rfl⟩
            have hxAl := (hu6.blk HB5.out (by simp)).lt
            have hA6 := hu6.blk HB5.out (by simp)
            rw [← hW7] at hU7 hB7 hA7
            rw [← hxB] at hB7
            have q1 := hA6.cell_some (i := 1) rfl
            have q2 := hA6.cell_some (i := 2) rfl
            have HU7 := Lib.hid hU7
            have HB7 := Lib.hid hB7
            have HA7 := Lib.hid hA7
            clear hU7 hB7 hA7 hA6 HU5 HB5 hatB hu6
            by_cases hkk : kA = kB
            · have e1 : (kA != kB) = false := by rw [bne_eq_false_iff_eq]; exact hkk
              by_cases hll : lA = lB
              · have e2 : ((lA : Int) != (lB : Int)) = false := by rw [bne_eq_false_iff_eq]; omega
                have HKK := Lib.hid hkk
                have HLL := Lib.hid hll
                clear hkk hll
                go_wp2_with fail
                rw [← hW7, ← hxB]
                clear hW7 hxB q1 q2 hxAl e1 e2
                obtain ⟨wo, rfl⟩ : ∃ wo : World, wo = W7 := ⟨_, rfl⟩
                obtain ⟨sc, hsc⟩ : ∃ sc, sc = scanned kA := ⟨_, rfl⟩
                rw [← hsc] at hOKj HALL
                have HSC := Lib.hid hsc
                clear hsc
                go_loopw [96] (fun i wr => ∃ k : Nat, k ≤ lA ∧ i = .int .i64 k ∧ Hid (Upd [] wo wr) ∧ Hid (∀ i, i < k → if sc = true then alikeR LA LB P Q (wdA.getD i 0) (wdB.getD i 0) = true else wdA.getD i 0 = wdB.getD i 0)) (fun i _ => lA - (intOf i).toNat)
                case atStart => exact ⟨0, by omega, rfl, Upd.refl _ _, fun i hi => absurd hi (by omega)⟩
                case round =>
                  obtain ⟨k, hk, rfl, hV, hwords⟩ := hrel
                  by_cases hlt3 : k < lA
                  · have hk1 : k < wdA.length := by rw [HNA.out]; exact hlt3
                    have hk2 : k < wdB.length := by rw [HNB.out, ← HLL.out]; exact hlt3
                    have hkB : (k : Int) < lB := by have := HLL.out; omega
                    have i1 : (0 : Int) ≤ k := by omega
                    have i2 : (k : Int) < lA := by omega
                    have hUw := (hU.out.then HU7.out).then hV.out
                    obtain ⟨b8, o8, e8, g1⟩ := (hrowA.out _ hUw.drew) k hk1
                    cases e8
                    obtain ⟨b9, o9, e9, g2⟩ := (hrowB.out _ hUw.drew) k hk2
                    cases e9
                    rw [Nat.zero_add] at g1 g2
                    obtain ⟨b8, o8, e8, g3⟩ := (hrowA.out _ hUw) k hk1
                    cases e8
                    obtain ⟨b9, o9, e9, g4⟩ := (hrowB.out _ hUw) k hk2
                    cases e9
                    rw [Nat.zero_add] at g3 g4
                    have hxA := HRA.out _ (idx_lt hk1)
                    have hxB := HRB.out _ (idx_lt hk2)
                    have hTd := HT3.out.step hUw.drew
                    have hal := Lib.hid (like_calls hTd.a hTd.b (some ⟨b1, o1, none⟩) (some ⟨b2, o2, none⟩) P Q m1 pc m1 qc HM1.out.symm HM2.out.symm (HPL.out.upd0 hUw.drew) (HQL.out.upd0 hUw.drew) hlp hlp (wdA.getD k 0) (wdB.getD k 0) hxA.1 (by omega) hxB.1 (by omega))
                    have hnext : Hid ((if sc = true then alikeR LA LB P Q (wdA.getD k 0) (wdB.getD k 0) = true else wdA.getD k 0 = wdB.getD k 0) → ∀ i, i < k + 1 → if sc = true then alikeR LA LB P Q (wdA.getD i 0) (wdB.getD i 0) = true else wdA.getD i 0 = wdB.getD i 0) := by
                      intro h0 i hi
                      rcases Nat.lt_or_ge i k with h | h
                      · exact hwords.out i h
                      · have : i = k := by omega
                        subst this
                        exact h0
                    have hbad : Hid (B = true → if sc = true then alikeR LA LB P Q (wdA.getD k 0) (wdB.getD k 0) = true else wdA.getD k 0 = wdB.getD k 0) := fun h => (hOKj.out h).2.2 k hlt3
                    obtain ⟨rr, hrr⟩ : ∃ rr, rr = alikeR LA LB P Q (wdA.getD k 0) (wdB.getD k 0) := ⟨_, rfl⟩
                    rw [← hrr] at hal hnext hbad
                    have hBA := hV.out.blk HA7.out (by simp)
                    have hBB := hV.out.blk HB7.out (by simp)
                    have q1 := hBA.cell_some (i := 1) rfl
                    have q2 := hBA.cell_some (i := 2) rfl
                    have q3 := hBB.cell_some (i := 2) rfl
                    have q4 := hBA.drew.cell_some (i := 2) rfl
                    have q5 := hBB.drew.cell_some (i := 2) rfl
                    have hVd := Lib.hid hV.out.drew
                    have HUW := Lib.hid (HT3.out.upd.then hUw)
                    have HUWD := Lib.hid (HT3.out.upd.then hUw.drew)
                    unfold rptr at hal
                    clear hk1 hk2 hxA hxB hrr hwords hUw hTd hBA hBB
                    generalize wdA.getD k 0 = xa at *
                    generalize wdB.getD k 0 = xb at *
                    go_wp2_with fail
                    refine (rscanned_calls _ _).mono ?_
                    rw [← HSC.out]
                    rintro e w' ⟨rfl, rfl⟩
                    cases sc
                    · by_cases hxe : xa = xb
                      · have e3 : (xa != xb) = false := by rw [bne_eq_false_iff_eq]; exact hxe
                        have hn2 := Lib.hid (hnext.out (by simpa using hxe))
                        clear hxe hnext hbad hal q4 q5
                        go_wp2_with fail
                        go_quiet (fail)
                        have hF := Lib.hid (hV.out.drewN nq)
                        clear hV g1 g2 g3 g4 e3 q1 q2 q3
                        go_wp2
                        go_roundw
                        case rel => exact ⟨k + 1, by omega, by go_num, hF, hn2⟩
                        case measure => simp [intOf]; omega
                      · have hBf : B = false := by
                          cases hBB : B with
                          | false => rfl
                          | true => exact absurd (by simpa using hbad.out hBB) hxe
                        have HBF := Lib.hid hBf
                        have e3 : (xa != xb) = true := by rw [bne_iff_ne]; exact hxe
                        clear hxe hnext hbad hal hBf q4 q5
                        go_wp2_with fail
                        go_quiet (fail)
                        have hF := Lib.hid (HUW.out.drewN nq)
                        clear hV g1 g2 g3 g4 e3 q1 q2 q3
                        go_wp2
                        go_ret
                        exact ⟨by rw [HBF.out]; rfl, hF.out⟩
                    · cases rr
                      · have hBf : B = false := by
                          cases hBB : B with
                          | false => rfl
                          | true => exact absurd (hbad.out hBB) (by simp)
                        have HBF := Lib.hid hBf
                        clear hnext hbad hBf
                        go_wp2_with fail
                        clear q1 q2 q3
                        go_region_held3 (fun w' => w'.cell? ⟨xA, 2, none⟩ = some (.slice (some ⟨bA, 0, none⟩) lA lA) ∧ w'.cell? ⟨xB, 2, none⟩ = some (.slice (some ⟨bB, 0, none⟩) lB lB) ∧ w'.cell? ⟨bA, k, none⟩ = some (.int .u64 xa) ∧ w'.cell? ⟨bB, k, none⟩ = some (.int .u64 xb)) (first | exact ⟨by assumption, by assumption, by assumption, by assumption⟩ | exact ⟨Upd.cell (by assumption) q4 (by simp), Upd.cell (by assumption) q5 (by simp), Upd.cell (by assumption) g1 (by simp), Upd.cell (by assumption) g2 (by simp)⟩) (first
                          | (go_at_call 98; refine hal.out.mono ?_; rintro e w' ⟨rfl, hu⟩))
                        have hF := Lib.hid (HUWD.out.then hu)
                        clear hu hal g1 g2 g3 g4 q4 q5 hV
                        go_wp2
                        go_ret
                        exact ⟨by rw [HBF.out]; rfl, hF.out⟩
                      · have hn2 := Lib.hid (hnext.out (by simp))
                        clear hnext hbad
                        go_wp2_with fail
                        clear q1 q2 q3
                        go_region_held3 (fun w' => w'.cell? ⟨xA, 2, none⟩ = some (.slice (some ⟨bA, 0, none⟩) lA lA) ∧ w'.cell? ⟨xB, 2, none⟩ = some (.slice (some ⟨bB, 0, none⟩) lB lB) ∧ w'.cell? ⟨bA, k, none⟩ = some (.int .u64 xa) ∧ w'.cell? ⟨bB, k, none⟩ = some (.int .u64 xb)) (first | exact ⟨by assumption, by assumption, by assumption, by assumption⟩ | exact ⟨Upd.cell (by assumption) q4 (by simp), Upd.cell (by assumption) q5 (by simp), Upd.cell (by assumption) g1 (by simp), Upd.cell (by assumption) g2 (by simp)⟩) (first
                          | (go_at_call 98; refine hal.out.mono ?_; rintro e w' ⟨rfl, hu⟩))
                        have hF := Lib.hid (hVd.out.then hu)
                        clear hu hal g1 g2 g3 g4 q4 q5 hV
                        go_wp2
                        go_roundw
                        case rel => exact ⟨k + 1, by omega, by go_num, hF, hn2⟩
                        case measure => simp [intOf]; omega
                  · have hkl : k = lA := by omega
                    have hn2 := Lib.hid (HALL.out ⟨HKK.out, HLL.out, by rw [← hkl]; exact hwords.out⟩)
                    have hF := Lib.hid ((hU.out.then HU7.out).then hV.out)
                    clear hkl hwords hV
                    go_wp2
                    go_roundw
                    case rel => exact ⟨j + 1, by omega, by go_num, hF, hn2⟩
                    case measure => simp [intOf]; omega
              · have hBf : B = false := by
                  cases hBB : B with
                  | false => rfl
                  | true => exact absurd (hOKj.out hBB).2.1 hll
                have HBF := Lib.hid hBf
                have e2 : ((lA : Int) != (lB : Int)) = true := by rw [bne_iff_ne]; omega
                have hF := Lib.hid ((HT3.out.upd.then hU.out).then HU7.out)
                clear hkk hll hBf
                go_wp2_with fail
                rw [← hW7]
                go_ret
                exact ⟨by rw [HBF.out]; rfl, hF.out⟩
            · have hBf : B = false := by
                cases hBB : B with
                | false => rfl
                | true => exact absurd (hOKj.out hBB).1 hkk
              have HBF := Lib.hid hBf
              have e1 : (kA != kB) = true := by rw [bne_iff_ne]; exact hkk
              have hF := Lib.hid ((HT3.out.upd.then hU.out).then HU7.out)
              clear hkk hBf
              go_wp2_with fail
              rw [← hW7]
              go_ret
              exact ⟨by rw [HBF.out]; rfl, hF.out⟩
          · have hjm : j = P.length := by rw [← HM1.out]; omega
            have hBt : B = true := by
              refine HB.out.2 ⟨by rw [HN1.out, HN2.out], by rw [← HM1.out, ← HM2.out], hall2.out, fun i hi => hall.out i (by omega)⟩
            have HBT := Lib.hid hBt
            have hF := Lib.hid (HT3.out.upd.then hU.out)
            clear hjm hBt hall hU
            go_wp2
            go_ret
            exact ⟨by rw [HBT.out]; rfl, hF.out⟩
end Go.Proofs.Ytkbnkpllbgofhaa
