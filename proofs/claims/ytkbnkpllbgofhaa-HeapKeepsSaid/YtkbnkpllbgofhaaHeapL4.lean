/-
  HeapKeeps: its walk.
-/
import Derived.Test.YtkbnkpllbgofhaaHeapL
import Derived.Test.YtkbnkpllbgofhaaKeepM
import Derived.Test.YtkbnkpllbgofhaaArgs
namespace Go.Proofs.Ytkbnkpllbgofhaa
open Go.RowKit HeapM

theorem info_int : (Try.prog.info? 3).map (fun i => (i.zero, i.size, i.bytes)) = some (some (.int .i64 0), 1, 8) := by kernel_rfl
def kPlaces (Z : List Int) (i : Nat) : List Int := (List.range i).map (fun t : Nat => (kPos Z t : Int) + 1)
def kLens (Z : List Int) (i : Nat) : List Int := (List.range i).map (fun t : Nat => (kAt Z t : Int))
/-- HeapKeeps behind i rounds: the heap, the places and the lengths. -/
structure KeepRel (w wr : World) (p bw bk : Nat) (L : List HObj) (Z : List Int) (i : Nat) (lv nv : Value) : Prop where
  heap : HeapA wr p bw bk 4000 L
  upd : Upd [] w wr
  f1 : w.heap.size ≤ p ∧ w.heap.size ≤ bw ∧ w.heap.size ≤ bk
  l : wr.ownsRow (w.heap.size) 3 1 lv i ((kPlaces Z i).map (.int .i64))
  n : wr.ownsRow (w.heap.size) 3 1 nv i ((kLens Z i).map (.int .i64))
  ap : ∀ g, lv.ownBlock = some g → nv.ownBlock ≠ some g
  al : ∀ g, lv.ownBlock = some g → g ∉ [p, bw, bk]
  an : ∀ g, nv.ownBlock = some g → g ∉ [p, bw, bk]
section
variable {w wr w' : World} {p bw bk : Nat} {L L' : List HObj} {Z : List Int} {i : Nat} {lv nv : Value}
theorem KeepRel.step (h : KeepRel w wr p bw bk L Z i lv nv) (hA : HeapA w' p bw bk 4000 L') {S : List Nat} (hu : Upd S wr w') (hS : ∀ x, x ∈ S → x ∈ [p, bw, bk]) : KeepRel w w' p bw bk L' Z i lv nv := by
  obtain ⟨h1, h2, h3, h4, h5, h6, h7, h8⟩ := h
  exact ⟨hA, h2.fresh hu (fun x hx => by have := hS x hx; simp at this; omega), h3, own_upd h4 hu (fun g hg hx => h7 g hg (hS g hx)), own_upd h5 hu (fun g hg hx => h8 g hg (hS g hx)), h6, h7, h8⟩
theorem KeepRel.app (h : KeepRel w wr p bw bk L Z i lv nv) {w2 : World} {g1 c1 g2 c2 : Nat} {S1 S2 : List Nat}
    (hl : w'.ownsRow (w.heap.size) 3 1 (.slice (some ⟨g1, 0, none⟩) (i + 1) c1) (i + 1) ((kPlaces Z i).map (.int .i64) ++ [.int .i64 ((kPos Z i : Int) + 1)])) (hu1 : Upd S1 wr w') (hS1 : ∀ k, k ∈ S1 → lv.ownBlock = some k) (hg1 : lv.ownBlock = some g1 ∨ g1 = wr.heap.size + 1)
    (hn : w2.ownsRow (w.heap.size) 3 1 (.slice (some ⟨g2, 0, none⟩) (i + 1) c2) (i + 1) ((kLens Z i).map (.int .i64) ++ [.int .i64 (kAt Z i)])) (hu2 : Upd S2 w' w2) (hS2 : ∀ k, k ∈ S2 → nv.ownBlock = some k) (hg2 : nv.ownBlock = some g2 ∨ g2 = w'.heap.size + 1) :
    KeepRel w w2 p bw bk L Z (i + 1) (.slice (some ⟨g1, 0, none⟩) (i + 1) c1) (.slice (some ⟨g2, 0, none⟩) (i + 1) c2) := by
  obtain ⟨h1, h2, h3, h4, h5, h6, h7, h8⟩ := h
  have hlt := h1.lt
  have hs := hu1.size
  have g1lt := (hl.lt g1 rfl).2
  have hgn : g1 ∉ S2 := fun hx => by
    have hn2 := hS2 g1 hx
    have := (h5.lt g1 hn2).2
    rcases hg1 with h | h
    · exact h6 g1 h hn2
    · omega
  have hA := (h1.upd hu1 (fun hx => h7 _ (hS1 _ hx) (by simp)) (fun hx => h7 _ (hS1 _ hx) (by simp)) (fun hx => h7 _ (hS1 _ hx) (by simp))).upd hu2 (fun hx => h8 _ (hS2 _ hx) (by simp)) (fun hx => h8 _ (hS2 _ hx) (by simp)) (fun hx => h8 _ (hS2 _ hx) (by simp))
  refine ⟨hA, (h2.fresh hu1 (fun x hx => (h4.lt x (hS1 x hx)).1)).fresh hu2 (fun x hx => (h5.lt x (hS2 x hx)).1), h3, ?_, ?_, ?_, ?_, ?_⟩
  · have := own_upd hl hu2 (fun g hg => by
      have : g = g1 := by simpa [Value.ownBlock, eq_comm] using hg
      rw [this]
      exact hgn)
    simpa [kPlaces, List.range_succ] using this
  · simpa [kLens, List.range_succ] using hn
  · intro g hg hg'
    have e1 : g1 = g := by simpa [Value.ownBlock] using hg
    have e2 : g2 = g := by simpa [Value.ownBlock] using hg'
    rw [← e1] at e2
    subst e2
    rcases hg2 with h | h
    · have hlt2 := (h5.lt _ h).2
      rcases hg1 with h' | h'
      · exact h6 _ h' h
      · omega
    · omega
  · intro g hg
    have e1 : g1 = g := by simpa [Value.ownBlock] using hg
    subst e1
    rcases hg1 with h | h
    · exact h7 _ h
    · simp
      omega
  · intro g hg
    have e1 : g2 = g := by simpa [Value.ownBlock] using hg
    subst e1
    rcases hg2 with h | h
    · exact h8 _ h
    · simp
      omega
end

/-- What the last loops lean on. -/
structure EndRel (w wF : World) (p bw bk : Nat) (M : List HObj) (Z : List Int) (m I : Nat) (jj W : Int) (b1 o1 b2 o2 : Nat) : Prop where
  heap : HeapA wF p bw bk 4000 M
  upd : Upd [] w wF
  fin : kFin Z m I jj W M
  l : ∀ t, t < m → wF.cell? ⟨b1, o1 + t, none⟩ = some (.int .i64 ((kPos Z t : Int) + 1))
  n : ∀ t, t < m → wF.cell? ⟨b2, o2 + t, none⟩ = some (.int .i64 (kAt Z t))
theorem kPlaces_get {Z : List Int} {m t : Nat} (h : t < m) : (kPlaces Z m).getD t 0 = (kPos Z t : Int) + 1 := by simp [kPlaces, List.getD_eq_getElem?_getD, h]
theorem kLens_get {Z : List Int} {m t : Nat} (h : t < m) : (kLens Z m).getD t 0 = (kAt Z t : Int) := by simp [kLens, List.getD_eq_getElem?_getD, h]
theorem SlI.cells {w : World} {k : IntKind} {b o : Nat} {xs : List Int} (h : SlI w k (some ⟨b, o, none⟩) xs) (i : Nat) (hi : i < xs.length) : w.cell? ⟨b, o + i, none⟩ = some (.int k (xs.getD i 0)) := by
  obtain ⟨b', o', e, hc⟩ := h i hi
  injection e with e
  injection e with e1 e2 _
  rw [e1, e2]
  exact hc
theorem KeepRel.fin {w wF : World} {p bw bk : Nat} {M : List HObj} {Z : List Int} {m I : Nat} {jj W : Int} {b1 o1 b2 o2 c1 c2 : Nat} (h : KeepRel w wF p bw bk M Z m (.slice (some ⟨b1, o1, none⟩) m c1) (.slice (some ⟨b2, o2, none⟩) m c2)) (hf : kFin Z m I jj W M) : EndRel w wF p bw bk M Z m I jj W b1 o1 b2 o2 := by
  obtain ⟨a1, d1, e1, l1, s1⟩ := own_SlI h.l
  obtain ⟨a2, d2, e2, l2, s2⟩ := own_SlI h.n
  injection e1 with e1 _ _
  injection e2 with e2 _ _
  subst e1
  subst e2
  exact ⟨h.heap, h.upd, hf, fun t ht => by rw [s1.cells t (by omega), kPlaces_get ht], fun t ht => by rw [s2.cells t (by omega), kLens_get ht]⟩
set_option maxRecDepth 100000 in
set_option maxHeartbeats 4000000 in
theorem keep_walk (a : Option Addr) (m c : Nat) (Z : List Int) (x y W : Int) (w : World) (hZ : Z.length = m) (hs : SlI w .u64 a Z) (hz : ∀ z ∈ Z, 0 ≤ z ∧ z ≤ 18446744073709551615) (hx : 0 ≤ x ∧ x ≤ 18446744073709551615) (hy : 0 ≤ y ∧ y ≤ 18446744073709551615) (hW : 0 ≤ W ∧ W ≤ 18446744073709551615) (hm : m ≤ maxLen) :
    Calls Try.prog 5 #[.slice a m c, .agg #[.int .u64 x, .int .u64 y], .int .u64 W] w fun e w' => e = .returned (.bool true) ∧ Upd [] w w' := by
  unfold maxLen at hm
  have HZ := Lib.hid hZ; clear hZ
  have HS := Lib.hid hs; clear hs
  have Hz := Lib.hid hz; clear hz
  by_cases h60 : 60 < m
  · go_enter Try.func5, Try.ntmps5
    go_wp2_with fail
    go_quiet (fail)
    go_wp2_with fail
    refine (new_A 4000 _ (by omega) (by omega)).mono ?_
    rintro e w1 ⟨p, bw, bk, rfl, hA, f1, f2, f3, U1⟩
    go_wp2_with fail
    refine (lives17 _).mono ?_
    rintro e w2 ⟨rfl, hL⟩
    go_wp2
    go_ret
    exact ⟨rfl, ((((Upd.refl [] w).alloc _).drewN nq).then U1).then hL⟩
  · go_enter Try.func5, Try.ntmps5
    go_wp2_with fail
    go_quiet (fail)
    go_wp2_with fail
    refine (new_A 4000 _ (by omega) (by omega)).mono ?_
    rintro e w1 ⟨p, bw, bk, rfl, hA, f1, f2, f3, U1⟩
    have U0 := (((Upd.refl [] w).alloc (.cells #[.int .u64 x, .int .u64 y] 40)).drewN nq).then U1
    have hr0 : KeepRel w w1 p bw bk (kObjs Z 0) Z 0 (.slice none 0 0) (.slice none 0 0) := by
      simp at f1 f2 f3
      exact ⟨hA, U0, ⟨by omega, by omega, by omega⟩, World.ownsRow_nil _ _ _ _, World.ownsRow_nil _ _ _ _, (fun g h => by cases h), (fun g h => by cases h), (fun g h => by cases h)⟩
    clear U0 U1 f1 f2 f3 hA
    go_wp2_with fail
    go_loopw [10, 11, 12, 50] (fun lv nv s i wr => ∃ j : Nat, j ≤ m ∧ i = .int .i64 j ∧ s = .int .i64 (kPos Z j) ∧ KeepRel w wr p bw bk (kObjs Z j) Z j lv nv) (fun _ _ _ i _ => m - (intOf i).toNat)
    case atStart => exact ⟨0, by omega, rfl, rfl, hr0⟩
    case round =>
      obtain ⟨j, hj, rfl, rfl, hr⟩ := hrel
      by_cases hlt : j < m
      · obtain ⟨b, o, rfl, hc⟩ := (HS.out.upd0 hr.upd) j (by rw [HZ.out]; exact hlt)
        have hz0 : 0 ≤ Z.getD j 0 ∧ Z.getD j 0 ≤ 18446744073709551615 := by
          have hj2 : j < Z.length := by rw [HZ.out]; exact hlt
          have := Hz.out (Z.getD j 0) (by simp [List.getD_eq_getElem?_getD, hj2])
          exact this
        have hK0 : Z.getD j 0 % 30 = (kAt Z j : Int) := by unfold kAt; omega
        have hK1 := kAt_lt Z j
        have hP := kPos_le Z j
        have hat0 : objAt (kObjs Z j ++ [(1 + (j : Int) % 8, List.replicate (kAt Z j) 0)]) (kPos Z j) = some (1 + (j : Int) % 8, List.replicate (kAt Z j) 0) := at_append_new
        have hfit : fits (kObjs Z j) 4000 (1 + (j : Int) % 8) (kAt Z j) := ⟨by omega, by omega, by omega, by unfold kPos at hP; omega⟩
        have hr1 := Lib.hid hr; clear hr
        have hat := Lib.hid hat0; clear hat0
        have hF := Lib.hid hfit; clear hfit
        generalize Z.getD j 0 = z at *
        generalize hKv : kAt Z j = K at *
        have HKv := Lib.hid hKv; clear hKv
        generalize hPv : kPos Z j = q at *
        have HPv := Lib.hid hPv; clear hPv
        go_wp2_with fail
        refine (alloc_I hr1.out.heap _ _ hF.out ((q : Int) + 1) (by rw [← HPv.out]; rfl)).mono ?_
        rintro e w2 ⟨rfl, hA, hU⟩
        have hr2 := Lib.hid (hr1.out.step hA hU (fun x hx => hx))
        clear hA hU
        go_wp2_with fail
        refine (len_A hr2.out.heap hat.out K (by simp)).mono ?_
        rintro e w' ⟨rfl, rfl⟩
        go_wp2_with fail
        refine (kind_A hr2.out.heap hat.out _ rfl).mono ?_
        rintro e w' ⟨rfl, rfl⟩
        go_wp2_with fail
        have hr3 : KeepRel w w2 p bw bk (kObjs Z j ++ [kPart Z j 0]) Z j u10 u11 := by
          rw [kPart_zero, HKv.out]
          exact hr2.out
        clear hr1 hr2 hat hF
        go_loopw [18] (fun i wr => ∃ j2 : Nat, j2 ≤ K ∧ i = .int .i64 j2 ∧ KeepRel w wr p bw bk (kObjs Z j ++ [kPart Z j j2]) Z j u10 u11) (fun i _ => K - (intOf i).toNat)
        case atStart => exact ⟨0, by omega, rfl, hr3⟩
        case round =>
          obtain ⟨j2, hj2, rfl, hi⟩ := hrel
          clear hr3
          by_cases hlt2 : j2 < K
          · have hat : objAt (kObjs Z j ++ [kPart Z j j2]) q = some (kPart Z j j2) := by rw [← HPv.out]; exact at_append_new
            have hlen := kPart_length Z j j2 (by rw [HKv.out]; omega)
            rw [HKv.out] at hlen
            have hge := kPart_rest Z j j2 (by rw [HKv.out]; omega)
            have hse : setAt (kObjs Z j ++ [kPart Z j j2]) q j2 ((j : Int) * 100 + (j2 : Int)) = kObjs Z j ++ [kPart Z j (j2 + 1)] := by
              rw [← HPv.out]
              unfold kPos
              rw [set_append_new, kPart_set Z j j2 (by rw [HKv.out]; omega)]
            have hat1 := Lib.hid hat
            have hlen1 := Lib.hid hlen
            have hge1 := Lib.hid hge
            have hse1 := Lib.hid hse
            have hi1 := Lib.hid hi
            clear hat hlen hge hse hi
            go_wp2_with fail
            refine (get_A hi1.out.heap hat1.out j2 (by rw [hlen1.out]; exact hlt2) 0 hge1.out.symm).mono ?_
            rintro e w' ⟨rfl, rfl⟩
            go_wp2_with fail
            refine (set_A hi1.out.heap hat1.out j2 (by rw [hlen1.out]; exact hlt2) ((j : Int) * 100 + (j2 : Int)) (by omega)).mono ?_
            rintro e w3 ⟨rfl, hA, hU⟩
            rw [hse1.out] at hA
            have hi2 := hi1.out.step hA hU (by simp)
            clear hA hU
            go_wp2
            go_roundw
            case rel => exact ⟨j2 + 1, by omega, by go_num, hi2⟩
            case measure => simp [intOf]; omega
          · have hjK : j2 = K := by omega
            subst hjK
            have hi2 : KeepRel w wr p bw bk (kObjs Z (j + 1)) Z j u10 u11 := by
              rw [kObjs_succ, HKv.out]
              exact hi
            have hi1 := Lib.hid hi2
            clear hi hi2
            have hbase := hi1.out.upd.size
            go_wp2_with (at_builtin; first | (refine wpList_app rfl _ _ 41 rfl w.heap.size 3 (.int .i64 0) 1 8 Try.underlying41 info_int rfl (by decide) u10 j _ rfl hi1.out.l [.int .i64 ((q : Int) + 1)] 1 rfl rfl (one1 rfl) (by unfold maxLen; omega) (by omega) hbase ?_; intro g1 cap1 w3 S1 hown1 hu1 hS1 hg1) | (refine wpList_app rfl _ _ 41 rfl w.heap.size 3 (.int .i64 0) 1 8 Try.underlying41 info_int rfl (by decide) u11 j _ rfl (own_upd hi1.out.n hu1 (fun g hg hx => hi1.out.ap g (hS1 g hx) hg)) [.int .i64 (j2 : Int)] 1 rfl rfl (one1 rfl) (by unfold maxLen; omega) (by omega) (Nat.le_trans hbase hu1.size) ?_; intro g2 cap2 w4 S2 hown2 hu2 hS2 hg2))
            have hi3 : KeepRel w w4 p bw bk (kObjs Z (j + 1)) Z (j + 1) (.slice (some ⟨g1, 0, none⟩) (j + 1) cap1) (.slice (some ⟨g2, 0, none⟩) (j + 1) cap2) := by
              have hq := HPv.out
              have hk := HKv.out
              subst hq
              subst hk
              exact hi1.out.app hown1 hu1 hS1 hg1 hown2 hu2 hS2 hg2
            clear hown1 hu1 hS1 hg1 hown2 hu2 hS2 hg2 hi1
            go_roundw
            case rel => exact ⟨j + 1, by omega, by go_num, by rw [kPos_succ, HPv.out, HKv.out]; go_num, hi3⟩
            case measure => simp [intOf]; omega
      · have hjm : j = m := by omega
        subst hjm
        have hu : (kPos Z j : Int) = HeapM.used (kObjs Z j) := rfl
        have HU := Lib.hid hu; clear hu
        obtain ⟨la, lc, rfl, hll, hls⟩ := own_SlI hr.l
        obtain ⟨na, nc, rfl, hnl, hns⟩ := own_SlI hr.n
        have hr1 := Lib.hid hr; clear hr
        rcases Nat.eq_zero_or_pos j with rfl | hpos
        · go_wp2_with fail
          refine (used_A hr1.out.heap _ HU.out).mono ?_
          rintro e w' ⟨rfl, rfl⟩
          go_wp2_with fail
          refine (used_A hr1.out.heap _ HU.out).mono ?_
          rintro e w' ⟨rfl, rfl⟩
          go_wp2_with fail
          refine (lives17 _).mono ?_
          rintro e w2 ⟨rfl, hL⟩
          go_wp2
          go_ret
          exact ⟨rfl, hr1.out.upd.then hL⟩
        · obtain ⟨b1, o1, rfl, _⟩ := hls 0 (by omega)
          obtain ⟨b2, o2, rfl, _⟩ := hns 0 (by omega)
          obtain ⟨I, hI, hIj⟩ : ∃ I : Nat, x % (j : Int) = I ∧ I < j := by
            have h1 := Int.emod_nonneg x (show (j : Int) ≠ 0 by omega)
            have h2 := Int.emod_lt_of_pos x (show (0 : Int) < j by omega)
            exact ⟨(x % (j : Int)).toNat, by omega, by omega⟩
          have cl := hls.cells I (by omega)
          have cn := hns.cells I (by omega)
          rw [kPlaces_get hIj] at cl
          rw [kLens_get hIj] at cn
          have hKI := kAt_lt Z I
          have hne : ((j : Int) == 0) = false := by simp; omega
          go_wp2_with fail
          refine (used_A hr1.out.heap _ HU.out).mono ?_
          rintro e w' ⟨rfl, rfl⟩
          rcases Nat.eq_zero_or_pos (kAt Z I) with hk0 | hkpos
          · have hE := hr1.out.fin (I := I) (jj := -1) (W := W) (kFin_none Z)
            rw [hk0] at cn
            have cn0 : wr.cell? ⟨b2, o2 + I, none⟩ = some (.int .i64 0) := cn
            clear hk0 cn
            have HE := Lib.hid hE
            clear hE hr1 hls hns hll hnl HU
            go_wp2_with fail
            clear hI
            go_loop [180] (fun i => ∃ t : Nat, t ≤ j ∧ i = .int .i64 t) (fun i => j - (intOf i).toNat)
            case atStart => exact ⟨0, by omega, rfl⟩
            case round =>
              obtain ⟨t, ht, rfl⟩ := hrel
              by_cases htj : t < j
              · have dl := HE.out.l t htj
                have dn := HE.out.n t htj
                have hKt := kAt_lt Z t
                have hPt := kPos_le Z t
                obtain ⟨o, ho1, ho2, ho3⟩ := HE.out.fin t htj
                have HO1 := Lib.hid ho1
                have HO2 := Lib.hid ho2
                have HO3 := Lib.hid ho3
                clear ho1 ho2 ho3
                generalize hKv : kAt Z t = K at *
                have HKv := Lib.hid hKv; clear hKv
                generalize hPv : kPos Z t = q at *
                have HPv := Lib.hid hPv; clear hPv
                go_wp2_with fail
                go_loop [25] (fun i => ∃ b : Nat, b ≤ K ∧ i = .int .i64 b) (fun i => K - (intOf i).toNat)
                case atStart => exact ⟨0, by omega, rfl⟩
                case round =>
                  obtain ⟨b, hb, rfl⟩ := hrel
                  by_cases hbK : b < K
                  · have hx3 := HO3.out b hbK
                    unfold kWant at hx3
                    by_cases hti : t = I
                    · have e1 : ((t : Int) == (I : Int)) = true := by simp [hti]
                      have HT := Lib.hid hti; clear hti
                      by_cases hbj : (b : Int) = (-1 : Int)
                      · have e2 : ((b : Int) == (-1 : Int)) = true := by rw [beq_iff_eq]; exact hbj
                        rw [if_pos ⟨HT.out, hbj⟩] at hx3
                        have HB := Lib.hid hbj; clear hbj
                        have HX := Lib.hid hx3; clear hx3
                        go_wp2_with fail
                        refine (get_A HE.out.heap HO1.out b (by rw [HO2.out]; exact hbK) W HX.out.symm).mono ?_
                        rintro e w' ⟨rfl, rfl⟩
                        go_wp2
                        go_round
                        case rel => exact ⟨b + 1, by omega, by go_num⟩
                        case measure => simp [intOf]; omega
                      · have e2 : ((b : Int) == (-1 : Int)) = false := by rw [beq_eq_false_iff_ne]; exact hbj
                        rw [if_neg (fun h => hbj h.2)] at hx3
                        have HB := Lib.hid hbj; clear hbj
                        have HX := Lib.hid hx3; clear hx3
                        go_wp2_with fail
                        refine (get_A HE.out.heap HO1.out b (by rw [HO2.out]; exact hbK) ((t : Int) * 100 + (b : Int)) HX.out.symm).mono ?_
                        rintro e w' ⟨rfl, rfl⟩
                        go_wp2
                        go_round
                        case rel => exact ⟨b + 1, by omega, by go_num⟩
                        case measure => simp [intOf]; omega
                    · have e1 : ((t : Int) == (I : Int)) = false := by rw [beq_eq_false_iff_ne]; omega
                      rw [if_neg (fun h => hti h.1)] at hx3
                      have HT := Lib.hid hti; clear hti
                      have HX := Lib.hid hx3; clear hx3
                      go_wp2_with fail
                      refine (get_A HE.out.heap HO1.out b (by rw [HO2.out]; exact hbK) ((t : Int) * 100 + (b : Int)) HX.out.symm).mono ?_
                      rintro e w' ⟨rfl, rfl⟩
                      go_wp2
                      go_round
                      case rel => exact ⟨b + 1, by omega, by go_num⟩
                      case measure => simp [intOf]; omega
                  · have hbK2 : b = K := by omega
                    subst hbK2
                    go_wp2_with fail
                    refine (get_A_no HE.out.heap HO1.out b (by rw [HO2.out]; omega)).mono ?_
                    rintro e w' ⟨rfl, rfl⟩
                    go_wp2
                    go_round
                    case rel => exact ⟨t + 1, by omega, by go_num⟩
                    case measure => simp [intOf]; omega
              · go_wp2_with fail
                refine (lives17 _).mono ?_
                rintro e w2 ⟨rfl, hL⟩
                go_wp2
                go_ret
                exact ⟨rfl, HE.out.upd.then hL⟩
          · obtain ⟨J, hJ, hJK⟩ : ∃ J : Nat, y % (kAt Z I : Int) = J ∧ J < kAt Z I := by
              have h1 := Int.emod_nonneg y (show (kAt Z I : Int) ≠ 0 by omega)
              have h2 := Int.emod_lt_of_pos y (show (0 : Int) < kAt Z I by omega)
              exact ⟨(y % (kAt Z I : Int)).toNat, by omega, by omega⟩
            have hpI := kPos_le Z I
            have hset := set_A hr1.out.heap (kObjs_at Z hIj) J (by rw [kPart_length Z _ _ (Nat.le_refl _)]; exact hJK) W (by omega)
            have HS2 := Lib.hid hset; clear hset
            generalize hKIv : kAt Z I = KI at *
            have HKIv := Lib.hid hKIv; clear hKIv
            generalize hPIv : kPos Z I = qI at *
            have HPIv := Lib.hid hPIv; clear hPIv
            go_wp2_with fail
            refine HS2.out.mono ?_
            rintro e w3 ⟨rfl, hA, hU⟩
            have hE := (hr1.out.step hA hU (by simp)).fin (I := I) (jj := (J : Int)) (W := W) (by rw [← HPIv.out]; exact kFin_set Z hIj)
            have HE := Lib.hid hE
            clear hE hA hU hr1 hls hns hll hnl HU cl cn
            go_wp2_with fail
            clear hI
            go_loop [180] (fun i => ∃ t : Nat, t ≤ j ∧ i = .int .i64 t) (fun i => j - (intOf i).toNat)
            case atStart => exact ⟨0, by omega, rfl⟩
            case round =>
              obtain ⟨t, ht, rfl⟩ := hrel
              by_cases htj : t < j
              · have dl := HE.out.l t htj
                have dn := HE.out.n t htj
                have hKt := kAt_lt Z t
                have hPt := kPos_le Z t
                obtain ⟨o, ho1, ho2, ho3⟩ := HE.out.fin t htj
                have HO1 := Lib.hid ho1
                have HO2 := Lib.hid ho2
                have HO3 := Lib.hid ho3
                clear ho1 ho2 ho3
                generalize hKv : kAt Z t = K at *
                have HKv := Lib.hid hKv; clear hKv
                generalize hPv : kPos Z t = q at *
                have HPv := Lib.hid hPv; clear hPv
                go_wp2_with fail
                go_loop [25] (fun i => ∃ b : Nat, b ≤ K ∧ i = .int .i64 b) (fun i => K - (intOf i).toNat)
                case atStart => exact ⟨0, by omega, rfl⟩
                case round =>
                  obtain ⟨b, hb, rfl⟩ := hrel
                  by_cases hbK : b < K
                  · have hx3 := HO3.out b hbK
                    unfold kWant at hx3
                    by_cases hti : t = I
                    · have e1 : ((t : Int) == (I : Int)) = true := by simp [hti]
                      have HT := Lib.hid hti; clear hti
                      by_cases hbj : (b : Int) = (J : Int)
                      · have e2 : ((b : Int) == (J : Int)) = true := by rw [beq_iff_eq]; exact hbj
                        rw [if_pos ⟨HT.out, hbj⟩] at hx3
                        have HB := Lib.hid hbj; clear hbj
                        have HX := Lib.hid hx3; clear hx3
                        go_wp2_with fail
                        refine (get_A HE.out.heap HO1.out b (by rw [HO2.out]; exact hbK) W HX.out.symm).mono ?_
                        rintro e w' ⟨rfl, rfl⟩
                        go_wp2
                        go_round
                        case rel => exact ⟨b + 1, by omega, by go_num⟩
                        case measure => simp [intOf]; omega
                      · have e2 : ((b : Int) == (J : Int)) = false := by rw [beq_eq_false_iff_ne]; exact hbj
                        rw [if_neg (fun h => hbj h.2)] at hx3
                        have HB := Lib.hid hbj; clear hbj
                        have HX := Lib.hid hx3; clear hx3
                        go_wp2_with fail
                        refine (get_A HE.out.heap HO1.out b (by rw [HO2.out]; exact hbK) ((t : Int) * 100 + (b : Int)) HX.out.symm).mono ?_
                        rintro e w' ⟨rfl, rfl⟩
                        go_wp2
                        go_round
                        case rel => exact ⟨b + 1, by omega, by go_num⟩
                        case measure => simp [intOf]; omega
                    · have e1 : ((t : Int) == (I : Int)) = false := by rw [beq_eq_false_iff_ne]; omega
                      rw [if_neg (fun h => hti h.1)] at hx3
                      have HT := Lib.hid hti; clear hti
                      have HX := Lib.hid hx3; clear hx3
                      go_wp2_with fail
                      refine (get_A HE.out.heap HO1.out b (by rw [HO2.out]; exact hbK) ((t : Int) * 100 + (b : Int)) HX.out.symm).mono ?_
                      rintro e w' ⟨rfl, rfl⟩
                      go_wp2
                      go_round
                      case rel => exact ⟨b + 1, by omega, by go_num⟩
                      case measure => simp [intOf]; omega
                  · have hbK2 : b = K := by omega
                    subst hbK2
                    go_wp2_with fail
                    refine (get_A_no HE.out.heap HO1.out b (by rw [HO2.out]; omega)).mono ?_
                    rintro e w' ⟨rfl, rfl⟩
                    go_wp2
                    go_round
                    case rel => exact ⟨t + 1, by omega, by go_num⟩
                    case measure => simp [intOf]; omega
              · go_wp2_with fail
                refine (lives17 _).mono ?_
                rintro e w2 ⟨rfl, hL⟩
                go_wp2
                go_ret
                exact ⟨rfl, HE.out.upd.then hL⟩
set_option maxRecDepth 100000 in
theorem law_HeapKeeps (v0 v1 : Value) (W : Int) (w : World) (h0 : ArgIs Try.prog w 39 v0) (h1 : ArgIs Try.prog w 40 v1) (hW : (Lit.int .u64 W).wf = true) :
    Calls Try.prog 5 #[v0, v1, .int .u64 W] w fun e w' => e = .returned (.bool true) ∧ Upd [] w w' := by
  obtain ⟨a, m, c, n0, rfl, r0⟩ := h0.slice Try.underlying39
  obtain ⟨Z, hZ, hs, hz, hm⟩ := r0.ints Try.underlying39 Try.underlying22 (by kernel_rfl)
  obtain ⟨cs, n1, rfl, r1⟩ := h1.agg (by rw [Try.underlying40])
  obtain ⟨k, _, hl, hf⟩ := r1.array Try.underlying40
  have hc2 : Try.prog.cellsOf 40 = 2 := by kernel_rfl
  have hc1 : Try.prog.cellsOf 22 = 1 := by kernel_rfl
  rw [hc2] at hl
  obtain ⟨x, e0, wx⟩ := (hf 0 (by omega)).int Try.underlying22
  obtain ⟨y, e1, wy⟩ := (hf 1 (by omega)).int Try.underlying22
  rw [hc1] at e0 e1
  obtain ⟨cs⟩ := cs
  match cs, hl with
  | [c0, c1], _ =>
    simp at e0 e1
    subst e0
    subst e1
    have hbx := bounds_u64 wx
    have hby := bounds_u64 wy
    have hbW := bounds_u64 hW
    exact keep_walk a m c Z x y W w hZ hs (fun z hz' => bounds_u64 (hz z hz')) ⟨hbx.1, hbx.2⟩ ⟨hby.1, hby.2⟩ ⟨hbW.1, hbW.2⟩ hm
end Go.Proofs.Ytkbnkpllbgofhaa
