/-
  Texts of this claim, merged: MaL, MaM, MaO, MaQ. Lemmas and contracts; no conditions of our own.
-/
import Derived.Test.YthmpaepdbjldfaaG30
import Derived.Deep.RegionHeld3

/-
  (*match.matcher).list.
-/
namespace Go.Proofs.Ythmpaepdbjldfaa
set_option linter.unusedVariables false
set_option linter.unusedSimpArgs false
open Go.RowKit Go.Shelf

/-- A list's pattern with a ... at i + 1. -/
def RowSaid (ls : List Lk) (m n : Nat) : Prop := ∀ (p d : Dat) (cp cd : List Value) (w : World) (base M : Nat) (aL : Option Addr) (nL cL N : Nat) (v : Value) (bs0 : List Bd) (i : Nat),
  MSt base w M aL nL cL m N v bs0 → Likes w (fun b => b < base) aL ls → ls.length = nL → nL ≤ 1000000 → n + 1 ≤ N → n + 1 ≤ m → p.kind = 5 → d.kind = 5 →
  IsD w (fun b => b < base) (n + 1) cp p → goodN (n + 1) p = true → wrongN ls (n + 1) p = false → szN (n + 1) p ≤ 5000 →
  IsD w (fun b => b < base) m cd d → goodN m d = true → szN m d ≤ 5000 → dpN m d ≤ 200 → bs0.length + szN (n + 1) p ≤ 10000 → p.items.findIdx? (againF ls) = some (i + 1) →
  Calls Try.prog 99 #[.pointer (some ⟨M, 0, none⟩), .agg cp.toArray, .agg cd.toArray, .int .i64 ((i + 1 : Nat) : Int)] w (MPost base w M aL nL cL m N v bs0 (listM ls (matchN ls (sameN m) n) (fun x => placesN ls n x 0) p d))
theorem RowOf.more {w : World} {P : Nat → Prop} {n : Nat} {a : Option Addr} {ds : List Dat} (h : RowOf w P (IsD w P n) a ds) (k : Nat) : RowOf w P (IsD w P (n + k)) a ds := h.map (fun _ _ hp => hp) (fun _ _ _ _ hc => hc) (fun _ _ hd => hd.more k)
theorem MSt.shift {base : Nat} {w w' : World} {M : Nat} {aL : Option Addr} {nL cL m N : Nat} {v : Value} {bs0 : List Bd} {R : Option (List Bd)} {e : Ending} {w2 : World} (hs : w.heap.size ≤ w'.heap.size) (h : MPost base w' M aL nL cL m N v bs0 R e w2) (hu : Upd (M :: v.ownBlock.toList) w w') : MPost base w M aL nL cL m N v bs0 R e w2 := by
  obtain ⟨h1, h2, h3⟩ := h
  refine ⟨h1, hu.then h2, fun bs hb => ?_⟩
  obtain ⟨v', k1, k2⟩ := h3 bs hb
  refine ⟨v', k1, ?_⟩
  rcases k2 with k2 | ⟨g, k2, k3⟩
  · exact .inl k2
  · exact .inr ⟨g, k2, by omega⟩
/-- What is left of a list, in memory. -/
theorem rest_cut {w : World} {P : Nat → Prop} {n : Nat} {b o : Nat} {aT aX : Option Addr} {d : Dat} {cI cT k : Nat} (haX : k < d.items.length → aX = some ⟨b, o + k * 7, none⟩) (hI : RowOf w P (IsD w P n) (some ⟨b, o, none⟩) d.items) (hT : RowOf w P (IsD w P n) aT d.tail) (hk : k ≤ d.items.length) (hcI : d.items.length ≤ cI) (hcT : d.tail.length ≤ cT) (hbI : d.items.length ≤ 35184372088832) (hbT : d.tail.length ≤ 35184372088832) :
    IsD w P (n + 1) [.int .i64 5, .bool false, .slice none 0 0, .bool false, .string ⟨#[]⟩, .slice aX (d.items.length - k) (cI - k), .slice aT d.tail.length cT] (.mk 5 false [] false ByteArray.empty (d.items.drop k) d.tail) := by
  refine ⟨none, 0, aX, cI - k, aT, cT, ?_, fun i hi => absurd hi (by simp [Dat.limbs]), ?_, hT, ⟨Nat.le_refl _, ?_, hcT⟩, ⟨show (-9223372036854775808 : Int) ≤ 5 by decide, show (5 : Int) ≤ 9223372036854775807 by decide⟩, by simp [Dat.limbs], by simp [Dat.limbs], show ByteArray.empty.size ≤ 140737488351232 by decide, ?_, hbT⟩
  · show _ = datCells 5 false none 0 0 false ByteArray.empty aX (d.items.drop k).length (cI - k) aT d.tail.length cT
    rw [List.length_drop]
    rfl
  · by_cases hk2 : k < d.items.length
    · rw [haX hk2]
      exact RowK.drop (k := 7) hI k
    · intro i hi
      have : i < (d.items.drop k).length := hi
      rw [List.length_drop] at this
      omega
  · show (d.items.drop k).length ≤ cI - k
    rw [List.length_drop]
    omega
  · show (d.items.drop k).length ≤ 35184372088832
    rw [List.length_drop]
    omega
theorem allM_len {ls : List Lk} {sm : Dat → Dat → Bool} {n : Nat} {ps ds : List Dat} {bs : List Bd} (hg : ∀ p ∈ ps, goodN n p = true ∧ wrongN ls n p = false) (h : allM (matchN ls sm n) ps ds = some bs) : bs.length ≤ szL (szN n) ps := by
  have h1 := congrArg List.length (allM_names (g := nmN ls n) ps ds bs (fun p hp d b hb => match_names n p d b (hg p hp).1 (hg p hp).2 hb) h)
  rw [List.length_map] at h1
  rw [h1]
  exact flat_len (szN n) (nmN ls n) ps (fun p _ => by unfold nmN; rw [List.length_map]; exact placesN_len ls n p 0)
set_option maxRecDepth 100000 in
set_option maxHeartbeats 3000000 in
theorem list_step {ls : List Lk} {m n : Nat} (ihM : MatchSaid ls m n) (ihA : AllSaid ls m n) (ihR : RowSaid ls m n) : ListSaid ls m n := by
  intro p d cp cd w base M aL nL cL N v bs0 hM hL hnL hnb hnN hnm hkp hkd hp hgp hwp hsp hd hgd hsd hdd hcnt
  have HRow : Hid (∀ i, p.items.findIdx? (againF ls) = some (i + 1) → ∀ W, Upd [] w W → Calls Try.prog 99 #[.pointer (some ⟨M, 0, none⟩), .agg cp.toArray, .agg cd.toArray, .int .i64 ((i + 1 : Nat) : Int)] W (MPost base W M aL nL cL m N v bs0 (listM ls (matchN ls (sameN m) n) (fun x => placesN ls n x 0) p d))) := Lib.hid (fun i hi W hu =>
    ihR p d cp cd W base M aL nL cL N v bs0 i (hM.upd hu) (hL.upd hu) hnL hnb hnN hnm hkp hkd (hp.upd hu) hgp hwp hsp (hd.upd hu) hgd hsd hdd hcnt hi)
  obtain ⟨m', rfl⟩ : ∃ m', m = m' + 1 := ⟨m - 1, by omega⟩
  obtain ⟨w1, w2, w3⟩ := wrong_parts hwp
  obtain ⟨ht, hgs⟩ := good_list hgp hkp
  have hFd : FewD (m' + 1) d := ⟨hgd, hsd, hdd⟩
  have hszp : szN (n + 1) p = 1 + szL (szN n) p.items + szL (szN n) p.tail := rfl
  obtain ⟨xL, yL, xI, yI, xT, yT, rfl, pl1, pr1, pr2, pcap, pbd⟩ := hp
  obtain ⟨uL, vL, uI, vI, uT, vT, rfl, dl1, dr1, dr2, dcap, dbd⟩ := hd
  have hpi : p.items.length ≤ 100000 := by have := len_le_szL (szN_pos n) p.items; omega
  have hdi : d.items.length ≤ 100000 := by
    have := len_le_szL (szN_pos m') d.items
    have : szN (m' + 1) d = 1 + szL (szN m') d.items + szL (szN m') d.tail := rfl
    omega
  have hnd : ∀ {W : World} {a : Option Addr} {R : List Value → Dat → Prop}, RowOf W (fun b => b < base) R a d.items → True := fun _ => trivial
  -- all
  have HAll : Hid ((∀ q ∈ p.items, wrongN ls n q = false) → p.items.length ≤ d.items.length → ∀ W, Upd [] w W → Calls Try.prog 100 #[.pointer (some ⟨M, 0, none⟩), .slice xI p.items.length yI, .slice uI d.items.length vI] W (MPost base W M aL nL cL (m' + 1) N v bs0 (allM (matchN ls (sameN (m' + 1)) n) p.items d.items))) := Lib.hid (fun hwq hle W hu =>
    ihA p.items d.items W base M aL nL cL N v bs0 xI uI _ yI _ vI (hM.upd hu) (hL.upd hu) hnL hnb (by omega) (by omega) rfl rfl hle (by omega) (pr1.updD hu) (fun q hq => ⟨hgs q (by simp [hq]), hwq q hq⟩) (by omega) ((dr1.updD hu).more 1) (fun x hx => (hFd.sub hkd (List.mem_append.2 (.inl hx))).up) (by omega))
  -- the tail's
  have HTail : Hid ((∀ q ∈ p.items, wrongN ls n q = false) → ∀ t, p.tail = [t] → ∀ a, allM (matchN ls (sameN (m' + 1)) n) p.items d.items = some a → p.items.length ≤ d.items.length → ∀ (W : World) (v1 : Value) (ct cr : List Value), MSt base W M aL nL cL (m' + 1) N v1 (bs0 ++ a) → Upd (M :: v.ownBlock.toList) w W → IsD w (fun b => b < base) n ct t → IsD w (fun b => b < base) (m' + 1) cr (restM d p.items.length) →
      Calls Try.prog 47 #[.pointer (some ⟨M, 0, none⟩), .agg ct.toArray, .agg cr.toArray] W (MPost base W M aL nL cL (m' + 1) N v1 (bs0 ++ a) (matchN ls (sameN (m' + 1)) n t (restM d p.items.length)))) := Lib.hid (fun hwq t et a ha hle W v1 ct cr hM1 hu hct hcr => by
    have hr := hFd.rest hkd p.items.length hle
    have hln := allM_len (fun q hq => ⟨hgs q (by simp [hq]), hwq q hq⟩) ha
    have htm : t ∈ p.tail := by rw [et]; simp
    have hst := szL_mem (f := szN n) htm
    exact ihM t _ ct cr W base M aL nL cL N v1 (bs0 ++ a) hM1 (hM.likes hu hL) hnL hnb (by omega) (by omega) (hM.isD hu hct) (hgs t (by simp [et])) (w3 t htm) (by omega) (hM.isD hu hcr) hr.1 hr.2.1 hr.2.2 (by rw [List.length_append]; omega))
  -- where the ... stands
  have HDots : Hid ((p.items.findIdx? (againF ls) = none ∧ (∀ x ∈ p.items, wrongN ls n x = false)) ∨ ∃ i, p.items.findIdx? (againF ls) = some (i + 1)) := Lib.hid (by
    rcases dots_at w2 with ⟨h1, h2⟩ | ⟨i, h1, _⟩
    · exact .inl ⟨h1, fun x hx => (h2 x hx).2⟩
    · exact .inr ⟨i, h1⟩)
  have HIdx : Hid (∀ (b3 : Nat) (W : World), Upd [] w W → W.cell? ⟨b3, 0, none⟩ = some (.pointer (some ⟨M, 0, none⟩)) → Calls Try.prog 97 #[.slice xI p.items.length yI, .func (.func 98) #[] #[.pointer (some ⟨b3, 0, none⟩)]] W fun e w' => e = .returned (.int .i64 (idxI (againF ls) p.items)) ∧ Upd [] W w') := Lib.hid (fun b3 W hu hc =>
    indexDatC 98 _ (enters_of Try.func98 (by kernel_rfl) rfl) (againF ls) _ yI rfl (pr1.updD hu) hpi (fun j cs W2 hj hu2 hd => list1_calls hd (hL.upd (hu.then hu2)) hnL hnb (hu2.cell hc (by simp)) ((hM.upd (hu.then hu2)).blk.cell_some (i := 0) rfl)))
  obtain ⟨RES, hRES⟩ : ∃ R, R = listM ls (matchN ls (sameN (m' + 1)) n) (fun x => placesN ls n x 0) p d := ⟨_, rfl⟩
  have HUnf : Hid (p.items.findIdx? (againF ls) = none → RES = if p.tail = [] then (if d.items.length = p.items.length ∧ d.tail = [] then allM (matchN ls (sameN (m' + 1)) n) p.items d.items else none)
    else if d.items.length < p.items.length then none
    else (allM (matchN ls (sameN (m' + 1)) n) p.items d.items).bind fun a => (matchN ls (sameN (m' + 1)) n (p.tail.getD 0 default) (restM d p.items.length)).bind fun b => some (a ++ b)) := Lib.hid (fun h => by rw [hRES]; unfold listM; rw [h])
  rw [← hRES] at HRow ⊢
  have HTC := Lib.hid (tail_cases hgp hkp)
  have HTD := Lib.hid (tail_cases hgd hkd)
  have HPR2 := Lib.hid pr2
  have HDR1 := Lib.hid dr1
  have HDR2 := Lib.hid dr2
  have HM := Lib.hid hM
  have HTO := Lib.hid ht
  have HDB := Lib.hid (And.intro dcap dbd)
  have hmM : M < w.heap.size := hM.blk.lt
  unfold datCells at *
  rw [hkp] at *
  rw [hkd] at *
  obtain ⟨W3, hW3⟩ : ∃ W3, W3 = ((w.alloc (.cells #[.pointer (some ⟨M, 0, none⟩)] 110)).alloc (.cells #[.int .i64 5, .bool p.neg, .slice xL p.limbs.length yL, .bool p.b, .string p.s, .slice xI p.items.length yI, .slice xT p.tail.length yT] 27)).alloc (.cells #[.int .i64 5, .bool d.neg, .slice uL d.limbs.length vL, .bool d.b, .string d.s, .slice uI d.items.length vI, .slice uT d.tail.length vT] 27) := ⟨_, rfl⟩
  have hu3 : Upd [] w W3 := by rw [hW3]; exact (((Upd.refl [] w).alloc _).alloc _).alloc _
  have hb3 : Blk W3 w.heap.size [.pointer (some ⟨M, 0, none⟩)] 110 := by rw [hW3]; exact ((Blk.newAt rfl).alloc _).alloc _
  have hb4 : Blk W3 (w.heap.size + 1) [.int .i64 5, .bool p.neg, .slice xL p.limbs.length yL, .bool p.b, .string p.s, .slice xI p.items.length yI, .slice xT p.tail.length yT] 27 := by rw [hW3]; exact (Blk.newAt (by simp)).alloc _
  have hb5 : Blk W3 (w.heap.size + 1 + 1) [.int .i64 5, .bool d.neg, .slice uL d.limbs.length vL, .bool d.b, .string d.s, .slice uI d.items.length vI, .slice uT d.tail.length vT] 27 := by rw [hW3]; exact Blk.newAt (by simp)
  have HB3 := Lib.hid hb3
  have HB4 := Lib.hid hb4
  have HB5 := Lib.hid hb5
  have HU3 := Lib.hid hu3
  have HW3 := Lib.hid hW3
  clear hM hL hnL hgp hwp hsp hgd hsd hdd hcnt hnd w1 w2 w3 ht hgs hFd hszp pl1 pr1 pr2 pcap pbd dl1 dr1 dr2 dcap dbd hRES hu3 hb3 hb4 hb5 hW3 ihM ihA ihR hnb
  generalize p.neg = png at *
  generalize p.limbs.length = pll at *
  generalize p.b = pb at *
  generalize p.s = pss at *
  generalize d.neg = dng at *
  generalize d.limbs.length = dll at *
  generalize d.b = db at *
  generalize d.s = dss at *
  go_enter Try.func69, Try.ntmps69
  go_wp2_with fail
  rw [← HW3.out]
  refine (HIdx.out _ _ HU3.out (HB3.out.cell_some (i := 0) rfl)).mono ?_
  rintro e w4 ⟨rfl, hu4⟩
  have HU4 := Lib.hid (HU3.out.then hu4)
  have hb3 := hu4.blk HB3.out (by simp)
  have hb4 := hu4.blk HB4.out (by simp)
  have hb5 := hu4.blk HB5.out (by simp)
  have q0 := hb3.cell_some (i := 0) rfl
  obtain ⟨x0, x1, x2, x3, x4, x5, x6⟩ := Blk.seven hb4
  obtain ⟨y0, y1, y2, y3, y4, y5, y6⟩ := Blk.seven hb5
  have hlt5 := hb5.lt
  have HB3' := Lib.hid hb3
  have HB4' := Lib.hid hb4
  have HB5' := Lib.hid hb5
  have HM4 := Lib.hid (HM.out.upd HU4.out)
  clear HIdx hu4 hb3 hb4 hb5 HB3 HB4 HB5 HU3 HW3
  rcases HDots.out with ⟨hno, hwq⟩ | ⟨i, hi⟩
  · have hidx : idxI (againF ls) p.items = -1 := by unfold idxI; rw [hno]
    have HU := Lib.hid (HUnf.out hno)
    have HAl := Lib.hid (HAll.out hwq)
    have HTl := Lib.hid (HTail.out hwq)
    rw [hidx]
    clear HUnf HRow HAll HTail HDots hno hwq hidx
    have hdi0 : (0 : Int) ≤ (d.items.length : Int) := by omega
    by_cases ht0 : p.tail = []
    · have HU2 : Hid (RES = if d.items.length = p.items.length ∧ d.tail = [] then allM (matchN ls (sameN (m' + 1)) n) p.items d.items else none) := Lib.hid (by rw [HU.out, if_pos ht0])
      have ht1 : p.tail.length = 0 := by rw [ht0]; rfl
      rw [ht1] at x6 ⊢
      clear HU HTl ht0 HTO HTC
      by_cases hl : d.items.length = p.items.length
      · by_cases hdt : d.tail = []
        · have HX : Hid (RES = allM (matchN ls (sameN (m' + 1)) n) p.items d.items) := Lib.hid (by rw [HU2.out, if_pos ⟨hl, hdt⟩])
          have hdt1 : d.tail.length = 0 := by rw [hdt]; rfl
          have HC := Lib.hid (HAl.out (by omega))
          rw [hdt1] at y6 ⊢
          rw [hl] at y5 HC ⊢
          clear HU2 HAl
          go_wp2_with fail
          refine (HC.out _ HU4.out).mono ?_
          rintro e w5 hp5
          have HP5 := Lib.hid (MSt.shift HU4.out.size hp5 (HU4.out.mono (by simp)))
          obtain ⟨rfl, _, _⟩ := hp5
          clear HC
          go_wp2
          go_ret
          rw [HX.out]
          exact HP5.out
        · have HX : Hid (RES = none) := Lib.hid (by rw [HU2.out, if_neg (fun h => hdt h.2)])
          have hdt1 : ¬ ((d.tail.length : Nat) : Int) = 0 := by
            intro h
            exact hdt (List.eq_nil_of_length_eq_zero (by omega))
          rw [hl] at y5 ⊢
          clear HU2 HAl
          go_wp2
          go_ret
          exact ⟨by rw [HX.out]; rfl, HU4.out.mono (by simp), fun bs h => by rw [HX.out] at h; cases h⟩
      · have HX : Hid (RES = none) := Lib.hid (by rw [HU2.out, if_neg (fun h => hl h.1)])
        have hl1 : ¬ ((d.items.length : Nat) : Int) = ((p.items.length : Nat) : Int) := by omega
        clear HU2 HAl
        go_wp2
        go_ret
        exact ⟨by rw [HX.out]; rfl, HU4.out.mono (by simp), fun bs h => by rw [HX.out] at h; cases h⟩
    · have HU2 : Hid (RES = if d.items.length < p.items.length then none
    else (allM (matchN ls (sameN (m' + 1)) n) p.items d.items).bind fun a => (matchN ls (sameN (m' + 1)) n (p.tail.getD 0 default) (restM d p.items.length)).bind fun b => some (a ++ b)) := Lib.hid (by rw [HU.out, if_neg ht0])
      obtain ⟨t, het⟩ : ∃ t, p.tail = [t] := by
        rcases HTC.out with h | h
        · exact absurd h ht0
        · exact h
      have ht1 : p.tail.length = 1 := by rw [het]; rfl
      have htg : p.tail.getD 0 default = t := by rw [het]; rfl
      rw [ht1] at x6 HB4' ⊢
      rw [htg] at HU2
      clear HU ht0 HTC
      by_cases hl : d.items.length < p.items.length
      · have HX : Hid (RES = none) := Lib.hid (by rw [HU2.out, if_pos hl])
        have hl1 : ((d.items.length : Nat) : Int) < ((p.items.length : Nat) : Int) := by omega
        clear HU2 HAl HTl
        go_wp2
        go_ret
        exact ⟨by rw [HX.out]; rfl, HU4.out.mono (by simp), fun bs h => by rw [HX.out] at h; cases h⟩
      · have HX : Hid (RES = (allM (matchN ls (sameN (m' + 1)) n) p.items d.items).bind fun a => (matchN ls (sameN (m' + 1)) n t (restM d p.items.length)).bind fun b => some (a ++ b)) := Lib.hid (by rw [HU2.out, if_neg hl])
        have hl1 : ¬ ((d.items.length : Nat) : Int) < ((p.items.length : Nat) : Int) := by omega
        have HC := Lib.hid (HAl.out (by omega))
        have HTl2 := Lib.hid (HTl.out t het)
        have hp0 : 0 < p.items.length := by
          have := HTO.out
          unfold tailOk at this
          omega
        obtain ⟨AR, hAR⟩ : ∃ A, A = allM (matchN ls (sameN (m' + 1)) n) p.items d.items := ⟨_, rfl⟩
        rw [← hAR] at HX HC HTl2
        clear HU2 HAl HTl hAR
        go_wp2_with fail
        refine (HC.out _ HU4.out).mono ?_
        rintro e w5 hp5
        have HP5 := Lib.hid (MSt.shift HU4.out.size hp5 (HU4.out.mono (by simp)))
        have HN3 := Lib.hid (HM4.out.notin HB3'.out (by decide) (by decide))
        have HN4 := Lib.hid (HM4.out.notin HB4'.out (by decide) (by decide))
        have HN5 := Lib.hid (HM4.out.notin HB5'.out (by decide) (by decide))
        obtain ⟨rfl, hu5, _⟩ := hp5
        have hb3 := hu5.blk HB3'.out HN3.out
        have hb4 := hu5.blk HB4'.out HN4.out
        have hb5 := hu5.blk HB5'.out HN5.out
        have q0 := hb3.cell_some (i := 0) rfl
        obtain ⟨x0, x1, x2, x3, x4, x5, x6⟩ := Blk.seven hb4
        obtain ⟨y0, y1, y2, y3, y4, y5, y6⟩ := Blk.seven hb5
        have hlt5' := hb5.lt
        have HB3 := Lib.hid hb3
        have HB4 := Lib.hid hb4
        have HB5 := Lib.hid hb5
        clear HC hu5 hb3 hb4 hb5 HB3' HB4' HB5' HM4 HN3 HN4 HN5
        cases AR with
        | none =>
          have HY : Hid (RES = none) := Lib.hid (by rw [HX.out]; rfl)
          have HU5 := Lib.hid HP5.out.2.1
          clear HX HTl2 HP5
          go_wp2
          go_ret
          exact ⟨by rw [HY.out]; rfl, HU5.out, fun bs h => by rw [HY.out] at h; cases h⟩
        | some a =>
          have HY : Hid (RES = (matchN ls (sameN (m' + 1)) n t (restM d p.items.length)).bind fun b => some (a ++ b)) := Lib.hid (by rw [HX.out]; rfl)
          obtain ⟨v1, hM5, hV5⟩ := HP5.out.2.2 a rfl
          have HU5 := Lib.hid HP5.out.2.1
          have HM5 := Lib.hid hM5
          have HV5 := Lib.hid hV5
          have HTl3 := Lib.hid (HTl2.out a rfl (by omega))
          have hRI := HM.out.row HU5.out HDR1.out
          have hRT := HM.out.row HU5.out HDR2.out
          have hRP := HM.out.row HU5.out HPR2.out
          obtain ⟨bI, oI, rfl⟩ : ∃ b o, uI = some ⟨b, o, none⟩ := by
            obtain ⟨b, o, _, e, _⟩ := hRI 0 (by omega)
            exact ⟨b, o, e⟩
          obtain ⟨AX, hAX⟩ : ∃ AX : Option Addr, AX = if vI = p.items.length then some ⟨bI, oI, none⟩ else some ⟨bI, oI + p.items.length * 7, none⟩ := ⟨_, rfl⟩
          have HCut := Lib.hid (rest_cut (aX := AX) (k := p.items.length) (b := bI) (o := oI) (fun h => by rw [hAX, if_neg (by have := HDB.out.1.2.1; omega)]) HDR1.out HDR2.out (by omega) HDB.out.1.2.1 HDB.out.1.2.2 HDB.out.2.2.2.2.2.1 HDB.out.2.2.2.2.2.2)
          have HAX := Lib.hid hAX
          have HRT := Lib.hid hRT
          obtain ⟨bP, oP, ct, rfl, hbP, hatP, hdP⟩ := hRP 0 (by omega)
          have htg' : p.tail.getD 0 default = t := by rw [het]; rfl
          rw [Nat.zero_mul, Nat.add_zero] at hatP
          have hdP0 : IsD w (fun b => b < base) n ct t := by
            obtain ⟨b2, o2, c2, e2, _, ha2, hd2⟩ := HPR2.out 0 (by omega)
            injection e2 with e2
            injection e2 with e2 e3
            subst e2; subst e3
            rw [htg'] at hd2
            rw [Nat.zero_mul, Nat.add_zero] at ha2
            have := (ha2.upd HU5.out (HM.out.old hbP)).2
            have he : c2 = ct := by
              apply List.ext_getElem? 
              intro i
              by_cases hi : i < 7
              · rw [← this i hi, ← hatP.2 i hi]
              · rw [List.getElem?_eq_none (by rw [ha2.1]; omega), List.getElem?_eq_none (by rw [hatP.1]; omega)]
            rw [← he]
            exact hd2
          have HdP := Lib.hid hdP0
          obtain ⟨k1, n1, a1, l1, p1, b1, s1, i1, m1, d1, t1, o1, q1, rfl⟩ := hdP.shaped7
          obtain ⟨z0, z1, z2, z3, z4, z5, z6⟩ := hatP.cells
          have hsl1 : (0 : Int) ≤ ((p.items.length : Nat) : Int) := by omega
          have hsl2 : ((p.items.length : Nat) : Int) ≤ ((d.items.length : Nat) : Int) := by omega
          have hcI := HDB.out.1.2.1
          have HbP := Lib.hid hbP
          have HltP := Lib.hid hatP.lt
          clear HX HTl2 HP5 hM5 hV5 hRI hRP hatP hdP hdP0 htg htg' hbP hAX
          go_wp2_with fail
          go_region_held3 (fun w' => w'.cell? ⟨w.heap.size + 1 + 1, 5, none⟩ = some (.slice (some ⟨bI, oI, none⟩) d.items.length vI) ∧ w'.cell? ⟨w.heap.size + 1 + 1, 6, none⟩ = some (.slice uT d.tail.length vT)) (first | with_reducible exact ⟨y5, y6⟩ | go_keep) (fail)
          rw [← HAX.out]
          obtain ⟨W6, hW6⟩ : ∃ W6, W6 = (w5.alloc (.cells #[.int .i64 5, .bool false, .slice none 0 0, .bool false, .string ⟨#[]⟩, .slice AX (d.items.length - p.items.length) (vI - p.items.length), .slice uT d.tail.length vT] 27)).drew := ⟨_, rfl⟩
          rw [← hW6]
          have hu56 : Upd [] w5 W6 := by rw [hW6]; exact ((Upd.refl [] w5).alloc _).drew
          have hr6 : Blk W6 w5.heap.size [.int .i64 5, .bool false, .slice none 0 0, .bool false, .string ⟨#[]⟩, .slice AX (d.items.length - p.items.length) (vI - p.items.length), .slice uT d.tail.length vT] 27 := by rw [hW6]; exact (Blk.new w5 _ _).drew
          have HU56 := Lib.hid hu56
          have HR6 := Lib.hid hr6
          have HM6 := Lib.hid (HM5.out.upd hu56)
          replace q0 := hu56.cell q0 (by simp)
          replace x6 := hu56.cell x6 (by simp)
          replace y5 := hu56.cell y5 (by simp)
          replace y6 := hu56.cell y6 (by simp)
          replace z0 := hu56.cell z0 (by simp)
          replace z1 := hu56.cell z1 (by simp)
          replace z2 := hu56.cell z2 (by simp)
          replace z3 := hu56.cell z3 (by simp)
          replace z4 := hu56.cell z4 (by simp)
          replace z5 := hu56.cell z5 (by simp)
          replace z6 := hu56.cell z6 (by simp)
          obtain ⟨r0, r1, r2, r3, r4, r5, r6⟩ := Blk.seven hr6
          have hlr := hr6.lt
          have hnq : w.heap.size ∉ M :: v1.ownBlock.toList := HM5.out.notin HB3.out (by decide) (by decide)
          have hnx : w.heap.size + 1 ∉ M :: v1.ownBlock.toList := HM5.out.notin HB4.out (by decide) (by decide)
          have hnz : bP ∉ M :: v1.ownBlock.toList := HM5.out.old HbP.out
          have hnr : w5.heap.size ∉ M :: v1.ownBlock.toList := HM6.out.notin hr6 (by decide) (by decide)
          clear hW6 hu56 hr6 x0 x1 x2 x3 x4 x5 y0 y1 y2 y3 y4
          by_cases hcase : d.items.length = p.items.length ∧ 0 < d.tail.length
          · obtain ⟨bT, oT, ctd, rfl, hbT, hatT, hdT⟩ := HRT.out 0 hcase.2
            have hrest : restM d p.items.length = d.tail.getD 0 default := by unfold restM; rw [if_pos ⟨hcase.1.symm, hcase.2⟩]
            have hdT0 : IsD w (fun b => b < base) m' ctd (d.tail.getD 0 default) := by
              obtain ⟨b2, o2, c2, e2, _, ha2, hd2⟩ := HDR2.out 0 hcase.2
              injection e2 with e2
              injection e2 with e2 e3
              subst e2; subst e3
              have := (ha2.upd HU5.out (HM.out.old hbT)).2
              have he : c2 = ctd := by
                apply List.ext_getElem?
                intro i
                by_cases hi : i < 7
                · rw [← this i hi, ← hatT.2 i hi]
                · rw [List.getElem?_eq_none (by rw [ha2.1]; omega), List.getElem?_eq_none (by rw [hatT.1]; omega)]
              rw [← he]
              exact hd2
            rw [Nat.zero_mul, Nat.add_zero] at hatT
            have HRest : Hid (IsD w (fun b => b < base) (m' + 1) ctd (restM d p.items.length)) := Lib.hid (by rw [hrest]; exact hdT0.more 1)
            obtain ⟨k2, n2, a2, l2, p2, b2, s2, i2, m2, d2, t2, o2, q2, rfl⟩ := hdT0.shaped7
            have hatT6 := hatT.upd HU56.out (by simp)
            obtain ⟨v0, v1', v2', v3, v4, v5, v6⟩ := hatT6.cells
            have hlT : bT < w5.heap.size := hatT.lt
            have hneT : bT ≠ w5.heap.size := by omega
            have hc1 : ((p.items.length : Nat) : Int) = ((d.items.length : Nat) : Int) := by omega
            have hc2 : (0 : Int) < ((d.tail.length : Nat) : Int) := by omega
            have f0 := HR6.out.free 0
            have f1 := HR6.out.free 1
            have f2 := HR6.out.free 2
            have f3 := HR6.out.free 3
            have f4 := HR6.out.free 4
            have f5 := HR6.out.free 5
            have f6 := HR6.out.free 6
            clear hatT hdT hdT0 hatT6 hrest HCut HRT
            have hltP : bP < w5.heap.size := HltP.out
            go_wp2_with fail
            obtain ⟨W7, hW7⟩ : ∃ W7, W7 = (((((((W6.setCell ⟨w5.heap.size, 0, none⟩ (.int .i64 k2)).setCell ⟨w5.heap.size, 1, none⟩ (.bool n2)).setCell ⟨w5.heap.size, 2, none⟩ (.slice a2 l2 p2)).setCell ⟨w5.heap.size, 3, none⟩ (.bool b2)).setCell ⟨w5.heap.size, 4, none⟩ (.string s2)).setCell ⟨w5.heap.size, 5, none⟩ (.slice i2 m2 d2)).setCell ⟨w5.heap.size, 6, none⟩ (.slice t2 o2 q2)) := ⟨_, rfl⟩
            rw [← hW7]
            have hp7 : W7 = put7 W6 w5.heap.size (.int .i64 k2) (.bool n2) (.slice a2 l2 p2) (.bool b2) (.string s2) (.slice i2 m2 d2) (.slice t2 o2 q2) := hW7
            have hu67 : Upd [w5.heap.size] W6 W7 := by rw [hp7]; exact (Upd.refl _ W6).put7 (.inl (by simp)) (.int .i64 k2) (.bool n2) (.slice a2 l2 p2) (.bool b2) (.string s2) (.slice i2 m2 d2) (.slice t2 o2 q2)
            have hu57 : Upd [] w5 W7 := by rw [hp7]; exact HU56.out.put7 (.inr (Nat.le_refl _)) (.int .i64 k2) (.bool n2) (.slice a2 l2 p2) (.bool b2) (.string s2) (.slice i2 m2 d2) (.slice t2 o2 q2)
            have hr7 : Blk W7 w5.heap.size [.int .i64 k2, .bool n2, .slice a2 l2 p2, .bool b2, .string s2, .slice i2 m2 d2, .slice t2 o2 q2] 27 := by rw [hp7]; exact HR6.out.put7 (.int .i64 k2) (.bool n2) (.slice a2 l2 p2) (.bool b2) (.string s2) (.slice i2 m2 d2) (.slice t2 o2 q2)
            have HU57 := Lib.hid hu57
            have HM7 := Lib.hid (HM5.out.upd hu57)
            have HU7 : Hid (Upd (M :: v.ownBlock.toList) w W7) := Lib.hid (HU5.out.then0 hu57)
            have hx1 : w.heap.size ≠ w5.heap.size := by omega
            have hx2 : w.heap.size + 1 ≠ w5.heap.size := by omega
            have hx3 : bP ≠ w5.heap.size := by omega
            replace q0 := hu67.cell q0 (by simpa using hx1)
            replace x6 := hu67.cell x6 (by simpa using hx2)
            replace z0 := hu67.cell z0 (by simpa using hx3)
            replace z1 := hu67.cell z1 (by simpa using hx3)
            replace z2 := hu67.cell z2 (by simpa using hx3)
            replace z3 := hu67.cell z3 (by simpa using hx3)
            replace z4 := hu67.cell z4 (by simpa using hx3)
            replace z5 := hu67.cell z5 (by simpa using hx3)
            replace z6 := hu67.cell z6 (by simpa using hx3)
            obtain ⟨r0, r1, r2, r3, r4, r5, r6⟩ := Blk.seven hr7
            clear hW7 hp7 hu67 hu57 hr7 y5 y6 v0 v1' v2' v3 v4 v5 v6 f0 f1 f2 f3 f4 f5 f6 HM6 HU56 HR6
            go_region_held3 (fun w' => w'.cell? ⟨w.heap.size, 0, none⟩ = some (.pointer (some ⟨M, 0, none⟩)) ∧ w'.cell? ⟨w.heap.size + 1, 6, none⟩ = some (.slice (some ⟨bP, oP, none⟩) 1 yT) ∧ w'.cell? ⟨bP, oP, none⟩ = some (.int .i64 k1) ∧ w'.cell? ⟨bP, oP + 1, none⟩ = some (.bool n1) ∧ w'.cell? ⟨bP, oP + 2, none⟩ = some (.slice a1 l1 p1) ∧ w'.cell? ⟨bP, oP + 3, none⟩ = some (.bool b1) ∧ w'.cell? ⟨bP, oP + 4, none⟩ = some (.string s1) ∧ w'.cell? ⟨bP, oP + 5, none⟩ = some (.slice i1 m1 d1) ∧ w'.cell? ⟨bP, oP + 6, none⟩ = some (.slice t1 o1 q1) ∧ w'.cell? ⟨w5.heap.size, 0, none⟩ = some (.int .i64 k2) ∧ w'.cell? ⟨w5.heap.size, 1, none⟩ = some (.bool n2) ∧ w'.cell? ⟨w5.heap.size, 2, none⟩ = some (.slice a2 l2 p2) ∧ w'.cell? ⟨w5.heap.size, 3, none⟩ = some (.bool b2) ∧ w'.cell? ⟨w5.heap.size, 4, none⟩ = some (.string s2) ∧ w'.cell? ⟨w5.heap.size, 5, none⟩ = some (.slice i2 m2 d2) ∧ w'.cell? ⟨w5.heap.size, 6, none⟩ = some (.slice t2 o2 q2)) (first | with_reducible exact ⟨q0, x6, z0, z1, z2, z3, z4, z5, z6, r0, r1, r2, r3, r4, r5, r6⟩ | go_keep | exact ⟨Upd.cell hu q0 hnq, Upd.cell hu x6 hnx, Upd.cell hu z0 hnz, Upd.cell hu z1 hnz, Upd.cell hu z2 hnz, Upd.cell hu z3 hnz, Upd.cell hu z4 hnz, Upd.cell hu z5 hnz, Upd.cell hu z6 hnz, Upd.cell hu r0 hnr, Upd.cell hu r1 hnr, Upd.cell hu r2 hnr, Upd.cell hu r3 hnr, Upd.cell hu r4 hnr, Upd.cell hu r5 hnr, Upd.cell hu r6 hnr⟩) (first | (go_at_call 47; refine (HTl3.out _ v1 _ _ (HM7.out.upd (Upd.refl [] W7).drew) HU7.out.drew HdP.out HRest.out).mono ?_; rintro e w9 ⟨rfl, hu9, hs9⟩; have hu := Upd.then (Upd.refl (M :: v1.ownBlock.toList) W7).drew hu9))
            have HU9 : Hid (Upd (M :: v.ownBlock.toList) w w9) := Lib.hid (MSt.trans HU5.out HV5.out (HU57.out.mono (by simp) |>.then hu))
            have HS9 := Lib.hid hs9
            have HSZ : Hid (w.heap.size ≤ W7.heap.size) := Lib.hid HU7.out.size
            clear hu hu9 hs9 q0 x6 z0 z1 z2 z3 z4 z5 z6 r0 r1 r2 r3 r4 r5 r6 HTl3
            go_wp2
            go_ret
            refine ⟨by rw [HY.out]; cases matchN ls (sameN (m' + 1)) n t (restM d p.items.length) <;> rfl, HU9.out, fun bs hb => ?_⟩
            rw [HY.out] at hb
            cases hmr : matchN ls (sameN (m' + 1)) n t (restM d p.items.length) with
            | none => rw [hmr] at hb; cases hb
            | some b9 =>
              rw [hmr] at hb
              cases hb
              obtain ⟨v2, k2, k3⟩ := HS9.out b9 hmr
              exact ⟨v2, by rw [← List.append_assoc]; exact k2, own_later HSZ.out HV5.out k3⟩
          · have hrest : restM d p.items.length = .mk 5 false [] false ByteArray.empty (d.items.drop p.items.length) d.tail := by unfold restM; rw [if_neg (fun h => hcase ⟨h.1.symm, h.2⟩)]
            have HRest : Hid (IsD w (fun b => b < base) (m' + 1) [.int .i64 5, .bool false, .slice none 0 0, .bool false, .string ⟨#[]⟩, .slice AX (d.items.length - p.items.length) (vI - p.items.length), .slice uT d.tail.length vT] (restM d p.items.length)) := Lib.hid (by rw [hrest]; exact HCut.out)
            obtain ⟨W7, hW7⟩ : ∃ W7, W7 = W6 := ⟨_, rfl⟩
            rw [← hW7] at HU56 HR6 HM6 q0 x6 y5 y6 z0 z1 z2 z3 z4 z5 z6 r0 r1 r2 r3 r4 r5 r6 hlr ⊢
            have HM7 := HM6
            have HU57 := HU56
            have HU7 : Hid (Upd (M :: v.ownBlock.toList) w W7) := Lib.hid (HU5.out.then0 HU57.out)
            clear hW7 hrest HCut HRT HM6 HU56
            by_cases hc1 : d.items.length = p.items.length
            · have hc2 : d.tail.length = 0 := by
                by_cases h : d.tail.length = 0
                · exact h
                · exact absurd ⟨hc1, by omega⟩ hcase
              have hc1' : (((p.items.length : Nat) : Int) == ((d.items.length : Nat) : Int)) = true := by rw [hc1]; simp
              have HC1 := Lib.hid hc1
              have hc2' : ¬ (0 : Int) < ((d.tail.length : Nat) : Int) := by omega
              clear hc1 hc2 hcase
              go_wp2_with fail
              go_region_held3 (fun w' => w'.cell? ⟨w.heap.size, 0, none⟩ = some (.pointer (some ⟨M, 0, none⟩)) ∧ w'.cell? ⟨w.heap.size + 1, 6, none⟩ = some (.slice (some ⟨bP, oP, none⟩) 1 yT) ∧ w'.cell? ⟨bP, oP, none⟩ = some (.int .i64 k1) ∧ w'.cell? ⟨bP, oP + 1, none⟩ = some (.bool n1) ∧ w'.cell? ⟨bP, oP + 2, none⟩ = some (.slice a1 l1 p1) ∧ w'.cell? ⟨bP, oP + 3, none⟩ = some (.bool b1) ∧ w'.cell? ⟨bP, oP + 4, none⟩ = some (.string s1) ∧ w'.cell? ⟨bP, oP + 5, none⟩ = some (.slice i1 m1 d1) ∧ w'.cell? ⟨bP, oP + 6, none⟩ = some (.slice t1 o1 q1) ∧ w'.cell? ⟨w5.heap.size, 0, none⟩ = some (.int .i64 5) ∧ w'.cell? ⟨w5.heap.size, 1, none⟩ = some (.bool false) ∧ w'.cell? ⟨w5.heap.size, 2, none⟩ = some (.slice none 0 0) ∧ w'.cell? ⟨w5.heap.size, 3, none⟩ = some (.bool false) ∧ w'.cell? ⟨w5.heap.size, 4, none⟩ = some (.string ⟨#[]⟩) ∧ w'.cell? ⟨w5.heap.size, 5, none⟩ = some (.slice AX (d.items.length - p.items.length) (vI - p.items.length)) ∧ w'.cell? ⟨w5.heap.size, 6, none⟩ = some (.slice uT d.tail.length vT)) (first | with_reducible exact ⟨q0, x6, z0, z1, z2, z3, z4, z5, z6, r0, r1, r2, r3, r4, r5, r6⟩ | go_keep | exact ⟨Upd.cell hu q0 hnq, Upd.cell hu x6 hnx, Upd.cell hu z0 hnz, Upd.cell hu z1 hnz, Upd.cell hu z2 hnz, Upd.cell hu z3 hnz, Upd.cell hu z4 hnz, Upd.cell hu z5 hnz, Upd.cell hu z6 hnz, Upd.cell hu r0 hnr, Upd.cell hu r1 hnr, Upd.cell hu r2 hnr, Upd.cell hu r3 hnr, Upd.cell hu r4 hnr, Upd.cell hu r5 hnr, Upd.cell hu r6 hnr⟩) (first | (go_at_call 47; refine (HTl3.out _ v1 _ _ (HM7.out.upd (Upd.refl [] W7).drew) HU7.out.drew HdP.out HRest.out).mono ?_; rintro e w9 ⟨rfl, hu9, hs9⟩; have hu := Upd.then (Upd.refl (M :: v1.ownBlock.toList) W7).drew hu9))
              have HU9 : Hid (Upd (M :: v.ownBlock.toList) w w9) := Lib.hid (MSt.trans HU5.out HV5.out (HU57.out.mono (by simp) |>.then hu))
              have HS9 := Lib.hid hs9
              have HSZ : Hid (w.heap.size ≤ W7.heap.size) := Lib.hid HU7.out.size
              clear hu hu9 hs9 q0 x6 z0 z1 z2 z3 z4 z5 z6 r0 r1 r2 r3 r4 r5 r6 HTl3
              go_wp2
              go_ret
              refine ⟨by rw [HY.out]; cases matchN ls (sameN (m' + 1)) n t (restM d p.items.length) <;> rfl, HU9.out, fun bs hb => ?_⟩
              rw [HY.out] at hb
              cases hmr : matchN ls (sameN (m' + 1)) n t (restM d p.items.length) with
              | none => rw [hmr] at hb; cases hb
              | some b9 =>
                rw [hmr] at hb
                cases hb
                obtain ⟨v2, k2, k3⟩ := HS9.out b9 hmr
                exact ⟨v2, by rw [← List.append_assoc]; exact k2, own_later HSZ.out HV5.out k3⟩
            · have hc1' : (((p.items.length : Nat) : Int) == ((d.items.length : Nat) : Int)) = false := by
                have : ¬ ((p.items.length : Nat) : Int) = ((d.items.length : Nat) : Int) := by omega
                simpa using this
              go_wp2_with fail
              go_region_held3 (fun w' => w'.cell? ⟨w.heap.size, 0, none⟩ = some (.pointer (some ⟨M, 0, none⟩)) ∧ w'.cell? ⟨w.heap.size + 1, 6, none⟩ = some (.slice (some ⟨bP, oP, none⟩) 1 yT) ∧ w'.cell? ⟨bP, oP, none⟩ = some (.int .i64 k1) ∧ w'.cell? ⟨bP, oP + 1, none⟩ = some (.bool n1) ∧ w'.cell? ⟨bP, oP + 2, none⟩ = some (.slice a1 l1 p1) ∧ w'.cell? ⟨bP, oP + 3, none⟩ = some (.bool b1) ∧ w'.cell? ⟨bP, oP + 4, none⟩ = some (.string s1) ∧ w'.cell? ⟨bP, oP + 5, none⟩ = some (.slice i1 m1 d1) ∧ w'.cell? ⟨bP, oP + 6, none⟩ = some (.slice t1 o1 q1) ∧ w'.cell? ⟨w5.heap.size, 0, none⟩ = some (.int .i64 5) ∧ w'.cell? ⟨w5.heap.size, 1, none⟩ = some (.bool false) ∧ w'.cell? ⟨w5.heap.size, 2, none⟩ = some (.slice none 0 0) ∧ w'.cell? ⟨w5.heap.size, 3, none⟩ = some (.bool false) ∧ w'.cell? ⟨w5.heap.size, 4, none⟩ = some (.string ⟨#[]⟩) ∧ w'.cell? ⟨w5.heap.size, 5, none⟩ = some (.slice AX (d.items.length - p.items.length) (vI - p.items.length)) ∧ w'.cell? ⟨w5.heap.size, 6, none⟩ = some (.slice uT d.tail.length vT)) (first | with_reducible exact ⟨q0, x6, z0, z1, z2, z3, z4, z5, z6, r0, r1, r2, r3, r4, r5, r6⟩ | go_keep | exact ⟨Upd.cell hu q0 hnq, Upd.cell hu x6 hnx, Upd.cell hu z0 hnz, Upd.cell hu z1 hnz, Upd.cell hu z2 hnz, Upd.cell hu z3 hnz, Upd.cell hu z4 hnz, Upd.cell hu z5 hnz, Upd.cell hu z6 hnz, Upd.cell hu r0 hnr, Upd.cell hu r1 hnr, Upd.cell hu r2 hnr, Upd.cell hu r3 hnr, Upd.cell hu r4 hnr, Upd.cell hu r5 hnr, Upd.cell hu r6 hnr⟩) (first | (go_at_call 47; refine (HTl3.out _ v1 _ _ (HM7.out.upd (Upd.refl [] W7).drew) HU7.out.drew HdP.out HRest.out).mono ?_; rintro e w9 ⟨rfl, hu9, hs9⟩; have hu := Upd.then (Upd.refl (M :: v1.ownBlock.toList) W7).drew hu9))
              have HU9 : Hid (Upd (M :: v.ownBlock.toList) w w9) := Lib.hid (MSt.trans HU5.out HV5.out (HU57.out.mono (by simp) |>.then hu))
              have HS9 := Lib.hid hs9
              have HSZ : Hid (w.heap.size ≤ W7.heap.size) := Lib.hid HU7.out.size
              clear hu hu9 hs9 q0 x6 z0 z1 z2 z3 z4 z5 z6 r0 r1 r2 r3 r4 r5 r6 HTl3
              go_wp2
              go_ret
              refine ⟨by rw [HY.out]; cases matchN ls (sameN (m' + 1)) n t (restM d p.items.length) <;> rfl, HU9.out, fun bs hb => ?_⟩
              rw [HY.out] at hb
              cases hmr : matchN ls (sameN (m' + 1)) n t (restM d p.items.length) with
              | none => rw [hmr] at hb; cases hb
              | some b9 =>
                rw [hmr] at hb
                cases hb
                obtain ⟨v2, k2, k3⟩ := HS9.out b9 hmr
                exact ⟨v2, by rw [← List.append_assoc]; exact k2, own_later HSZ.out HV5.out k3⟩
  · have hidx : idxI (againF ls) p.items = ((i + 1 : Nat) : Int) := by unfold idxI; rw [hi]
    have HC := Lib.hid (HRow.out i hi)
    rw [hidx]
    have hi0 : (0 : Int) < ((i + 1 : Nat) : Int) := by omega
    clear HUnf HRow HAll HTail HDots hidx hi HTC HTD HDB HTO
    generalize ((i + 1 : Nat) : Int) = k at *
    go_wp2_with fail
    refine (HC.out _ HU4.out).mono ?_
    rintro e w5 hp5
    have HP5 := Lib.hid (MSt.shift HU4.out.size hp5 (HU4.out.mono (by simp)))
    obtain ⟨rfl, _, _⟩ := hp5
    clear HC
    go_wp2
    go_ret
    exact HP5.out
end Go.Proofs.Ythmpaepdbjldfaa

/-
  The trees of a row.
-/
namespace Go.Proofs.Ythmpaepdbjldfaa
set_option linter.unusedVariables false
set_option linter.unusedSimpArgs false
open Go.RowKit Go.Shelf

/-- Nine cells of a tree that has no datum. -/
def zt (b : Bool) (v : Value) : List Value := [.int .i64 0, .bool false, .slice none 0 0, .bool false, .string ⟨#[]⟩, .slice none 0 0, .slice none 0 0, .bool b, v]
theorem flatten_setK {k : Nat} : ∀ {css : List (List Value)} (_ : ∀ cs ∈ css, cs.length = k) {i j : Nat} (v : Value), i < css.length → j < k → css.flatten.set (i * k + j) v = (css.set i ((css.getD i []).set j v)).flatten
  | [], _, i, j, _, hi, _ => by simp at hi
  | c :: css, h, i, j, v, hi, hj => by
    have hc := h c (by simp)
    cases i with
    | zero =>
      rw [List.flatten_cons, List.set_append_left _ _ (by omega)]
      simp
    | succ i =>
      have := flatten_setK (css := css) (fun cs hcs => h cs (by simp [hcs])) (i := i) (j := j) v (by simpa using hi) hj
      rw [List.flatten_cons, List.set_append_right _ _ (by rw [hc, Nat.add_mul]; omega), hc, show (i + 1) * k + j - k = i * k + j by rw [Nat.add_mul]; omega, this]
      simp
/-- Blocks of one's own that no tree's row is. -/
abbrev PIn (base2 T : Nat) (vs : List Value) (b : Nat) : Prop := base2 ≤ b ∧ b ≠ T ∧ ∀ v ∈ vs, v.ownBlock ≠ some b
/-- The trees: each has a row of one's own. -/
structure TSt (base2 : Nat) (W : World) (T m N : Nat) (vs : List Value) (kss : Nat → List Tr) : Prop where
  blk : Blk W T (vs.map (zt true)).flatten 64
  own : ∀ t, t < vs.length → OwnK base2 W 64 9 (IsT W (PIn base2 T vs) m N) (vs.getD t (.slice none 0 0)) (kss t)
  ne : ∀ t, t < vs.length → (vs.getD t (.slice none 0 0)).ownBlock ≠ some T
  dis : ∀ s t, s < vs.length → t < vs.length → s ≠ t → ∀ b, (vs.getD s (.slice none 0 0)).ownBlock = some b → (vs.getD t (.slice none 0 0)).ownBlock ≠ some b
theorem TSt.upd {base2 : Nat} {W W' : World} {T m N : Nat} {vs : List Value} {kss : Nat → List Tr} (h : TSt base2 W T m N vs kss) (hu : Upd [] W W') : TSt base2 W' T m N vs kss :=
  ⟨hu.blk h.blk (by simp), fun t ht => (h.own t ht).upd hu (by simp) (fun _ _ hh => hh.upd hu), h.ne, h.dis⟩
theorem zt_len (vs : List Value) (b : Bool) : ∀ cs ∈ vs.map (zt b), cs.length = 9 := by
  intro cs hc
  obtain ⟨v, _, rfl⟩ := List.mem_map.1 hc
  rfl
theorem TSt.cells {base2 : Nat} {W : World} {T m N : Nat} {vs : List Value} {kss : Nat → List Tr} (h : TSt base2 W T m N vs kss) {q : Nat} (hq : q < vs.length) :
    W.cell? ⟨T, q * 9, none⟩ = some (.int .i64 0) ∧ W.cell? ⟨T, q * 9 + 1, none⟩ = some (.bool false) ∧ W.cell? ⟨T, q * 9 + 2, none⟩ = some (.slice none 0 0) ∧ W.cell? ⟨T, q * 9 + 3, none⟩ = some (.bool false) ∧ W.cell? ⟨T, q * 9 + 4, none⟩ = some (.string ⟨#[]⟩) ∧ W.cell? ⟨T, q * 9 + 5, none⟩ = some (.slice none 0 0) ∧ W.cell? ⟨T, q * 9 + 6, none⟩ = some (.slice none 0 0) ∧ W.cell? ⟨T, q * 9 + 7, none⟩ = some (.bool true) ∧ W.cell? ⟨T, q * 9 + 8, none⟩ = some (vs.getD q (.slice none 0 0)) := by
  have hg : (vs.map (zt true)).getD q [] = zt true (vs.getD q (.slice none 0 0)) := by
    rw [List.getD_eq_getElem?_getD, List.getElem?_map, List.getD_eq_getElem?_getD, List.getElem?_eq_getElem hq]
    rfl
  have hc : ∀ j v, j < 9 → (zt true (vs.getD q (.slice none 0 0)))[j]? = some v → W.cell? ⟨T, q * 9 + j, none⟩ = some v := by
    intro j v hj hv
    rw [h.blk.cell, flatten_getK (zt_len vs true) (by simpa using hq) hj, hg, hv]
  exact ⟨hc 0 _ (by decide) rfl, hc 1 _ (by decide) rfl, hc 2 _ (by decide) rfl, hc 3 _ (by decide) rfl, hc 4 _ (by decide) rfl, hc 5 _ (by decide) rfl, hc 6 _ (by decide) rfl, hc 7 _ (by decide) rfl, hc 8 _ (by decide) rfl⟩
theorem getD_set_same {l : List Value} {q : Nat} {v d : Value} (h : q < l.length) : (l.set q v).getD q d = v := by
  rw [List.getD_eq_getElem?_getD, List.getElem?_set_self h]
  rfl
theorem getD_set_other {l : List Value} {q t : Nat} {v d : Value} (h : t ≠ q) : (l.set q v).getD t d = l.getD t d := by
  rw [List.getD_eq_getElem?_getD, List.getElem?_set_ne (Ne.symm h), ← List.getD_eq_getElem?_getD]
theorem mem_getDv {l : List Value} {t : Nat} {d : Value} (h : t < l.length) : l.getD t d ∈ l := by
  rw [List.getD_eq_getElem?_getD, List.getElem?_eq_getElem h]
  exact List.getElem_mem h
/-- One tree's row has grown by one. -/
theorem TSt.step {base2 : Nat} {W W' : World} {T m N : Nat} {vs : List Value} {kss : Nat → List Tr} (h : TSt base2 W T m N vs kss) {q : Nat} (hq : q < vs.length) {x : Tr} {v' : Value} {cs : List Value}
    (hu : Upd (T :: (vs.getD q (.slice none 0 0)).ownBlock.toList) W W') (hT : Blk W' T ((vs.set q v').map (zt true)).flatten 64) (hlt : T < W.heap.size)
    (hv : v'.ownBlock = (vs.getD q (.slice none 0 0)).ownBlock ∨ ∃ g, v'.ownBlock = some g ∧ W.heap.size ≤ g) (hx : IsT W (PIn base2 T vs) m N cs x)
    {css : List (List Value)} (h1 : css.length = (kss q).length) (h2 : ∀ i, i < (kss q).length → IsT W (PIn base2 T vs) m N (css.getD i []) ((kss q).getD i default)) (h3 : ∀ cs ∈ css, cs.length = 9 ∧ ∀ u ∈ cs, u.oneCell' = true)
    (hO : W'.ownsRow base2 64 9 v' ((kss q).length + 1) (css.flatten ++ cs)) :
    TSt base2 W' T m N (vs.set q v') (fun t => if t = q then kss q ++ [x] else kss t) := by
  have hPP : ∀ b, b < W.heap.size → PIn base2 T vs b → PIn base2 T (vs.set q v') b := by
    intro b hb hp
    refine ⟨hp.1, hp.2.1, fun v hvm e => ?_⟩
    rcases List.mem_or_eq_of_mem_set hvm with hvm | rfl
    · exact hp.2.2 v hvm e
    · rcases hv with hv | ⟨g, hv, hg⟩
      · exact hp.2.2 _ (mem_getDv hq) (hv.symm.trans e)
      · rw [hv] at e
        injection e with e
        omega
  have hcc : ∀ b o v, PIn base2 T vs b → W.cell? ⟨b, o, none⟩ = some v → W'.cell? ⟨b, o, none⟩ = some v := by
    intro b o v hp hc
    refine hu.cell hc (fun hx => ?_)
    rcases List.mem_cons.1 hx with hx | hx
    · exact hp.2.1 hx
    · exact hp.2.2 _ (mem_getDv hq) (by simpa using hx)
  have hm : ∀ {cs : List Value} {t : Tr}, IsT W (PIn base2 T vs) m N cs t → IsT W' (PIn base2 T (vs.set q v')) m N cs t := fun h => IsT.map (k := 0) hPP hcc h
  have hqo : ∀ t, t < vs.length → t ≠ q → ∀ g, (vs.getD t (.slice none 0 0)).ownBlock = some g → g ∉ T :: (vs.getD q (.slice none 0 0)).ownBlock.toList := by
    intro t ht htq g hg hx
    rcases List.mem_cons.1 hx with hx | hx
    · exact h.ne t ht (by rw [hg, hx])
    · exact h.dis t q ht hq htq g hg (by simpa using hx)
  refine ⟨hT, fun t ht => ?_, fun t ht => ?_, fun s t hs ht hst b hb => ?_⟩
  · rw [List.length_set] at ht
    by_cases htq : t = q
    · subst htq
      rw [getD_set_same hq, if_pos rfl]
      exact OwnK.adds h1 (fun i hi => hm (h2 i hi)) h3 (ns := [cs]) (ys := [x]) rfl (fun i hi => by
        have hi0 : i = 0 := by simpa using hi
        subst hi0
        exact hm hx) (fun c hc => by rw [List.mem_singleton.1 hc]; exact ⟨hx.len, hx.one⟩) (by simpa using hO)
    · rw [getD_set_other htq, if_neg htq]
      exact (h.own t ht).upd hu (hqo t ht htq) (fun _ _ hh => hm hh)
  · rw [List.length_set] at ht
    by_cases htq : t = q
    · subst htq
      rw [getD_set_same hq]
      rcases hv with hv | ⟨g, hv, hg⟩
      · rw [hv]
        exact h.ne t ht
      · rw [hv]
        intro e
        injection e with e
        omega
    · rw [getD_set_other htq]
      exact h.ne t ht
  · rw [List.length_set] at hs ht
    by_cases hsq : s = q
    · subst hsq
      rw [getD_set_same hq] at hb
      rw [getD_set_other (Ne.symm hst)]
      rcases hv with hv | ⟨g, hv, hg⟩
      · rw [hv] at hb
        exact h.dis s t hs ht hst b hb
      · rw [hv] at hb
        injection hb with hb
        intro e
        have := ((h.own t ht).lt e).2
        omega
    · rw [getD_set_other hsq] at hb
      by_cases htq : t = q
      · subst htq
        rw [getD_set_same hq]
        rcases hv with hv | ⟨g, hv, hg⟩
        · rw [hv]
          exact h.dis s t hs ht hst b hb
        · rw [hv]
          intro e
          injection e with e
          have := ((h.own s hs).lt hb).2
          omega
      · rw [getD_set_other htq]
        exact h.dis s t hs ht hst b hb
end Go.Proofs.Ythmpaepdbjldfaa

/-
  One tree's row grows by one: the stores.
-/
namespace Go.Proofs.Ythmpaepdbjldfaa
set_option linter.unusedVariables false
set_option linter.unusedSimpArgs false
open Go.RowKit Go.Shelf

/-- The append of a nought, at a step of a region. -/
theorem step_app9 {base2 : Nat} {W : World} {Z n : Nat} {v : Value} {xs zs : List Value} {ops : Array Oper} {o : Oper} {a : Act} {K : Act → World → Prop} {Q : Exit → Act → World → Prop} {E : Prop} (hgd : o.guard = none) (s x : Operand)
    (ho : o.op = .call { callee := .builtin .append, args := #[s, x], argTypes := #[62, 62] })
    (hs : a.eval s = v) (hx : a.eval x = .slice (some ⟨Z, 0, none⟩) 1 1) (hown : W.ownsRow base2 64 9 v n xs) (hB : Blk W Z zs 64) (hz : zs.length = 9) (h1 : ∀ u ∈ zs, u.oneCell' = true) (hn : n ≤ 1000000) (hbase : base2 ≤ W.heap.size)
    (h : ∀ g cap w', w'.ownsRow base2 64 9 (.slice (some ⟨g, 0, none⟩) (n + 1) cap) (n + 1) (xs ++ zs) → Upd v.ownBlock.toList W w' → (v.ownBlock = some g ∨ g = W.heap.size) → K (a.put o.dst (.slice (some ⟨g, 0, none⟩) (n + 1) cap)) w') :
    if Region.wanted o (yielded ops a.tmps) = true then Oper.wp Try.prog o a W K Q else E := by
  obtain ⟨i, hi, hz0, hz1, hz2⟩ := info_parts info_tree
  have hw : Region.wanted o (yielded ops a.tmps) = true := by simp [Region.wanted, hgd]
  rw [if_pos hw]
  obtain ⟨v', w', hr, q2, q3, _, q5⟩ := run_append_own_at (P := Try.prog) W base2 62 o.type 64 i zeroTr 9 144 Try.underlying62 hi hz0 hz1 hz2 (by rfl) (by decide) v n xs hown ⟨Z, 0, none⟩ 1 1 zs (by rw [hz])
    (fun j u hj => by
      have : (⟨Z, 0, none⟩ : Addr).add j = ⟨Z, 0 + j, none⟩ := by unfold Addr.add; split <;> simp_all
      rw [this, hB.cell, Nat.zero_add, hj]) h1 (by unfold maxLen; omega) (by omega) hbase
  have hf : ∃ g cap, v' = .slice (some ⟨g, 0, none⟩) (n + 1) cap := by
    rcases q2.2 with ⟨rfl, e⟩ | ⟨g, cap, cur, rfl, _⟩
    · omega
    · exact ⟨_, _, rfl⟩
  obtain ⟨g, cap, rfl⟩ := hf
  have hg : v.ownBlock = some g ∨ g = W.heap.size := by
    rcases q5 with q5 | q5
    · exact .inl q5.symm
    · injection q5 with q5
      exact .inr q5
  unfold Oper.wp execOp
  simp only [ho, resolve, invoke, builtin, Sem.run_bind, Sem.run_pure, Result.andThen_ok, List.map_toArray, List.map_cons, List.map_nil, hs, hx, hr]
  exact h g cap w' q2 (Upd.of_grown q3 (fun k hk => by simp [hk])) hg
/-- A row's cells may be written. -/
theorem own_cell {w : World} {base : Nat} {e : TypeId} {size g n cap : Nat} {xs : List Value} (h : w.ownsRow base e size (.slice (some ⟨g, 0, none⟩) n cap) n xs) {j : Nat} {u : Value} (hj : xs[j]? = some u) : w.cell? ⟨g, j, none⟩ = some u := by
  have := h.cells (g := g) rfl j u hj
  rwa [show (⟨g, 0, none⟩ : Addr).add j = ⟨g, j, none⟩ by unfold Addr.add; split <;> simp_all] at this
theorem own_free {w : World} {base : Nat} {e : TypeId} {size g n cap : Nat} {xs : List Value} (h : w.ownsRow base e size (.slice (some ⟨g, 0, none⟩) n cap) n xs) (j : Nat) : w.frozen? ⟨g, j, none⟩ = false := by
  rcases h.2 with ⟨h', _⟩ | ⟨g', cap', cur, h', _, hgg, _⟩
  · cases h'
  · injection h' with h1 _ _
    injection h1 with h1
    injection h1 with h1 _ _
    subst h1
    simp [World.frozen?, hgg]
/-- Nine cells stored. -/
abbrev put9 (W : World) (g k : Nat) (x0 x1 x2 x3 x4 x5 x6 x7 x8 : Value) : World :=
  ((((((((W.setCell ⟨g, k, none⟩ x0).setCell ⟨g, k + 1, none⟩ x1).setCell ⟨g, k + 2, none⟩ x2).setCell ⟨g, k + 3, none⟩ x3).setCell ⟨g, k + 4, none⟩ x4).setCell ⟨g, k + 5, none⟩ x5).setCell ⟨g, k + 6, none⟩ x6).setCell ⟨g, k + 7, none⟩ x7).setCell ⟨g, k + 8, none⟩ x8
theorem set_rightV (pre : List Value) (zs : List Value) (i : Nat) (x : Value) : (pre ++ zs).set (pre.length + i) x = pre ++ zs.set i x := by
  rw [List.set_append_right _ _ (Nat.le_add_right _ _), Nat.add_sub_cancel_left]
theorem own_put9 {W : World} {base : Nat} {e : TypeId} {g n cap k : Nat} {pre : List Value} {z0 z1 z2 z3 z4 z5 z6 z7 z8 : Value} (h : W.ownsRow base e 9 (.slice (some ⟨g, 0, none⟩) n cap) n (pre ++ [z0, z1, z2, z3, z4, z5, z6, z7, z8])) (hk : pre.length = k) (x0 x1 x2 x3 x4 x5 x6 x7 x8 : Value) :
    (put9 W g k x0 x1 x2 x3 x4 x5 x6 x7 x8).ownsRow base e 9 (.slice (some ⟨g, 0, none⟩) n cap) n (pre ++ [x0, x1, x2, x3, x4, x5, x6, x7, x8]) := by
  subst hk
  have h0 := (h.stored pre.length x0).1
  have e0 := set_rightV pre [z0, z1, z2, z3, z4, z5, z6, z7, z8] 0 x0
  rw [Nat.add_zero] at e0
  rw [e0] at h0
  have h1 := (h0.stored (pre.length + 1) x1).1
  rw [set_rightV] at h1
  have h2 := (h1.stored (pre.length + 2) x2).1
  rw [set_rightV] at h2
  have h3 := (h2.stored (pre.length + 3) x3).1
  rw [set_rightV] at h3
  have h4 := (h3.stored (pre.length + 4) x4).1
  rw [set_rightV] at h4
  have h5 := (h4.stored (pre.length + 5) x5).1
  rw [set_rightV] at h5
  have h6 := (h5.stored (pre.length + 6) x6).1
  rw [set_rightV] at h6
  have h7 := (h6.stored (pre.length + 7) x7).1
  rw [set_rightV] at h7
  have h8 := (h7.stored (pre.length + 8) x8).1
  rw [set_rightV] at h8
  exact h8
theorem Upd.put9 {S : List Nat} {W0 W : World} {g : Nat} (h : Upd S W0 W) (hg : g ∈ S ∨ W0.heap.size ≤ g) (k : Nat) (x0 x1 x2 x3 x4 x5 x6 x7 x8 : Value) : Upd S W0 (put9 W g k x0 x1 x2 x3 x4 x5 x6 x7 x8) :=
  ((((((((h.setCell x0 (p := ⟨g, k, none⟩) hg).setCell x1 (p := ⟨g, k + 1, none⟩) hg).setCell x2 (p := ⟨g, k + 2, none⟩) hg).setCell x3 (p := ⟨g, k + 3, none⟩) hg).setCell x4 (p := ⟨g, k + 4, none⟩) hg).setCell x5 (p := ⟨g, k + 5, none⟩) hg).setCell x6 (p := ⟨g, k + 6, none⟩) hg).setCell x7 (p := ⟨g, k + 7, none⟩) hg).setCell x8 (p := ⟨g, k + 8, none⟩) hg
/-- Behind the append and the stores, in either order. -/
theorem grow_fin {base2 : Nat} {W w10 W' : World} {T m N : Nat} {vs : List Value} {kss : Nat → List Tr} (h : TSt base2 W T m N vs kss) {q : Nat} (hq : q < vs.length) {x : Tr} {g cap : Nat} {css : List (List Value)} {x0 x1 x2 x3 x4 x5 x6 x7 x8 z0 z1 z2 z3 z4 z5 z6 z7 z8 : Value}
    (h1 : css.length = (kss q).length) (h2 : ∀ i, i < (kss q).length → IsT W (PIn base2 T vs) m N (css.getD i []) ((kss q).getD i default)) (h3 : ∀ cs ∈ css, cs.length = 9 ∧ ∀ u ∈ cs, u.oneCell' = true)
    (hO : w10.ownsRow base2 64 9 (.slice (some ⟨g, 0, none⟩) ((kss q).length + 1) cap) ((kss q).length + 1) (css.flatten ++ [z0, z1, z2, z3, z4, z5, z6, z7, z8]))
    (hu : Upd (vs.getD q (.slice none 0 0)).ownBlock.toList W w10) (hg : (vs.getD q (.slice none 0 0)).ownBlock = some g ∨ g = W.heap.size) (hx : IsT W (PIn base2 T vs) m N [x0, x1, x2, x3, x4, x5, x6, x7, x8] x) {k : Nat} (hk : css.flatten.length = k)
    (hW : W' = (put9 w10 g k x0 x1 x2 x3 x4 x5 x6 x7 x8).setCell ⟨T, q * 9 + 8, none⟩ (.slice (some ⟨g, 0, none⟩) ((kss q).length + 1) cap) ∨ W' = put9 (w10.setCell ⟨T, q * 9 + 8, none⟩ (.slice (some ⟨g, 0, none⟩) ((kss q).length + 1) cap)) g k x0 x1 x2 x3 x4 x5 x6 x7 x8) :
    TSt base2 W' T m N (vs.set q (.slice (some ⟨g, 0, none⟩) ((kss q).length + 1) cap)) (fun t => if t = q then kss q ++ [x] else kss t) ∧ Upd (T :: (vs.getD q (.slice none 0 0)).ownBlock.toList) W W' := by
  have hTl := h.blk.lt
  have hgT : g ≠ T := by
    rcases hg with e | e
    · intro e2
      exact h.ne q hq (by rw [e, e2])
    · omega
  have hgS : g ∈ T :: (vs.getD q (.slice none 0 0)).ownBlock.toList ∨ W.heap.size ≤ g := by
    rcases hg with e | e
    · exact .inl (by rw [e]; simp)
    · exact .inr (by omega)
  have hu10 : Upd (T :: (vs.getD q (.slice none 0 0)).ownBlock.toList) W w10 := hu.mono (fun x hx _ => List.mem_cons.2 (.inr hx))
  have hB10 : Blk w10 T (vs.map (zt true)).flatten 64 := hu.blk h.blk (fun hx => h.ne q hq (by simpa using hx))
  have hsetT : ((vs.map (zt true)).flatten.set (q * 9 + 8) (.slice (some ⟨g, 0, none⟩) ((kss q).length + 1) cap)) = ((vs.set q (.slice (some ⟨g, 0, none⟩) ((kss q).length + 1) cap)).map (zt true)).flatten := by
    rw [flatten_setK (zt_len vs true) _ (by simpa using hq) (by decide)]
    congr 1
    rw [List.map_set]
    congr 1
    rw [List.getD_eq_getElem?_getD, List.getElem?_map, List.getElem?_eq_getElem hq]
    rfl
  have hkey : Upd (T :: (vs.getD q (.slice none 0 0)).ownBlock.toList) W W' ∧ Blk W' T ((vs.set q (.slice (some ⟨g, 0, none⟩) ((kss q).length + 1) cap)).map (zt true)).flatten 64 ∧ W'.ownsRow base2 64 9 (.slice (some ⟨g, 0, none⟩) ((kss q).length + 1) cap) ((kss q).length + 1) (css.flatten ++ [x0, x1, x2, x3, x4, x5, x6, x7, x8]) := by
    rcases hW with rfl | rfl
    · refine ⟨(hu10.put9 hgS k x0 x1 x2 x3 x4 x5 x6 x7 x8).setCell _ (.inl (by simp)), ?_, ?_⟩
      · have hB := ((Upd.refl [g] w10).put9 (g := g) (.inl (by simp)) k x0 x1 x2 x3 x4 x5 x6 x7 x8).blk hB10 (by simpa using Ne.symm hgT)
        have := hB.set (q * 9 + 8) (.slice (some ⟨g, 0, none⟩) ((kss q).length + 1) cap)
        rwa [hsetT] at this
      · exact own_upd (own_put9 hO hk x0 x1 x2 x3 x4 x5 x6 x7 x8) ((Upd.refl [T] _).setCell _ (.inl (by simp))) (fun g' hg' hx => by
          have e9 : g = g' := Option.some.inj hg'
          have hx2 : g' = T := by simpa using hx
          exact hgT (e9.trans hx2))
    · have hO2 : (w10.setCell ⟨T, q * 9 + 8, none⟩ (.slice (some ⟨g, 0, none⟩) ((kss q).length + 1) cap)).ownsRow base2 64 9 (.slice (some ⟨g, 0, none⟩) ((kss q).length + 1) cap) ((kss q).length + 1) (css.flatten ++ [z0, z1, z2, z3, z4, z5, z6, z7, z8]) :=
        own_upd hO ((Upd.refl [T] _).setCell _ (.inl (by simp))) (fun g' hg' hx => by
          have e9 : g = g' := Option.some.inj hg'
          have hx2 : g' = T := by simpa using hx
          exact hgT (e9.trans hx2))
      refine ⟨(hu10.setCell _ (.inl (by simp))).put9 hgS k x0 x1 x2 x3 x4 x5 x6 x7 x8, ?_, own_put9 hO2 hk x0 x1 x2 x3 x4 x5 x6 x7 x8⟩
      have hB := hB10.set (q * 9 + 8) (.slice (some ⟨g, 0, none⟩) ((kss q).length + 1) cap)
      rw [hsetT] at hB
      exact ((Upd.refl [g] _).put9 (g := g) (.inl (by simp)) k x0 x1 x2 x3 x4 x5 x6 x7 x8).blk hB (by simpa using Ne.symm hgT)
  refine ⟨h.step hq hkey.1 hkey.2.1 hTl ?_ hx h1 h2 h3 hkey.2.2, hkey.1⟩
  rcases hg with e | e
  · exact .inl e.symm
  · exact .inr ⟨g, rfl, by omega⟩
end Go.Proofs.Ythmpaepdbjldfaa

/-
  (*match.matcher).row: one tree more.
-/
namespace Go.Proofs.Ythmpaepdbjldfaa
set_option linter.unusedVariables false
set_option linter.unusedSimpArgs false
open Go.RowKit Go.Shelf

/-- The region of a number in a code. -/
def findRegion (id : Nat) : Code → Option Code
  | .region i ops b => if i = id then some (.region i ops b) else none
  | .seq a b => match findRegion id a with
    | some c => some c
    | none => findRegion id b
  | .block _ c => findRegion id c
  | .scope c => findRegion id c
  | .loop c => findRegion id c
  | .cond _ a b => match findRegion id a with
    | some c => some c
    | none => findRegion id b
  | _ => none
noncomputable def row21 : Code := (Try.f99.body.bind (findRegion 21)).getD .skip
theorem cell_allocO {w : World} {ob : Obj} {b o : Nat} {u : Value} (hc : w.cell? ⟨b, o, none⟩ = some u) : (w.alloc ob).cell? ⟨b, o, none⟩ = some u := ((Upd.refl [] w).alloc ob).cell hc (by simp)
theorem flat9_len {css : List (List Value)} (h : ∀ cs ∈ css, cs.length = 9 ∧ ∀ u ∈ cs, u.oneCell' = true) : css.flatten.length = css.length * 9 := by
  induction css with
  | nil => simp
  | cons a l ih => rw [List.flatten_cons, List.length_append, ih (fun cs hc => h cs (by simp [hc])), (h a (by simp)).1, List.length_cons, Nat.add_mul]; omega
def zero9 : List Value := [.int .i64 0, .bool false, .slice none 0 0, .bool false, .string ⟨#[]⟩, .slice none 0 0, .slice none 0 0, .bool false, .slice none 0 0]
theorem zero9_one : ∀ u ∈ zero9, u.oneCell' = true := by
  intro u hu
  simp only [zero9, List.mem_cons, List.not_mem_nil, or_false] at hu
  rcases hu with rfl | rfl | rfl | rfl | rfl | rfl | rfl | rfl | rfl <;> rfl
set_option maxRecDepth 1000000 in
set_option maxHeartbeats 3000000 in
theorem row_region21 {Q : Exit → Act → World → Prop} {W20 : World} {base2 T kp q B lq cq : Nat} {aq : Option Addr} {css : List (List Value)} (u0 u1 u2 u3 u4 u5 u6 u7 u8 u9 u10 u11 u12 u13 u15 u16 u17 u18 u21 u22 u23 u24 u25 u26 u27 u28 u29 u30 u31 u32 u33 u34 u35 u36 u37 u38 u39 u40 u41 u42 u43 u44 u45 u46 u47 u48 u49 u50 u51 u52 u53 u54 u55 u56 u57 u58 u59 u60 u61 u62 u63 u64 u65 u66 u67 u68 u69 u70 u71 u72 u73 u74 u75 u76 u77 u78 u79 u80 u81 u82 u83 u84 u85 u86 u87 u88 u89 u90 u91 u92 u93 u94 u95 u96 u97 u98 u99 u100 u101 u102 u103 u104 u105 u106 u107 u108 u109 u110 u111 u112 u113 u114 u115 u116 u117 u118 u119 u120 u121 u122 u123 u124 u125 u126 u127 u128 u129 u130 u131 u132 u133 u134 u135 u136 u137 u138 u139 u140 u141 u142 u143 u144 u145 u146 u147 u148 u149 u150 u151 u152 u153 u154 u155 u156 u157 u158 u159 u160 u161 u162 u163 u164 u165 u166 u167 u168 u169 u170 u171 u172 u173 u174 u175 u176 u177 u178 u179 u180 u181 u182 u183 u184 u185 : Value) {nm : ByteArray} {tk : Int} {tn : Bool} {ta : Option Addr} {tl tc : Nat} {tb : Bool} {ts : ByteArray} {ti : Option Addr} {tm td : Nat} {te : Option Addr} {tf tg : Nat} {mny : Bool} {tK : Option Addr} {kln tL : Nat}
    (hB : Blk W20 B [.string nm, .int .i64 tk, .bool tn, .slice ta tl tc, .bool tb, .string ts, .slice ti tm td, .slice te tf tg, .bool mny, .slice tK kln tL] 66) (hT : W20.cell? ⟨T, q * 9 + 8, none⟩ = some (.slice aq lq cq)) (fT : ∀ j, W20.frozen? ⟨T, j, none⟩ = false) (hTB : B ≠ T)
    (hO : W20.ownsRow base2 64 9 (.slice aq lq cq) lq css.flatten) (hfl : css.flatten.length = lq * 9) (hnT : (Value.slice aq lq cq).ownBlock ≠ some T) (hnB : (Value.slice aq lq cq).ownBlock ≠ some B) (hlq : lq ≤ 1000000) (hq : q < kp) (hbase : base2 ≤ W20.heap.size)
    (hQ : ∀ (y119 y120 y121 y122 y123 y124 y125 y126 y127 y128 y129 y130 y131 : Value) (W30 w30 W40 : World) (g cap : Nat), Upd [] W20 W30 → W30.heap.size = W20.heap.size + 1 → w30.ownsRow base2 64 9 (.slice (some ⟨g, 0, none⟩) (lq + 1) cap) (lq + 1) (css.flatten ++ zero9) → Upd (Value.slice aq lq cq).ownBlock.toList W30 w30 → ((Value.slice aq lq cq).ownBlock = some g ∨ g = W30.heap.size) →
      (W40 = ((((((((((w30.setCell ⟨g, lq * 9, none⟩ (.int .i64 tk)).setCell ⟨g, lq * 9 + 1, none⟩ (.bool tn)).setCell ⟨g, lq * 9 + 2, none⟩ (.slice ta tl tc)).setCell ⟨g, lq * 9 + 3, none⟩ (.bool tb)).setCell ⟨g, lq * 9 + 4, none⟩ (.string ts)).setCell ⟨g, lq * 9 + 5, none⟩ (.slice ti tm td)).setCell ⟨g, lq * 9 + 6, none⟩ (.slice te tf tg)).setCell ⟨g, lq * 9 + 7, none⟩ (.bool mny)).setCell ⟨g, lq * 9 + 8, none⟩ (.slice tK kln tL)).setCell ⟨T, q * 9 + 8, none⟩ (.slice (some ⟨g, 0, none⟩) (lq + 1) cap)) ∨ W40 = ((((((((((w30.setCell ⟨T, q * 9 + 8, none⟩ (.slice (some ⟨g, 0, none⟩) (lq + 1) cap)).setCell ⟨g, lq * 9, none⟩ (.int .i64 tk)).setCell ⟨g, lq * 9 + 1, none⟩ (.bool tn)).setCell ⟨g, lq * 9 + 2, none⟩ (.slice ta tl tc)).setCell ⟨g, lq * 9 + 3, none⟩ (.bool tb)).setCell ⟨g, lq * 9 + 4, none⟩ (.string ts)).setCell ⟨g, lq * 9 + 5, none⟩ (.slice ti tm td)).setCell ⟨g, lq * 9 + 6, none⟩ (.slice te tf tg)).setCell ⟨g, lq * 9 + 7, none⟩ (.bool mny)).setCell ⟨g, lq * 9 + 8, none⟩ (.slice tK kln tL))) → Q .normal { tmps := #[u0, u1, u2, u3, u4, u5, u6, u7, u8, u9, u10, u11, u12, u13, .slice (some ⟨T, 0, none⟩) kp kp, u15, u16, u17, u18, .int .i64 (q : Int), .pointer (some ⟨B, 0, none⟩), u21, u22, u23, u24, u25, u26, u27, u28, u29, u30, u31, u32, u33, u34, u35, u36, u37, u38, u39, u40, u41, u42, u43, u44, u45, u46, u47, u48, u49, u50, u51, u52, u53, u54, u55, u56, u57, u58, u59, u60, u61, u62, u63, u64, u65, u66, u67, u68, u69, u70, u71, u72, u73, u74, u75, u76, u77, u78, u79, u80, u81, u82, u83, u84, u85, u86, u87, u88, u89, u90, u91, u92, u93, u94, u95, u96, u97, u98, u99, u100, u101, u102, u103, u104, u105, u106, u107, u108, u109, u110, u111, u112, u113, u114, u115, u116, u117, u118, y119, y120, y121, y122, y123, y124, y125, y126, y127, y128, y129, y130, y131, u132, u133, u134, u135, u136, u137, u138, u139, u140, u141, u142, u143, u144, u145, u146, u147, u148, u149, u150, u151, u152, u153, u154, u155, u156, u157, u158, u159, u160, u161, u162, u163, u164, u165, u166, u167, u168, u169, u170, u171, u172, u173, u174, u175, u176, u177, u178, u179, u180, u181, u182, u183, u184, u185], defers := [] } W40) :
    Code.wp Try.prog row21 Q { tmps := #[u0, u1, u2, u3, u4, u5, u6, u7, u8, u9, u10, u11, u12, u13, .slice (some ⟨T, 0, none⟩) kp kp, u15, u16, u17, u18, .int .i64 (q : Int), .pointer (some ⟨B, 0, none⟩), u21, u22, u23, u24, u25, u26, u27, u28, u29, u30, u31, u32, u33, u34, u35, u36, u37, u38, u39, u40, u41, u42, u43, u44, u45, u46, u47, u48, u49, u50, u51, u52, u53, u54, u55, u56, u57, u58, u59, u60, u61, u62, u63, u64, u65, u66, u67, u68, u69, u70, u71, u72, u73, u74, u75, u76, u77, u78, u79, u80, u81, u82, u83, u84, u85, u86, u87, u88, u89, u90, u91, u92, u93, u94, u95, u96, u97, u98, u99, u100, u101, u102, u103, u104, u105, u106, u107, u108, u109, u110, u111, u112, u113, u114, u115, u116, u117, u118, u119, u120, u121, u122, u123, u124, u125, u126, u127, u128, u129, u130, u131, u132, u133, u134, u135, u136, u137, u138, u139, u140, u141, u142, u143, u144, u145, u146, u147, u148, u149, u150, u151, u152, u153, u154, u155, u156, u157, u158, u159, u160, u161, u162, u163, u164, u165, u166, u167, u168, u169, u170, u171, u172, u173, u174, u175, u176, u177, u178, u179, u180, u181, u182, u183, u184, u185], defers := [] } W20 := by
  conv => arg 2; whnf
  have hltT : T < W20.heap.size := World.block_lt_of_cell? W20 _ hT
  have hltB := hB.lt
  obtain ⟨x0, x1, x2, x3, x4, x5, x6, x7, x8, x9⟩ : W20.cell? ⟨B, 0, none⟩ = _ ∧ W20.cell? ⟨B, 1, none⟩ = _ ∧ W20.cell? ⟨B, 2, none⟩ = _ ∧ W20.cell? ⟨B, 3, none⟩ = _ ∧ W20.cell? ⟨B, 4, none⟩ = _ ∧ W20.cell? ⟨B, 5, none⟩ = _ ∧ W20.cell? ⟨B, 6, none⟩ = _ ∧ W20.cell? ⟨B, 7, none⟩ = _ ∧ W20.cell? ⟨B, 8, none⟩ = _ ∧ W20.cell? ⟨B, 9, none⟩ = _ := ⟨hB.cell_some rfl, hB.cell_some rfl, hB.cell_some rfl, hB.cell_some rfl, hB.cell_some rfl, hB.cell_some rfl, hB.cell_some rfl, hB.cell_some rfl, hB.cell_some rfl, hB.cell_some rfl⟩
  have hq1 : (q : Int) < (kp : Int) := by omega
  have hq0 : (0 : Int) ≤ (q : Int) := by omega
  have hl1 : (lq : Int) < ((lq + 1 : Nat) : Int) := by omega
  have hl0 : (0 : Int) ≤ (lq : Int) := by omega
  have hl2 : (lq : Int) < (lq : Int) + 1 := by omega
  have fq8 := fT (q * 9 + 8)
  obtain ⟨d1, d2, d3, d4, d5, d6, d7, d8, d9⟩ : W20.drew.cell? ⟨B, 1, none⟩ = _ ∧ W20.drew.cell? ⟨B, 2, none⟩ = _ ∧ W20.drew.cell? ⟨B, 3, none⟩ = _ ∧ W20.drew.cell? ⟨B, 4, none⟩ = _ ∧ W20.drew.cell? ⟨B, 5, none⟩ = _ ∧ W20.drew.cell? ⟨B, 6, none⟩ = _ ∧ W20.drew.cell? ⟨B, 7, none⟩ = _ ∧ W20.drew.cell? ⟨B, 8, none⟩ = _ ∧ W20.drew.cell? ⟨B, 9, none⟩ = _ := ⟨x1, x2, x3, x4, x5, x6, x7, x8, x9⟩
  have hneT : B ≠ T := hTB
  have HB := Lib.hid hB
  have HO := Lib.hid hO
  have HFL := Lib.hid hfl
  have HFT := Lib.hid fT
  have HNT := Lib.hid hnT
  have HNB := Lib.hid hnB
  have HQ := Lib.hid hQ
  clear hB hO hfl fT hnT hnB hQ hq
  refine wp_region_noPanic ?_
  go_region_law ((try dsimp (config := { proj := false }) only [List.getElem_toArray, List.getElem_cons_succ, List.getElem_cons_zero]); (first
    | (refine step_app9 rfl _ _ rfl (v := .slice aq lq cq) (n := lq) (xs := css.flatten) (zs := zero9) rfl rfl (own_upd0 HO.out ((Upd.refl [] W20).drew.alloc _)) (Blk.newAt rfl) rfl zero9_one hlq (Nat.le_trans hbase ((Upd.refl [] W20).drew.alloc _).size) ?_; rintro g cap w30 hO30 hu30 hg30; have hBn : B ∉ (Value.slice aq lq cq).ownBlock.toList := (fun hx => HNB.out (by simpa using hx)); have x1 := Upd.cell hu30 (cell_allocO d1) hBn; have x2 := Upd.cell hu30 (cell_allocO d2) hBn; have x3 := Upd.cell hu30 (cell_allocO d3) hBn; have x4 := Upd.cell hu30 (cell_allocO d4) hBn; have x5 := Upd.cell hu30 (cell_allocO d5) hBn; have x6 := Upd.cell hu30 (cell_allocO d6) hBn; have x7 := Upd.cell hu30 (cell_allocO d7) hBn; have x8 := Upd.cell hu30 (cell_allocO d8) hBn; have x9 := Upd.cell hu30 (cell_allocO d9) hBn; have hT30 := Upd.cell hu30 (cell_allocO hT) (fun hx => HNT.out (by simpa using hx)); have hneg : B ≠ g := (fun e => by rcases hg30 with h | h; exact HNB.out (by rw [h, e]); simp at h; omega); have hngT : T ≠ g := (fun e => by rcases hg30 with h | h; exact HNT.out (by rw [h, e]); simp at h; omega); have hngT2 : g ≠ T := Ne.symm hngT; have e0 := own_cell hO30 (j := lq * 9) (u := (.int .i64 0)) (by rw [List.getElem?_append_right (by rw [HFL.out]; omega), HFL.out, show lq * 9 - lq * 9 = 0 by omega]; rfl); have f0 := own_free hO30 (lq * 9); have e1 := own_cell hO30 (j := lq * 9 + 1) (u := (.bool false)) (by rw [List.getElem?_append_right (by rw [HFL.out]; omega), HFL.out, show lq * 9 + 1 - lq * 9 = 1 by omega]; rfl); have f1 := own_free hO30 (lq * 9 + 1); have e2 := own_cell hO30 (j := lq * 9 + 2) (u := (.slice none 0 0)) (by rw [List.getElem?_append_right (by rw [HFL.out]; omega), HFL.out, show lq * 9 + 2 - lq * 9 = 2 by omega]; rfl); have f2 := own_free hO30 (lq * 9 + 2); have e3 := own_cell hO30 (j := lq * 9 + 3) (u := (.bool false)) (by rw [List.getElem?_append_right (by rw [HFL.out]; omega), HFL.out, show lq * 9 + 3 - lq * 9 = 3 by omega]; rfl); have f3 := own_free hO30 (lq * 9 + 3); have e4 := own_cell hO30 (j := lq * 9 + 4) (u := (.string ⟨#[]⟩)) (by rw [List.getElem?_append_right (by rw [HFL.out]; omega), HFL.out, show lq * 9 + 4 - lq * 9 = 4 by omega]; rfl); have f4 := own_free hO30 (lq * 9 + 4); have e5 := own_cell hO30 (j := lq * 9 + 5) (u := (.slice none 0 0)) (by rw [List.getElem?_append_right (by rw [HFL.out]; omega), HFL.out, show lq * 9 + 5 - lq * 9 = 5 by omega]; rfl); have f5 := own_free hO30 (lq * 9 + 5); have e6 := own_cell hO30 (j := lq * 9 + 6) (u := (.slice none 0 0)) (by rw [List.getElem?_append_right (by rw [HFL.out]; omega), HFL.out, show lq * 9 + 6 - lq * 9 = 6 by omega]; rfl); have f6 := own_free hO30 (lq * 9 + 6); have e7 := own_cell hO30 (j := lq * 9 + 7) (u := (.bool false)) (by rw [List.getElem?_append_right (by rw [HFL.out]; omega), HFL.out, show lq * 9 + 7 - lq * 9 = 7 by omega]; rfl); have f7 := own_free hO30 (lq * 9 + 7); have e8 := own_cell hO30 (j := lq * 9 + 8) (u := (.slice none 0 0)) (by rw [List.getElem?_append_right (by rw [HFL.out]; omega), HFL.out, show lq * 9 + 8 - lq * 9 = 8 by omega]; rfl); have f8 := own_free hO30 (lq * 9 + 8); have fT8 : w30.frozen? ⟨T, q * 9 + 8, none⟩ = false := ((hu30.frozen (p := ⟨T, q * 9 + 8, none⟩) (by simp; omega) (fun hx => HNT.out (by simpa using hx))).trans (((Upd.refl [] W20).drew.alloc _).frozen (p := ⟨T, q * 9 + 8, none⟩) hltT (by simp) |>.trans fq8)); have hlg := World.block_lt_of_cell? w30 _ e0; have hlT30 := World.block_lt_of_cell? w30 _ hT30)))
  all_goals refine NoPanic.normal ?_
  all_goals exact HQ.out _ _ _ _ _ _ _ _ _ _ _ _ _ _ w30 _ g cap ((Upd.refl [] W20).alloc _).drew (by simp) hO30 hu30 hg30 (by first | exact .inl (by with_reducible rfl) | exact .inr (by with_reducible rfl))
end Go.Proofs.Ythmpaepdbjldfaa
