/-
  Texts of this claim, merged: GexC. Lemmas and contracts; no conditions of our own.
-/
import Derived.Test.YthmpaepdbjldfaaG24
import Derived.Laws.Closers25b

/-
  datum.good, exactly: the walk.
-/
namespace Go.Proofs.Ythmpaepdbjldfaa
set_option linter.unusedVariables false
set_option linter.unusedSimpArgs false
open Go.RowKit

theorem goodN_not {n : Nat} {d : Dat} (h : ¬ PlainD d) : goodN (n + 1) d = false := by
  unfold goodN
  rw [decide_eq_false h, Bool.false_and]
set_option maxRecDepth 100000 in
set_option maxHeartbeats 4000000 in
theorem good_step (n : Nat) (ih : GoodSaid n) : GoodSaid (n + 1) := by
  intro d cs w h hs
  have h0 := h
  obtain ⟨aL, cL, aI, cI, aT, cT, rfl, l1, r1, r2, hcap, hbd⟩ := h
  have hu1 : Upd [] w (w.alloc (.cells #[.int .i64 d.kind, .bool d.neg, .slice aL d.limbs.length cL, .bool d.b, .string d.s, .slice aI d.items.length cI, .slice aT d.tail.length cT] 27)) := (Upd.refl [] w).alloc _
  have hsz : 1 + szL (szN n) d.items + szL (szN n) d.tail ≤ 100000 := by rw [szN] at hs; exact hs
  have hlen : (d.items ++ d.tail).length ≤ 100000 := by
    have h1 := len_le_szL (szN_pos n) d.items
    have h2 := len_le_szL (szN_pos n) d.tail
    rw [List.length_append]
    omega
  have hBk := Lib.hid (blank_calls (h0.upd hu1))
  have hPt := Lib.hid (fun (W : World) (hu : Upd [] w W) => parts_calls (h0.upd hu) (by rw [List.length_append] at hlen; exact hlen))
  have hWG := Lib.hid (fun (W : World) (hu : Upd [] w W) => wholeGood_calls d.neg d.limbs.length cL rfl (l1.upd0 hu) hbd.2.2.1 hbd.2.1)
  have hCF := Lib.hid (fun (W : World) (a : Option Addr) (c : Nat) (hr : RowOf W (fun _ => True) (IsD W (fun _ => True) n) a (d.items ++ d.tail)) => containsFunc_calls ih (d.items ++ d.tail).length c rfl hr (by rw [szL_append]; omega) hlen)
  have hT0 := Lib.hid (show ∀ (W : World), Upd [] w W → 0 < d.tail.length → ∃ b o, aT = some ⟨b, o, none⟩ ∧ W.cell? ⟨b, o, none⟩ = some (.int .i64 (d.tail.getD 0 default).kind) from fun W hu h1 => by
    obtain ⟨b, o, cs, e, _, hat, hd⟩ := r2 0 h1
    rw [Nat.zero_mul, Nat.add_zero] at hat
    obtain ⟨a1, c1, a2, c2, a3, c3, rfl⟩ := cells_agg hd
    have := (hat.upd hu (by simp)).cells.1
    exact ⟨b, o, e, this⟩)
  have hGN := Lib.hid (fun h => goodN_not (n := n) (d := d) h)
  have hGU : goodN (n + 1) d = (decide (PlainD d) && (if d.kind = 0 ∨ d.kind = 2 then true else if d.kind = 1 then wgB d.neg d.limbs && decide ((d.limbs.length : Int) ≤ 64)
      else if d.kind = 3 then decide (d.s.toList ≠ [] ∧ (d.s.size : Int) ≤ 64) else if d.kind = 4 then decide ((d.s.size : Int) ≤ 1024) else if d.kind = 5 then decide (tailOk d) && (d.items ++ d.tail).all (goodN n) else false)) := rfl
  have HGU := Lib.hid hGU
  clear hGU
  obtain ⟨GG, hGG⟩ : ∃ GG, GG = goodN (n + 1) d := ⟨_, rfl⟩
  rw [← hGG] at HGU hGN ⊢
  clear hGG
  obtain ⟨q, hq⟩ : ∃ q, q = (d.items ++ d.tail).length := ⟨_, rfl⟩
  rw [← hq] at hPt hCF
  clear hq
  have HU1 := Lib.hid hu1
  have hBX := Lib.hid (Blk.new w [.int .i64 d.kind, .bool d.neg, .slice aL d.limbs.length cL, .bool d.b, .string d.s, .slice aI d.items.length cI, .slice aT d.tail.length cT] 27)
  obtain ⟨kd, hkd⟩ : ∃ k, k = d.kind := ⟨_, rfl⟩
  have HKD := Lib.hid hkd
  have hlI : d.items.length ≤ 100000 := by rw [List.length_append] at hlen; omega
  have hlT : d.tail.length ≤ 100000 := by rw [List.length_append] at hlen; omega
  clear h0 hs l1 r1 r2 hcap hbd hu1 hsz hlen ih
  unfold datCells BlankPost at *
  rw [← hkd] at hBk hPt hBX HU1 HGU ⊢
  clear hkd
  go_enter Try.func67, Try.ntmps67
  go_wp2_with fail
  refine hBk.out.mono ?_
  rintro e w2 ⟨⟨ng, aL', nL, cL', bb, ss, aI', nI, cI', aT', nT, cT', rfl, hb1, hb2, hPl⟩, hu2⟩
  have hx2 := hu2.blk hBX.out (by simp)
  obtain ⟨x0, x1, x2, x3, x4, x5, x6⟩ := Blk.seven hx2
  have hlt := hx2.lt
  have HX2 := Lib.hid hx2
  have HU2 := Lib.hid (HU1.out.then hu2)
  have HPL := Lib.hid hPl
  unfold datCells
  clear hBk hx2 hu2 hPl HU1 hBX
  have hw : IntKind.i64.wrap ((nI : Int) + (nT : Int)) = (nI : Int) + (nT : Int) := IntWalk.i64_in _ (by omega)
  have hu3 : ∀ o, Upd [] w (w2.alloc o) := fun o => HU2.out.alloc o
  have HU3 := Lib.hid hu3
  clear hu3
  by_cases g1 : ng = true
  · subst g1
    have E9 := Lib.hid (hGN.out (fun h => by simpa using HPL.out.2 h))
    go_wp2
    go_ret
    exact ⟨by rw [E9.out]; rfl, HU3.out _⟩
  have g1 : ng = false := by simpa using g1
  subst g1
  by_cases g2 : 0 < nL
  · have g2' : (0 : Int) < (nL : Int) := by omega
    have E9 := Lib.hid (hGN.out (fun h => by have := (HPL.out.2 h).2.1; omega))
    go_wp2
    go_ret
    exact ⟨by rw [E9.out]; rfl, HU3.out _⟩
  have g2 : nL = 0 := by omega
  subst g2
  by_cases g3 : bb = true
  · subst g3
    have E9 := Lib.hid (hGN.out (fun h => by simpa using (HPL.out.2 h).2.2.1))
    go_wp2
    go_ret
    exact ⟨by rw [E9.out]; rfl, HU3.out _⟩
  have g3 : bb = false := by simpa using g3
  subst g3
  by_cases g4 : ¬ ss.toList = []
  · have E9 := Lib.hid (hGN.out (fun h => g4 ((toList_nil_iff_emptyBytes ss).2 (HPL.out.2 h).2.2.2.1)))
    go_wp2
    go_ret
    exact ⟨by rw [E9.out]; rfl, HU3.out _⟩
  have g4 : ss = ⟨#[]⟩ := (toList_nil_iff_emptyBytes ss).1 (Classical.not_not.1 g4)
  subst g4
  by_cases g5 : 0 < nI + nT
  · have g5' : (0 : Int) < (nI : Int) + (nT : Int) := by omega
    have E9 := Lib.hid (hGN.out (fun h => by have := (HPL.out.2 h).2.2.2.2; omega))
    go_wp2
    go_ret
    exact ⟨by rw [E9.out]; rfl, HU3.out _⟩
  have g5' : ¬ (0 : Int) < (nI : Int) + (nT : Int) := by omega
  have hPD : PlainD d := HPL.out.1 ⟨rfl, rfl, rfl, rfl, by omega⟩
  have hgu := HGU.out
  rw [decide_eq_true hPD, Bool.true_and] at hgu
  have HG := Lib.hid hgu
  clear HPL hPD hGN HGU hgu
  by_cases h1 : kd = 1
  · subst h1
    have hg : GG = (wgB d.neg d.limbs && decide ((d.limbs.length : Int) ≤ 64)) := HG.out
    have HG1 := Lib.hid hg
    clear hg HG hPt hCF hT0
    obtain ⟨r, hr⟩ : ∃ r, r = wgB d.neg d.limbs := ⟨_, rfl⟩
    rw [← hr] at HG1 hWG
    clear hr
    go_wp2_with fail
    refine (hWG.out _ (HU3.out _)).mono ?_
    rintro e w4 ⟨rfl, hu4⟩
    have hx4 := hu4.blk (HX2.out.alloc _) (by simp)
    obtain ⟨x0, x1, x2, x3, x4, x5, x6⟩ := Blk.seven hx4
    have HU4 := Lib.hid ((HU3.out _).then hu4)
    clear hu4 hx4 hWG
    cases r with
    | false =>
      go_wp2
      go_ret
      exact ⟨by rw [HG1.out]; rfl, HU4.out⟩
    | true =>
      generalize d.limbs.length = nl at *
      go_wp2
      go_ret
      exact ⟨by rw [HG1.out]; rfl, HU4.out⟩
  by_cases h5 : kd = 5
  · subst h5
    have hg : GG = (decide (tailOk d) && (d.items ++ d.tail).all (goodN n)) := HG.out
    have HG5 := Lib.hid hg
    clear hg HG hWG
    by_cases t2 : 1 < d.tail.length
    · have t2' : (1 : Int) < ((d.tail.length : Nat) : Int) := by omega
      have E9 : Hid (GG = false) := Lib.hid (by rw [HG5.out, decide_eq_false (fun h => by unfold tailOk at h; omega), Bool.false_and])
      clear HG5
      generalize d.tail.length = nt at *
      generalize d.items.length = ni at *
      go_wp2
      go_ret
      exact ⟨by rw [E9.out]; rfl, HU3.out _⟩
    have t2' : ¬ (1 : Int) < ((d.tail.length : Nat) : Int) := by omega
    by_cases t1 : d.tail.length = 1
    · by_cases i0 : d.items.length = 0
      · have E9 : Hid (GG = false) := Lib.hid (by rw [HG5.out, decide_eq_false (fun h => by unfold tailOk at h; omega), Bool.false_and])
        clear HG5 hPt hCF hT0
        generalize d.tail.length = nt at *
        generalize d.items.length = ni at *
        subst t1
        subst i0
        go_wp2
        go_ret
        exact ⟨by rw [E9.out]; rfl, HU3.out _⟩
      · obtain ⟨b, o, rfl, hc⟩ := hT0.out _ (HU3.out (.cells #[.int .i64 5, .bool false, .slice aL' 0 cL', .bool false, .string ⟨#[]⟩, .slice aI' nI cI', .slice aT' nT cT'] 27)) (by omega)
        have i0' : ¬ ((d.items.length : Nat) : Int) = 0 := by omega
        have b0 : (((d.items.length : Nat) : Int) == 0) = false := by simpa using i0'
        have htk : tailOk d ↔ (d.tail.getD 0 default).kind ≠ 5 := by unfold tailOk; omega
        obtain ⟨kt, hkt⟩ : ∃ kt, kt = (d.tail.getD 0 default).kind := ⟨_, rfl⟩
        rw [← hkt] at hc htk
        have HTK := Lib.hid htk
        clear hkt htk
        by_cases hk5 : kt = 5
        · subst hk5
          have E9 : Hid (GG = false) := Lib.hid (by rw [HG5.out, decide_eq_false (fun h => HTK.out.1 h rfl), Bool.false_and])
          clear HG5 hPt hCF hT0 HTK
          generalize d.tail.length = nt at *
          generalize d.items.length = ni at *
          subst t1
          go_wp2
          go_ret
          exact ⟨by rw [E9.out]; rfl, HU3.out _⟩
        · have E9 : Hid (GG = (d.items ++ d.tail).all (goodN n)) := Lib.hid (by rw [HG5.out, decide_eq_true (HTK.out.2 hk5), Bool.true_and])
          have b5 : (kt == 5) = false := by simpa using hk5
          clear HG5 hT0 HTK
          generalize (d.items ++ d.tail).all (goodN n) = al at *
          generalize d.tail.length = nt at *
          generalize d.items.length = ni at *
          subst t1
          go_wp2_with fail
          refine (hPt.out _ (HU3.out _)).mono ?_
          rintro e w4 ⟨⟨ap, cp, rfl, hrow⟩, hu4⟩
          have HU4 := Lib.hid ((HU3.out _).then hu4)
          have HC4 := Lib.hid (hCF.out w4 ap cp hrow)
          clear hu4 hrow hPt hCF
          go_wp2_with fail
          refine HC4.out.mono ?_
          rintro e w5 ⟨rfl, hu5⟩
          have HU5 := Lib.hid (HU4.out.then hu5)
          clear hu5 HC4
          go_wp2
          go_ret
          exact ⟨by rw [E9.out]; simp, HU5.out⟩
    · have t0 : d.tail.length = 0 := by omega
      have E9 : Hid (GG = (d.items ++ d.tail).all (goodN n)) := Lib.hid (by rw [HG5.out, decide_eq_true (show tailOk d from .inl t0), Bool.true_and])
      clear HG5 hT0
      generalize (d.items ++ d.tail).all (goodN n) = al at *
      generalize d.tail.length = nt at *
      generalize d.items.length = ni at *
      subst t0
      go_wp2_with fail
      refine (hPt.out _ (HU3.out _)).mono ?_
      rintro e w4 ⟨⟨ap, cp, rfl, hrow⟩, hu4⟩
      have HU4 := Lib.hid ((HU3.out _).then hu4)
      have HC4 := Lib.hid (hCF.out w4 ap cp hrow)
      clear hu4 hrow hPt hCF
      go_wp2_with fail
      refine HC4.out.mono ?_
      rintro e w5 ⟨rfl, hu5⟩
      have HU5 := Lib.hid (HU4.out.then hu5)
      clear hu5 HC4
      go_wp2
      go_ret
      exact ⟨by rw [E9.out]; simp, HU5.out⟩
  clear hWG hPt hCF hT0
  by_cases h0 : kd = 0
  · subst h0
    have E9 : Hid (GG = true) := HG
    clear HG
    go_wp2
    go_ret
    exact ⟨by rw [E9.out]; rfl, HU3.out _⟩
  by_cases h2 : kd = 2
  · subst h2
    have E9 : Hid (GG = true) := HG
    clear HG
    go_wp2
    go_ret
    exact ⟨by rw [E9.out]; rfl, HU3.out _⟩
  by_cases h3 : kd = 3
  · subst h3
    have hg : GG = decide (d.s.toList ≠ [] ∧ (d.s.size : Int) ≤ 64) := HG.out
    have HG3 := Lib.hid hg
    clear hg HG
    obtain ⟨z, hz⟩ : ∃ z, z = d.s := ⟨_, rfl⟩
    rw [← hz] at HG3 HX2 x4 ⊢
    clear hz
    by_cases hz0 : z.toList = []
    · have E9 : Hid (GG = false) := Lib.hid (by rw [HG3.out, decide_eq_false (fun h => h.1 hz0)])
      clear HG3
      go_wp2
      go_ret
      exact ⟨by rw [E9.out]; rfl, HU3.out _⟩
    · have E9 : Hid (GG = decide ((z.size : Int) ≤ 64)) := Lib.hid (by rw [HG3.out]; simp [hz0])
      have hz1 : (!z.toList.isEmpty) = true := by simpa using hz0
      clear HG3
      go_wp2
      go_ret
      exact ⟨by rw [E9.out]; rfl, HU3.out _⟩
  by_cases h4 : kd = 4
  · subst h4
    have E9 : Hid (GG = decide ((d.s.size : Int) ≤ 1024)) := HG
    clear HG
    generalize d.s = z at *
    go_wp2
    go_ret
    exact ⟨by rw [E9.out]; rfl, HU3.out _⟩
  have E9 : Hid (GG = false) := Lib.hid (by rw [HG.out, if_neg (by omega), if_neg h1, if_neg h3, if_neg h4, if_neg h5])
  clear HG
  have b1 : (kd == 1) = false := by simpa using h1
  have b0 : (kd == 0) = false := by simpa using h0
  have b2 : (kd == 2) = false := by simpa using h2
  have b3 : (kd == 3) = false := by simpa using h3
  have b4 : (kd == 4) = false := by simpa using h4
  have b5 : (kd == 5) = false := by simpa using h5
  go_wp2
  go_ret
  exact ⟨by rw [E9.out]; rfl, HU3.out _⟩
theorem good_calls : ∀ n, GoodSaid n
  | 0 => fun _ _ _ h => h.elim
  | n + 1 => good_step n (good_calls n)
set_option maxRecDepth 100000 in
set_option maxHeartbeats 1500000 in
theorem Good_calls {P : Nat → Prop} {n : Nat} {d : Dat} {cs : List Value} {w : World} (h : IsD w P n cs d) (hs : szN n d ≤ 100000) :
    Calls Try.prog 46 #[.agg cs.toArray] w fun e w' => e = .returned (.bool (decide (0 ≤ budN n d 5000 200) && goodN n d)) ∧ Upd [] w w' := by
  obtain ⟨k1, n1, a1, l1, p1, b1, s1, i1, m1, d1, t1, o1, q1, rfl⟩ := h.shaped
  have hC := Lib.hid (fun (W : World) (hu : Upd [] w W) => within_calls P n d _ W 5000 200 (h.upd hu) (by omega) (by omega) (by omega) (by omega))
  have hG := Lib.hid (fun (W : World) (hu : Upd [] w W) => good_calls n d _ W ((h.upd hu).mono fun _ _ _ => trivial) hs)
  have hB := Lib.hid (Blk.new w [.int .i64 k1, .bool n1, .slice a1 l1 p1, .bool b1, .string s1, .slice i1 m1 d1, .slice t1 o1 q1] 27)
  have hU := Lib.hid ((Upd.refl [] w).alloc (.cells #[.int .i64 k1, .bool n1, .slice a1 l1 p1, .bool b1, .string s1, .slice i1 m1 d1, .slice t1 o1 q1] 27))
  clear h hs
  unfold datCells at *
  obtain ⟨r, hr⟩ : ∃ r, r = budN n d 5000 200 := ⟨_, rfl⟩
  rw [← hr] at hC ⊢
  clear hr
  generalize goodN n d = g at *
  go_enter Try.func46, Try.ntmps46
  go_wp2_with fail
  refine (hC.out _ hU.out).mono ?_
  rintro e w2 ⟨rfl, hu2⟩
  have hx2 := hu2.blk hB.out (by simp)
  obtain ⟨x0, x1, x2, x3, x4, x5, x6⟩ := Blk.seven hx2
  have HU2 := Lib.hid (hU.out.then hu2)
  clear hu2 hx2 hB hU hC
  by_cases h0 : (0 : Int) ≤ r
  · have E9 := Lib.hid (decide_eq_true h0)
    go_wp2_with fail
    refine (hG.out _ HU2.out).mono ?_
    rintro e w3 ⟨rfl, hu3⟩
    have HU3 := Lib.hid (HU2.out.then hu3)
    clear hu3 hG
    go_wp2
    go_ret
    exact ⟨by rw [E9.out, Bool.true_and]; rfl, HU3.out⟩
  · have E9 := Lib.hid (decide_eq_false h0)
    go_wp2
    go_ret
    exact ⟨by rw [E9.out]; rfl, HU2.out⟩
end Go.Proofs.Ythmpaepdbjldfaa
