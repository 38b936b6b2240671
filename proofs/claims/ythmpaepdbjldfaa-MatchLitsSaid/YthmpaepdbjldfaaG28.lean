/-
  Texts of this claim, merged: SamY. Lemmas and contracts; no conditions of our own.
-/
import Derived.Test.YthmpaepdbjldfaaG2
import Derived.Test.YthmpaepdbjldfaaG24
import Derived.Test.YthmpaepdbjldfaaG27

/-
  datum.same, datum.Same of any data.
-/
namespace Go.Proofs.Ythmpaepdbjldfaa
set_option linter.unusedVariables false
set_option linter.unusedSimpArgs false
open Go.RowKit

def sameL (f : Dat → Dat → Bool) (xs ys : List Dat) : Bool := decide (xs.length = ys.length) && (List.range xs.length).all (fun i => f (xs.getD i default) (ys.getD i default))
def sameN : Nat → Dat → Dat → Bool
  | 0, _, _ => false
  | n + 1, a, b => decide (a.kind = b.kind) && (decide (a.b = b.b) && (decide (a.s = b.s) && (decide (normI a.neg a.limbs = normI b.neg b.limbs) && (sameL (sameN n) a.items b.items && sameL (sameN n) a.tail b.tail))))
theorem sameL_len {f : Dat → Dat → Bool} {xs ys : List Dat} (h : ¬ xs.length = ys.length) : sameL f xs ys = false := by simp [sameL, h]
theorem sameL_no {f : Dat → Dat → Bool} {xs ys : List Dat} {i : Nat} (hi : i < xs.length) (h : f (xs.getD i default) (ys.getD i default) = false) : sameL f xs ys = false := by
  unfold sameL
  have : (List.range xs.length).all (fun i => f (xs.getD i default) (ys.getD i default)) = false := by
    rw [List.all_eq_false]
    exact ⟨i, by simpa using hi, by rw [h]; simp⟩
  rw [this, Bool.and_false]
theorem sameL_yes {f : Dat → Dat → Bool} {xs ys : List Dat} (hl : xs.length = ys.length) (h : ∀ i, i < xs.length → f (xs.getD i default) (ys.getD i default) = true) : sameL f xs ys = true := by
  unfold sameL
  rw [decide_eq_true hl, Bool.true_and, List.all_eq_true]
  intro i hi
  exact h i (by simpa using hi)
/-- Two data. -/
def SameXSaid (n : Nat) : Prop := ∀ (a b : Dat) (cs cs' : List Value) (w : World), IsD w (fun _ => True) n cs a → IsD w (fun _ => True) n cs' b →
    Calls Try.prog 101 #[.agg cs.toArray, .agg cs'.toArray] w fun e w' => e = .returned (.bool (sameN n a b)) ∧ Upd [] w w'
set_option maxRecDepth 100000 in
set_option maxHeartbeats 1500000 in
theorem equalFuncX_calls {n : Nat} (ih : SameXSaid n) {w : World} {a a' : Option Addr} {ds es : List Dat} (m m' c c' : Nat) (hm : ds.length = m) (hm' : es.length = m') (h : RowOf w (fun _ => True) (IsD w (fun _ => True) n) a ds) (h' : RowOf w (fun _ => True) (IsD w (fun _ => True) n) a' es) (hb : m ≤ 35184372088832) (hb' : m' ≤ 35184372088832) :
    Calls Try.prog 108 #[.slice a m c, .slice a' m' c', .func (.func 101) #[] #[]] w fun e w' => e = .returned (.bool (sameL (sameN n) ds es)) ∧ Upd [] w w' := by
  have IH := Lib.hid ih
  have HR := Lib.hid h
  have HR' := Lib.hid h'
  have HM := Lib.hid hm
  have HM' := Lib.hid hm'
  clear ih h h' hm hm'
  by_cases hmm : m = m'
  · subst hmm
    have HL : Hid (ds.length = es.length) := Lib.hid (by rw [HM.out, HM'.out])
    go_enter Try.func108, Try.ntmps108
    go_wp2_with fail
    go_loopw [17] (fun i wr => ∃ j : Nat, j ≤ m ∧ i = .int .i64 j ∧ Hid (∀ i, i < j → sameN n (ds.getD i default) (es.getD i default) = true) ∧ Hid (Upd [] w wr)) (fun i _ => m - (intOf i).toNat)
    case atStart => exact ⟨0, by omega, rfl, Lib.hid (fun i hi => by omega), Lib.hid (Upd.refl _ _)⟩
    case round =>
      obtain ⟨j, hj, rfl, hG, hU⟩ := hrel
      by_cases hlt : j < m
      · have hjd : j < ds.length := by rw [HM.out]; exact hlt
        have hje : j < es.length := by rw [HM'.out]; exact hlt
        obtain ⟨b, o, cs, rfl, _, hat, hd0⟩ := HR.out j hjd
        obtain ⟨b', o', cs', rfl, _, hat', hd0'⟩ := HR'.out j hje
        have HNO : Hid (sameN n (ds.getD j default) (es.getD j default) = false → sameL (sameN n) ds es = false) := Lib.hid (fun h => sameL_no hjd h)
        have HYES : Hid (sameN n (ds.getD j default) (es.getD j default) = true → ∀ i, i < j + 1 → sameN n (ds.getD i default) (es.getD i default) = true) := Lib.hid (fun h i hi => by
          by_cases hij : i < j
          · exact hG.out i hij
          · rw [show i = j by omega]
            exact h)
        obtain ⟨x, hx⟩ : ∃ x, x = ds.getD j default := ⟨_, rfl⟩
        rw [← hx] at hd0 HNO HYES
        obtain ⟨y, hy⟩ : ∃ y, y = es.getD j default := ⟨_, rfl⟩
        rw [← hy] at hd0' HNO HYES
        clear hx hy
        obtain ⟨k1, n1, a1, l1, p1, b1, s1, i1, m1, d1, t1, o1, q1, rfl⟩ := hd0.shaped
        obtain ⟨k2, n2, a2, l2, p2, b2, s2, i2, m2, d2, t2, o2, q2, rfl⟩ := hd0'.shaped
        obtain ⟨x0, x1, x2, x3, x4, x5, x6⟩ := (hat.upd hU.out (by simp)).cells
        obtain ⟨y0, y1, y2, y3, y4, y5, y6⟩ := (hat'.upd hU.out (by simp)).cells
        have hbl : b' < wr.heap.size := (hat'.upd hU.out (by simp)).lt
        have HC := Lib.hid (fun (W : World) (hu : Upd [] w W) => IH.out x y _ _ W (hd0.upd hu) (hd0'.upd hu))
        obtain ⟨r, hr⟩ : ∃ r, r = sameN n x y := ⟨_, rfl⟩
        rw [← hr] at HC HNO HYES
        unfold datCells at HC
        clear hat hat' hd0 hd0' hr hG
        go_wp2_with fail
        refine (HC.out _ ((hU.out.alloc _).alloc _)).mono ?_
        rintro e w5 ⟨rfl, hu5⟩
        have HU5 := Lib.hid (((hU.out.alloc _).alloc _).then hu5)
        clear HC hu5 x0 x1 x2 x3 x4 x5 x6 y0 y1 y2 y3 y4 y5 y6
        cases r with
        | true =>
          have HX := Lib.hid (HYES.out rfl)
          clear HNO HYES
          go_wp2
          go_roundw
          case rel => exact ⟨j + 1, by omega, by go_num, HX, HU5⟩
          case measure => simp [intOf]; omega
        | false =>
          have HX := Lib.hid (HNO.out rfl)
          clear HNO HYES
          go_wp2
          go_ret
          exact ⟨by rw [HX.out]; rfl, HU5.out⟩
      · have hjm : j = m := by omega
        subst hjm
        have HX : Hid (sameL (sameN n) ds es = true) := Lib.hid (sameL_yes HL.out (fun i hi => hG.out i (by rw [← HM.out]; exact hi)))
        clear hG
        go_wp2
        go_ret
        exact ⟨by rw [HX.out]; rfl, hU.out⟩
  · have HX : Hid (sameL (sameN n) ds es = false) := Lib.hid (sameL_len (by rw [HM.out, HM'.out]; exact hmm))
    have hmm' : ¬ (m : Int) = (m' : Int) := by omega
    go_enter Try.func108, Try.ntmps108
    go_wp2
    go_ret
    exact ⟨by rw [HX.out]; rfl, Upd.refl _ _⟩
set_option maxRecDepth 100000 in
set_option maxHeartbeats 1500000 in
theorem sameX_step (n : Nat) (ih : SameXSaid n) : SameXSaid (n + 1) := by
  intro d f cs cs' w h h'
  obtain ⟨aL, cL, aI, cI, aT, cT, rfl, l1, r1, r2, hcap, hbd⟩ := h
  obtain ⟨aL', cL', aI', cI', aT', cT', rfl, l1', r1', r2', hcap', hbd'⟩ := h'
  have hC := Lib.hid (fun (W : World) (hu : Upd [] w W) => wholeCmpX_calls d.neg f.neg d.limbs.length f.limbs.length cL cL' rfl rfl (l1.upd0 hu) (l1'.upd0 hu) hcap.1 hcap'.1 hbd.2.2.1 hbd'.2.2.1 hbd.2.1 hbd'.2.1)
  have hI := Lib.hid (fun (W : World) (hu : Upd [] w W) => equalFuncX_calls ih d.items.length f.items.length cI cI' rfl rfl (r1.updD hu) (r1'.updD hu) hbd.2.2.2.2.1 hbd'.2.2.2.2.1)
  have hT := Lib.hid (fun (W : World) (hu : Upd [] w W) => equalFuncX_calls ih d.tail.length f.tail.length cT cT' rfl rfl (r2.updD hu) (r2'.updD hu) hbd.2.2.2.2.2 hbd'.2.2.2.2.2)
  have HD : Hid (sameN (n + 1) d f = (decide (d.kind = f.kind) && (decide (d.b = f.b) && (decide (d.s = f.s) && (decide (normI d.neg d.limbs = normI f.neg f.limbs) && (sameL (sameN n) d.items f.items && sameL (sameN n) d.tail f.tail)))))) := Lib.hid rfl
  obtain ⟨S, hS⟩ : ∃ S, S = sameN (n + 1) d f := ⟨_, rfl⟩
  obtain ⟨SI, hSI⟩ : ∃ S, S = sameL (sameN n) d.items f.items := ⟨_, rfl⟩
  obtain ⟨ST, hST⟩ : ∃ S, S = sameL (sameN n) d.tail f.tail := ⟨_, rfl⟩
  obtain ⟨SN, hSN⟩ : ∃ S : Prop, S = (normI d.neg d.limbs = normI f.neg f.limbs) := ⟨_, rfl⟩
  rw [← hS, ← hSI, ← hST] at HD
  rw [← hS]
  rw [← hSI] at hI
  rw [← hST] at hT
  have HD2 : Hid (∀ r : Int, (r = 0 ↔ normI d.neg d.limbs = normI f.neg f.limbs) → S = (decide (d.kind = f.kind) && (decide (d.b = f.b) && (decide (d.s = f.s) && (decide (r = 0) && (SI && ST)))))) := Lib.hid (fun r hr => by rw [HD.out]; simp [hr])
  have HD0 : Hid (¬ d.kind = f.kind → S = false) := Lib.hid (fun h => by rw [HD.out]; simp [h])
  have HD1 : Hid (¬ d.b = f.b → S = false) := Lib.hid (fun h => by rw [HD.out]; simp [h])
  have HD3 : Hid (¬ d.s = f.s → S = false) := Lib.hid (fun h => by rw [HD.out]; simp [h])
  obtain ⟨NE, hNE⟩ : ∃ S : Int → Prop, S = fun r => (r = 0 ↔ normI d.neg d.limbs = normI f.neg f.limbs) := ⟨_, rfl⟩
  have HD4 : Hid (∀ r : Int, NE r → S = (decide (d.kind = f.kind) && (decide (d.b = f.b) && (decide (d.s = f.s) && (decide (r = 0) && (SI && ST)))))) := Lib.hid (by rw [hNE]; exact HD2.out)
  have hC' : Hid (∀ (W : World), Upd [] w W → Calls Try.prog 107 #[.agg #[.bool d.neg, .slice aL d.limbs.length cL], .agg #[.bool f.neg, .slice aL' f.limbs.length cL']] W fun e w' => (∃ r : Int, e = .returned (.int .i64 r) ∧ NE r) ∧ Upd [] W w') := Lib.hid (by rw [hNE]; exact hC.out)
  clear l1 r1 r2 hcap hbd l1' r1' r2' hcap' hbd' ih hC HD HD2 hS hSI hST hSN hNE SN
  generalize d.kind = kd at *
  generalize d.neg = ng at *
  generalize d.limbs.length = nl at *
  generalize d.b = bb at *
  generalize d.s = ss at *
  generalize d.items.length = ni at *
  generalize d.tail.length = nt at *
  generalize f.kind = kd' at *
  generalize f.neg = ng' at *
  generalize f.limbs.length = nl' at *
  generalize f.b = bb' at *
  generalize f.s = ss' at *
  generalize f.items.length = ni' at *
  generalize f.tail.length = nt' at *
  unfold datCells
  obtain ⟨W2, hW2⟩ : ∃ W2, W2 = (w.alloc (.cells #[.int .i64 kd, .bool ng, .slice aL nl cL, .bool bb, .string ss, .slice aI ni cI, .slice aT nt cT] 27)).alloc (.cells #[.int .i64 kd', .bool ng', .slice aL' nl' cL', .bool bb', .string ss', .slice aI' ni' cI', .slice aT' nt' cT'] 27) := ⟨_, rfl⟩
  have hu2 : Upd [] w W2 := by rw [hW2]; exact ((Upd.refl [] w).alloc _).alloc _
  have hb2 : Blk W2 w.heap.size [.int .i64 kd, .bool ng, .slice aL nl cL, .bool bb, .string ss, .slice aI ni cI, .slice aT nt cT] 27 := by rw [hW2]; exact (Blk.newAt rfl).alloc _
  have hb3 : Blk W2 (w.heap.size + 1) [.int .i64 kd', .bool ng', .slice aL' nl' cL', .bool bb', .string ss', .slice aI' ni' cI', .slice aT' nt' cT'] 27 := by rw [hW2]; exact Blk.newAt (by simp)
  have HB2 := Lib.hid hb2
  have HB3 := Lib.hid hb3
  have HU2 := Lib.hid hu2
  have HW2 := Lib.hid hW2
  clear hu2 hb2 hb3 hW2
  go_enter Try.func101, Try.ntmps101
  by_cases hk : kd = kd'
  · by_cases hb : bb = bb'
    · by_cases hs : ss = ss'
      · subst hk
        subst hb
        subst hs
        clear HD0 HD1 HD3
        go_wp2_with fail
        rw [← HW2.out]
        refine (hC'.out _ HU2.out).mono ?_
        rintro e w3 ⟨⟨r, rfl, hr⟩, hu3⟩
        have HS : Hid (S = (decide (r = 0) && (SI && ST))) := Lib.hid (by rw [HD4.out r hr]; simp)
        obtain ⟨x0, x1, x2, x3, x4, x5, x6⟩ := Blk.seven (hu3.blk HB2.out (by simp))
        obtain ⟨y0, y1, y2, y3, y4, y5, y6⟩ := Blk.seven (hu3.blk HB3.out (by simp))
        have HU3 := Lib.hid (HU2.out.then hu3)
        have HB2' := Lib.hid (hu3.blk HB2.out (by simp))
        have HB3' := Lib.hid (hu3.blk HB3.out (by simp))
        clear hu3 hC' HB2 HB3 HU2 HW2 HD4 hr
        by_cases hr0 : r = 0
        · subst hr0
          go_wp2_with fail
          refine (hI.out _ HU3.out).mono ?_
          rintro e w4 ⟨rfl, hu4⟩
          obtain ⟨x0, x1, x2, x3, x4, x5, x6⟩ := Blk.seven (hu4.blk HB2'.out (by simp))
          obtain ⟨y0, y1, y2, y3, y4, y5, y6⟩ := Blk.seven (hu4.blk HB3'.out (by simp))
          have HU4 := Lib.hid (HU3.out.then hu4)
          clear hu4 hI HB2' HB3' HU3
          cases SI with
          | true =>
            go_wp2_with fail
            refine (hT.out _ HU4.out).mono ?_
            rintro e w5 ⟨rfl, hu5⟩
            have HU5 := Lib.hid (HU4.out.then hu5)
            clear hu5 hT
            go_wp2
            go_ret
            exact ⟨by rw [HS.out]; simp, HU5.out⟩
          | false =>
            go_wp2
            go_ret
            exact ⟨by rw [HS.out]; rfl, HU4.out⟩
        · have hr0' : (r == 0) = false := by simpa using hr0
          have HX : Hid (S = false) := Lib.hid (by rw [HS.out, decide_eq_false hr0]; rfl)
          clear HS
          go_wp2
          go_ret
          exact ⟨by rw [HX.out]; rfl, HU3.out⟩
      · have HX : Hid (S = false) := Lib.hid (HD3.out hs)
        have hs' : (ss.toList == ss'.toList) = false := by rw [str_eq, decide_eq_false hs]
        clear HD0 HD1 HD3 HD4
        subst hk
        subst hb
        go_wp2_with fail
        rw [← HW2.out]
        go_wp2
        go_ret
        exact ⟨by rw [HX.out]; rfl, HU2.out⟩
    · have HX : Hid (S = false) := Lib.hid (HD1.out hb)
      have hb' : (bb == bb') = false := by simpa using hb
      clear HD0 HD1 HD3 HD4
      subst hk
      go_wp2_with fail
      rw [← HW2.out]
      go_wp2
      go_ret
      exact ⟨by rw [HX.out]; rfl, HU2.out⟩
  · have HX : Hid (S = false) := Lib.hid (HD0.out hk)
    have hk' : (kd == kd') = false := by simpa using hk
    clear HD0 HD1 HD3 HD4
    go_wp2_with fail
    rw [← HW2.out]
    go_wp2
    go_ret
    exact ⟨by rw [HX.out]; rfl, HU2.out⟩
theorem sameX_calls : ∀ n, SameXSaid n
  | 0 => fun _ _ _ _ _ h => h.elim
  | n + 1 => sameX_step n (sameX_calls n)
set_option maxRecDepth 100000 in
set_option maxHeartbeats 1500000 in
theorem SameX_calls {P P' : Nat → Prop} {n : Nat} {d f : Dat} {cs cs' : List Value} {w : World} (h : IsD w P n cs d) (h' : IsD w P' n cs' f) (hs : szN n d ≤ 100000) (hd : dpN n d ≤ 10000) (hs' : szN n f ≤ 100000) (hd' : dpN n f ≤ 10000) :
    Calls Try.prog 70 #[.agg cs.toArray, .agg cs'.toArray] w fun e w' => e = .returned (.bool (sameN n d f)) ∧ Upd [] w w' := by
  obtain ⟨k1, n1, a1, l1, p1, b1, s1, i1, m1, d1, t1, o1, q1, rfl⟩ := h.shaped
  obtain ⟨k2, n2, a2, l2, p2, b2, s2, i2, m2, d2, t2, o2, q2, rfl⟩ := h'.shaped
  have hF := Lib.hid (fun (W : World) (hu : Upd [] w W) => few_calls (h.upd hu) hs hd)
  have hF' := Lib.hid (fun (W : World) (hu : Upd [] w W) => few_calls (h'.upd hu) hs' hd')
  have hS := Lib.hid (fun (W : World) (hu : Upd [] w W) => sameX_calls n d f _ _ W (h.any.upd hu) (h'.any.upd hu))
  unfold datCells at *
  obtain ⟨W2, hW2⟩ : ∃ W2, W2 = (w.alloc (.cells #[.int .i64 k1, .bool n1, .slice a1 l1 p1, .bool b1, .string s1, .slice i1 m1 d1, .slice t1 o1 q1] 27)).alloc (.cells #[.int .i64 k2, .bool n2, .slice a2 l2 p2, .bool b2, .string s2, .slice i2 m2 d2, .slice t2 o2 q2] 27) := ⟨_, rfl⟩
  have hu2 : Upd [] w W2 := by rw [hW2]; exact ((Upd.refl [] w).alloc _).alloc _
  have hb2 : Blk W2 w.heap.size [.int .i64 k1, .bool n1, .slice a1 l1 p1, .bool b1, .string s1, .slice i1 m1 d1, .slice t1 o1 q1] 27 := by rw [hW2]; exact (Blk.newAt rfl).alloc _
  have hb3 : Blk W2 (w.heap.size + 1) [.int .i64 k2, .bool n2, .slice a2 l2 p2, .bool b2, .string s2, .slice i2 m2 d2, .slice t2 o2 q2] 27 := by rw [hW2]; exact Blk.newAt (by simp)
  have HB2 := Lib.hid hb2
  have HB3 := Lib.hid hb3
  have HU2 := Lib.hid hu2
  have HW2 := Lib.hid hW2
  generalize sameN n d f = r at *
  clear hu2 hb2 hb3 hW2 h h' hs hd hs' hd'
  go_enter Try.func70, Try.ntmps70
  go_wp2_with fail
  rw [← HW2.out]
  refine (hF.out _ HU2.out).mono ?_
  rintro e w3 ⟨rfl, hu3⟩
  have HB2' := Lib.hid (hu3.blk HB2.out (by simp))
  have HB3' := Lib.hid (hu3.blk HB3.out (by simp))
  obtain ⟨y0, y1, y2, y3, y4, y5, y6⟩ := Blk.seven HB3'.out
  have HU3 := Lib.hid (HU2.out.then hu3)
  clear hu3 hF HB2 HB3 HU2 HW2
  go_wp2_with fail
  refine (hF'.out _ HU3.out).mono ?_
  rintro e w4 ⟨rfl, hu4⟩
  obtain ⟨x0, x1, x2, x3, x4, x5, x6⟩ := Blk.seven (hu4.blk HB2'.out (by simp))
  obtain ⟨y0, y1, y2, y3, y4, y5, y6⟩ := Blk.seven (hu4.blk HB3'.out (by simp))
  have HU4 := Lib.hid (HU3.out.then hu4)
  clear hu4 hF' HB2' HB3' HU3
  go_wp2_with fail
  refine (hS.out _ HU4.out).mono ?_
  rintro e w5 ⟨rfl, hu5⟩
  have HU5 := Lib.hid (HU4.out.then hu5)
  clear hu5 hS
  go_wp2
  go_ret
  exact ⟨rfl, HU5.out⟩
end Go.Proofs.Ythmpaepdbjldfaa
