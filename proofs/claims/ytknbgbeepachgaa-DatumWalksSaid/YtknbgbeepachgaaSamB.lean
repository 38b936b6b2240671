/-
  datum.same, datum.Same of like data.
-/
import Derived.Test.YtknbgbeepachgaaSamA
import Derived.Test.YtknbgbeepachgaaDat1
namespace Go.Proofs.Ytknbgbeepachgaa
open Go.RowKit

/-- Two of one datum are the same. -/
def SameSaid (n : Nat) : Prop := ∀ (d : Dat) (cs cs' : List Value) (w : World), IsD w (fun _ => True) n cs d → IsD w (fun _ => True) n cs' d →
    Calls Try.prog 21 #[.agg cs.toArray, .agg cs'.toArray] w fun e w' => e = .returned (.bool true) ∧ Upd [] w w'
set_option maxRecDepth 100000 in
set_option maxHeartbeats 1500000 in
theorem equalFunc_calls {n : Nat} (ih : SameSaid n) {w : World} {a a' : Option Addr} {ds : List Dat} (m c c' : Nat) (hm : ds.length = m) (h : RowOf w (fun _ => True) (IsD w (fun _ => True) n) a ds) (h' : RowOf w (fun _ => True) (IsD w (fun _ => True) n) a' ds) (hb : m ≤ 35184372088832) :
    Calls Try.prog 31 #[.slice a m c, .slice a' m c', .func (.func 21) #[] #[]] w fun e w' => e = .returned (.bool true) ∧ Upd [] w w' := by
  have IH := Lib.hid ih
  have HR := Lib.hid h
  have HR' := Lib.hid h'
  have HM := Lib.hid hm
  clear ih h h' hm
  go_enter Try.func31, Try.ntmps31
  go_wp2_with fail
  go_loopw [17] (fun i wr => ∃ j : Nat, j ≤ m ∧ i = .int .i64 j ∧ Hid (Upd [] w wr)) (fun i _ => m - (intOf i).toNat)
  case atStart => exact ⟨0, by omega, rfl, Lib.hid (Upd.refl _ _)⟩
  case round =>
    obtain ⟨j, hj, rfl, hU⟩ := hrel
    by_cases hlt : j < m
    · have hjd : j < ds.length := by rw [HM.out]; exact hlt
      obtain ⟨b, o, cs, rfl, _, hat, hd0⟩ := HR.out j hjd
      obtain ⟨b', o', cs', rfl, _, hat', hd0'⟩ := HR'.out j hjd
      obtain ⟨x, hx⟩ : ∃ x, x = ds.getD j default := ⟨_, rfl⟩
      rw [← hx] at hd0 hd0'
      clear hx
      obtain ⟨k1, n1, a1, l1, p1, b1, s1, i1, m1, d1, t1, o1, q1, rfl⟩ := hd0.shaped
      obtain ⟨k2, n2, a2, l2, p2, b2, s2, i2, m2, d2, t2, o2, q2, rfl⟩ := hd0'.shaped
      obtain ⟨x0, x1, x2, x3, x4, x5, x6⟩ := (hat.upd hU.out (by simp)).cells
      obtain ⟨y0, y1, y2, y3, y4, y5, y6⟩ := (hat'.upd hU.out (by simp)).cells
      have hbl : b' < wr.heap.size := (hat'.upd hU.out (by simp)).lt
      have HC := Lib.hid (fun (W : World) (hu : Upd [] w W) => IH.out x _ _ W (hd0.upd hu) (hd0'.upd hu))
      unfold datCells at HC
      clear hat hat' hd0 hd0'
      go_wp2_with fail
      refine (HC.out _ ((hU.out.alloc _).alloc _)).mono ?_
      rintro e w5 ⟨rfl, hu5⟩
      have HU5 := Lib.hid (((hU.out.alloc _).alloc _).then hu5)
      clear HC hu5 x0 x1 x2 x3 x4 x5 x6 y0 y1 y2 y3 y4 y5 y6
      go_wp2
      go_roundw
      case rel => exact ⟨j + 1, by omega, by go_num, HU5⟩
      case measure => simp [intOf]; omega
    · have hjm : j = m := by omega
      subst hjm
      go_wp2
      go_ret
      exact ⟨rfl, hU.out⟩
set_option maxRecDepth 100000 in
set_option maxHeartbeats 1500000 in
theorem same_step (n : Nat) (ih : SameSaid n) : SameSaid (n + 1) := by
  intro d cs cs' w h h'
  obtain ⟨aL, cL, aI, cI, aT, cT, rfl, l1, r1, r2, hcap, hbd⟩ := h
  obtain ⟨aL', cL', aI', cI', aT', cT', rfl, l1', r1', r2', hcap', _⟩ := h'
  have hC := Lib.hid (fun (W : World) (hu : Upd [] w W) => wholeCmp_calls d.neg d.limbs.length cL cL' rfl (l1.upd0 hu) (l1'.upd0 hu) hcap.1 hcap'.1 hbd.2.2.1 hbd.2.1)
  have hI := Lib.hid (fun (W : World) (hu : Upd [] w W) => equalFunc_calls ih d.items.length cI cI' rfl (r1.updD hu) (r1'.updD hu) hbd.2.2.2.2.1)
  have hT := Lib.hid (fun (W : World) (hu : Upd [] w W) => equalFunc_calls ih d.tail.length cT cT' rfl (r2.updD hu) (r2'.updD hu) hbd.2.2.2.2.2)
  clear l1 r1 r2 hcap hbd l1' r1' r2' hcap' ih
  generalize d.kind = kd at *
  generalize d.neg = ng at *
  generalize d.limbs.length = nl at *
  generalize d.b = bb at *
  generalize d.s = ss at *
  generalize d.items.length = ni at *
  generalize d.tail.length = nt at *
  unfold datCells
  obtain ⟨W2, hW2⟩ : ∃ W2, W2 = (w.alloc (.cells #[.int .i64 kd, .bool ng, .slice aL nl cL, .bool bb, .string ss, .slice aI ni cI, .slice aT nt cT] 27)).alloc (.cells #[.int .i64 kd, .bool ng, .slice aL' nl cL', .bool bb, .string ss, .slice aI' ni cI', .slice aT' nt cT'] 27) := ⟨_, rfl⟩
  have hu2 : Upd [] w W2 := by rw [hW2]; exact ((Upd.refl [] w).alloc _).alloc _
  have hb2 : Blk W2 w.heap.size [.int .i64 kd, .bool ng, .slice aL nl cL, .bool bb, .string ss, .slice aI ni cI, .slice aT nt cT] 27 := by rw [hW2]; exact (Blk.newAt rfl).alloc _
  have hb3 : Blk W2 (w.heap.size + 1) [.int .i64 kd, .bool ng, .slice aL' nl cL', .bool bb, .string ss, .slice aI' ni cI', .slice aT' nt cT'] 27 := by rw [hW2]; exact Blk.newAt (by simp)
  have HB2 := Lib.hid hb2
  have HB3 := Lib.hid hb3
  have HU2 := Lib.hid hu2
  have HW2 := Lib.hid hW2
  clear hu2 hb2 hb3 hW2
  go_enter Try.func21, Try.ntmps21
  go_wp2_with fail
  rw [← HW2.out]
  refine (hC.out _ HU2.out).mono ?_
  rintro e w3 ⟨rfl, hu3⟩
  obtain ⟨x0, x1, x2, x3, x4, x5, x6⟩ := Blk.seven (hu3.blk HB2.out (by simp))
  obtain ⟨y0, y1, y2, y3, y4, y5, y6⟩ := Blk.seven (hu3.blk HB3.out (by simp))
  have HU3 := Lib.hid (HU2.out.then hu3)
  have HB2' := Lib.hid (hu3.blk HB2.out (by simp))
  have HB3' := Lib.hid (hu3.blk HB3.out (by simp))
  clear hu3 hC HB2 HB3 HU2 HW2
  go_wp2_with fail
  refine (hI.out _ HU3.out).mono ?_
  rintro e w4 ⟨rfl, hu4⟩
  obtain ⟨x0, x1, x2, x3, x4, x5, x6⟩ := Blk.seven (hu4.blk HB2'.out (by simp))
  obtain ⟨y0, y1, y2, y3, y4, y5, y6⟩ := Blk.seven (hu4.blk HB3'.out (by simp))
  have HU4 := Lib.hid (HU3.out.then hu4)
  clear hu4 hI HB2' HB3' HU3
  go_wp2_with fail
  refine (hT.out _ HU4.out).mono ?_
  rintro e w5 ⟨rfl, hu5⟩
  have HU5 := Lib.hid (HU4.out.then hu5)
  clear hu5 hT
  go_wp2
  go_ret
  exact ⟨rfl, HU5.out⟩
theorem same_calls : ∀ n, SameSaid n
  | 0 => fun _ _ _ _ h => h.elim
  | n + 1 => same_step n (same_calls n)
set_option maxRecDepth 100000 in
set_option maxHeartbeats 1500000 in
theorem Same_calls {P P' : Nat → Prop} {n : Nat} {d : Dat} {cs cs' : List Value} {w : World} (h : IsD w P n cs d) (h' : IsD w P' n cs' d) (hs : szN n d ≤ 100000) (hd : dpN n d ≤ 10000) :
    Calls Try.prog 9 #[.agg cs.toArray, .agg cs'.toArray] w fun e w' => e = .returned (.bool true) ∧ Upd [] w w' := by
  obtain ⟨k1, n1, a1, l1, p1, b1, s1, i1, m1, d1, t1, o1, q1, rfl⟩ := h.shaped
  obtain ⟨k2, n2, a2, l2, p2, b2, s2, i2, m2, d2, t2, o2, q2, rfl⟩ := h'.shaped
  have hF := Lib.hid (fun (W : World) (hu : Upd [] w W) => few_calls (h.upd hu) hs hd)
  have hF' := Lib.hid (fun (W : World) (hu : Upd [] w W) => few_calls (h'.upd hu) hs hd)
  have hS := Lib.hid (fun (W : World) (hu : Upd [] w W) => same_calls n d _ _ W (h.any.upd hu) (h'.any.upd hu))
  unfold datCells at *
  obtain ⟨W2, hW2⟩ : ∃ W2, W2 = (w.alloc (.cells #[.int .i64 k1, .bool n1, .slice a1 l1 p1, .bool b1, .string s1, .slice i1 m1 d1, .slice t1 o1 q1] 27)).alloc (.cells #[.int .i64 k2, .bool n2, .slice a2 l2 p2, .bool b2, .string s2, .slice i2 m2 d2, .slice t2 o2 q2] 27) := ⟨_, rfl⟩
  have hu2 : Upd [] w W2 := by rw [hW2]; exact ((Upd.refl [] w).alloc _).alloc _
  have hb2 : Blk W2 w.heap.size [.int .i64 k1, .bool n1, .slice a1 l1 p1, .bool b1, .string s1, .slice i1 m1 d1, .slice t1 o1 q1] 27 := by rw [hW2]; exact (Blk.newAt rfl).alloc _
  have hb3 : Blk W2 (w.heap.size + 1) [.int .i64 k2, .bool n2, .slice a2 l2 p2, .bool b2, .string s2, .slice i2 m2 d2, .slice t2 o2 q2] 27 := by rw [hW2]; exact Blk.newAt (by simp)
  have HB2 := Lib.hid hb2
  have HB3 := Lib.hid hb3
  have HU2 := Lib.hid hu2
  have HW2 := Lib.hid hW2
  clear hu2 hb2 hb3 hW2 h h' hs hd
  go_enter Try.func9, Try.ntmps9
  go_wp2_with fail
  rw [← HW2.out]
  refine (hF.out _ HU2.out).mono ?_
  rintro e w3 ⟨rfl, hu3⟩
  have HB2' := Lib.hid (hu3.blk HB2.out (by simp))
  have HB3' := Lib.hid (hu3.blk HB3.out (by simp))
  obtain ⟨y0, y1, y2, y3, y4, y5, y6⟩ := Blk.seven HB3'.out
  have HU3 := Lib.hid (HU2.out.then hu3)
  clear hu3 hF HB2 HB3 HU2 HW2
  go_wp2_with fail
  refine (hF'.out _ HU3.out).mono ?_
  rintro e w4 ⟨rfl, hu4⟩
  obtain ⟨x0, x1, x2, x3, x4, x5, x6⟩ := Blk.seven (hu4.blk HB2'.out (by simp))
  obtain ⟨y0, y1, y2, y3, y4, y5, y6⟩ := Blk.seven (hu4.blk HB3'.out (by simp))
  have HU4 := Lib.hid (HU3.out.then hu4)
  clear hu4 hF' HB2' HB3' HU3
  go_wp2_with fail
  refine (hS.out _ HU4.out).mono ?_
  rintro e w5 ⟨rfl, hu5⟩
  have HU5 := Lib.hid (HU4.out.then hu5)
  clear hu5 hS
  go_wp2
  go_ret
  exact ⟨rfl, HU5.out⟩
end Go.Proofs.Ytknbgbeepachgaa
