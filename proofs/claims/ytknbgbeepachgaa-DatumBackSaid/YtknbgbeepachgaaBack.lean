/-
  DatumBack: the walk.
-/
import Derived.Test.YtknbgbeepachgaaBackP
import Derived.Test.YtknbgbeepachgaaGooD
import Derived.Test.YtknbgbeepachgaaSamB
import Derived.Test.YtknbgbeepachgaaInv
namespace Go.Proofs.Ytknbgbeepachgaa
open Go.RowKit

/-! ### Two data in boxes of their own -/
/-- A box yet to come, or one that is there and nothing in it. -/
def BoxOr (W : World) (lo : Nat) (v : Value) : Prop := v = undef ∨ ∃ p, v = .pointer (some ⟨p, 0, none⟩) ∧ lo ≤ p ∧ Blk W p [.int .i64 0, .bool false, .slice none 0 0, .bool false, .string ⟨#[]⟩, .slice none 0 0, .slice none 0 0] 27
def NotPtr (v : Value) (b : Nat) : Prop := v ≠ .pointer (some ⟨b, 0, none⟩)
def ResD (W : World) (lo n : Nat) (v5 v6 v : Value) (x : Dat) : Prop := ∃ cs, v = .agg cs.toArray ∧ IsD W (fun b => lo ≤ b ∧ NotPtr v5 b ∧ NotPtr v6 b) n cs x
theorem BoxOr.upd {W W' : World} {lo : Nat} {v : Value} (h : BoxOr W lo v) (hu : Upd [] W W') : BoxOr W' lo v := by
  rcases h with h | ⟨p, e, hp, hb⟩
  · exact .inl h
  · exact .inr ⟨p, e, hp, hu.blk hb (by simp)⟩
theorem BoxOr.not {W : World} {lo : Nat} {v : Value} (h : BoxOr W lo v) {b : Nat} (hb : W.heap.size ≤ b) : NotPtr v b := by
  rintro rfl
  rcases h with h | ⟨p, e, hp, hb'⟩
  · cases h
  · injection e with e
    injection e with e
    injection e with e
    have := hb'.lt
    omega
theorem ResD.upd {W W' : World} {lo n : Nat} {v5 v6 v : Value} {x : Dat} (h : ResD W lo n v5 v6 v x) (hu : Upd [] W W') : ResD W' lo n v5 v6 v x := by
  obtain ⟨cs, e, h⟩ := h
  exact ⟨cs, e, h.upd hu⟩
theorem ptr_not {p b : Nat} (h : b ≠ p) : NotPtr (.pointer (some ⟨p, 0, none⟩)) b := by
  intro e
  injection e with e
  injection e with e
  injection e with e
  exact h e.symm
structure I3 (w3 : World) (n : Nat) (A B : Value) (x y : Dat) (d : Nat → Bool) (W : World) (v5 v6 v20 v21 v22 v23 : Value) : Prop where
  upd : Upd [] w3 W
  s0 : d 0 = true → v20 = A
  s2 : d 2 = true → v22 = B
  s1 : d 1 = true → ResD W w3.heap.size n v5 v6 v21 x
  s3 : d 3 = true → ResD W w3.heap.size n v5 v6 v23 y
  b5 : BoxOr W w3.heap.size v5
  b6 : BoxOr W w3.heap.size v6
  n5 : d 4 = true → v5 ≠ undef
  n6 : d 5 = true → v6 ≠ undef
  ne : v5 = v6 → v5 = undef
section
variable {w3 : World} {n : Nat} {A B : Value} {x y : Dat} {d : Nat → Bool} {W : World} {v5 v6 v20 v21 v22 v23 : Value}
theorem I3.new : I3 w3 n A B x y (fun _ => false) w3.drew undef undef undef undef undef undef :=
  ⟨(Upd.refl [] w3).drew, by simp, by simp, by simp, by simp, .inl rfl, .inl rfl, by simp, by simp, fun _ => rfl⟩
theorem I3.load0 (h : I3 w3 n A B x y d W v5 v6 v20 v21 v22 v23) : I3 w3 n A B x y (fun j => j == 0 || d j) W v5 v6 A v21 v22 v23 :=
  ⟨h.upd, fun _ => rfl, by simpa using h.s2, by simpa using h.s1, by simpa using h.s3, h.b5, h.b6, by simpa using h.n5, by simpa using h.n6, h.ne⟩
theorem I3.load2 (h : I3 w3 n A B x y d W v5 v6 v20 v21 v22 v23) : I3 w3 n A B x y (fun j => j == 2 || d j) W v5 v6 v20 v21 B v23 :=
  ⟨h.upd, by simpa using h.s0, fun _ => rfl, by simpa using h.s1, by simpa using h.s3, h.b5, h.b6, by simpa using h.n5, by simpa using h.n6, h.ne⟩
theorem I3.fresh (h : I3 w3 n A B x y d W v5 v6 v20 v21 v22 v23) {W' : World} {cs : List Value} {z : Dat} (hD : IsD W' (fun b => W.heap.size ≤ b) n cs z) : ResD W' w3.heap.size n v5 v6 (.agg cs.toArray) z :=
  ⟨cs, rfl, hD.mono fun _ _ hb => ⟨Nat.le_trans h.upd.size hb, h.b5.not hb, h.b6.not hb⟩⟩
theorem I3.call1 (h : I3 w3 n A B x y d W v5 v6 v20 v21 v22 v23) {W' : World} (hu : Upd [] W W') {cs : List Value} (hD : IsD W' (fun b => W.heap.size ≤ b) n cs x) : I3 w3 n A B x y (fun j => j == 1 || d j) W' v5 v6 v20 (.agg cs.toArray) v22 v23 :=
  ⟨h.upd.then hu, by simpa using h.s0, by simpa using h.s2, fun _ => h.fresh hD, fun hd => (h.s3 (by simpa using hd)).upd hu, h.b5.upd hu, h.b6.upd hu, by simpa using h.n5, by simpa using h.n6, h.ne⟩
theorem I3.call3 (h : I3 w3 n A B x y d W v5 v6 v20 v21 v22 v23) {W' : World} (hu : Upd [] W W') {cs : List Value} (hD : IsD W' (fun b => W.heap.size ≤ b) n cs y) : I3 w3 n A B x y (fun j => j == 3 || d j) W' v5 v6 v20 v21 v22 (.agg cs.toArray) :=
  ⟨h.upd.then hu, by simpa using h.s0, by simpa using h.s2, fun hd => (h.s1 (by simpa using hd)).upd hu, fun _ => h.fresh hD, h.b5.upd hu, h.b6.upd hu, by simpa using h.n5, by simpa using h.n6, h.ne⟩
theorem ResD.alloc5 {lo : Nat} {v : Value} {z : Dat} (h : ResD W lo n v5 v6 v z) (o : Obj) : ResD (W.alloc o) lo n (.pointer (some ⟨W.heap.size, 0, none⟩)) v6 v z := by
  obtain ⟨cs, e, h⟩ := h
  exact ⟨cs, e, IsD.map (m := 0) (fun _ hb hp => ⟨hp.1, ptr_not (by omega), hp.2.2⟩) (fun b o v _ hc => ((Upd.refl [] W).alloc _).cell hc (by simp)) h⟩
theorem ResD.alloc6 {lo : Nat} {v : Value} {z : Dat} (h : ResD W lo n v5 v6 v z) (o : Obj) : ResD (W.alloc o) lo n v5 (.pointer (some ⟨W.heap.size, 0, none⟩)) v z := by
  obtain ⟨cs, e, h⟩ := h
  exact ⟨cs, e, IsD.map (m := 0) (fun _ hb hp => ⟨hp.1, hp.2.1, ptr_not (by omega)⟩) (fun b o v _ hc => ((Upd.refl [] W).alloc _).cell hc (by simp)) h⟩
theorem I3.alloc4 (h : I3 w3 n A B x y d W v5 v6 v20 v21 v22 v23) : I3 w3 n A B x y (fun j => j == 4 || d j) (W.alloc (.cells #[.int .i64 0, .bool false, .slice none 0 0, .bool false, .string ⟨#[]⟩, .slice none 0 0, .slice none 0 0] 27)) (.pointer (some ⟨W.heap.size, 0, none⟩)) v6 v20 v21 v22 v23 :=
  ⟨h.upd.alloc _, by simpa using h.s0, by simpa using h.s2, fun hd => (h.s1 (by simpa using hd)).alloc5 _, fun hd => (h.s3 (by simpa using hd)).alloc5 _, .inr ⟨_, rfl, h.upd.size, Blk.newAt rfl⟩, h.b6.upd ((Upd.refl [] W).alloc _), fun _ => by simp [undef], by simpa using h.n6, fun e => absurd e.symm (h.b6.not (Nat.le_refl _))⟩
theorem I3.alloc5 (h : I3 w3 n A B x y d W v5 v6 v20 v21 v22 v23) : I3 w3 n A B x y (fun j => j == 5 || d j) (W.alloc (.cells #[.int .i64 0, .bool false, .slice none 0 0, .bool false, .string ⟨#[]⟩, .slice none 0 0, .slice none 0 0] 27)) v5 (.pointer (some ⟨W.heap.size, 0, none⟩)) v20 v21 v22 v23 :=
  ⟨h.upd.alloc _, by simpa using h.s0, by simpa using h.s2, fun hd => (h.s1 (by simpa using hd)).alloc6 _, fun hd => (h.s3 (by simpa using hd)).alloc6 _, h.b5.upd ((Upd.refl [] W).alloc _), .inr ⟨_, rfl, h.upd.size, Blk.newAt rfl⟩, by simpa using h.n5, fun _ => by simp [undef], fun e => absurd e (h.b5.not (Nat.le_refl _))⟩
/-- What stands behind: the boxes and what goes into them. -/
theorem I3.end (h : I3 w3 n A B x y d W v5 v6 v20 v21 v22 v23) (hd : ∀ j, j < 6 → d j = true) : ∃ p5 p6 cx cy, v5 = .pointer (some ⟨p5, 0, none⟩) ∧ v6 = .pointer (some ⟨p6, 0, none⟩) ∧ v21 = .agg cx.toArray ∧ v23 = .agg cy.toArray ∧ Upd [] w3 W ∧ w3.heap.size ≤ p5 ∧ w3.heap.size ≤ p6 ∧ p5 ≠ p6 ∧
    Blk W p5 [.int .i64 0, .bool false, .slice none 0 0, .bool false, .string ⟨#[]⟩, .slice none 0 0, .slice none 0 0] 27 ∧ Blk W p6 [.int .i64 0, .bool false, .slice none 0 0, .bool false, .string ⟨#[]⟩, .slice none 0 0, .slice none 0 0] 27 ∧ IsD W (fun b => b ≠ p5 ∧ b ≠ p6) n cx x ∧ IsD W (fun b => b ≠ p5 ∧ b ≠ p6) n cy y := by
  obtain ⟨p5, e5, l5, k5⟩ := h.b5.resolve_left (h.n5 (hd 4 (by omega)))
  obtain ⟨p6, e6, l6, k6⟩ := h.b6.resolve_left (h.n6 (hd 5 (by omega)))
  obtain ⟨cx, ex, hx⟩ := h.s1 (hd 1 (by omega))
  obtain ⟨cy, ey, hy⟩ := h.s3 (hd 3 (by omega))
  subst e5; subst e6
  refine ⟨p5, p6, cx, cy, rfl, rfl, ex, ey, h.upd, l5, l6, fun e => ?_, k5, k6, hx.mono ?_, hy.mono ?_⟩
  · subst e
    have := h.ne rfl
    cases this
  · rintro b _ ⟨_, h1, h2⟩
    exact ⟨fun e => h1 (by rw [e]), fun e => h2 (by rw [e])⟩
  · rintro b _ ⟨_, h1, h2⟩
    exact ⟨fun e => h1 (by rw [e]), fun e => h2 (by rw [e])⟩
end
set_option maxRecDepth 100000 in
set_option maxHeartbeats 4000000 in
theorem back_walk {n : Nat} {a b : Dat} {xa xb : List Value} {w : World} (ha : IsD w (fun _ => True) n xa a) (hb : IsD w (fun _ => True) n xb b) :
    Calls Try.prog 4 #[.agg xa.toArray, .agg xb.toArray] w fun e w' => e = .returned (.bool true) ∧ Upd [] w w' := by
  obtain ⟨ka, na, aa, la, ca, ba, sa, ia, ma, da, ta, oa, pa, rfl⟩ := ha.shaped
  obtain ⟨kb, nb, ab, lb, cb, bb, sb, ib, mb, db, tb, ob, pb, rfl⟩ := hb.shaped
  unfold datCells at *
  obtain ⟨W1, hW1⟩ : ∃ W1, W1 = (w.alloc (.cells #[.int .i64 ka, .bool na, .slice aa la ca, .bool ba, .string sa, .slice ia ma da, .slice ta oa pa] 27)).alloc (.cells #[.int .i64 kb, .bool nb, .slice ab lb cb, .bool bb, .string sb, .slice ib mb db, .slice tb ob pb] 27) := ⟨_, rfl⟩
  have hu1 : Upd [] w W1 := by
    rw [hW1]
    exact ((Upd.refl [] w).alloc _).alloc _
  have ha1 : Blk W1 w.heap.size [.int .i64 ka, .bool na, .slice aa la ca, .bool ba, .string sa, .slice ia ma da, .slice ta oa pa] 27 := by
    rw [hW1]
    exact (Blk.newAt rfl).alloc _
  have hb1 : Blk W1 (w.heap.size + 1) [.int .i64 kb, .bool nb, .slice ab lb cb, .bool bb, .string sb, .slice ib mb db, .slice tb ob pb] 27 := by
    rw [hW1]
    exact Blk.newAt (by simp)
  have HA := Lib.hid (fun (W : World) (hu : Upd [] w W) => ha.upd hu)
  have HB := Lib.hid (fun (W : World) (hu : Upd [] w W) => hb.upd hu)
  have HBA := Lib.hid ha1
  have HBB := Lib.hid hb1
  have HU1 := Lib.hid hu1
  have HW1 := Lib.hid hW1
  clear ha hb ha1 hb1 hu1 hW1
  go_enter Try.func4, Try.ntmps4
  go_wp2_with fail
  rw [← HW1.out]
  clear HW1
  refine (light_calls (HA.out _ HU1.out)).mono ?_
  rintro e w2 ⟨⟨r, rfl, hr⟩, hu2⟩
  have HR1 := Lib.hid hr
  have HU2 := Lib.hid (HU1.out.then hu2)
  have HBA2 := Lib.hid (hu2.blk HBA.out (by simp))
  have HBB2 := Lib.hid (hu2.blk HBB.out (by simp))
  clear hr hu2 HBA HBB HU1
  cases r with
  | false =>
    clear HR1
    go_wp2_with fail
    refine (lives_calls _).mono ?_
    rintro e w3 ⟨rfl, hu3⟩
    have HU3 := Lib.hid (HU2.out.then hu3)
    clear hu3
    go_wp2
    go_ret
    exact ⟨rfl, HU3.out⟩
  | true =>
    have HRA := Lib.hid (HR1.out rfl)
    clear HR1
    obtain ⟨y0, y1, y2, y3, y4, y5, y6⟩ := Blk.seven HBB2.out
    go_wp2_with fail
    refine (light_calls (HB.out _ HU2.out)).mono ?_
    rintro e w3 ⟨⟨r, rfl, hr⟩, hu3⟩
    have HR1 := Lib.hid hr
    have HU3 := Lib.hid (HU2.out.then hu3)
    have HBA3 := Lib.hid (hu3.blk HBA2.out (by simp))
    have HBB3 := Lib.hid (hu3.blk HBB2.out (by simp))
    clear hr hu3 HBA2 HBB2 HU2 y0 y1 y2 y3 y4 y5 y6
    cases r with
    | false =>
      clear HR1
      go_wp2_with fail
      refine (lives_calls _).mono ?_
      rintro e w4 ⟨rfl, hu4⟩
      have HU4 := Lib.hid (HU3.out.then hu4)
      clear hu4
      go_wp2
      go_ret
      exact ⟨rfl, HU4.out⟩
    | true =>
      have HRB := Lib.hid (HR1.out rfl)
      clear HR1
      have hsa := HRA.out.1
      have hsb := HRB.out.1
      have hda := HRA.out.2
      have hdb := HRB.out.2
      have HNA := Lib.hid (fun (W : World) (hu : Upd [] w W) => Norm_calls (HA.out W hu) (by omega) (by omega))
      have HNB := Lib.hid (fun (W : World) (hu : Upd [] w W) => Norm_calls (HB.out W hu) (by omega) (by omega))
      obtain ⟨x, hx⟩ : ∃ x, x = normD n a := ⟨_, rfl⟩
      obtain ⟨y, hy⟩ : ∃ y, y = normD n b := ⟨_, rfl⟩
      rw [← hx] at HNA
      rw [← hy] at HNB
      have HX := Lib.hid hx
      have HY := Lib.hid hy
      clear hsa hsb hda hdb hx hy
      go_wp2_with fail
      refine wp_region_inv 6 3 (fun d a W => ∃ v5 v6 v20 v21 v22 v23, a = ⟨#[.agg #[.int .i64 ka, .bool na, .slice aa la ca, .bool ba, .string sa, .slice ia ma da, .slice ta oa pa], .agg #[.int .i64 kb, .bool nb, .slice ab lb cb, .bool bb, .string sb, .slice ib mb db, .slice tb ob pb], .pointer (some ⟨w.heap.size, 0, none⟩), .pointer (some ⟨w.heap.size + 1, 0, none⟩), .bool false, v5, v6, undef, undef, undef, undef, .agg #[.int .i64 ka, .bool na, .slice aa la ca, .bool ba, .string sa, .slice ia ma da, .slice ta oa pa], .bool true, .bool false, .bool false, .agg #[.int .i64 kb, .bool nb, .slice ab lb cb, .bool bb, .string sb, .slice ib mb db, .slice tb ob pb], .bool true, .bool false, .bool false, undef, v20, v21, v22, v23, undef, undef, undef, undef, undef, undef, undef, undef, undef, undef, undef, undef, undef, undef, undef, undef, undef, undef, undef, undef, undef, undef, undef, undef, undef, undef, undef, undef, undef, undef, undef, undef, undef, undef, undef, undef, undef, undef, undef, undef, undef, undef, undef, undef, undef, undef, undef, undef, undef, undef, undef, undef], []⟩ ∧ I3 w3 n (.agg #[.int .i64 ka, .bool na, .slice aa la ca, .bool ba, .string sa, .slice ia ma da, .slice ta oa pa]) (.agg #[.int .i64 kb, .bool nb, .slice ab lb cb, .bool bb, .string sb, .slice ib mb db, .slice tb ob pb]) x y d W v5 v6 v20 v21 v22 v23) (by kernel_rfl) (by kernel_rfl) ⟨_, _, _, _, _, _, rfl, I3.new⟩ ?steps ?rest
      case steps =>
        show StepsOk _ _ _ _ [0, 1, 2, 3, 4, 5]
        refine StepsOk.cons (js := []) rfl (by kernel_rfl) ?_ ?_
        · rintro d a W ⟨v5, v6, v20, v21, v22, v23, rfl, h⟩ hd hdeps K hK
          obtain ⟨x0, x1, x2, x3, x4, x5, x6⟩ := Blk.seven (h.upd.blk HBA3.out (by simp))
          have H := Lib.hid h.load0
          clear h hdeps hd
          go_simp
          exact hK _ _ ⟨_, _, _, _, _, _, rfl, H.out⟩
        refine StepsOk.cons (js := [0]) rfl (by kernel_rfl) ?_ ?_
        · rintro d a W ⟨v5, v6, v20, v21, v22, v23, rfl, h⟩ hd hdeps K hK
          have hv := h.s0 (hdeps 0 (by simp))
          subst hv
          have H := Lib.hid h
          clear h hdeps hd
          go_wp2_with fail
          refine (HNA.out W (HU3.out.then H.out.upd)).mono ?_
          rintro e w4 ⟨⟨cs, rfl, hD⟩, hu⟩
          exact hK _ _ ⟨_, _, _, _, _, _, rfl, H.out.call1 hu hD⟩
        refine StepsOk.cons (js := []) rfl (by kernel_rfl) ?_ ?_
        · rintro d a W ⟨v5, v6, v20, v21, v22, v23, rfl, h⟩ hd hdeps K hK
          obtain ⟨x0, x1, x2, x3, x4, x5, x6⟩ := Blk.seven (h.upd.blk HBB3.out (by simp))
          have H := Lib.hid h.load2
          clear h hdeps hd
          go_simp
          exact hK _ _ ⟨_, _, _, _, _, _, rfl, H.out⟩
        refine StepsOk.cons (js := [2, 1]) rfl (by kernel_rfl) ?_ ?_
        · rintro d a W ⟨v5, v6, v20, v21, v22, v23, rfl, h⟩ hd hdeps K hK
          have hv := h.s2 (hdeps 2 (by simp))
          subst hv
          have H := Lib.hid h
          clear h hdeps hd
          go_wp2_with fail
          refine (HNB.out W (HU3.out.then H.out.upd)).mono ?_
          rintro e w4 ⟨⟨cs, rfl, hD⟩, hu⟩
          exact hK _ _ ⟨_, _, _, _, _, _, rfl, H.out.call3 hu hD⟩
        refine StepsOk.cons (js := []) rfl (by kernel_rfl) ?_ ?_
        · rintro d a W ⟨v5, v6, v20, v21, v22, v23, rfl, h⟩ hd hdeps K hK
          have H := Lib.hid h.alloc4
          clear h hdeps hd
          go_simp
          exact hK _ _ ⟨_, _, _, _, _, _, rfl, H.out⟩
        refine StepsOk.cons (js := []) rfl (by kernel_rfl) ?_ StepsOk.nil
        · rintro d a W ⟨v5, v6, v20, v21, v22, v23, rfl, h⟩ hd hdeps K hK
          have H := Lib.hid h.alloc5
          clear h hdeps hd
          go_simp
          exact hK _ _ ⟨_, _, _, _, _, _, rfl, H.out⟩
      case rest =>
        rintro d a' W ⟨v5, v6, v20, v21, v22, v23, rfl, h⟩ hd
        obtain ⟨p5, p6, cx, cy, rfl, rfl, rfl, rfl, hu, l5, l6, hne, k5, k6, hX, hY⟩ := h.end hd
        clear h hd
        obtain ⟨k1, n1, a1, l1, c1, b1, s1, i1, m1, d1, t1, o1, q1, rfl⟩ := hX.shaped
        obtain ⟨k2, n2, a2, l2, c2, b2, s2, i2, m2, d2, t2, o2, q2, rfl⟩ := hY.shaped
        unfold datCells at *
        have HE := Lib.hid (And.intro k5 (And.intro k6 (And.intro hX hY)))
        have HL := Lib.hid (And.intro l5 (And.intro l6 hne))
        have HU4 := Lib.hid hu
        obtain ⟨f0, f1, f2, f3, f4, f5, f6⟩ := Blk.frees k5
        obtain ⟨c0, c1', c2', c3, c4, c5, c6⟩ := Blk.seven k5
        obtain ⟨g0, g1, g2, g3, g4, g5, g6⟩ := Blk.frees k6
        obtain ⟨e0, e1, e2, e3, e4, e5, e6⟩ := Blk.seven k6
        clear k5 k6 hX hY hu l5 l6
        simp only [List.drop_succ_cons, List.drop_zero]
        refine wpList_plain rfl fun K2 hK2 => ?_
        go_simp
        refine hK2 _ _ ?_
        clear hK2
        refine wpList_plain rfl fun K2 hK2 => ?_
        go_simp
        refine hK2 _ _ ?_
        clear hK2
        refine wpList_nil ?_
        obtain ⟨W5, hW5⟩ : ∃ W5, W5 = put7 (put7 W p5 (.int .i64 k1) (.bool n1) (.slice a1 l1 c1) (.bool b1) (.string s1) (.slice i1 m1 d1) (.slice t1 o1 q1)) p6 (.int .i64 k2) (.bool n2) (.slice a2 l2 c2) (.bool b2) (.string s2) (.slice i2 m2 d2) (.slice t2 o2 q2) := ⟨_, rfl⟩
        have hu5 : Upd [] w3 W5 := by
          rw [hW5]
          exact (HU4.out.put7 (.inr HL.out.1) _ _ _ _ _ _ _).put7 (.inr HL.out.2.1) _ _ _ _ _ _ _
        have hb5 : Blk W5 p5 [.int .i64 k1, .bool n1, .slice a1 l1 c1, .bool b1, .string s1, .slice i1 m1 d1, .slice t1 o1 q1] 27 := by
          rw [hW5]
          exact ((Upd.refl [p6] _).put7 (b := p6) (.inl (by simp)) _ _ _ _ _ _ _).blk (HE.out.1.put7 _ _ _ _ _ _ _) (by simpa using HL.out.2.2)
        have hb6 : Blk W5 p6 [.int .i64 k2, .bool n2, .slice a2 l2 c2, .bool b2, .string s2, .slice i2 m2 d2, .slice t2 o2 q2] 27 := by
          rw [hW5]
          exact Blk.put7 (((Upd.refl [p5] _).put7 (b := p5) (.inl (by simp)) _ _ _ _ _ _ _).blk HE.out.2.1 (by simpa using fun e => HL.out.2.2 e.symm)) _ _ _ _ _ _ _
        have hdx : IsD W5 (fun _ => True) n [.int .i64 k1, .bool n1, .slice a1 l1 c1, .bool b1, .string s1, .slice i1 m1 d1, .slice t1 o1 q1] x := by
          rw [hW5]
          exact ((HE.out.2.2.1.put7 p5 (fun k hk => hk.1) _ _ _ _ _ _ _).put7 p6 (fun k hk => hk.2) _ _ _ _ _ _ _).any
        have hdy : IsD W5 (fun _ => True) n [.int .i64 k2, .bool n2, .slice a2 l2 c2, .bool b2, .string s2, .slice i2 m2 d2, .slice t2 o2 q2] y := by
          rw [hW5]
          exact ((HE.out.2.2.2.put7 p5 (fun k hk => hk.1) _ _ _ _ _ _ _).put7 p6 (fun k hk => hk.2) _ _ _ _ _ _ _).any
        show Exit.then _ _ _ _ (put7 (put7 W p5 (.int .i64 k1) (.bool n1) (.slice a1 l1 c1) (.bool b1) (.string s1) (.slice i1 m1 d1) (.slice t1 o1 q1)) p6 (.int .i64 k2) (.bool n2) (.slice a2 l2 c2) (.bool b2) (.string s2) (.slice i2 m2 d2) (.slice t2 o2 q2))
        rw [← hW5]
        have HU5 := Lib.hid (HU3.out.then hu5)
        have HBA5 := Lib.hid (hu5.blk HBA3.out (by simp))
        have HBB5 := Lib.hid (hu5.blk HBB3.out (by simp))
        have HB5 := Lib.hid hb5
        have HB6 := Lib.hid hb6
        have HDX := Lib.hid (fun (W : World) (hu : Upd [] W5 W) => hdx.upd hu)
        have HDY := Lib.hid (fun (W : World) (hu : Upd [] W5 W) => hdy.upd hu)
        clear hW5 hu5 hb5 hb6 hdx hdy HE HL HU4 f0 f1 f2 f3 f4 f5 f6 c0 c1' c2' c3 c4 c5 c6 g0 g1 g2 g3 g4 g5 g6 e0 e1 e2 e3 e4 e5 e6 HNA HNB HBA3 HBB3 HU3
        obtain ⟨x0, x1, x2, x3, x4, x5, x6⟩ := Blk.seven HBA5.out
        obtain ⟨y0, y1, y2, y3, y4, y5, y6⟩ := Blk.seven HBB5.out
        go_wp2_with fail
        have hsa := HRA.out.1
        have hsb := HRB.out.1
        have hda := HRA.out.2
        have hdb := HRB.out.2
        obtain ⟨is, ts, hp, hrest⟩ := pair_form (n := n) (a := a) (b := b) (by omega) (by omega)
        have hsp := pairD_sz (n := n) a b
        have hdp := pairD_dp (n := n) a b
        have hzp := normD_sz (n + 1) (pairD a b) (by omega)
        have hyp := normD_dp (n + 1) (pairD a b) (by omega)
        have htw := normD_twice (n := n + 1) (d := pairD a b) (by omega)
        have htx := normD_twice (n := n) (d := a) (by omega)
        have hzx := normD_sz n a (by omega)
        have hyx := normD_dp n a (by omega)
        have hzy := normD_sz n b (by omega)
        have hyy := normD_dp n b (by omega)
        refine (pair_calls (HA.out _ HU5.out) (HB.out _ HU5.out) (by omega) (by omega)).mono ?_
        rw [← HX.out] at hp htx hzx hyx
        rw [← HY.out] at hrest hzy hyy
        rw [hp] at htw hzp hyp ⊢
        obtain ⟨p, hpp⟩ : ∃ p, p = Dat.mk 5 false [] false ByteArray.empty (x :: is) ts := ⟨_, rfl⟩
        rw [← hpp] at htw hzp hyp ⊢
        have hmr : szN n x < szN (n + 1) p := by
          rw [hpp]
          exact pair_more
        have hp400 : szN (n + 1) p ≤ 1000 := by omega
        have hp60 : dpN (n + 1) p ≤ 100 := by omega
        have hx400 : szN n x ≤ 1000 := by omega
        have hx60 : dpN n x ≤ 100 := by omega
        have hy400 : szN n y ≤ 1000 := by omega
        have hy60 : dpN n y ≤ 100 := by omega
        have HPP := Lib.hid hpp
        have HFX := Lib.hid (And.intro htw htx)
        have HSZ := Lib.hid (And.intro hp400 (And.intro hp60 (And.intro hx400 (And.intro hx60 (And.intro hy400 (And.intro hy60 hmr))))))
        have HRS := Lib.hid hrest
        clear hsa hsb hda hdb hp hrest hsp hdp hzp hyp htw htx hzx hyx hzy hyy hpp hmr hp400 hp60 hx400 hx60 hy400 hy60
        rintro e w6 ⟨⟨cp, rfl, hD⟩, hu⟩
        obtain ⟨k7, n7, a7, l7, c7, b7, s7, i7, m7, d7, t7, o7, q7, rfl⟩ := hD.shaped
        unfold datCells at *
        have HU6 := Lib.hid (HU5.out.then hu)
        have HV6 := Lib.hid hu
        have HP6 := Lib.hid hD.any
        have HBA6 := Lib.hid (hu.blk HBA5.out (by simp))
        have HB56 := Lib.hid (hu.blk HB5.out (by simp))
        have HB66 := Lib.hid (hu.blk HB6.out (by simp))
        clear hu hD HBA5 HBB5 HB5 HB6 HU5 x0 x1 x2 x3 x4 x5 x6 y0 y1 y2 y3 y4 y5 y6
        go_wp2_with fail
        have hu7 : Upd [] w6 (w6.alloc (.cells #[.int .i64 k7, .bool n7, .slice a7 l7 c7, .bool b7, .string s7, .slice i7 m7 d7, .slice t7 o7 q7] 27)) := (Upd.refl [] w6).alloc _
        have hp7 : Blk (w6.alloc (.cells #[.int .i64 k7, .bool n7, .slice a7 l7 c7, .bool b7, .string s7, .slice i7 m7 d7, .slice t7 o7 q7] 27)) w6.heap.size [.int .i64 k7, .bool n7, .slice a7 l7 c7, .bool b7, .string s7, .slice i7 m7 d7, .slice t7 o7 q7] 27 := Blk.newAt rfl
        have hsp : Calls Try.prog 12 #[.agg #[.int .i64 k7, .bool n7, .slice a7 l7 c7, .bool b7, .string s7, .slice i7 m7 d7, .slice t7 o7 q7]] (w6.alloc (.cells #[.int .i64 k7, .bool n7, .slice a7 l7 c7, .bool b7, .string s7, .slice i7 m7 d7, .slice t7 o7 q7] 27)) (SplitPost (w6.alloc (.cells #[.int .i64 k7, .bool n7, .slice a7 l7 c7, .bool b7, .string s7, .slice i7 m7 d7, .slice t7 o7 q7] 27)) n x (restD is ts)) := by
          have h1 := HSZ.out.1
          have h2 := HSZ.out.2.1
          have h3 := HP6.out.upd hu7
          rw [HPP.out] at h1 h2 h3
          exact split_calls h3 (by omega) (by omega)
        rw [HRS.out] at hsp
        have HSP := Lib.hid hsp
        have HU7 := Lib.hid hu7
        have HP7 := Lib.hid hp7
        clear hsp hu7 hp7
        generalize hW7 : w6.alloc (.cells #[.int .i64 k7, .bool n7, .slice a7 l7 c7, .bool b7, .string s7, .slice i7 m7 d7, .slice t7 o7 q7] 27) = W7 at *
        clear hW7
        refine HSP.out.mono ?_
        rintro e w8 ⟨⟨cu, cv, rfl, hDU, hDV⟩, hu⟩
        obtain ⟨k8, n8, a8, l8, c8, b8, s8, i8, m8, d8, t8, o8, q8, rfl⟩ := hDU.shaped
        obtain ⟨k9, n9, a9, l9, c9, b9, s9, i9, m9, d9, t9, o9, q9, rfl⟩ := hDV.shaped
        unfold datCells at *
        have HU8 := Lib.hid (HU6.out.then (HU7.out.then hu))
        have HV8 := Lib.hid ((HV6.out.then HU7.out).then hu)
        have HDU := Lib.hid hDU.any
        have HDV := Lib.hid hDV.any
        have HP8 := Lib.hid (hu.blk HP7.out (by simp))
        have HPD8 := Lib.hid (HP6.out.upd (HU7.out.then hu))
        have HBA8 := Lib.hid ((HU7.out.then hu).blk HBA6.out (by simp))
        have HB58 := Lib.hid ((HU7.out.then hu).blk HB56.out (by simp))
        have HB68 := Lib.hid ((HU7.out.then hu).blk HB66.out (by simp))
        clear hu hDU hDV HSP HP7 HP6 HBA6 HB56 HB66 HU6 HV6 HU7
        go_wp2_with fail
        have hu9 : Upd [] w8 ((w8.alloc (.cells #[.int .i64 k8, .bool n8, .slice a8 l8 c8, .bool b8, .string s8, .slice i8 m8 d8, .slice t8 o8 q8] 27)).alloc (.cells #[.int .i64 k9, .bool n9, .slice a9 l9 c9, .bool b9, .string s9, .slice i9 m9 d9, .slice t9 o9 q9] 27)) := ((Upd.refl [] w8).alloc _).alloc _
        have hbu : Blk ((w8.alloc (.cells #[.int .i64 k8, .bool n8, .slice a8 l8 c8, .bool b8, .string s8, .slice i8 m8 d8, .slice t8 o8 q8] 27)).alloc (.cells #[.int .i64 k9, .bool n9, .slice a9 l9 c9, .bool b9, .string s9, .slice i9 m9 d9, .slice t9 o9 q9] 27)) w8.heap.size [.int .i64 k8, .bool n8, .slice a8 l8 c8, .bool b8, .string s8, .slice i8 m8 d8, .slice t8 o8 q8] 27 := (Blk.newAt rfl).alloc _
        have hbv : Blk ((w8.alloc (.cells #[.int .i64 k8, .bool n8, .slice a8 l8 c8, .bool b8, .string s8, .slice i8 m8 d8, .slice t8 o8 q8] 27)).alloc (.cells #[.int .i64 k9, .bool n9, .slice a9 l9 c9, .bool b9, .string s9, .slice i9 m9 d9, .slice t9 o9 q9] 27)) (w8.heap.size + 1) [.int .i64 k9, .bool n9, .slice a9 l9 c9, .bool b9, .string s9, .slice i9 m9 d9, .slice t9 o9 q9] 27 := Blk.newAt (by simp)
        have HU9 := Lib.hid hu9
        have HV9 := Lib.hid (HV8.out.then hu9)
        have HW9 := Lib.hid (HU8.out.then hu9)
        have HBU := Lib.hid hbu
        have HBV := Lib.hid hbv
        have HBX := Lib.hid (hu9.blk HB58.out (by simp))
        have HBY := Lib.hid (hu9.blk HB68.out (by simp))
        have HBA := Lib.hid (hu9.blk HBA8.out (by simp))
        have HBP := Lib.hid (hu9.blk HP8.out (by simp))
        have HPD := Lib.hid (HPD8.out.upd hu9)
        clear hu9 hbu hbv HB58 HB68 HBA8 HP8 HPD8 HU8 HV8
        generalize ((w8.alloc (.cells #[.int .i64 k8, .bool n8, .slice a8 l8 c8, .bool b8, .string s8, .slice i8 m8 d8, .slice t8 o8 q8] 27)).alloc (.cells #[.int .i64 k9, .bool n9, .slice a9 l9 c9, .bool b9, .string s9, .slice i9 m9 d9, .slice t9 o9 q9] 27)) = W9 at *
        refine wp_region_inv 21 3 (fun d a W => ∃ z0 z1 z2 z3 z4 z5 z6 z7 z8 z9 z10 z11 z12 z13 z14 z15 z16 z17 z18 z19 z20 : Value, a = ⟨#[.agg #[.int .i64 ka, .bool na, .slice aa la ca, .bool ba, .string sa, .slice ia ma da, .slice ta oa pa], .agg #[.int .i64 kb, .bool nb, .slice ab lb cb, .bool bb, .string sb, .slice ib mb db, .slice tb ob pb], .pointer (some ⟨w.heap.size, 0, none⟩), .pointer (some ⟨w.heap.size + 1, 0, none⟩), .bool false, .pointer (some ⟨p5, 0, none⟩), .pointer (some ⟨p6, 0, none⟩), .pointer (some ⟨w6.heap.size, 0, none⟩), .pointer (some ⟨w8.heap.size, 0, none⟩), .pointer (some ⟨w8.heap.size + 1, 0, none⟩), .bool true, .agg #[.int .i64 ka, .bool na, .slice aa la ca, .bool ba, .string sa, .slice ia ma da, .slice ta oa pa], .bool true, .bool false, .bool false, .agg #[.int .i64 kb, .bool nb, .slice ab lb cb, .bool bb, .string sb, .slice ib mb db, .slice tb ob pb], .bool true, .bool false, .bool false, undef, v20, .agg #[.int .i64 k1, .bool n1, .slice a1 l1 c1, .bool b1, .string s1, .slice i1 m1 d1, .slice t1 o1 q1], v22, .agg #[.int .i64 k2, .bool n2, .slice a2 l2 c2, .bool b2, .string s2, .slice i2 m2 d2, .slice t2 o2 q2], .agg #[.int .i64 ka, .bool na, .slice aa la ca, .bool ba, .string sa, .slice ia ma da, .slice ta oa pa], .agg #[.int .i64 kb, .bool nb, .slice ab lb cb, .bool bb, .string sb, .slice ib mb db, .slice tb ob pb], .agg #[.int .i64 k7, .bool n7, .slice a7 l7 c7, .bool b7, .string s7, .slice i7 m7 d7, .slice t7 o7 q7], .tuple #[.agg #[.int .i64 k8, .bool n8, .slice a8 l8 c8, .bool b8, .string s8, .slice i8 m8 d8, .slice t8 o8 q8], .agg #[.int .i64 k9, .bool n9, .slice a9 l9 c9, .bool b9, .string s9, .slice i9 m9 d9, .slice t9 o9 q9], .bool true], .agg #[.int .i64 k7, .bool n7, .slice a7 l7 c7, .bool b7, .string s7, .slice i7 m7 d7, .slice t7 o7 q7], .tuple #[.agg #[.int .i64 k8, .bool n8, .slice a8 l8 c8, .bool b8, .string s8, .slice i8 m8 d8, .slice t8 o8 q8], .agg #[.int .i64 k9, .bool n9, .slice a9 l9 c9, .bool b9, .string s9, .slice i9 m9 d9, .slice t9 o9 q9], .bool true], .agg #[.int .i64 k8, .bool n8, .slice a8 l8 c8, .bool b8, .string s8, .slice i8 m8 d8, .slice t8 o8 q8], .agg #[.int .i64 k9, .bool n9, .slice a9 l9 c9, .bool b9, .string s9, .slice i9 m9 d9, .slice t9 o9 q9], .bool true, z0, z1, z2, z3, z4, z5, z6, z7, z8, z9, z10, z11, z12, z13, z14, z15, z16, z17, z18, z19, z20, undef, undef, undef, undef, undef, undef, undef, undef, undef, undef, undef, undef, undef, undef, undef, undef, undef, undef, undef, undef, undef, undef], []⟩ ∧ RInv W9 [.val (.bool true), .val (.bool false), .val (.bool false), .val (.agg #[.int .i64 k8, .bool n8, .slice a8 l8 c8, .bool b8, .string s8, .slice i8 m8 d8, .slice t8 o8 q8]), .val (.agg #[.int .i64 k1, .bool n1, .slice a1 l1 c1, .bool b1, .string s1, .slice i1 m1 d1, .slice t1 o1 q1]), .val (.bool true), .val (.bool false), .val (.bool false), .val (.bool false), .val (.agg #[.int .i64 k9, .bool n9, .slice a9 l9 c9, .bool b9, .string s9, .slice i9 m9 d9, .slice t9 o9 q9]), .val (.agg #[.int .i64 k2, .bool n2, .slice a2 l2 c2, .bool b2, .string s2, .slice i2 m2 d2, .slice t2 o2 q2]), .val (.bool true), .val (.bool false), .val (.bool false), .val (.bool false), .val (.agg #[.int .i64 k1, .bool n1, .slice a1 l1 c1, .bool b1, .string s1, .slice i1 m1 d1, .slice t1 o1 q1]), .dat n x, .val (.agg #[.int .i64 k1, .bool n1, .slice a1 l1 c1, .bool b1, .string s1, .slice i1 m1 d1, .slice t1 o1 q1]), .val (.bool true), .val (.bool false), .val (.bool false)] d W [z0, z1, z2, z3, z4, z5, z6, z7, z8, z9, z10, z11, z12, z13, z14, z15, z16, z17, z18, z19, z20]) (by kernel_rfl) (by kernel_rfl) ⟨_, _, _, _, _, _, _, _, _, _, _, _, _, _, _, _, _, _, _, _, _, rfl, RInv.new⟩ ?steps ?rest
        case steps =>
          show StepsOk _ _ _ _ [0, 1, 2, 3, 4, 5, 6, 7, 8, 9, 10, 11, 12, 13, 14, 15, 16, 17, 18, 19, 20]
          refine StepsOk.cons (js := []) rfl (by kernel_rfl) ?_ ?_
          · rintro d a W ⟨z0, z1, z2, z3, z4, z5, z6, z7, z8, z9, z10, z11, z12, z13, z14, z15, z16, z17, z18, z19, z20, rfl, h⟩ hd hdeps K hK
            have H := Lib.hid h
            clear h hdeps hd
            go_simp
            exact hK _ _ ⟨_, _, _, _, _, _, _, _, _, _, _, _, _, _, _, _, _, _, _, _, _, rfl, H.out.keep 0 rfl (show 0 < 21 by decide) rfl⟩
          refine StepsOk.cons (js := [0]) rfl (by kernel_rfl) ?_ ?_
          · rintro d a W ⟨z0, z1, z2, z3, z4, z5, z6, z7, z8, z9, z10, z11, z12, z13, z14, z15, z16, z17, z18, z19, z20, rfl, h⟩ hd hdeps K hK
            have r0 : z0 = .bool true := h.res 0 _ rfl (hdeps 0 (by simp))
            subst r0
            have H := Lib.hid h
            clear h hdeps hd
            go_simp
            exact hK _ _ ⟨_, _, _, _, _, _, _, _, _, _, _, _, _, _, _, _, _, _, _, _, _, rfl, H.out.keep 1 rfl (show 1 < 21 by decide) rfl⟩
          refine StepsOk.cons (js := [1]) rfl (by kernel_rfl) ?_ ?_
          · rintro d a W ⟨z0, z1, z2, z3, z4, z5, z6, z7, z8, z9, z10, z11, z12, z13, z14, z15, z16, z17, z18, z19, z20, rfl, h⟩ hd hdeps K hK
            have r1 : z1 = .bool false := h.res 1 _ rfl (hdeps 1 (by simp))
            subst r1
            have H := Lib.hid h
            clear h hdeps hd
            go_simp
            exact hK _ _ ⟨_, _, _, _, _, _, _, _, _, _, _, _, _, _, _, _, _, _, _, _, _, rfl, H.out.keep 2 rfl (show 2 < 21 by decide) rfl⟩
          refine StepsOk.cons (js := [2]) rfl (by kernel_rfl) ?_ ?_
          · rintro d a W ⟨z0, z1, z2, z3, z4, z5, z6, z7, z8, z9, z10, z11, z12, z13, z14, z15, z16, z17, z18, z19, z20, rfl, h⟩ hd hdeps K hK
            have r2 : z2 = .bool false := h.res 2 _ rfl (hdeps 2 (by simp))
            subst r2
            obtain ⟨x0, x1, x2, x3, x4, x5, x6⟩ := Blk.seven (h.upd.blk HBU.out (by simp))
            have H := Lib.hid h
            clear h hdeps hd
            go_simp
            exact hK _ _ ⟨_, _, _, _, _, _, _, _, _, _, _, _, _, _, _, _, _, _, _, _, _, rfl, H.out.keep 3 rfl (show 3 < 21 by decide) rfl⟩
          refine StepsOk.cons (js := [2]) rfl (by kernel_rfl) ?_ ?_
          · rintro d a W ⟨z0, z1, z2, z3, z4, z5, z6, z7, z8, z9, z10, z11, z12, z13, z14, z15, z16, z17, z18, z19, z20, rfl, h⟩ hd hdeps K hK
            have r2 : z2 = .bool false := h.res 2 _ rfl (hdeps 2 (by simp))
            subst r2
            obtain ⟨x0, x1, x2, x3, x4, x5, x6⟩ := Blk.seven (h.upd.blk HBX.out (by simp))
            have H := Lib.hid h
            clear h hdeps hd
            go_simp
            exact hK _ _ ⟨_, _, _, _, _, _, _, _, _, _, _, _, _, _, _, _, _, _, _, _, _, rfl, H.out.keep 4 rfl (show 4 < 21 by decide) rfl⟩
          refine StepsOk.cons (js := [3, 4, 2, 2]) rfl (by kernel_rfl) ?_ ?_
          · rintro d a W ⟨z0, z1, z2, z3, z4, z5, z6, z7, z8, z9, z10, z11, z12, z13, z14, z15, z16, z17, z18, z19, z20, rfl, h⟩ hd hdeps K hK
            have r3 : z3 = .agg #[.int .i64 k8, .bool n8, .slice a8 l8 c8, .bool b8, .string s8, .slice i8 m8 d8, .slice t8 o8 q8] := h.res 3 _ rfl (hdeps 3 (by simp))
            subst r3
            have r4 : z4 = .agg #[.int .i64 k1, .bool n1, .slice a1 l1 c1, .bool b1, .string s1, .slice i1 m1 d1, .slice t1 o1 q1] := h.res 4 _ rfl (hdeps 4 (by simp))
            subst r4
            have r2 : z2 = .bool false := h.res 2 _ rfl (hdeps 2 (by simp))
            subst r2
            have H := Lib.hid h
            clear h hdeps hd
            go_wp2_with fail
            refine (Same_calls (HDU.out.upd (HU9.out.then H.out.upd)) (HDX.out W (HV9.out.then H.out.upd)) (by have := HSZ.out.2.2.1; omega) (by have := HSZ.out.2.2.2.1; omega)).mono ?_
            rintro e w9 ⟨rfl, hu⟩
            exact hK _ _ ⟨_, _, _, _, _, _, _, _, _, _, _, _, _, _, _, _, _, _, _, _, _, rfl, H.out.put 5 rfl (show 5 < 21 by decide) hu rfl⟩
          refine StepsOk.cons (js := [5, 2]) rfl (by kernel_rfl) ?_ ?_
          · rintro d a W ⟨z0, z1, z2, z3, z4, z5, z6, z7, z8, z9, z10, z11, z12, z13, z14, z15, z16, z17, z18, z19, z20, rfl, h⟩ hd hdeps K hK
            have r5 : z5 = .bool true := h.res 5 _ rfl (hdeps 5 (by simp))
            subst r5
            have r2 : z2 = .bool false := h.res 2 _ rfl (hdeps 2 (by simp))
            subst r2
            have H := Lib.hid h
            clear h hdeps hd
            go_simp
            exact hK _ _ ⟨_, _, _, _, _, _, _, _, _, _, _, _, _, _, _, _, _, _, _, _, _, rfl, H.out.keep 6 rfl (show 6 < 21 by decide) rfl⟩
          refine StepsOk.cons (js := [2, 6]) rfl (by kernel_rfl) ?_ ?_
          · rintro d a W ⟨z0, z1, z2, z3, z4, z5, z6, z7, z8, z9, z10, z11, z12, z13, z14, z15, z16, z17, z18, z19, z20, rfl, h⟩ hd hdeps K hK
            have r2 : z2 = .bool false := h.res 2 _ rfl (hdeps 2 (by simp))
            subst r2
            have r6 : z6 = .bool false := h.res 6 _ rfl (hdeps 6 (by simp))
            subst r6
            have H := Lib.hid h
            clear h hdeps hd
            go_simp
            exact hK _ _ ⟨_, _, _, _, _, _, _, _, _, _, _, _, _, _, _, _, _, _, _, _, _, rfl, H.out.keep 7 rfl (show 7 < 21 by decide) rfl⟩
          refine StepsOk.cons (js := [7, 5]) rfl (by kernel_rfl) ?_ ?_
          · rintro d a W ⟨z0, z1, z2, z3, z4, z5, z6, z7, z8, z9, z10, z11, z12, z13, z14, z15, z16, z17, z18, z19, z20, rfl, h⟩ hd hdeps K hK
            have r7 : z7 = .bool false := h.res 7 _ rfl (hdeps 7 (by simp))
            subst r7
            have r5 : z5 = .bool true := h.res 5 _ rfl (hdeps 5 (by simp))
            subst r5
            have H := Lib.hid h
            clear h hdeps hd
            go_simp
            exact hK _ _ ⟨_, _, _, _, _, _, _, _, _, _, _, _, _, _, _, _, _, _, _, _, _, rfl, H.out.keep 8 rfl (show 8 < 21 by decide) rfl⟩
          refine StepsOk.cons (js := [8]) rfl (by kernel_rfl) ?_ ?_
          · rintro d a W ⟨z0, z1, z2, z3, z4, z5, z6, z7, z8, z9, z10, z11, z12, z13, z14, z15, z16, z17, z18, z19, z20, rfl, h⟩ hd hdeps K hK
            have r8 : z8 = .bool false := h.res 8 _ rfl (hdeps 8 (by simp))
            subst r8
            obtain ⟨x0, x1, x2, x3, x4, x5, x6⟩ := Blk.seven (h.upd.blk HBV.out (by simp))
            have H := Lib.hid h
            clear h hdeps hd
            go_simp
            exact hK _ _ ⟨_, _, _, _, _, _, _, _, _, _, _, _, _, _, _, _, _, _, _, _, _, rfl, H.out.keep 9 rfl (show 9 < 21 by decide) rfl⟩
          refine StepsOk.cons (js := [8]) rfl (by kernel_rfl) ?_ ?_
          · rintro d a W ⟨z0, z1, z2, z3, z4, z5, z6, z7, z8, z9, z10, z11, z12, z13, z14, z15, z16, z17, z18, z19, z20, rfl, h⟩ hd hdeps K hK
            have r8 : z8 = .bool false := h.res 8 _ rfl (hdeps 8 (by simp))
            subst r8
            obtain ⟨x0, x1, x2, x3, x4, x5, x6⟩ := Blk.seven (h.upd.blk HBY.out (by simp))
            have H := Lib.hid h
            clear h hdeps hd
            go_simp
            exact hK _ _ ⟨_, _, _, _, _, _, _, _, _, _, _, _, _, _, _, _, _, _, _, _, _, rfl, H.out.keep 10 rfl (show 10 < 21 by decide) rfl⟩
          refine StepsOk.cons (js := [9, 10, 8, 8]) rfl (by kernel_rfl) ?_ ?_
          · rintro d a W ⟨z0, z1, z2, z3, z4, z5, z6, z7, z8, z9, z10, z11, z12, z13, z14, z15, z16, z17, z18, z19, z20, rfl, h⟩ hd hdeps K hK
            have r9 : z9 = .agg #[.int .i64 k9, .bool n9, .slice a9 l9 c9, .bool b9, .string s9, .slice i9 m9 d9, .slice t9 o9 q9] := h.res 9 _ rfl (hdeps 9 (by simp))
            subst r9
            have r10 : z10 = .agg #[.int .i64 k2, .bool n2, .slice a2 l2 c2, .bool b2, .string s2, .slice i2 m2 d2, .slice t2 o2 q2] := h.res 10 _ rfl (hdeps 10 (by simp))
            subst r10
            have r8 : z8 = .bool false := h.res 8 _ rfl (hdeps 8 (by simp))
            subst r8
            have H := Lib.hid h
            clear h hdeps hd
            go_wp2_with fail
            refine (Same_calls (HDV.out.upd (HU9.out.then H.out.upd)) ((HDY.out W (HV9.out.then H.out.upd)).more 1) (by have := HSZ.out.2.2.2.2.1; rw [szN_one _ _ (by omega)]; omega) (by have := HSZ.out.2.2.2.2.1; have := HSZ.out.2.2.2.2.2.1; rw [dpN_one _ _ (by omega)]; omega)).mono ?_
            rintro e w9 ⟨rfl, hu⟩
            exact hK _ _ ⟨_, _, _, _, _, _, _, _, _, _, _, _, _, _, _, _, _, _, _, _, _, rfl, H.out.put 11 rfl (show 11 < 21 by decide) hu rfl⟩
          refine StepsOk.cons (js := [11, 8]) rfl (by kernel_rfl) ?_ ?_
          · rintro d a W ⟨z0, z1, z2, z3, z4, z5, z6, z7, z8, z9, z10, z11, z12, z13, z14, z15, z16, z17, z18, z19, z20, rfl, h⟩ hd hdeps K hK
            have r11 : z11 = .bool true := h.res 11 _ rfl (hdeps 11 (by simp))
            subst r11
            have r8 : z8 = .bool false := h.res 8 _ rfl (hdeps 8 (by simp))
            subst r8
            have H := Lib.hid h
            clear h hdeps hd
            go_simp
            exact hK _ _ ⟨_, _, _, _, _, _, _, _, _, _, _, _, _, _, _, _, _, _, _, _, _, rfl, H.out.keep 12 rfl (show 12 < 21 by decide) rfl⟩
          refine StepsOk.cons (js := [8, 12]) rfl (by kernel_rfl) ?_ ?_
          · rintro d a W ⟨z0, z1, z2, z3, z4, z5, z6, z7, z8, z9, z10, z11, z12, z13, z14, z15, z16, z17, z18, z19, z20, rfl, h⟩ hd hdeps K hK
            have r8 : z8 = .bool false := h.res 8 _ rfl (hdeps 8 (by simp))
            subst r8
            have r12 : z12 = .bool false := h.res 12 _ rfl (hdeps 12 (by simp))
            subst r12
            have H := Lib.hid h
            clear h hdeps hd
            go_simp
            exact hK _ _ ⟨_, _, _, _, _, _, _, _, _, _, _, _, _, _, _, _, _, _, _, _, _, rfl, H.out.keep 13 rfl (show 13 < 21 by decide) rfl⟩
          refine StepsOk.cons (js := [13, 11]) rfl (by kernel_rfl) ?_ ?_
          · rintro d a W ⟨z0, z1, z2, z3, z4, z5, z6, z7, z8, z9, z10, z11, z12, z13, z14, z15, z16, z17, z18, z19, z20, rfl, h⟩ hd hdeps K hK
            have r13 : z13 = .bool false := h.res 13 _ rfl (hdeps 13 (by simp))
            subst r13
            have r11 : z11 = .bool true := h.res 11 _ rfl (hdeps 11 (by simp))
            subst r11
            have H := Lib.hid h
            clear h hdeps hd
            go_simp
            exact hK _ _ ⟨_, _, _, _, _, _, _, _, _, _, _, _, _, _, _, _, _, _, _, _, _, rfl, H.out.keep 14 rfl (show 14 < 21 by decide) rfl⟩
          refine StepsOk.cons (js := [14]) rfl (by kernel_rfl) ?_ ?_
          · rintro d a W ⟨z0, z1, z2, z3, z4, z5, z6, z7, z8, z9, z10, z11, z12, z13, z14, z15, z16, z17, z18, z19, z20, rfl, h⟩ hd hdeps K hK
            have r14 : z14 = .bool false := h.res 14 _ rfl (hdeps 14 (by simp))
            subst r14
            obtain ⟨x0, x1, x2, x3, x4, x5, x6⟩ := Blk.seven (h.upd.blk HBX.out (by simp))
            have H := Lib.hid h
            clear h hdeps hd
            go_simp
            exact hK _ _ ⟨_, _, _, _, _, _, _, _, _, _, _, _, _, _, _, _, _, _, _, _, _, rfl, H.out.keep 15 rfl (show 15 < 21 by decide) rfl⟩
          refine StepsOk.cons (js := [15, 14, 14]) rfl (by kernel_rfl) ?_ ?_
          · rintro d a W ⟨z0, z1, z2, z3, z4, z5, z6, z7, z8, z9, z10, z11, z12, z13, z14, z15, z16, z17, z18, z19, z20, rfl, h⟩ hd hdeps K hK
            have r15 : z15 = .agg #[.int .i64 k1, .bool n1, .slice a1 l1 c1, .bool b1, .string s1, .slice i1 m1 d1, .slice t1 o1 q1] := h.res 15 _ rfl (hdeps 15 (by simp))
            subst r15
            have r14 : z14 = .bool false := h.res 14 _ rfl (hdeps 14 (by simp))
            subst r14
            have H := Lib.hid h
            clear h hdeps hd
            go_wp2_with fail
            refine (Norm_calls (HDX.out W (HV9.out.then H.out.upd)) (by have := HSZ.out.2.2.1; omega) (by have := HSZ.out.2.2.2.1; omega)).mono ?_
            rintro e w9 ⟨⟨cs, rfl, hD⟩, hu⟩
            exact hK _ _ ⟨_, _, _, _, _, _, _, _, _, _, _, _, _, _, _, _, _, _, _, _, _, rfl, H.out.put 16 rfl (show 16 < 21 by decide) hu ⟨cs, rfl, by rw [HFX.out.2] at hD; exact hD.any⟩⟩
          refine StepsOk.cons (js := [14]) rfl (by kernel_rfl) ?_ ?_
          · rintro d a W ⟨z0, z1, z2, z3, z4, z5, z6, z7, z8, z9, z10, z11, z12, z13, z14, z15, z16, z17, z18, z19, z20, rfl, h⟩ hd hdeps K hK
            have r14 : z14 = .bool false := h.res 14 _ rfl (hdeps 14 (by simp))
            subst r14
            obtain ⟨x0, x1, x2, x3, x4, x5, x6⟩ := Blk.seven (h.upd.blk HBX.out (by simp))
            have H := Lib.hid h
            clear h hdeps hd
            go_simp
            exact hK _ _ ⟨_, _, _, _, _, _, _, _, _, _, _, _, _, _, _, _, _, _, _, _, _, rfl, H.out.keep 17 rfl (show 17 < 21 by decide) rfl⟩
          refine StepsOk.cons (js := [16, 17, 16, 14]) rfl (by kernel_rfl) ?_ ?_
          · rintro d a W ⟨z0, z1, z2, z3, z4, z5, z6, z7, z8, z9, z10, z11, z12, z13, z14, z15, z16, z17, z18, z19, z20, rfl, h⟩ hd hdeps K hK
            obtain ⟨cs16, r16, hD16⟩ : Lv.holds W (.dat n x) z16 := h.res 16 _ rfl (hdeps 16 (by simp))
            subst r16
            obtain ⟨kD, nD, aD, lD, cD, bD, sD, iD, mD, dD, tD, oD, qD, rfl⟩ := hD16.shaped
            unfold datCells at *
            have HD16 := Lib.hid hD16
            have r17 : z17 = .agg #[.int .i64 k1, .bool n1, .slice a1 l1 c1, .bool b1, .string s1, .slice i1 m1 d1, .slice t1 o1 q1] := h.res 17 _ rfl (hdeps 17 (by simp))
            subst r17
            have r14 : z14 = .bool false := h.res 14 _ rfl (hdeps 14 (by simp))
            subst r14
            have H := Lib.hid h
            clear h hdeps hd hD16
            go_wp2_with fail
            refine (Same_calls HD16.out (HDX.out W (HV9.out.then H.out.upd)) (by have := HSZ.out.2.2.1; omega) (by have := HSZ.out.2.2.2.1; omega)).mono ?_
            rintro e w9 ⟨rfl, hu⟩
            exact hK _ _ ⟨_, _, _, _, _, _, _, _, _, _, _, _, _, _, _, _, _, _, _, _, _, rfl, H.out.put 18 rfl (show 18 < 21 by decide) hu rfl⟩
          refine StepsOk.cons (js := [18, 14]) rfl (by kernel_rfl) ?_ ?_
          · rintro d a W ⟨z0, z1, z2, z3, z4, z5, z6, z7, z8, z9, z10, z11, z12, z13, z14, z15, z16, z17, z18, z19, z20, rfl, h⟩ hd hdeps K hK
            have r18 : z18 = .bool true := h.res 18 _ rfl (hdeps 18 (by simp))
            subst r18
            have r14 : z14 = .bool false := h.res 14 _ rfl (hdeps 14 (by simp))
            subst r14
            have H := Lib.hid h
            clear h hdeps hd
            go_simp
            exact hK _ _ ⟨_, _, _, _, _, _, _, _, _, _, _, _, _, _, _, _, _, _, _, _, _, rfl, H.out.keep 19 rfl (show 19 < 21 by decide) rfl⟩
          refine StepsOk.cons (js := [14, 19]) rfl (by kernel_rfl) ?_ StepsOk.nil
          · rintro d a W ⟨z0, z1, z2, z3, z4, z5, z6, z7, z8, z9, z10, z11, z12, z13, z14, z15, z16, z17, z18, z19, z20, rfl, h⟩ hd hdeps K hK
            have r14 : z14 = .bool false := h.res 14 _ rfl (hdeps 14 (by simp))
            subst r14
            have r19 : z19 = .bool false := h.res 19 _ rfl (hdeps 19 (by simp))
            subst r19
            have H := Lib.hid h
            clear h hdeps hd
            go_simp
            exact hK _ _ ⟨_, _, _, _, _, _, _, _, _, _, _, _, _, _, _, _, _, _, _, _, _, rfl, H.out.keep 20 rfl (show 20 < 21 by decide) rfl⟩
        case rest =>
          rintro d a' W ⟨z0, z1, z2, z3, z4, z5, z6, z7, z8, z9, z10, z11, z12, z13, z14, z15, z16, z17, z18, z19, z20, rfl, h⟩ hd
          have r0 : z0 = .bool true := h.res 0 _ rfl (hd 0 (by omega))
          subst r0
          have r1 : z1 = .bool false := h.res 1 _ rfl (hd 1 (by omega))
          subst r1
          have r2 : z2 = .bool false := h.res 2 _ rfl (hd 2 (by omega))
          subst r2
          have r3 : z3 = .agg #[.int .i64 k8, .bool n8, .slice a8 l8 c8, .bool b8, .string s8, .slice i8 m8 d8, .slice t8 o8 q8] := h.res 3 _ rfl (hd 3 (by omega))
          subst r3
          have r4 : z4 = .agg #[.int .i64 k1, .bool n1, .slice a1 l1 c1, .bool b1, .string s1, .slice i1 m1 d1, .slice t1 o1 q1] := h.res 4 _ rfl (hd 4 (by omega))
          subst r4
          have r5 : z5 = .bool true := h.res 5 _ rfl (hd 5 (by omega))
          subst r5
          have r6 : z6 = .bool false := h.res 6 _ rfl (hd 6 (by omega))
          subst r6
          have r7 : z7 = .bool false := h.res 7 _ rfl (hd 7 (by omega))
          subst r7
          have r8 : z8 = .bool false := h.res 8 _ rfl (hd 8 (by omega))
          subst r8
          have r9 : z9 = .agg #[.int .i64 k9, .bool n9, .slice a9 l9 c9, .bool b9, .string s9, .slice i9 m9 d9, .slice t9 o9 q9] := h.res 9 _ rfl (hd 9 (by omega))
          subst r9
          have r10 : z10 = .agg #[.int .i64 k2, .bool n2, .slice a2 l2 c2, .bool b2, .string s2, .slice i2 m2 d2, .slice t2 o2 q2] := h.res 10 _ rfl (hd 10 (by omega))
          subst r10
          have r11 : z11 = .bool true := h.res 11 _ rfl (hd 11 (by omega))
          subst r11
          have r12 : z12 = .bool false := h.res 12 _ rfl (hd 12 (by omega))
          subst r12
          have r13 : z13 = .bool false := h.res 13 _ rfl (hd 13 (by omega))
          subst r13
          have r14 : z14 = .bool false := h.res 14 _ rfl (hd 14 (by omega))
          subst r14
          have r15 : z15 = .agg #[.int .i64 k1, .bool n1, .slice a1 l1 c1, .bool b1, .string s1, .slice i1 m1 d1, .slice t1 o1 q1] := h.res 15 _ rfl (hd 15 (by omega))
          subst r15
          obtain ⟨cs16, r16, _⟩ : Lv.holds W (.dat n x) z16 := h.res 16 _ rfl (hd 16 (by omega))
          clear r16
          have r17 : z17 = .agg #[.int .i64 k1, .bool n1, .slice a1 l1 c1, .bool b1, .string s1, .slice i1 m1 d1, .slice t1 o1 q1] := h.res 17 _ rfl (hd 17 (by omega))
          subst r17
          have r18 : z18 = .bool true := h.res 18 _ rfl (hd 18 (by omega))
          subst r18
          have r19 : z19 = .bool false := h.res 19 _ rfl (hd 19 (by omega))
          subst r19
          have r20 : z20 = .bool false := h.res 20 _ rfl (hd 20 (by omega))
          subst r20
          have hu := h.upd
          clear h hd
          have HU10 := Lib.hid (HW9.out.then hu)
          have HV10 := Lib.hid (HV9.out.then hu)
          have HBA10 := Lib.hid (hu.blk HBA.out (by simp))
          have HBX10 := Lib.hid (hu.blk HBX.out (by simp))
          have HBP10 := Lib.hid (hu.blk HBP.out (by simp))
          have HPD10 := Lib.hid (HPD.out.upd hu)
          clear hu HBU HBV HBX HBY HBA HBP HPD HU9 HV9 HW9 HDU HDV
          refine wpList_nil ?_
          obtain ⟨x0, x1, x2, x3, x4, x5, x6⟩ := Blk.seven HBA10.out
          have hsa := HRA.out.1
          have hda := HRA.out.2
          go_wp2_with fail
          refine (Good_calls (HA.out _ HU10.out) (by omega)).mono ?_
          rintro e w11 ⟨⟨r, rfl, hr⟩, hu⟩
          have HU11 := Lib.hid (HU10.out.then hu)
          have HV11 := Lib.hid (HV10.out.then hu)
          have HBA11 := Lib.hid (hu.blk HBA10.out (by simp))
          have HBX11 := Lib.hid (hu.blk HBX10.out (by simp))
          have HBP11 := Lib.hid (hu.blk HBP10.out (by simp))
          have HPD11 := Lib.hid (HPD10.out.upd hu)
          clear hu HBA10 HBX10 HBP10 HPD10 HU10 HV10 x0 x1 x2 x3 x4 x5 x6
          cases r with
          | false =>
            clear hr hsa hda
            go_wp2_with fail
            refine wp_region_inv 15 3 (fun d a W => ∃ z0 z1 z2 z3 z4 z5 z6 z7 z8 z9 z10 z11 z12 z13 z14 : Value, a = ⟨#[.agg #[.int .i64 ka, .bool na, .slice aa la ca, .bool ba, .string sa, .slice ia ma da, .slice ta oa pa], .agg #[.int .i64 kb, .bool nb, .slice ab lb cb, .bool bb, .string sb, .slice ib mb db, .slice tb ob pb], .pointer (some ⟨w.heap.size, 0, none⟩), .pointer (some ⟨w.heap.size + 1, 0, none⟩), z14, .pointer (some ⟨p5, 0, none⟩), .pointer (some ⟨p6, 0, none⟩), .pointer (some ⟨w6.heap.size, 0, none⟩), .pointer (some ⟨w8.heap.size, 0, none⟩), .pointer (some ⟨w8.heap.size + 1, 0, none⟩), .bool true, .agg #[.int .i64 ka, .bool na, .slice aa la ca, .bool ba, .string sa, .slice ia ma da, .slice ta oa pa], .bool true, .bool false, .bool false, .agg #[.int .i64 kb, .bool nb, .slice ab lb cb, .bool bb, .string sb, .slice ib mb db, .slice tb ob pb], .bool true, .bool false, .bool false, undef, v20, .agg #[.int .i64 k1, .bool n1, .slice a1 l1 c1, .bool b1, .string s1, .slice i1 m1 d1, .slice t1 o1 q1], v22, .agg #[.int .i64 k2, .bool n2, .slice a2 l2 c2, .bool b2, .string s2, .slice i2 m2 d2, .slice t2 o2 q2], .agg #[.int .i64 ka, .bool na, .slice aa la ca, .bool ba, .string sa, .slice ia ma da, .slice ta oa pa], .agg #[.int .i64 kb, .bool nb, .slice ab lb cb, .bool bb, .string sb, .slice ib mb db, .slice tb ob pb], .agg #[.int .i64 k7, .bool n7, .slice a7 l7 c7, .bool b7, .string s7, .slice i7 m7 d7, .slice t7 o7 q7], .tuple #[.agg #[.int .i64 k8, .bool n8, .slice a8 l8 c8, .bool b8, .string s8, .slice i8 m8 d8, .slice t8 o8 q8], .agg #[.int .i64 k9, .bool n9, .slice a9 l9 c9, .bool b9, .string s9, .slice i9 m9 d9, .slice t9 o9 q9], .bool true], .agg #[.int .i64 k7, .bool n7, .slice a7 l7 c7, .bool b7, .string s7, .slice i7 m7 d7, .slice t7 o7 q7], .tuple #[.agg #[.int .i64 k8, .bool n8, .slice a8 l8 c8, .bool b8, .string s8, .slice i8 m8 d8, .slice t8 o8 q8], .agg #[.int .i64 k9, .bool n9, .slice a9 l9 c9, .bool b9, .string s9, .slice i9 m9 d9, .slice t9 o9 q9], .bool true], .agg #[.int .i64 k8, .bool n8, .slice a8 l8 c8, .bool b8, .string s8, .slice i8 m8 d8, .slice t8 o8 q8], .agg #[.int .i64 k9, .bool n9, .slice a9 l9 c9, .bool b9, .string s9, .slice i9 m9 d9, .slice t9 o9 q9], .bool true, .bool true, .bool false, .bool false, .agg #[.int .i64 k8, .bool n8, .slice a8 l8 c8, .bool b8, .string s8, .slice i8 m8 d8, .slice t8 o8 q8], .agg #[.int .i64 k1, .bool n1, .slice a1 l1 c1, .bool b1, .string s1, .slice i1 m1 d1, .slice t1 o1 q1], .bool true, .bool false, .bool false, .bool false, .agg #[.int .i64 k9, .bool n9, .slice a9 l9 c9, .bool b9, .string s9, .slice i9 m9 d9, .slice t9 o9 q9], .agg #[.int .i64 k2, .bool n2, .slice a2 l2 c2, .bool b2, .string s2, .slice i2 m2 d2, .slice t2 o2 q2], .bool true, .bool false, .bool false, .bool false, .agg #[.int .i64 k1, .bool n1, .slice a1 l1 c1, .bool b1, .string s1, .slice i1 m1 d1, .slice t1 o1 q1], z16, .agg #[.int .i64 k1, .bool n1, .slice a1 l1 c1, .bool b1, .string s1, .slice i1 m1 d1, .slice t1 o1 q1], .bool true, .bool false, .bool false, .agg #[.int .i64 ka, .bool na, .slice aa la ca, .bool ba, .string sa, .slice ia ma da, .slice ta oa pa], .bool false, .bool false, undef, undef, undef, undef, .bool false, z0, z1, z2, z3, z4, z5, z6, z7, z8, z9, z10, z11, z12, z13], []⟩ ∧ RInv w11 [.val (.agg #[.int .i64 k7, .bool n7, .slice a7 l7 c7, .bool b7, .string s7, .slice i7 m7 d7, .slice t7 o7 q7]), .dat (n + 1) p, .val (.agg #[.int .i64 k7, .bool n7, .slice a7 l7 c7, .bool b7, .string s7, .slice i7 m7 d7, .slice t7 o7 q7]), .val (.bool true), .val (.bool true), .val (.agg #[.int .i64 k7, .bool n7, .slice a7 l7 c7, .bool b7, .string s7, .slice i7 m7 d7, .slice t7 o7 q7]), .val (.int .i64 ((szN (n + 1) p : Nat) : Int)), .val (.agg #[.int .i64 k1, .bool n1, .slice a1 l1 c1, .bool b1, .string s1, .slice i1 m1 d1, .slice t1 o1 q1]), .val (.int .i64 ((szN n x : Nat) : Int)), .val (.bool true), .val (.bool true), .val (.bool true), .val (.bool true), .val (.bool true), .val (.bool true)] d W [z0, z1, z2, z3, z4, z5, z6, z7, z8, z9, z10, z11, z12, z13, z14]) (by kernel_rfl) (by kernel_rfl) ⟨_, _, _, _, _, _, _, _, _, _, _, _, _, _, _, rfl, RInv.new⟩ ?steps ?rest
            case steps =>
              show StepsOk _ _ _ _ [0, 1, 2, 3, 4, 5, 6, 7, 8, 9, 10, 11, 12, 13, 14]
              refine StepsOk.cons (js := []) rfl (by kernel_rfl) ?_ ?_
              · rintro d a W ⟨z0, z1, z2, z3, z4, z5, z6, z7, z8, z9, z10, z11, z12, z13, z14, rfl, h⟩ hd hdeps K hK
                obtain ⟨x0, x1, x2, x3, x4, x5, x6⟩ := Blk.seven (h.upd.blk HBP11.out (by simp))
                have H := Lib.hid h
                clear h hdeps hd
                go_simp
                exact hK _ _ ⟨_, _, _, _, _, _, _, _, _, _, _, _, _, _, _, rfl, H.out.keep 0 rfl (show 0 < 15 by decide) rfl⟩
              refine StepsOk.cons (js := [0]) rfl (by kernel_rfl) ?_ ?_
              · rintro d a W ⟨z0, z1, z2, z3, z4, z5, z6, z7, z8, z9, z10, z11, z12, z13, z14, rfl, h⟩ hd hdeps K hK
                have r0 : z0 = .agg #[.int .i64 k7, .bool n7, .slice a7 l7 c7, .bool b7, .string s7, .slice i7 m7 d7, .slice t7 o7 q7] := h.res 0 _ rfl (hdeps 0 (by simp))
                subst r0
                have H := Lib.hid h
                clear h hdeps hd
                go_wp2_with fail
                refine (Norm_calls (HPD11.out.upd H.out.upd) (by have := HSZ.out.1; omega) (by have := HSZ.out.2.1; omega)).mono ?_
                rintro e w9 ⟨⟨cs, rfl, hD⟩, hu⟩
                exact hK _ _ ⟨_, _, _, _, _, _, _, _, _, _, _, _, _, _, _, rfl, H.out.put 1 rfl (show 1 < 15 by decide) hu ⟨cs, rfl, by rw [HFX.out.1] at hD; exact hD.any⟩⟩
              refine StepsOk.cons (js := []) rfl (by kernel_rfl) ?_ ?_
              · rintro d a W ⟨z0, z1, z2, z3, z4, z5, z6, z7, z8, z9, z10, z11, z12, z13, z14, rfl, h⟩ hd hdeps K hK
                obtain ⟨x0, x1, x2, x3, x4, x5, x6⟩ := Blk.seven (h.upd.blk HBP11.out (by simp))
                have H := Lib.hid h
                clear h hdeps hd
                go_simp
                exact hK _ _ ⟨_, _, _, _, _, _, _, _, _, _, _, _, _, _, _, rfl, H.out.keep 2 rfl (show 2 < 15 by decide) rfl⟩
              refine StepsOk.cons (js := [1, 2, 1]) rfl (by kernel_rfl) ?_ ?_
              · rintro d a W ⟨z0, z1, z2, z3, z4, z5, z6, z7, z8, z9, z10, z11, z12, z13, z14, rfl, h⟩ hd hdeps K hK
                obtain ⟨cs1, r1, hD1⟩ : Lv.holds W (.dat (n + 1) p) z1 := h.res 1 _ rfl (hdeps 1 (by simp))
                subst r1
                obtain ⟨kD, nD, aD, lD, cD, bD, sD, iD, mD, dD, tD, oD, qD, rfl⟩ := hD1.shaped
                unfold datCells at *
                have HD1 := Lib.hid hD1
                have r2 : z2 = .agg #[.int .i64 k7, .bool n7, .slice a7 l7 c7, .bool b7, .string s7, .slice i7 m7 d7, .slice t7 o7 q7] := h.res 2 _ rfl (hdeps 2 (by simp))
                subst r2
                have H := Lib.hid h
                clear h hdeps hd hD1
                go_wp2_with fail
                refine (Same_calls HD1.out (HPD11.out.upd H.out.upd) (by have := HSZ.out.1; omega) (by have := HSZ.out.2.1; omega)).mono ?_
                rintro e w9 ⟨rfl, hu⟩
                exact hK _ _ ⟨_, _, _, _, _, _, _, _, _, _, _, _, _, _, _, rfl, H.out.put 3 rfl (show 3 < 15 by decide) hu rfl⟩
              refine StepsOk.cons (js := [3, 3]) rfl (by kernel_rfl) ?_ ?_
              · rintro d a W ⟨z0, z1, z2, z3, z4, z5, z6, z7, z8, z9, z10, z11, z12, z13, z14, rfl, h⟩ hd hdeps K hK
                have r3 : z3 = .bool true := h.res 3 _ rfl (hdeps 3 (by simp))
                subst r3
                have H := Lib.hid h
                clear h hdeps hd
                go_simp
                exact hK _ _ ⟨_, _, _, _, _, _, _, _, _, _, _, _, _, _, _, rfl, H.out.keep 4 rfl (show 4 < 15 by decide) rfl⟩
              refine StepsOk.cons (js := [4]) rfl (by kernel_rfl) ?_ ?_
              · rintro d a W ⟨z0, z1, z2, z3, z4, z5, z6, z7, z8, z9, z10, z11, z12, z13, z14, rfl, h⟩ hd hdeps K hK
                have r4 : z4 = .bool true := h.res 4 _ rfl (hdeps 4 (by simp))
                subst r4
                obtain ⟨x0, x1, x2, x3, x4, x5, x6⟩ := Blk.seven (h.upd.blk HBP11.out (by simp))
                have H := Lib.hid h
                clear h hdeps hd
                go_simp
                exact hK _ _ ⟨_, _, _, _, _, _, _, _, _, _, _, _, _, _, _, rfl, H.out.keep 5 rfl (show 5 < 15 by decide) rfl⟩
              refine StepsOk.cons (js := [5, 4, 4]) rfl (by kernel_rfl) ?_ ?_
              · rintro d a W ⟨z0, z1, z2, z3, z4, z5, z6, z7, z8, z9, z10, z11, z12, z13, z14, rfl, h⟩ hd hdeps K hK
                have r5 : z5 = .agg #[.int .i64 k7, .bool n7, .slice a7 l7 c7, .bool b7, .string s7, .slice i7 m7 d7, .slice t7 o7 q7] := h.res 5 _ rfl (hdeps 5 (by simp))
                subst r5
                have r4 : z4 = .bool true := h.res 4 _ rfl (hdeps 4 (by simp))
                subst r4
                have H := Lib.hid h
                clear h hdeps hd
                go_wp2_with fail
                refine (size_calls (HPD11.out.upd H.out.upd) (by have := HSZ.out.1; omega)).mono ?_
                rintro e w9 ⟨rfl, hu⟩
                exact hK _ _ ⟨_, _, _, _, _, _, _, _, _, _, _, _, _, _, _, rfl, H.out.put 6 rfl (show 6 < 15 by decide) hu rfl⟩
              refine StepsOk.cons (js := [4]) rfl (by kernel_rfl) ?_ ?_
              · rintro d a W ⟨z0, z1, z2, z3, z4, z5, z6, z7, z8, z9, z10, z11, z12, z13, z14, rfl, h⟩ hd hdeps K hK
                have r4 : z4 = .bool true := h.res 4 _ rfl (hdeps 4 (by simp))
                subst r4
                obtain ⟨x0, x1, x2, x3, x4, x5, x6⟩ := Blk.seven (h.upd.blk HBX11.out (by simp))
                have H := Lib.hid h
                clear h hdeps hd
                go_simp
                exact hK _ _ ⟨_, _, _, _, _, _, _, _, _, _, _, _, _, _, _, rfl, H.out.keep 7 rfl (show 7 < 15 by decide) rfl⟩
              refine StepsOk.cons (js := [7, 6, 4]) rfl (by kernel_rfl) ?_ ?_
              · rintro d a W ⟨z0, z1, z2, z3, z4, z5, z6, z7, z8, z9, z10, z11, z12, z13, z14, rfl, h⟩ hd hdeps K hK
                have r7 : z7 = .agg #[.int .i64 k1, .bool n1, .slice a1 l1 c1, .bool b1, .string s1, .slice i1 m1 d1, .slice t1 o1 q1] := h.res 7 _ rfl (hdeps 7 (by simp))
                subst r7
                have r6 : z6 = .int .i64 ((szN (n + 1) p : Nat) : Int) := h.res 6 _ rfl (hdeps 6 (by simp))
                subst r6
                have r4 : z4 = .bool true := h.res 4 _ rfl (hdeps 4 (by simp))
                subst r4
                have H := Lib.hid h
                clear h hdeps hd
                go_wp2_with fail
                refine (size_calls (HDX.out W (HV11.out.then H.out.upd)) (by have := HSZ.out.2.2.1; omega)).mono ?_
                rintro e w9 ⟨rfl, hu⟩
                exact hK _ _ ⟨_, _, _, _, _, _, _, _, _, _, _, _, _, _, _, rfl, H.out.put 8 rfl (show 8 < 15 by decide) hu rfl⟩
              refine StepsOk.cons (js := [6, 8, 4]) rfl (by kernel_rfl) ?_ ?_
              · rintro d a W ⟨z0, z1, z2, z3, z4, z5, z6, z7, z8, z9, z10, z11, z12, z13, z14, rfl, h⟩ hd hdeps K hK
                have r6 : z6 = .int .i64 ((szN (n + 1) p : Nat) : Int) := h.res 6 _ rfl (hdeps 6 (by simp))
                subst r6
                have r8 : z8 = .int .i64 ((szN n x : Nat) : Int) := h.res 8 _ rfl (hdeps 8 (by simp))
                subst r8
                have r4 : z4 = .bool true := h.res 4 _ rfl (hdeps 4 (by simp))
                subst r4
                have hgt : ((szN n x : Nat) : Int) < ((szN (n + 1) p : Nat) : Int) := by have := HSZ.out.2.2.2.2.2.2; omega
                have H := Lib.hid h
                clear h hdeps hd
                go_simp
                exact hK _ _ ⟨_, _, _, _, _, _, _, _, _, _, _, _, _, _, _, rfl, H.out.keep 9 rfl (show 9 < 15 by decide) rfl⟩
              refine StepsOk.cons (js := [4, 9]) rfl (by kernel_rfl) ?_ ?_
              · rintro d a W ⟨z0, z1, z2, z3, z4, z5, z6, z7, z8, z9, z10, z11, z12, z13, z14, rfl, h⟩ hd hdeps K hK
                have r4 : z4 = .bool true := h.res 4 _ rfl (hdeps 4 (by simp))
                subst r4
                have r9 : z9 = .bool true := h.res 9 _ rfl (hdeps 9 (by simp))
                subst r9
                have H := Lib.hid h
                clear h hdeps hd
                go_simp
                exact hK _ _ ⟨_, _, _, _, _, _, _, _, _, _, _, _, _, _, _, rfl, H.out.keep 10 rfl (show 10 < 15 by decide) rfl⟩
              refine StepsOk.cons (js := [10, 8]) rfl (by kernel_rfl) ?_ ?_
              · rintro d a W ⟨z0, z1, z2, z3, z4, z5, z6, z7, z8, z9, z10, z11, z12, z13, z14, rfl, h⟩ hd hdeps K hK
                have r10 : z10 = .bool true := h.res 10 _ rfl (hdeps 10 (by simp))
                subst r10
                have r8 : z8 = .int .i64 ((szN n x : Nat) : Int) := h.res 8 _ rfl (hdeps 8 (by simp))
                subst r8
                have H := Lib.hid h
                clear h hdeps hd
                go_simp
                exact hK _ _ ⟨_, _, _, _, _, _, _, _, _, _, _, _, _, _, _, rfl, H.out.keep 11 rfl (show 11 < 15 by decide) rfl⟩
              refine StepsOk.cons (js := [11, 11]) rfl (by kernel_rfl) ?_ ?_
              · rintro d a W ⟨z0, z1, z2, z3, z4, z5, z6, z7, z8, z9, z10, z11, z12, z13, z14, rfl, h⟩ hd hdeps K hK
                have r11 : z11 = .bool true := h.res 11 _ rfl (hdeps 11 (by simp))
                subst r11
                have H := Lib.hid h
                clear h hdeps hd
                go_wp2_with fail
                refine (lives_calls W).mono ?_
                rintro e w9 ⟨rfl, hu⟩
                exact hK _ _ ⟨_, _, _, _, _, _, _, _, _, _, _, _, _, _, _, rfl, H.out.put 12 rfl (show 12 < 15 by decide) hu rfl⟩
              refine StepsOk.cons (js := [11, 12]) rfl (by kernel_rfl) ?_ ?_
              · rintro d a W ⟨z0, z1, z2, z3, z4, z5, z6, z7, z8, z9, z10, z11, z12, z13, z14, rfl, h⟩ hd hdeps K hK
                have r11 : z11 = .bool true := h.res 11 _ rfl (hdeps 11 (by simp))
                subst r11
                have r12 : z12 = .bool true := h.res 12 _ rfl (hdeps 12 (by simp))
                subst r12
                have H := Lib.hid h
                clear h hdeps hd
                go_simp
                exact hK _ _ ⟨_, _, _, _, _, _, _, _, _, _, _, _, _, _, _, rfl, H.out.keep 13 rfl (show 13 < 15 by decide) rfl⟩
              refine StepsOk.cons (js := [13, 12, 0, 1, 2, 3, 4, 5, 6, 7, 8, 9, 10, 11, 12, 13]) rfl (by kernel_rfl) ?_ StepsOk.nil
              · rintro d a W ⟨z0, z1, z2, z3, z4, z5, z6, z7, z8, z9, z10, z11, z12, z13, z14, rfl, h⟩ hd hdeps K hK
                have r13 : z13 = .bool true := h.res 13 _ rfl (hdeps 13 (by simp))
                subst r13
                have r12 : z12 = .bool true := h.res 12 _ rfl (hdeps 12 (by simp))
                subst r12
                have r0 : z0 = .agg #[.int .i64 k7, .bool n7, .slice a7 l7 c7, .bool b7, .string s7, .slice i7 m7 d7, .slice t7 o7 q7] := h.res 0 _ rfl (hdeps 0 (by simp))
                subst r0
                obtain ⟨cs1, r1, hD1⟩ : Lv.holds W (.dat (n + 1) p) z1 := h.res 1 _ rfl (hdeps 1 (by simp))
                subst r1
                obtain ⟨kD, nD, aD, lD, cD, bD, sD, iD, mD, dD, tD, oD, qD, rfl⟩ := hD1.shaped
                unfold datCells at *
                have HD1 := Lib.hid hD1
                have r2 : z2 = .agg #[.int .i64 k7, .bool n7, .slice a7 l7 c7, .bool b7, .string s7, .slice i7 m7 d7, .slice t7 o7 q7] := h.res 2 _ rfl (hdeps 2 (by simp))
                subst r2
                have r3 : z3 = .bool true := h.res 3 _ rfl (hdeps 3 (by simp))
                subst r3
                have r4 : z4 = .bool true := h.res 4 _ rfl (hdeps 4 (by simp))
                subst r4
                have r5 : z5 = .agg #[.int .i64 k7, .bool n7, .slice a7 l7 c7, .bool b7, .string s7, .slice i7 m7 d7, .slice t7 o7 q7] := h.res 5 _ rfl (hdeps 5 (by simp))
                subst r5
                have r6 : z6 = .int .i64 ((szN (n + 1) p : Nat) : Int) := h.res 6 _ rfl (hdeps 6 (by simp))
                subst r6
                have r7 : z7 = .agg #[.int .i64 k1, .bool n1, .slice a1 l1 c1, .bool b1, .string s1, .slice i1 m1 d1, .slice t1 o1 q1] := h.res 7 _ rfl (hdeps 7 (by simp))
                subst r7
                have r8 : z8 = .int .i64 ((szN n x : Nat) : Int) := h.res 8 _ rfl (hdeps 8 (by simp))
                subst r8
                have r9 : z9 = .bool true := h.res 9 _ rfl (hdeps 9 (by simp))
                subst r9
                have r10 : z10 = .bool true := h.res 10 _ rfl (hdeps 10 (by simp))
                subst r10
                have r11 : z11 = .bool true := h.res 11 _ rfl (hdeps 11 (by simp))
                subst r11
                have H := Lib.hid h
                clear h hdeps hd hD1
                go_simp
                exact hK _ _ ⟨_, _, _, _, _, _, _, _, _, _, _, _, _, _, _, rfl, H.out.keep 14 rfl (show 14 < 15 by decide) rfl⟩
            case rest =>
              rintro d a' W ⟨z0, z1, z2, z3, z4, z5, z6, z7, z8, z9, z10, z11, z12, z13, z14, rfl, h⟩ hd
              have r0 : z0 = .agg #[.int .i64 k7, .bool n7, .slice a7 l7 c7, .bool b7, .string s7, .slice i7 m7 d7, .slice t7 o7 q7] := h.res 0 _ rfl (hd 0 (by omega))
              subst r0
              obtain ⟨cs1, r1, _⟩ : Lv.holds W (.dat (n + 1) p) z1 := h.res 1 _ rfl (hd 1 (by omega))
              clear r1
              have r2 : z2 = .agg #[.int .i64 k7, .bool n7, .slice a7 l7 c7, .bool b7, .string s7, .slice i7 m7 d7, .slice t7 o7 q7] := h.res 2 _ rfl (hd 2 (by omega))
              subst r2
              have r3 : z3 = .bool true := h.res 3 _ rfl (hd 3 (by omega))
              subst r3
              have r4 : z4 = .bool true := h.res 4 _ rfl (hd 4 (by omega))
              subst r4
              have r5 : z5 = .agg #[.int .i64 k7, .bool n7, .slice a7 l7 c7, .bool b7, .string s7, .slice i7 m7 d7, .slice t7 o7 q7] := h.res 5 _ rfl (hd 5 (by omega))
              subst r5
              have r6 : z6 = .int .i64 ((szN (n + 1) p : Nat) : Int) := h.res 6 _ rfl (hd 6 (by omega))
              subst r6
              have r7 : z7 = .agg #[.int .i64 k1, .bool n1, .slice a1 l1 c1, .bool b1, .string s1, .slice i1 m1 d1, .slice t1 o1 q1] := h.res 7 _ rfl (hd 7 (by omega))
              subst r7
              have r8 : z8 = .int .i64 ((szN n x : Nat) : Int) := h.res 8 _ rfl (hd 8 (by omega))
              subst r8
              have r9 : z9 = .bool true := h.res 9 _ rfl (hd 9 (by omega))
              subst r9
              have r10 : z10 = .bool true := h.res 10 _ rfl (hd 10 (by omega))
              subst r10
              have r11 : z11 = .bool true := h.res 11 _ rfl (hd 11 (by omega))
              subst r11
              have r12 : z12 = .bool true := h.res 12 _ rfl (hd 12 (by omega))
              subst r12
              have r13 : z13 = .bool true := h.res 13 _ rfl (hd 13 (by omega))
              subst r13
              have r14 : z14 = .bool true := h.res 14 _ rfl (hd 14 (by omega))
              subst r14
              have hu := h.upd
              clear h hd
              refine wpList_nil ?_
              have HUF := Lib.hid (HU11.out.then hu)
              clear hu
              go_wp2
              go_ret
              exact ⟨rfl, HUF.out⟩
          | true =>
            have hax : a = x := by rw [HX.out]; exact (hr rfl).symm
            obtain ⟨x0, x1, x2, x3, x4, x5, x6⟩ := Blk.seven HBA11.out
            obtain ⟨y0, y1, y2, y3, y4, y5, y6⟩ := Blk.seven HBX11.out
            have hdx := HDX.out _ HV11.out
            rw [← hax] at hdx
            have HS := Lib.hid (Same_calls (HA.out _ HU11.out) hdx (by omega) (by omega))
            clear hdx hr hsa hda
            go_wp2_with fail
            refine HS.out.mono ?_
            rintro e w12 ⟨rfl, hu⟩
            have HU12 := Lib.hid (HU11.out.then hu)
            have HV12 := Lib.hid (HV11.out.then hu)
            have HBX12 := Lib.hid (hu.blk HBX11.out (by simp))
            have HBP12 := Lib.hid (hu.blk HBP11.out (by simp))
            have HPD12 := Lib.hid (HPD11.out.upd hu)
            clear hu HBA11 HBX11 HBP11 HPD11 HU11 HV11 x0 x1 x2 x3 x4 x5 x6 y0 y1 y2 y3 y4 y5 y6 HS
            go_wp2_with fail
            refine wp_region_inv 15 3 (fun d a W => ∃ z0 z1 z2 z3 z4 z5 z6 z7 z8 z9 z10 z11 z12 z13 z14 : Value, a = ⟨#[.agg #[.int .i64 ka, .bool na, .slice aa la ca, .bool ba, .string sa, .slice ia ma da, .slice ta oa pa], .agg #[.int .i64 kb, .bool nb, .slice ab lb cb, .bool bb, .string sb, .slice ib mb db, .slice tb ob pb], .pointer (some ⟨w.heap.size, 0, none⟩), .pointer (some ⟨w.heap.size + 1, 0, none⟩), z14, .pointer (some ⟨p5, 0, none⟩), .pointer (some ⟨p6, 0, none⟩), .pointer (some ⟨w6.heap.size, 0, none⟩), .pointer (some ⟨w8.heap.size, 0, none⟩), .pointer (some ⟨w8.heap.size + 1, 0, none⟩), .bool true, .agg #[.int .i64 ka, .bool na, .slice aa la ca, .bool ba, .string sa, .slice ia ma da, .slice ta oa pa], .bool true, .bool false, .bool false, .agg #[.int .i64 kb, .bool nb, .slice ab lb cb, .bool bb, .string sb, .slice ib mb db, .slice tb ob pb], .bool true, .bool false, .bool false, undef, v20, .agg #[.int .i64 k1, .bool n1, .slice a1 l1 c1, .bool b1, .string s1, .slice i1 m1 d1, .slice t1 o1 q1], v22, .agg #[.int .i64 k2, .bool n2, .slice a2 l2 c2, .bool b2, .string s2, .slice i2 m2 d2, .slice t2 o2 q2], .agg #[.int .i64 ka, .bool na, .slice aa la ca, .bool ba, .string sa, .slice ia ma da, .slice ta oa pa], .agg #[.int .i64 kb, .bool nb, .slice ab lb cb, .bool bb, .string sb, .slice ib mb db, .slice tb ob pb], .agg #[.int .i64 k7, .bool n7, .slice a7 l7 c7, .bool b7, .string s7, .slice i7 m7 d7, .slice t7 o7 q7], .tuple #[.agg #[.int .i64 k8, .bool n8, .slice a8 l8 c8, .bool b8, .string s8, .slice i8 m8 d8, .slice t8 o8 q8], .agg #[.int .i64 k9, .bool n9, .slice a9 l9 c9, .bool b9, .string s9, .slice i9 m9 d9, .slice t9 o9 q9], .bool true], .agg #[.int .i64 k7, .bool n7, .slice a7 l7 c7, .bool b7, .string s7, .slice i7 m7 d7, .slice t7 o7 q7], .tuple #[.agg #[.int .i64 k8, .bool n8, .slice a8 l8 c8, .bool b8, .string s8, .slice i8 m8 d8, .slice t8 o8 q8], .agg #[.int .i64 k9, .bool n9, .slice a9 l9 c9, .bool b9, .string s9, .slice i9 m9 d9, .slice t9 o9 q9], .bool true], .agg #[.int .i64 k8, .bool n8, .slice a8 l8 c8, .bool b8, .string s8, .slice i8 m8 d8, .slice t8 o8 q8], .agg #[.int .i64 k9, .bool n9, .slice a9 l9 c9, .bool b9, .string s9, .slice i9 m9 d9, .slice t9 o9 q9], .bool true, .bool true, .bool false, .bool false, .agg #[.int .i64 k8, .bool n8, .slice a8 l8 c8, .bool b8, .string s8, .slice i8 m8 d8, .slice t8 o8 q8], .agg #[.int .i64 k1, .bool n1, .slice a1 l1 c1, .bool b1, .string s1, .slice i1 m1 d1, .slice t1 o1 q1], .bool true, .bool false, .bool false, .bool false, .agg #[.int .i64 k9, .bool n9, .slice a9 l9 c9, .bool b9, .string s9, .slice i9 m9 d9, .slice t9 o9 q9], .agg #[.int .i64 k2, .bool n2, .slice a2 l2 c2, .bool b2, .string s2, .slice i2 m2 d2, .slice t2 o2 q2], .bool true, .bool false, .bool false, .bool false, .agg #[.int .i64 k1, .bool n1, .slice a1 l1 c1, .bool b1, .string s1, .slice i1 m1 d1, .slice t1 o1 q1], z16, .agg #[.int .i64 k1, .bool n1, .slice a1 l1 c1, .bool b1, .string s1, .slice i1 m1 d1, .slice t1 o1 q1], .bool true, .bool false, .bool false, .agg #[.int .i64 ka, .bool na, .slice aa la ca, .bool ba, .string sa, .slice ia ma da, .slice ta oa pa], .bool true, .bool true, .agg #[.int .i64 ka, .bool na, .slice aa la ca, .bool ba, .string sa, .slice ia ma da, .slice ta oa pa], .agg #[.int .i64 k1, .bool n1, .slice a1 l1 c1, .bool b1, .string s1, .slice i1 m1 d1, .slice t1 o1 q1], .bool true, .bool false, .bool false, z0, z1, z2, z3, z4, z5, z6, z7, z8, z9, z10, z11, z12, z13], []⟩ ∧ RInv w12 [.val (.agg #[.int .i64 k7, .bool n7, .slice a7 l7 c7, .bool b7, .string s7, .slice i7 m7 d7, .slice t7 o7 q7]), .dat (n + 1) p, .val (.agg #[.int .i64 k7, .bool n7, .slice a7 l7 c7, .bool b7, .string s7, .slice i7 m7 d7, .slice t7 o7 q7]), .val (.bool true), .val (.bool true), .val (.agg #[.int .i64 k7, .bool n7, .slice a7 l7 c7, .bool b7, .string s7, .slice i7 m7 d7, .slice t7 o7 q7]), .val (.int .i64 ((szN (n + 1) p : Nat) : Int)), .val (.agg #[.int .i64 k1, .bool n1, .slice a1 l1 c1, .bool b1, .string s1, .slice i1 m1 d1, .slice t1 o1 q1]), .val (.int .i64 ((szN n x : Nat) : Int)), .val (.bool true), .val (.bool true), .val (.bool true), .val (.bool true), .val (.bool true), .val (.bool true)] d W [z0, z1, z2, z3, z4, z5, z6, z7, z8, z9, z10, z11, z12, z13, z14]) (by kernel_rfl) (by kernel_rfl) ⟨_, _, _, _, _, _, _, _, _, _, _, _, _, _, _, rfl, RInv.new⟩ ?steps ?rest
            case steps =>
              show StepsOk _ _ _ _ [0, 1, 2, 3, 4, 5, 6, 7, 8, 9, 10, 11, 12, 13, 14]
              refine StepsOk.cons (js := []) rfl (by kernel_rfl) ?_ ?_
              · rintro d a W ⟨z0, z1, z2, z3, z4, z5, z6, z7, z8, z9, z10, z11, z12, z13, z14, rfl, h⟩ hd hdeps K hK
                obtain ⟨x0, x1, x2, x3, x4, x5, x6⟩ := Blk.seven (h.upd.blk HBP12.out (by simp))
                have H := Lib.hid h
                clear h hdeps hd
                go_simp
                exact hK _ _ ⟨_, _, _, _, _, _, _, _, _, _, _, _, _, _, _, rfl, H.out.keep 0 rfl (show 0 < 15 by decide) rfl⟩
              refine StepsOk.cons (js := [0]) rfl (by kernel_rfl) ?_ ?_
              · rintro d a W ⟨z0, z1, z2, z3, z4, z5, z6, z7, z8, z9, z10, z11, z12, z13, z14, rfl, h⟩ hd hdeps K hK
                have r0 : z0 = .agg #[.int .i64 k7, .bool n7, .slice a7 l7 c7, .bool b7, .string s7, .slice i7 m7 d7, .slice t7 o7 q7] := h.res 0 _ rfl (hdeps 0 (by simp))
                subst r0
                have H := Lib.hid h
                clear h hdeps hd
                go_wp2_with fail
                refine (Norm_calls (HPD12.out.upd H.out.upd) (by have := HSZ.out.1; omega) (by have := HSZ.out.2.1; omega)).mono ?_
                rintro e w9 ⟨⟨cs, rfl, hD⟩, hu⟩
                exact hK _ _ ⟨_, _, _, _, _, _, _, _, _, _, _, _, _, _, _, rfl, H.out.put 1 rfl (show 1 < 15 by decide) hu ⟨cs, rfl, by rw [HFX.out.1] at hD; exact hD.any⟩⟩
              refine StepsOk.cons (js := []) rfl (by kernel_rfl) ?_ ?_
              · rintro d a W ⟨z0, z1, z2, z3, z4, z5, z6, z7, z8, z9, z10, z11, z12, z13, z14, rfl, h⟩ hd hdeps K hK
                obtain ⟨x0, x1, x2, x3, x4, x5, x6⟩ := Blk.seven (h.upd.blk HBP12.out (by simp))
                have H := Lib.hid h
                clear h hdeps hd
                go_simp
                exact hK _ _ ⟨_, _, _, _, _, _, _, _, _, _, _, _, _, _, _, rfl, H.out.keep 2 rfl (show 2 < 15 by decide) rfl⟩
              refine StepsOk.cons (js := [1, 2, 1]) rfl (by kernel_rfl) ?_ ?_
              · rintro d a W ⟨z0, z1, z2, z3, z4, z5, z6, z7, z8, z9, z10, z11, z12, z13, z14, rfl, h⟩ hd hdeps K hK
                obtain ⟨cs1, r1, hD1⟩ : Lv.holds W (.dat (n + 1) p) z1 := h.res 1 _ rfl (hdeps 1 (by simp))
                subst r1
                obtain ⟨kD, nD, aD, lD, cD, bD, sD, iD, mD, dD, tD, oD, qD, rfl⟩ := hD1.shaped
                unfold datCells at *
                have HD1 := Lib.hid hD1
                have r2 : z2 = .agg #[.int .i64 k7, .bool n7, .slice a7 l7 c7, .bool b7, .string s7, .slice i7 m7 d7, .slice t7 o7 q7] := h.res 2 _ rfl (hdeps 2 (by simp))
                subst r2
                have H := Lib.hid h
                clear h hdeps hd hD1
                go_wp2_with fail
                refine (Same_calls HD1.out (HPD12.out.upd H.out.upd) (by have := HSZ.out.1; omega) (by have := HSZ.out.2.1; omega)).mono ?_
                rintro e w9 ⟨rfl, hu⟩
                exact hK _ _ ⟨_, _, _, _, _, _, _, _, _, _, _, _, _, _, _, rfl, H.out.put 3 rfl (show 3 < 15 by decide) hu rfl⟩
              refine StepsOk.cons (js := [3, 3]) rfl (by kernel_rfl) ?_ ?_
              · rintro d a W ⟨z0, z1, z2, z3, z4, z5, z6, z7, z8, z9, z10, z11, z12, z13, z14, rfl, h⟩ hd hdeps K hK
                have r3 : z3 = .bool true := h.res 3 _ rfl (hdeps 3 (by simp))
                subst r3
                have H := Lib.hid h
                clear h hdeps hd
                go_simp
                exact hK _ _ ⟨_, _, _, _, _, _, _, _, _, _, _, _, _, _, _, rfl, H.out.keep 4 rfl (show 4 < 15 by decide) rfl⟩
              refine StepsOk.cons (js := [4]) rfl (by kernel_rfl) ?_ ?_
              · rintro d a W ⟨z0, z1, z2, z3, z4, z5, z6, z7, z8, z9, z10, z11, z12, z13, z14, rfl, h⟩ hd hdeps K hK
                have r4 : z4 = .bool true := h.res 4 _ rfl (hdeps 4 (by simp))
                subst r4
                obtain ⟨x0, x1, x2, x3, x4, x5, x6⟩ := Blk.seven (h.upd.blk HBP12.out (by simp))
                have H := Lib.hid h
                clear h hdeps hd
                go_simp
                exact hK _ _ ⟨_, _, _, _, _, _, _, _, _, _, _, _, _, _, _, rfl, H.out.keep 5 rfl (show 5 < 15 by decide) rfl⟩
              refine StepsOk.cons (js := [5, 4, 4]) rfl (by kernel_rfl) ?_ ?_
              · rintro d a W ⟨z0, z1, z2, z3, z4, z5, z6, z7, z8, z9, z10, z11, z12, z13, z14, rfl, h⟩ hd hdeps K hK
                have r5 : z5 = .agg #[.int .i64 k7, .bool n7, .slice a7 l7 c7, .bool b7, .string s7, .slice i7 m7 d7, .slice t7 o7 q7] := h.res 5 _ rfl (hdeps 5 (by simp))
                subst r5
                have r4 : z4 = .bool true := h.res 4 _ rfl (hdeps 4 (by simp))
                subst r4
                have H := Lib.hid h
                clear h hdeps hd
                go_wp2_with fail
                refine (size_calls (HPD12.out.upd H.out.upd) (by have := HSZ.out.1; omega)).mono ?_
                rintro e w9 ⟨rfl, hu⟩
                exact hK _ _ ⟨_, _, _, _, _, _, _, _, _, _, _, _, _, _, _, rfl, H.out.put 6 rfl (show 6 < 15 by decide) hu rfl⟩
              refine StepsOk.cons (js := [4]) rfl (by kernel_rfl) ?_ ?_
              · rintro d a W ⟨z0, z1, z2, z3, z4, z5, z6, z7, z8, z9, z10, z11, z12, z13, z14, rfl, h⟩ hd hdeps K hK
                have r4 : z4 = .bool true := h.res 4 _ rfl (hdeps 4 (by simp))
                subst r4
                obtain ⟨x0, x1, x2, x3, x4, x5, x6⟩ := Blk.seven (h.upd.blk HBX12.out (by simp))
                have H := Lib.hid h
                clear h hdeps hd
                go_simp
                exact hK _ _ ⟨_, _, _, _, _, _, _, _, _, _, _, _, _, _, _, rfl, H.out.keep 7 rfl (show 7 < 15 by decide) rfl⟩
              refine StepsOk.cons (js := [7, 6, 4]) rfl (by kernel_rfl) ?_ ?_
              · rintro d a W ⟨z0, z1, z2, z3, z4, z5, z6, z7, z8, z9, z10, z11, z12, z13, z14, rfl, h⟩ hd hdeps K hK
                have r7 : z7 = .agg #[.int .i64 k1, .bool n1, .slice a1 l1 c1, .bool b1, .string s1, .slice i1 m1 d1, .slice t1 o1 q1] := h.res 7 _ rfl (hdeps 7 (by simp))
                subst r7
                have r6 : z6 = .int .i64 ((szN (n + 1) p : Nat) : Int) := h.res 6 _ rfl (hdeps 6 (by simp))
                subst r6
                have r4 : z4 = .bool true := h.res 4 _ rfl (hdeps 4 (by simp))
                subst r4
                have H := Lib.hid h
                clear h hdeps hd
                go_wp2_with fail
                refine (size_calls (HDX.out W (HV12.out.then H.out.upd)) (by have := HSZ.out.2.2.1; omega)).mono ?_
                rintro e w9 ⟨rfl, hu⟩
                exact hK _ _ ⟨_, _, _, _, _, _, _, _, _, _, _, _, _, _, _, rfl, H.out.put 8 rfl (show 8 < 15 by decide) hu rfl⟩
              refine StepsOk.cons (js := [6, 8, 4]) rfl (by kernel_rfl) ?_ ?_
              · rintro d a W ⟨z0, z1, z2, z3, z4, z5, z6, z7, z8, z9, z10, z11, z12, z13, z14, rfl, h⟩ hd hdeps K hK
                have r6 : z6 = .int .i64 ((szN (n + 1) p : Nat) : Int) := h.res 6 _ rfl (hdeps 6 (by simp))
                subst r6
                have r8 : z8 = .int .i64 ((szN n x : Nat) : Int) := h.res 8 _ rfl (hdeps 8 (by simp))
                subst r8
                have r4 : z4 = .bool true := h.res 4 _ rfl (hdeps 4 (by simp))
                subst r4
                have hgt : ((szN n x : Nat) : Int) < ((szN (n + 1) p : Nat) : Int) := by have := HSZ.out.2.2.2.2.2.2; omega
                have H := Lib.hid h
                clear h hdeps hd
                go_simp
                exact hK _ _ ⟨_, _, _, _, _, _, _, _, _, _, _, _, _, _, _, rfl, H.out.keep 9 rfl (show 9 < 15 by decide) rfl⟩
              refine StepsOk.cons (js := [4, 9]) rfl (by kernel_rfl) ?_ ?_
              · rintro d a W ⟨z0, z1, z2, z3, z4, z5, z6, z7, z8, z9, z10, z11, z12, z13, z14, rfl, h⟩ hd hdeps K hK
                have r4 : z4 = .bool true := h.res 4 _ rfl (hdeps 4 (by simp))
                subst r4
                have r9 : z9 = .bool true := h.res 9 _ rfl (hdeps 9 (by simp))
                subst r9
                have H := Lib.hid h
                clear h hdeps hd
                go_simp
                exact hK _ _ ⟨_, _, _, _, _, _, _, _, _, _, _, _, _, _, _, rfl, H.out.keep 10 rfl (show 10 < 15 by decide) rfl⟩
              refine StepsOk.cons (js := [10, 8]) rfl (by kernel_rfl) ?_ ?_
              · rintro d a W ⟨z0, z1, z2, z3, z4, z5, z6, z7, z8, z9, z10, z11, z12, z13, z14, rfl, h⟩ hd hdeps K hK
                have r10 : z10 = .bool true := h.res 10 _ rfl (hdeps 10 (by simp))
                subst r10
                have r8 : z8 = .int .i64 ((szN n x : Nat) : Int) := h.res 8 _ rfl (hdeps 8 (by simp))
                subst r8
                have H := Lib.hid h
                clear h hdeps hd
                go_simp
                exact hK _ _ ⟨_, _, _, _, _, _, _, _, _, _, _, _, _, _, _, rfl, H.out.keep 11 rfl (show 11 < 15 by decide) rfl⟩
              refine StepsOk.cons (js := [11, 11]) rfl (by kernel_rfl) ?_ ?_
              · rintro d a W ⟨z0, z1, z2, z3, z4, z5, z6, z7, z8, z9, z10, z11, z12, z13, z14, rfl, h⟩ hd hdeps K hK
                have r11 : z11 = .bool true := h.res 11 _ rfl (hdeps 11 (by simp))
                subst r11
                have H := Lib.hid h
                clear h hdeps hd
                go_wp2_with fail
                refine (lives_calls W).mono ?_
                rintro e w9 ⟨rfl, hu⟩
                exact hK _ _ ⟨_, _, _, _, _, _, _, _, _, _, _, _, _, _, _, rfl, H.out.put 12 rfl (show 12 < 15 by decide) hu rfl⟩
              refine StepsOk.cons (js := [11, 12]) rfl (by kernel_rfl) ?_ ?_
              · rintro d a W ⟨z0, z1, z2, z3, z4, z5, z6, z7, z8, z9, z10, z11, z12, z13, z14, rfl, h⟩ hd hdeps K hK
                have r11 : z11 = .bool true := h.res 11 _ rfl (hdeps 11 (by simp))
                subst r11
                have r12 : z12 = .bool true := h.res 12 _ rfl (hdeps 12 (by simp))
                subst r12
                have H := Lib.hid h
                clear h hdeps hd
                go_simp
                exact hK _ _ ⟨_, _, _, _, _, _, _, _, _, _, _, _, _, _, _, rfl, H.out.keep 13 rfl (show 13 < 15 by decide) rfl⟩
              refine StepsOk.cons (js := [13, 12, 0, 1, 2, 3, 4, 5, 6, 7, 8, 9, 10, 11, 12, 13]) rfl (by kernel_rfl) ?_ StepsOk.nil
              · rintro d a W ⟨z0, z1, z2, z3, z4, z5, z6, z7, z8, z9, z10, z11, z12, z13, z14, rfl, h⟩ hd hdeps K hK
                have r13 : z13 = .bool true := h.res 13 _ rfl (hdeps 13 (by simp))
                subst r13
                have r12 : z12 = .bool true := h.res 12 _ rfl (hdeps 12 (by simp))
                subst r12
                have r0 : z0 = .agg #[.int .i64 k7, .bool n7, .slice a7 l7 c7, .bool b7, .string s7, .slice i7 m7 d7, .slice t7 o7 q7] := h.res 0 _ rfl (hdeps 0 (by simp))
                subst r0
                obtain ⟨cs1, r1, hD1⟩ : Lv.holds W (.dat (n + 1) p) z1 := h.res 1 _ rfl (hdeps 1 (by simp))
                subst r1
                obtain ⟨kD, nD, aD, lD, cD, bD, sD, iD, mD, dD, tD, oD, qD, rfl⟩ := hD1.shaped
                unfold datCells at *
                have HD1 := Lib.hid hD1
                have r2 : z2 = .agg #[.int .i64 k7, .bool n7, .slice a7 l7 c7, .bool b7, .string s7, .slice i7 m7 d7, .slice t7 o7 q7] := h.res 2 _ rfl (hdeps 2 (by simp))
                subst r2
                have r3 : z3 = .bool true := h.res 3 _ rfl (hdeps 3 (by simp))
                subst r3
                have r4 : z4 = .bool true := h.res 4 _ rfl (hdeps 4 (by simp))
                subst r4
                have r5 : z5 = .agg #[.int .i64 k7, .bool n7, .slice a7 l7 c7, .bool b7, .string s7, .slice i7 m7 d7, .slice t7 o7 q7] := h.res 5 _ rfl (hdeps 5 (by simp))
                subst r5
                have r6 : z6 = .int .i64 ((szN (n + 1) p : Nat) : Int) := h.res 6 _ rfl (hdeps 6 (by simp))
                subst r6
                have r7 : z7 = .agg #[.int .i64 k1, .bool n1, .slice a1 l1 c1, .bool b1, .string s1, .slice i1 m1 d1, .slice t1 o1 q1] := h.res 7 _ rfl (hdeps 7 (by simp))
                subst r7
                have r8 : z8 = .int .i64 ((szN n x : Nat) : Int) := h.res 8 _ rfl (hdeps 8 (by simp))
                subst r8
                have r9 : z9 = .bool true := h.res 9 _ rfl (hdeps 9 (by simp))
                subst r9
                have r10 : z10 = .bool true := h.res 10 _ rfl (hdeps 10 (by simp))
                subst r10
                have r11 : z11 = .bool true := h.res 11 _ rfl (hdeps 11 (by simp))
                subst r11
                have H := Lib.hid h
                clear h hdeps hd hD1
                go_simp
                exact hK _ _ ⟨_, _, _, _, _, _, _, _, _, _, _, _, _, _, _, rfl, H.out.keep 14 rfl (show 14 < 15 by decide) rfl⟩
            case rest =>
              rintro d a' W ⟨z0, z1, z2, z3, z4, z5, z6, z7, z8, z9, z10, z11, z12, z13, z14, rfl, h⟩ hd
              have r0 : z0 = .agg #[.int .i64 k7, .bool n7, .slice a7 l7 c7, .bool b7, .string s7, .slice i7 m7 d7, .slice t7 o7 q7] := h.res 0 _ rfl (hd 0 (by omega))
              subst r0
              obtain ⟨cs1, r1, _⟩ : Lv.holds W (.dat (n + 1) p) z1 := h.res 1 _ rfl (hd 1 (by omega))
              clear r1
              have r2 : z2 = .agg #[.int .i64 k7, .bool n7, .slice a7 l7 c7, .bool b7, .string s7, .slice i7 m7 d7, .slice t7 o7 q7] := h.res 2 _ rfl (hd 2 (by omega))
              subst r2
              have r3 : z3 = .bool true := h.res 3 _ rfl (hd 3 (by omega))
              subst r3
              have r4 : z4 = .bool true := h.res 4 _ rfl (hd 4 (by omega))
              subst r4
              have r5 : z5 = .agg #[.int .i64 k7, .bool n7, .slice a7 l7 c7, .bool b7, .string s7, .slice i7 m7 d7, .slice t7 o7 q7] := h.res 5 _ rfl (hd 5 (by omega))
              subst r5
              have r6 : z6 = .int .i64 ((szN (n + 1) p : Nat) : Int) := h.res 6 _ rfl (hd 6 (by omega))
              subst r6
              have r7 : z7 = .agg #[.int .i64 k1, .bool n1, .slice a1 l1 c1, .bool b1, .string s1, .slice i1 m1 d1, .slice t1 o1 q1] := h.res 7 _ rfl (hd 7 (by omega))
              subst r7
              have r8 : z8 = .int .i64 ((szN n x : Nat) : Int) := h.res 8 _ rfl (hd 8 (by omega))
              subst r8
              have r9 : z9 = .bool true := h.res 9 _ rfl (hd 9 (by omega))
              subst r9
              have r10 : z10 = .bool true := h.res 10 _ rfl (hd 10 (by omega))
              subst r10
              have r11 : z11 = .bool true := h.res 11 _ rfl (hd 11 (by omega))
              subst r11
              have r12 : z12 = .bool true := h.res 12 _ rfl (hd 12 (by omega))
              subst r12
              have r13 : z13 = .bool true := h.res 13 _ rfl (hd 13 (by omega))
              subst r13
              have r14 : z14 = .bool true := h.res 14 _ rfl (hd 14 (by omega))
              subst r14
              have hu := h.upd
              clear h hd
              refine wpList_nil ?_
              have HUF := Lib.hid (HU12.out.then hu)
              clear hu
              go_wp2
              go_ret
              exact ⟨rfl, HUF.out⟩

theorem law_DatumBack (v1 v2 : Value) (w : World) (h1 : ArgS Try.prog w 27 v1) (h2 : ArgS Try.prog w 27 v2) :
    Calls Try.prog 4 #[v1, v2] w fun e w' => e = .returned (.bool true) ∧ Upd [] w w' := by
  obtain ⟨cs1, n1, rfl, r1⟩ := h1.agg (by kernel_rfl)
  obtain ⟨cs2, n2, rfl, r2⟩ := h2.agg (by kernel_rfl)
  obtain ⟨a, ha⟩ := dat_open _ _ r1
  obtain ⟨b, hb⟩ := dat_open _ _ r2
  have hb' := hb.more n1
  rw [Nat.add_comm] at hb'
  exact back_walk (n := n1 + n2) (xa := cs1.toList) (xb := cs2.toList) (ha.more n2).any hb'.any
end Go.Proofs.Ytknbgbeepachgaa
