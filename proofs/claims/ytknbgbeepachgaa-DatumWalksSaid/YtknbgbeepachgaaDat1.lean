/-
  pavanelaw03.lives.
-/
import Derived.Test.YtknbgbeepachgaaDatU
namespace Go.Proofs.Ytknbgbeepachgaa
open Go.RowKit

theorem row1 {W : World} {n b : Nat} {xs : List Value} {d : Dat} (h : IsD W (fun _ => True) n xs d) (hb : Blk W b xs 27) : RowOf W (fun _ => True) (IsD W (fun _ => True) n) (some ⟨b, 0, none⟩) [d] := by
  intro i hi
  have hi0 : i = 0 := by simpa using hi
  subst hi0
  exact ⟨b, 0, xs, rfl, trivial, ⟨h.shaped.len, fun j _ => by rw [show 0 + 0 * 7 + j = j by omega, hb.cell]⟩, h⟩
theorem row2 {W : World} {n b : Nat} {xs ys : List Value} {d e : Dat} (h : IsD W (fun _ => True) n xs d) (k : IsD W (fun _ => True) n ys e) (hb : Blk W b (xs ++ ys) 27) : RowOf W (fun _ => True) (IsD W (fun _ => True) n) (some ⟨b, 0, none⟩) [d, e] := by
  intro i hi
  have hx := h.shaped.len
  have hi0 : i = 0 ∨ i = 1 := by simp at hi; omega
  rcases hi0 with rfl | rfl
  · exact ⟨b, 0, xs, rfl, trivial, ⟨hx, fun j hj => by rw [show 0 + 0 * 7 + j = j by omega, hb.cell, List.getElem?_append_left (by omega)]⟩, h⟩
  · exact ⟨b, 0, ys, rfl, trivial, ⟨k.shaped.len, fun j hj => by rw [show 0 + 1 * 7 + j = xs.length + j by omega, hb.cell, List.getElem?_append_right (by omega), Nat.add_sub_cancel_left]⟩, k⟩
theorem IsD.any {w : World} {P : Nat → Prop} {n : Nat} {cs : List Value} {d : Dat} (h : IsD w P n cs d) : IsD w (fun _ => True) n cs d := h.mono fun _ _ _ => trivial
theorem IsD.form {w : World} {P : Nat → Prop} {n p q : Nat} {cs : List Value} {d : Dat} (h : IsD w P n cs d) (hp : d.items.length = p) (hq : d.tail.length = q) :
    ∃ k ng aL nL cL bb ss aI cI aT cT, cs = datCells k ng aL nL cL bb ss aI p cI aT q cT := by
  obtain ⟨aL, cL, aI, cI, aT, cT, rfl⟩ := cells_agg h
  exact ⟨_, _, _, _, _, _, _, aI, cI, aT, cT, by rw [hp, hq]⟩
theorem allszN {n : Nat} {d : Dat} (h : szN n d ≤ 100 ∧ dpN n d ≤ 100) : szN n d ≤ 100000 ∧ dpN n d ≤ 10000 := ⟨by omega, by omega⟩
def listD (l : List Dat) : Dat := .mk 5 false [] false ByteArray.empty l []
set_option maxRecDepth 100000 in
set_option maxHeartbeats 1500000 in
theorem lives_calls (w : World) : Calls Try.prog 6 #[] w fun e w' => e = .returned (.bool true) ∧ Upd [] w w' := by
  go_enter Try.func6, Try.ntmps6
  go_wp2_with fail
  refine (number_calls w 1 (.inl rfl)).mono ?_
  rintro e w1 ⟨⟨c1, rfl, hD⟩, hu⟩
  obtain ⟨k1, n1, a1, l1, p1, b1, s1, i1, m1, d1, t1, o1, q1, rfl⟩ := hD.shaped
  have HD1 := Lib.hid hD.any
  have HU1 := Lib.hid (hu)
  clear hD hu
  unfold datCells at *
  go_wp2_with fail
  refine (number_calls w1 2 (.inr (.inl rfl))).mono ?_
  rintro e w2 ⟨⟨c2, rfl, hD⟩, hu⟩
  obtain ⟨k2, n2, a2, l2, p2, b2, s2, i2, m2, d2, t2, o2, q2, rfl⟩ := hD.shaped
  have HD2 := Lib.hid hD.any
  have HU12 := Lib.hid hu
  have HU2 := Lib.hid (HU1.out.then hu)
  clear hD hu
  unfold datCells at *
  go_wp2_with fail
  refine (number_calls w2 3 (.inr (.inr rfl))).mono ?_
  rintro e w3 ⟨⟨c3, rfl, hD⟩, hu⟩
  obtain ⟨k3, n3, a3, l3, p3, b3, s3, i3, m3, d3, t3, o3, q3, rfl⟩ := hD.shaped
  have HD3 := Lib.hid hD.any
  have HU23 := Lib.hid hu
  have HU3 := Lib.hid (HU2.out.then hu)
  clear hD hu
  unfold datCells at *
  go_wp2_with fail
  have hu3 : Upd [] w3 (w3.alloc (.cells #[.int .i64 k2, .bool n2, .slice a2 l2 p2, .bool b2, .string s2, .slice i2 m2 d2, .slice t2 o2 q2, .int .i64 k3, .bool n3, .slice a3 l3 p3, .bool b3, .string s3, .slice i3 m3 d3, .slice t3 o3 q3] 27)) := (Upd.refl [] w3).alloc _
  refine (items_calls (P := fun _ => True) (n := 1) (a := some ⟨w3.heap.size, 0, none⟩) (m := 2) (c := 2) (ds := [numD 2, numD 3]) (row2 (HD2.out.upd (HU23.out.then hu3)) (HD3.out.upd hu3) (Blk.newAt rfl)) rfl (by omega) (by decide +kernel)).mono ?_
  rintro e w4 ⟨⟨c4, rfl, hD⟩, hu⟩
  obtain ⟨k4, n4, a4, l4, p4, b4, s4, i4, m4, d4, t4, o4, q4, rfl⟩ := hD.shaped
  have HD4 := Lib.hid hD.any
  have HU34 := Lib.hid (hu3.then hu)
  clear hD hu hu3
  unfold datCells at *
  go_wp2_with fail
  refine (pair_calls (n := 2) ((HD1.out.upd ((HU12.out.then HU23.out).then HU34.out)).more 1) HD4.out (by decide +kernel) (by decide +kernel)).mono ?_
  rintro e w5 ⟨⟨c5, rfl, hD⟩, hu⟩
  obtain ⟨k5, n5, a5, l5, p5, b5, s5, i5, d5, t5, q5, rfl⟩ := hD.form (p := 3) (q := 0) (by decide +kernel) (by decide +kernel)
  have HU5 := Lib.hid ((HU3.out.then HU34.out).then hu)
  clear hD hu HD1 HD2 HD3 HD4 HU1 HU12 HU2 HU23 HU3 HU34
  unfold datCells at *
  go_wp2_with fail
  obtain ⟨W5, hW5⟩ : ∃ W5, W5 = w5.alloc (.cells #[.int .i64 k5, .bool n5, .slice a5 l5 p5, .bool b5, .string s5, .slice i5 3 d5, .slice t5 0 q5] 27) := ⟨_, rfl⟩
  have hb5 : Blk W5 w5.heap.size [.int .i64 k5, .bool n5, .slice a5 l5 p5, .bool b5, .string s5, .slice i5 3 d5, .slice t5 0 q5] 27 := by
    rw [hW5]
    exact Blk.newAt rfl
  have HB5 := Lib.hid hb5
  have HU5' := Lib.hid (show Upd [] w W5 by rw [hW5]; exact HU5.out.alloc _)
  rw [← hW5]
  clear hW5 hb5 HU5
  refine (number_calls W5 1 (.inl rfl)).mono ?_
  rintro e w6 ⟨⟨c6, rfl, hD⟩, hu⟩
  obtain ⟨k6, n6, a6, l6, p6, b6, s6, i6, m6, d6, t6, o6, q6, rfl⟩ := hD.shaped
  have HD6 := Lib.hid hD.any
  have HU6 := Lib.hid (hu)
  clear hD hu
  unfold datCells at *
  go_wp2_with fail
  refine (number_calls w6 2 (.inr (.inl rfl))).mono ?_
  rintro e w7 ⟨⟨c7, rfl, hD⟩, hu⟩
  obtain ⟨k7, n7, a7, l7, p7, b7, s7, i7, m7, d7, t7, o7, q7, rfl⟩ := hD.shaped
  have HD7 := Lib.hid hD.any
  have HU7 := Lib.hid (hu)
  clear hD hu
  unfold datCells at *
  go_wp2_with fail
  refine (pair_calls (n := 1) (HD6.out.upd HU7.out) HD7.out (by decide +kernel) (by decide +kernel)).mono ?_
  rintro e w8 ⟨⟨c8, rfl, hD⟩, hu⟩
  obtain ⟨k8, n8, a8, l8, p8, b8, s8, i8, d8, t8, q8, rfl⟩ := hD.form (p := 1) (q := 1) (by decide +kernel) (by decide +kernel)
  have hu58 := (HU6.out.then HU7.out).then hu
  have hb8 := hu58.blk HB5.out (by simp)
  have x5 := hb8.cell_some (i := 5) rfl
  have x6 := hb8.cell_some (i := 6) rfl
  have hlt := hb8.lt
  have HU8 := Lib.hid (HU5'.out.then hu58)
  clear hD hu HD6 HD7 HU6 HU7 HB5 HU5' hu58 hb8
  unfold datCells at *
  go_wp2_with fail
  obtain ⟨W8, hW8⟩ : ∃ W8, W8 = w8.alloc (.cells #[.int .i64 k8, .bool n8, .slice a8 l8 p8, .bool b8, .string s8, .slice i8 1 d8, .slice t8 1 q8] 27) := ⟨_, rfl⟩
  have HU8' := Lib.hid (show Upd [] w W8 by rw [hW8]; exact HU8.out.alloc _)
  rw [← hW8]
  clear hW8 HU8 x5 x6 hlt
  refine (number_calls W8 1 (.inl rfl)).mono ?_
  rintro e w9 ⟨⟨c9, rfl, hD⟩, hu⟩
  obtain ⟨k9, n9, a9, l9, p9, b9, s9, i9, m9, d9, t9, o9, q9, rfl⟩ := hD.shaped
  have HD9 := Lib.hid hD.any
  have HU9 := Lib.hid (hu)
  clear hD hu
  unfold datCells at *
  go_wp2_with fail
  refine (number_calls w9 2 (.inr (.inl rfl))).mono ?_
  rintro e w10 ⟨⟨c10, rfl, hD⟩, hu⟩
  obtain ⟨k10, n10, a10, l10, p10, b10, s10, i10, m10, d10, t10, o10, q10, rfl⟩ := hD.shaped
  have HD10 := Lib.hid hD.any
  have HU10 := Lib.hid (hu)
  clear hD hu
  unfold datCells at *
  go_wp2_with fail
  have hu10 : Upd [] w10 (w10.alloc (.cells #[.int .i64 k10, .bool n10, .slice a10 l10 p10, .bool b10, .string s10, .slice i10 m10 d10, .slice t10 o10 q10] 27)) := (Upd.refl [] w10).alloc _
  refine (items_calls (P := fun _ => True) (n := 1) (a := some ⟨w10.heap.size, 0, none⟩) (m := 1) (c := 1) (ds := [numD 2]) (row1 (HD10.out.upd hu10) (Blk.newAt rfl)) rfl (by omega) (by decide +kernel)).mono ?_
  rintro e w11 ⟨⟨c11, rfl, hD⟩, hu⟩
  obtain ⟨k11, n11, a11, l11, p11, b11, s11, i11, m11, d11, t11, o11, q11, rfl⟩ := hD.shaped
  have HD11 := Lib.hid hD.any
  have HU11 := Lib.hid (hu10.then hu)
  clear hD hu hu10
  unfold datCells at *
  go_wp2_with fail
  have hu11 : Upd [] w11 (w11.alloc (.cells #[.int .i64 k9, .bool n9, .slice a9 l9 p9, .bool b9, .string s9, .slice i9 m9 d9, .slice t9 o9 q9, .int .i64 k11, .bool n11, .slice a11 l11 p11, .bool b11, .string s11, .slice i11 m11 d11, .slice t11 o11 q11] 27)) := (Upd.refl [] w11).alloc _
  refine (items_calls (P := fun _ => True) (n := 2) (a := some ⟨w11.heap.size, 0, none⟩) (m := 2) (c := 2) (ds := [numD 1, listD [numD 2]]) (row2 ((HD9.out.upd ((HU10.out.then HU11.out).then hu11)).more 1) (HD11.out.upd hu11) (Blk.newAt rfl)) rfl (by omega) (by decide +kernel)).mono ?_
  rintro e w12 ⟨⟨c12, rfl, hD⟩, hu⟩
  obtain ⟨k12, n12, a12, l12, p12, b12, s12, i12, m12, d12, t12, o12, q12, rfl⟩ := hD.shaped
  have HD12 := Lib.hid hD.any
  have HU12 := Lib.hid ((((HU8'.out.then HU9.out).then (HU10.out.then HU11.out)).then hu11).then hu)
  clear hD hu hu11 HD9 HD10 HD11 HU8' HU9 HU10 HU11
  unfold datCells at *
  go_wp2_with fail
  refine (size_calls HD12.out (by decide +kernel)).mono ?_
  rintro e w13 ⟨rfl, hu⟩
  have HU13 := Lib.hid (HU12.out.then hu)
  clear HD12 HU12 hu
  rw [show szN 3 (.mk 5 false [] false ByteArray.empty [numD 1, listD [numD 2]] []) = 4 by decide +kernel]
  go_wp2
  go_ret
  exact ⟨rfl, HU13.out⟩
end Go.Proofs.Ytknbgbeepachgaa
