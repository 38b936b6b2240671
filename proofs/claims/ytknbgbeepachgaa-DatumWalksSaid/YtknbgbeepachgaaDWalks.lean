/-
  DatumWalks.
-/
import Derived.Test.YtknbgbeepachgaaWalkD
import Derived.Test.YtknbgbeepachgaaSamB
import Derived.Test.YtknbgbeepachgaaPart
namespace Go.Proofs.Ytknbgbeepachgaa
open Go.RowKit

theorem mem_szL {f : Dat → Nat} {x : Dat} : ∀ {ds : List Dat}, x ∈ ds → f x ≤ szL f ds
  | [], h => by simp at h
  | d :: ds, h => by
    rw [szL]
    rcases List.mem_cons.1 h with rfl | h
    · omega
    · have := mem_szL (f := f) h
      omega
theorem mem_dpL {f : Dat → Nat} {x : Dat} : ∀ {ds : List Dat}, x ∈ ds → f x ≤ dpL f ds
  | [], h => by simp at h
  | d :: ds, h => by
    rw [dpL]
    rcases List.mem_cons.1 h with rfl | h
    · omega
    · have := mem_dpL (f := f) h
      omega
theorem walkD_sz : ∀ (n : Nat) (d : Dat), szN n d ≤ 1000000 → ∀ x ∈ walkD n d, szN n x ≤ szN n d ∧ dpN n x ≤ dpN n d
  | 0, _, h => by rw [szN] at h; omega
  | n + 1, d, h => by
    intro x hx
    rw [walkD] at hx
    rcases List.mem_cons.1 hx with rfl | hx
    · exact ⟨Nat.le_refl _, Nat.le_refl _⟩
    · obtain ⟨y, hy, hx⟩ := List.mem_flatMap.1 hx
      have h0 := h
      rw [szN] at h0
      have hys : szN n y ≤ szL (szN n) d.items + szL (szN n) d.tail := by
        rw [← szL_append]
        exact mem_szL hy
      have hyd : dpN n y ≤ max (dpL (dpN n) d.items) (dpL (dpN n) d.tail) := by
        rw [← dpL_append]
        exact mem_dpL hy
      obtain ⟨h1, h2⟩ := walkD_sz n y (by omega) x hx
      rw [szN_one n x (by omega), dpN_one n x (by omega)]
      rw [szN, dpN]
      omega
/-- The elements of a row that all told. -/
theorem row_at {w2 w3 : World} {n : Nat} {P Q : Nat → Prop} {al : Option Addr} {ds : List Dat} (h : RowOf w3 Q (IsD w2 P n) al ds) {i : Nat} (hi : i < ds.length) : ∃ b o k1 n1 a1 l1 c1 b1 s1 i1 m1 d1 t1 o1 p1, al = some ⟨b, o, none⟩ ∧
    At7 w3 b (o + i * 7) (datCells k1 n1 a1 l1 c1 b1 s1 i1 m1 d1 t1 o1 p1) ∧ IsD w2 (fun _ => True) n (datCells k1 n1 a1 l1 c1 b1 s1 i1 m1 d1 t1 o1 p1) (ds.getD i default) := by
  obtain ⟨b, o, cs, e, _, hat, hd⟩ := h i hi
  obtain ⟨k1, n1, a1, l1, c1, b1, s1, i1, m1, d1, t1, o1, p1, rfl⟩ := hd.shaped
  exact ⟨b, o, k1, n1, a1, l1, c1, b1, s1, i1, m1, d1, t1, o1, p1, e, hat, hd.any⟩
set_option maxRecDepth 100000 in
set_option maxHeartbeats 4000000 in
theorem walks_walk {n : Nat} {a : Dat} {xa : List Value} {w : World} (most : Int) (hmr : (Lit.int .u64 most).wf = true) (ha : IsD w (fun _ => True) n xa a) :
    Calls Try.prog 3 #[.agg xa.toArray, .int .u64 most] w fun e w' => e = .returned (.bool true) ∧ Upd [] w w' := by
  obtain ⟨ka, na, aa, la, ca, ba, sa, ia, ma, da, ta, oa, pa, rfl⟩ := ha.shaped
  unfold datCells at *
  obtain ⟨W1, hW1⟩ : ∃ W1, W1 = (w.alloc (.cells #[.int .i64 ka, .bool na, .slice aa la ca, .bool ba, .string sa, .slice ia ma da, .slice ta oa pa] 27)) := ⟨_, rfl⟩
  have hu1 : Upd [] w W1 := by
    rw [hW1]
    exact (Upd.refl [] w).alloc _
  have ha1 : Blk W1 w.heap.size [.int .i64 ka, .bool na, .slice aa la ca, .bool ba, .string sa, .slice ia ma da, .slice ta oa pa] 27 := by
    rw [hW1]
    exact Blk.newAt rfl
  have HA := Lib.hid (fun (W : World) (hu : Upd [] w W) => ha.upd hu)
  have HBA := Lib.hid ha1
  have HU1 := Lib.hid hu1
  have HW1 := Lib.hid hW1
  clear ha ha1 hu1 hW1
  go_enter Try.func3, Try.ntmps3
  go_wp2_with fail
  rw [← HW1.out]
  clear HW1
  refine (light_calls (HA.out _ HU1.out)).mono ?_
  rintro e w2 ⟨⟨r, rfl, hr⟩, hu2⟩
  have HR1 := Lib.hid hr
  have HU2 := Lib.hid (HU1.out.then hu2)
  have HBA2 := Lib.hid (hu2.blk HBA.out (by simp))
  clear hr hu2 HBA HU1
  cases r with
  | false =>
    clear HR1
    go_wp2_with fail
    refine (lives_calls _).mono ?_
    rintro e w3 ⟨rfl, hu3⟩
    have HU3 := Lib.hid (HU2.out.then hu3)
    clear hu3
    go_wp2
    go_ret
    exact ⟨rfl, HU3.out⟩
  | true =>
    have hra := HR1.out rfl
    have HRA := Lib.hid hra
    clear HR1
    obtain ⟨x0, x1, x2, x3, x4, x5, x6⟩ := Blk.seven HBA2.out
    have hsa := hra.1
    have hda := hra.2
    have hall := all_calls' (-1) (HA.out _ HU2.out).old (by omega) (by omega)
    have HALL := Lib.hid hall
    clear hra hall hsa hda
    go_wp2_with fail
    refine HALL.out.mono ?_
    rintro e w3 ⟨⟨al, cl, ds, rfl, hds, hrow⟩, hu3⟩
    rw [if_pos (by omega)] at hds
    have HDS := Lib.hid hds
    have HROW := Lib.hid hrow
    have HU3 := Lib.hid (HU2.out.then hu3)
    have HV3 := Lib.hid hu3
    have HBA3 := Lib.hid (hu3.blk HBA2.out (by simp))
    clear hds hrow hu3 HALL HBA2 x0 x1 x2 x3 x4 x5 x6
    obtain ⟨x0, x1, x2, x3, x4, x5, x6⟩ := Blk.seven HBA3.out
    have hsa := HRA.out.1
    have hda := HRA.out.2
    obtain ⟨q, hq⟩ : ∃ q, q = ds.length := ⟨_, rfl⟩
    have hqs : szN n a = q := by
      rw [hq, HDS.out, walkD_len n a (by omega)]
    have hq1 : 1 ≤ q := by
      have := szN_pos n a
      omega
    have hq4 : q ≤ 400 := by omega
    have hd0 : ds.getD 0 default = a := by
      rw [HDS.out]
      cases n with
      | zero =>
        rw [szN] at hsa
        omega
      | succ n => rfl
    obtain ⟨b, o, k0, n0, a0, l0, c0, b0, s0, i0, m0, d0, t0, o0, p0, rfl, hat, hd⟩ := row_at HROW.out (i := 0) (by omega)
    rw [hd0] at hd
    rw [Nat.zero_mul, Nat.add_zero] at hat
    unfold datCells at hat hd
    rw [← hq]
    have HQ := Lib.hid hq
    have HQS := Lib.hid hqs
    have HAT := Lib.hid hat
    have HD0 := Lib.hid (fun (W : World) (hu : Upd [] w2 W) => hd.upd hu)
    have hq0 : ¬ ((q : Nat) : Int) = 0 := by omega
    have hq0' : (0 : Int) < ((q : Nat) : Int) := by omega
    have hq0'' : 0 < q := by omega
    have hqb : (((q : Nat) : Int) == 0) = false := by simpa using hq0
    clear hq hqs hat hd hd0 hsa hda
    go_wp2_with fail
    refine wp_region_inv 18 3 (fun d a W => ∃ z0 z1 z2 z3 z4 z5 z6 z7 z8 z9 z10 z11 z12 z13 z14 z15 z16 z17 : Value, a = ⟨#[.agg #[.int .i64 ka, .bool na, .slice aa la ca, .bool ba, .string sa, .slice ia ma da, .slice ta oa pa], .int .u64 most, .pointer (some ⟨w.heap.size, 0, none⟩), undef, .bool false, .slice (some ⟨b, o, none⟩) q cl, undef, undef, undef, .agg #[.int .i64 ka, .bool na, .slice aa la ca, .bool ba, .string sa, .slice ia ma da, .slice ta oa pa], .bool true, .bool false, undef, .agg #[.int .i64 ka, .bool na, .slice aa la ca, .bool ba, .string sa, .slice ia ma da, .slice ta oa pa], .slice (some ⟨b, o, none⟩) q cl, z0, z1, z2, z3, z4, z5, z6, z7, z8, z9, z10, z11, z12, z13, z14, z15, z16, z17, undef, undef, undef, undef, undef, undef, undef, undef, undef, undef, undef, undef, undef, undef, undef, undef, undef, undef, undef, undef, undef, undef, undef, undef, undef, undef, undef, undef, undef, undef, undef, undef, undef, undef, undef, undef, undef, undef, undef, undef], []⟩ ∧ RInv w3 [.val (.slice (some ⟨b, o, none⟩) q cl), .val (.int .i64 ((q : Nat) : Int)), .val (.agg #[.int .i64 ka, .bool na, .slice aa la ca, .bool ba, .string sa, .slice ia ma da, .slice ta oa pa]), .val (.int .i64 ((q : Nat) : Int)), .val (.bool false), .val (.bool false), .val (.slice (some ⟨b, o, none⟩) q cl), .val (.int .i64 ((q : Nat) : Int)), .val (.bool false), .val (.bool false), .val (.bool false), .val (.slice (some ⟨b, o, none⟩) q cl), .val (.pointer (some ⟨b, o, none⟩)), .val (.agg #[.int .i64 k0, .bool n0, .slice a0 l0 c0, .bool b0, .string s0, .slice i0 m0 d0, .slice t0 o0 p0]), .val (.agg #[.int .i64 ka, .bool na, .slice aa la ca, .bool ba, .string sa, .slice ia ma da, .slice ta oa pa]), .val (.bool true), .val (.bool false), .val (.bool false)] d W [z0, z1, z2, z3, z4, z5, z6, z7, z8, z9, z10, z11, z12, z13, z14, z15, z16, z17]) (by kernel_rfl) (by kernel_rfl) ⟨_, _, _, _, _, _, _, _, _, _, _, _, _, _, _, _, _, _, rfl, RInv.new⟩ ?steps ?rest
    case steps =>
      show StepsOk _ _ _ _ [0, 1, 2, 3, 4, 5, 6, 7, 8, 9, 10, 11, 12, 13, 14, 15, 16, 17]
      refine StepsOk.cons (js := []) rfl (by kernel_rfl) ?_ ?_
      · rintro d a W ⟨z0, z1, z2, z3, z4, z5, z6, z7, z8, z9, z10, z11, z12, z13, z14, z15, z16, z17, rfl, h⟩ hd hdeps K hK
        have H := Lib.hid h
        clear h hdeps hd
        go_simp
        exact hK _ _ ⟨_, _, _, _, _, _, _, _, _, _, _, _, _, _, _, _, _, _, rfl, H.out.keep 0 rfl (show 0 < 18 by decide) rfl⟩
      refine StepsOk.cons (js := [0]) rfl (by kernel_rfl) ?_ ?_
      · rintro d a W ⟨z0, z1, z2, z3, z4, z5, z6, z7, z8, z9, z10, z11, z12, z13, z14, z15, z16, z17, rfl, h⟩ hd hdeps K hK
        have r0 : z0 = .slice (some ⟨b, o, none⟩) q cl := h.res 0 _ rfl (hdeps 0 (by simp))
        subst r0
        have H := Lib.hid h
        clear h hdeps hd
        go_simp
        exact hK _ _ ⟨_, _, _, _, _, _, _, _, _, _, _, _, _, _, _, _, _, _, rfl, H.out.keep 1 rfl (show 1 < 18 by decide) rfl⟩
      refine StepsOk.cons (js := []) rfl (by kernel_rfl) ?_ ?_
      · rintro d a W ⟨z0, z1, z2, z3, z4, z5, z6, z7, z8, z9, z10, z11, z12, z13, z14, z15, z16, z17, rfl, h⟩ hd hdeps K hK
        obtain ⟨x0, x1, x2, x3, x4, x5, x6⟩ := Blk.seven (h.upd.blk HBA3.out (by simp))
        have H := Lib.hid h
        clear h hdeps hd
        go_simp
        exact hK _ _ ⟨_, _, _, _, _, _, _, _, _, _, _, _, _, _, _, _, _, _, rfl, H.out.keep 2 rfl (show 2 < 18 by decide) rfl⟩
      refine StepsOk.cons (js := [2]) rfl (by kernel_rfl) ?_ ?_
      · rintro d a W ⟨z0, z1, z2, z3, z4, z5, z6, z7, z8, z9, z10, z11, z12, z13, z14, z15, z16, z17, rfl, h⟩ hd hdeps K hK
        have r2 : z2 = .agg #[.int .i64 ka, .bool na, .slice aa la ca, .bool ba, .string sa, .slice ia ma da, .slice ta oa pa] := h.res 2 _ rfl (hdeps 2 (by simp))
        subst r2
        have H := Lib.hid h
        clear h hdeps hd
        go_wp2_with fail
        refine (size_calls (HA.out W (HU3.out.then H.out.upd)) (by have := HRA.out.1; omega)).mono ?_
        rintro e w9 ⟨rfl, hu⟩
        rw [HQS.out]
        exact hK _ _ ⟨_, _, _, _, _, _, _, _, _, _, _, _, _, _, _, _, _, _, rfl, H.out.put 3 rfl (show 3 < 18 by decide) hu rfl⟩
      refine StepsOk.cons (js := [1, 3]) rfl (by kernel_rfl) ?_ ?_
      · rintro d a W ⟨z0, z1, z2, z3, z4, z5, z6, z7, z8, z9, z10, z11, z12, z13, z14, z15, z16, z17, rfl, h⟩ hd hdeps K hK
        have r1 : z1 = .int .i64 ((q : Nat) : Int) := h.res 1 _ rfl (hdeps 1 (by simp))
        subst r1
        have r3 : z3 = .int .i64 ((q : Nat) : Int) := h.res 3 _ rfl (hdeps 3 (by simp))
        subst r3
        have H := Lib.hid h
        clear h hdeps hd
        go_simp
        exact hK _ _ ⟨_, _, _, _, _, _, _, _, _, _, _, _, _, _, _, _, _, _, rfl, H.out.keep 4 rfl (show 4 < 18 by decide) rfl⟩
      refine StepsOk.cons (js := [4, 3]) rfl (by kernel_rfl) ?_ ?_
      · rintro d a W ⟨z0, z1, z2, z3, z4, z5, z6, z7, z8, z9, z10, z11, z12, z13, z14, z15, z16, z17, rfl, h⟩ hd hdeps K hK
        have r4 : z4 = .bool false := h.res 4 _ rfl (hdeps 4 (by simp))
        subst r4
        have r3 : z3 = .int .i64 ((q : Nat) : Int) := h.res 3 _ rfl (hdeps 3 (by simp))
        subst r3
        have H := Lib.hid h
        clear h hdeps hd
        go_simp
        exact hK _ _ ⟨_, _, _, _, _, _, _, _, _, _, _, _, _, _, _, _, _, _, rfl, H.out.keep 5 rfl (show 5 < 18 by decide) rfl⟩
      refine StepsOk.cons (js := [5]) rfl (by kernel_rfl) ?_ ?_
      · rintro d a W ⟨z0, z1, z2, z3, z4, z5, z6, z7, z8, z9, z10, z11, z12, z13, z14, z15, z16, z17, rfl, h⟩ hd hdeps K hK
        have r5 : z5 = .bool false := h.res 5 _ rfl (hdeps 5 (by simp))
        subst r5
        have H := Lib.hid h
        clear h hdeps hd
        go_simp
        exact hK _ _ ⟨_, _, _, _, _, _, _, _, _, _, _, _, _, _, _, _, _, _, rfl, H.out.keep 6 rfl (show 6 < 18 by decide) rfl⟩
      refine StepsOk.cons (js := [6, 5]) rfl (by kernel_rfl) ?_ ?_
      · rintro d a W ⟨z0, z1, z2, z3, z4, z5, z6, z7, z8, z9, z10, z11, z12, z13, z14, z15, z16, z17, rfl, h⟩ hd hdeps K hK
        have r6 : z6 = .slice (some ⟨b, o, none⟩) q cl := h.res 6 _ rfl (hdeps 6 (by simp))
        subst r6
        have r5 : z5 = .bool false := h.res 5 _ rfl (hdeps 5 (by simp))
        subst r5
        have H := Lib.hid h
        clear h hdeps hd
        go_simp
        exact hK _ _ ⟨_, _, _, _, _, _, _, _, _, _, _, _, _, _, _, _, _, _, rfl, H.out.keep 7 rfl (show 7 < 18 by decide) rfl⟩
      refine StepsOk.cons (js := [7, 5]) rfl (by kernel_rfl) ?_ ?_
      · rintro d a W ⟨z0, z1, z2, z3, z4, z5, z6, z7, z8, z9, z10, z11, z12, z13, z14, z15, z16, z17, rfl, h⟩ hd hdeps K hK
        have r7 : z7 = .int .i64 ((q : Nat) : Int) := h.res 7 _ rfl (hdeps 7 (by simp))
        subst r7
        have r5 : z5 = .bool false := h.res 5 _ rfl (hdeps 5 (by simp))
        subst r5
        have H := Lib.hid h
        clear h hdeps hd
        go_simp
        exact hK _ _ ⟨_, _, _, _, _, _, _, _, _, _, _, _, _, _, _, _, _, _, rfl, H.out.keep 8 rfl (show 8 < 18 by decide) rfl⟩
      refine StepsOk.cons (js := [5, 8]) rfl (by kernel_rfl) ?_ ?_
      · rintro d a W ⟨z0, z1, z2, z3, z4, z5, z6, z7, z8, z9, z10, z11, z12, z13, z14, z15, z16, z17, rfl, h⟩ hd hdeps K hK
        have r5 : z5 = .bool false := h.res 5 _ rfl (hdeps 5 (by simp))
        subst r5
        have r8 : z8 = .bool false := h.res 8 _ rfl (hdeps 8 (by simp))
        subst r8
        have H := Lib.hid h
        clear h hdeps hd
        go_simp
        exact hK _ _ ⟨_, _, _, _, _, _, _, _, _, _, _, _, _, _, _, _, _, _, rfl, H.out.keep 9 rfl (show 9 < 18 by decide) rfl⟩
      refine StepsOk.cons (js := [9, 5]) rfl (by kernel_rfl) ?_ ?_
      · rintro d a W ⟨z0, z1, z2, z3, z4, z5, z6, z7, z8, z9, z10, z11, z12, z13, z14, z15, z16, z17, rfl, h⟩ hd hdeps K hK
        have r9 : z9 = .bool false := h.res 9 _ rfl (hdeps 9 (by simp))
        subst r9
        have r5 : z5 = .bool false := h.res 5 _ rfl (hdeps 5 (by simp))
        subst r5
        have H := Lib.hid h
        clear h hdeps hd
        go_simp
        exact hK _ _ ⟨_, _, _, _, _, _, _, _, _, _, _, _, _, _, _, _, _, _, rfl, H.out.keep 10 rfl (show 10 < 18 by decide) rfl⟩
      refine StepsOk.cons (js := [10]) rfl (by kernel_rfl) ?_ ?_
      · rintro d a W ⟨z0, z1, z2, z3, z4, z5, z6, z7, z8, z9, z10, z11, z12, z13, z14, z15, z16, z17, rfl, h⟩ hd hdeps K hK
        have r10 : z10 = .bool false := h.res 10 _ rfl (hdeps 10 (by simp))
        subst r10
        have H := Lib.hid h
        clear h hdeps hd
        go_simp
        exact hK _ _ ⟨_, _, _, _, _, _, _, _, _, _, _, _, _, _, _, _, _, _, rfl, H.out.keep 11 rfl (show 11 < 18 by decide) rfl⟩
      refine StepsOk.cons (js := [11, 10]) rfl (by kernel_rfl) ?_ ?_
      · rintro d a W ⟨z0, z1, z2, z3, z4, z5, z6, z7, z8, z9, z10, z11, z12, z13, z14, z15, z16, z17, rfl, h⟩ hd hdeps K hK
        have r11 : z11 = .slice (some ⟨b, o, none⟩) q cl := h.res 11 _ rfl (hdeps 11 (by simp))
        subst r11
        have r10 : z10 = .bool false := h.res 10 _ rfl (hdeps 10 (by simp))
        subst r10
        have H := Lib.hid h
        clear h hdeps hd
        go_simp
        exact hK _ _ ⟨_, _, _, _, _, _, _, _, _, _, _, _, _, _, _, _, _, _, rfl, H.out.keep 12 rfl (show 12 < 18 by decide) rfl⟩
      refine StepsOk.cons (js := [12, 10]) rfl (by kernel_rfl) ?_ ?_
      · rintro d a W ⟨z0, z1, z2, z3, z4, z5, z6, z7, z8, z9, z10, z11, z12, z13, z14, z15, z16, z17, rfl, h⟩ hd hdeps K hK
        have r12 : z12 = .pointer (some ⟨b, o, none⟩) := h.res 12 _ rfl (hdeps 12 (by simp))
        subst r12
        have r10 : z10 = .bool false := h.res 10 _ rfl (hdeps 10 (by simp))
        subst r10
        obtain ⟨j0, j1, j2, j3, j4, j5, j6⟩ := (HAT.out.upd h.upd (by simp)).cells
        have H := Lib.hid h
        clear h hdeps hd
        go_simp
        exact hK _ _ ⟨_, _, _, _, _, _, _, _, _, _, _, _, _, _, _, _, _, _, rfl, H.out.keep 13 rfl (show 13 < 18 by decide) rfl⟩
      refine StepsOk.cons (js := [10]) rfl (by kernel_rfl) ?_ ?_
      · rintro d a W ⟨z0, z1, z2, z3, z4, z5, z6, z7, z8, z9, z10, z11, z12, z13, z14, z15, z16, z17, rfl, h⟩ hd hdeps K hK
        have r10 : z10 = .bool false := h.res 10 _ rfl (hdeps 10 (by simp))
        subst r10
        obtain ⟨x0, x1, x2, x3, x4, x5, x6⟩ := Blk.seven (h.upd.blk HBA3.out (by simp))
        have H := Lib.hid h
        clear h hdeps hd
        go_simp
        exact hK _ _ ⟨_, _, _, _, _, _, _, _, _, _, _, _, _, _, _, _, _, _, rfl, H.out.keep 14 rfl (show 14 < 18 by decide) rfl⟩
      refine StepsOk.cons (js := [13, 14, 10, 10]) rfl (by kernel_rfl) ?_ ?_
      · rintro d a W ⟨z0, z1, z2, z3, z4, z5, z6, z7, z8, z9, z10, z11, z12, z13, z14, z15, z16, z17, rfl, h⟩ hd hdeps K hK
        have r13 : z13 = .agg #[.int .i64 k0, .bool n0, .slice a0 l0 c0, .bool b0, .string s0, .slice i0 m0 d0, .slice t0 o0 p0] := h.res 13 _ rfl (hdeps 13 (by simp))
        subst r13
        have r14 : z14 = .agg #[.int .i64 ka, .bool na, .slice aa la ca, .bool ba, .string sa, .slice ia ma da, .slice ta oa pa] := h.res 14 _ rfl (hdeps 14 (by simp))
        subst r14
        have r10 : z10 = .bool false := h.res 10 _ rfl (hdeps 10 (by simp))
        subst r10
        have H := Lib.hid h
        clear h hdeps hd
        go_wp2_with fail
        refine (Same_calls (HD0.out W (HV3.out.then H.out.upd)) (HA.out W (HU3.out.then H.out.upd)) (by have := HRA.out.1; omega) (by have := HRA.out.2; omega)).mono ?_
        rintro e w9 ⟨rfl, hu⟩
        exact hK _ _ ⟨_, _, _, _, _, _, _, _, _, _, _, _, _, _, _, _, _, _, rfl, H.out.put 15 rfl (show 15 < 18 by decide) hu rfl⟩
      refine StepsOk.cons (js := [15, 10]) rfl (by kernel_rfl) ?_ ?_
      · rintro d a W ⟨z0, z1, z2, z3, z4, z5, z6, z7, z8, z9, z10, z11, z12, z13, z14, z15, z16, z17, rfl, h⟩ hd hdeps K hK
        have r15 : z15 = .bool true := h.res 15 _ rfl (hdeps 15 (by simp))
        subst r15
        have r10 : z10 = .bool false := h.res 10 _ rfl (hdeps 10 (by simp))
        subst r10
        have H := Lib.hid h
        clear h hdeps hd
        go_simp
        exact hK _ _ ⟨_, _, _, _, _, _, _, _, _, _, _, _, _, _, _, _, _, _, rfl, H.out.keep 16 rfl (show 16 < 18 by decide) rfl⟩
      refine StepsOk.cons (js := [10, 16]) rfl (by kernel_rfl) ?_ StepsOk.nil
      · rintro d a W ⟨z0, z1, z2, z3, z4, z5, z6, z7, z8, z9, z10, z11, z12, z13, z14, z15, z16, z17, rfl, h⟩ hd hdeps K hK
        have r10 : z10 = .bool false := h.res 10 _ rfl (hdeps 10 (by simp))
        subst r10
        have r16 : z16 = .bool false := h.res 16 _ rfl (hdeps 16 (by simp))
        subst r16
        have H := Lib.hid h
        clear h hdeps hd
        go_simp
        exact hK _ _ ⟨_, _, _, _, _, _, _, _, _, _, _, _, _, _, _, _, _, _, rfl, H.out.keep 17 rfl (show 17 < 18 by decide) rfl⟩
    case rest =>
      rintro d a' W ⟨z0, z1, z2, z3, z4, z5, z6, z7, z8, z9, z10, z11, z12, z13, z14, z15, z16, z17, rfl, h⟩ hd
      have r0 : z0 = .slice (some ⟨b, o, none⟩) q cl := h.res 0 _ rfl (hd 0 (by omega))
      subst r0
      have r1 : z1 = .int .i64 ((q : Nat) : Int) := h.res 1 _ rfl (hd 1 (by omega))
      subst r1
      have r2 : z2 = .agg #[.int .i64 ka, .bool na, .slice aa la ca, .bool ba, .string sa, .slice ia ma da, .slice ta oa pa] := h.res 2 _ rfl (hd 2 (by omega))
      subst r2
      have r3 : z3 = .int .i64 ((q : Nat) : Int) := h.res 3 _ rfl (hd 3 (by omega))
      subst r3
      have r4 : z4 = .bool false := h.res 4 _ rfl (hd 4 (by omega))
      subst r4
      have r5 : z5 = .bool false := h.res 5 _ rfl (hd 5 (by omega))
      subst r5
      have r6 : z6 = .slice (some ⟨b, o, none⟩) q cl := h.res 6 _ rfl (hd 6 (by omega))
      subst r6
      have r7 : z7 = .int .i64 ((q : Nat) : Int) := h.res 7 _ rfl (hd 7 (by omega))
      subst r7
      have r8 : z8 = .bool false := h.res 8 _ rfl (hd 8 (by omega))
      subst r8
      have r9 : z9 = .bool false := h.res 9 _ rfl (hd 9 (by omega))
      subst r9
      have r10 : z10 = .bool false := h.res 10 _ rfl (hd 10 (by omega))
      subst r10
      have r11 : z11 = .slice (some ⟨b, o, none⟩) q cl := h.res 11 _ rfl (hd 11 (by omega))
      subst r11
      have r12 : z12 = .pointer (some ⟨b, o, none⟩) := h.res 12 _ rfl (hd 12 (by omega))
      subst r12
      have r13 : z13 = .agg #[.int .i64 k0, .bool n0, .slice a0 l0 c0, .bool b0, .string s0, .slice i0 m0 d0, .slice t0 o0 p0] := h.res 13 _ rfl (hd 13 (by omega))
      subst r13
      have r14 : z14 = .agg #[.int .i64 ka, .bool na, .slice aa la ca, .bool ba, .string sa, .slice ia ma da, .slice ta oa pa] := h.res 14 _ rfl (hd 14 (by omega))
      subst r14
      have r15 : z15 = .bool true := h.res 15 _ rfl (hd 15 (by omega))
      subst r15
      have r16 : z16 = .bool false := h.res 16 _ rfl (hd 16 (by omega))
      subst r16
      have r17 : z17 = .bool false := h.res 17 _ rfl (hd 17 (by omega))
      subst r17
      have hu := h.upd
      clear h hd
      have HU4 := Lib.hid (HU3.out.then hu)
      have HV4 := Lib.hid (HV3.out.then hu)
      have HBA4 := Lib.hid (hu.blk HBA3.out (by simp))
      have HROW4 := Lib.hid (RowOf.map (R' := IsD w2 (fun b => b < w2.heap.size) n) HROW.out (Q := fun _ => True) (fun _ _ _ => trivial) (fun _ _ _ _ hc => hu.cell hc (by simp)) (fun _ _ hd => hd))
      clear hu HU3 HV3 HBA3 HAT HD0 x0 x1 x2 x3 x4 x5 x6
      refine wpList_nil ?_
      have hb := bounds_u64 hmr
      obtain ⟨k, hk⟩ : ∃ k : Nat, k = (most.tmod 20).toNat := ⟨_, rfl⟩
      have hkm : most.tmod 20 = ((k : Nat) : Int) := by
        rw [Int.tmod_eq_emod_of_nonneg (by omega)] at *
        omega
      have hk20 : k < 20 := by
        rw [Int.tmod_eq_emod_of_nonneg (by omega)] at hkm
        omega
      have hkw : wrap64 ((k : Nat) : Int) = ((k : Nat) : Int) := IntWalk.wrap64_in _ (by omega)
      clear hk hb
      obtain ⟨x0, x1, x2, x3, x4, x5, x6⟩ := Blk.seven HBA4.out
      go_wp2_with fail
      have hall := all_calls' ((k : Nat) : Int) (HA.out _ HU4.out).old (by have := HRA.out.1; omega) (by have := HRA.out.2; omega)
      refine hall.mono ?_
      clear hall
      rintro e w5 ⟨⟨a5, c5, es, rfl, hes, hrow⟩, hu5⟩
      rw [if_neg (by omega), Int.toNat_natCast] at hes
      obtain ⟨m, hm⟩ : ∃ m, m = es.length := ⟨_, rfl⟩
      rw [← hm]
      have hmk : m = min k q := by
        rw [hm, hes, List.length_take, ← HDS.out, ← HQ.out]
      have HES := Lib.hid hes
      have HM := Lib.hid hm
      have HU5 := Lib.hid (HU4.out.then hu5)
      have HROW5 := Lib.hid hrow
      have HROWL := Lib.hid (RowOf.map (R' := IsD w2 (fun b => b < w2.heap.size) n) HROW4.out (Q := fun _ => True) (fun _ _ _ => trivial) (fun _ _ _ _ hc => hu5.cell hc (by simp)) (fun _ _ hd => hd))
      have HV5 := Lib.hid (HV4.out.then hu5)
      have HW5 := Lib.hid hu5
      clear hes hm hrow hu5 HROW4 HU4 HV4 HBA4 x0 x1 x2 x3 x4 x5 x6
      have HEL := Lib.hid (fun (i : Nat) (hi : i < m) => show es.getD i default = ds.getD i default from by
        rw [HES.out, HDS.out]
        simp only [List.getD_eq_getElem?_getD]
        rw [List.getElem?_take_of_lt (by omega)])
      have HDSZ := Lib.hid (fun (i : Nat) (hi : i < ds.length) => walkD_sz n a (by have := HRA.out.1; omega) (ds.getD i default) (by
        rw [← HDS.out, List.getD_eq_getElem?_getD, List.getElem?_eq_getElem hi]
        exact List.getElem_mem hi))
      have hszA := HRA.out
      have hmi : ((m : Nat) : Int) ≤ 20 := by omega
      have hmq1 : m ≤ q := by omega
      by_cases hmk2 : m = k
      · clear hmk
        subst hmk2
        go_wp2_with fail
        go_loopw [58] (fun i wr => ∃ j : Nat, j ≤ m ∧ i = .int .i64 j ∧ Hid (Upd [] w5 wr)) (fun i _ => m - (intOf i).toNat)
        case atStart => exact ⟨0, Nat.zero_le _, rfl, Lib.hid (Upd.refl _ _)⟩
        case round =>
          obtain ⟨j, hj, rfl, hU⟩ := hrel
          by_cases hlt : j < m
          · obtain ⟨e1, f1, k1, n1, a1, l1, c1, b1, s1, i1, m1, d1, t1, o1, p1, rfl, hat1, hd1⟩ := row_at HROW5.out (i := j) (by rw [← HM.out]; exact hlt)
            obtain ⟨e2, f2, k2, n2, a2, l2, c2, b2, s2, i2, m2, d2, t2, o2, p2, e, hat2, hd2⟩ := row_at HROWL.out (i := j) (by rw [← HQ.out]; omega)
            injection e with e
            injection e with e5 e6
            subst e5; subst e6
            rw [HEL.out j hlt] at hd1
            have hdx := HDSZ.out j (by rw [← HQ.out]; omega)
            obtain ⟨x, hx⟩ : ∃ x, x = ds.getD j default := ⟨_, rfl⟩
            rw [← hx] at hd1 hd2 hdx
            unfold datCells at *
            obtain ⟨y0, y1, y2, y3, y4, y5, y6⟩ := (hat1.upd hU.out (by simp)).cells
            obtain ⟨z0, z1, z2, z3, z4, z5, z6⟩ := (hat2.upd hU.out (by simp)).cells
            have HS := Lib.hid (fun (W' : World) (hu : Upd [] wr W') => Same_calls (hd1.upd (HW5.out.then (hU.out.then hu))) (hd2.upd (HV5.out.then (hU.out.then hu))) (by omega) (by omega))
            have hjq : j < q := by omega
            clear hat1 hat2 hd1 hd2 hdx hx HRA HDS HROW HQ HQS HES HM HEL HROW5 HROWL HA HDSZ
            go_wp2_with fail
            go_region_with (go_at_call 9; refine (HS.out _ (Upd.refl [] wr).drew).mono ?_; rintro e w9 ⟨rfl, hu⟩)
            all_goals
              have HU9 := Lib.hid (hU.out.then ((Upd.refl [] wr).drew.then hu))
              clear hu
              go_wp2
              go_roundw
              case rel => exact ⟨j + 1, by omega, by go_num, HU9⟩
              case measure => simp [intOf]; omega
          · obtain rfl : j = m := by omega
            go_wp2_with fail
            refine (lives_calls _).mono ?_
            rintro e w9 ⟨rfl, hu⟩
            have HU9 := Lib.hid (HU5.out.then (hU.out.then hu))
            clear hu
            go_wp2
            go_ret
            exact ⟨rfl, HU9.out⟩
      · have hmq : m = q := by omega
        have hmk9 : m ≤ k := by omega
        clear hmk
        subst hmq
        have hn1 : ¬ ((m : Nat) : Int) = ((k : Nat) : Int) := by omega
        have hn2 : ¬ ((k : Nat) : Int) < ((m : Nat) : Int) := by omega
        have hn3 : (((m : Nat) : Int) != ((k : Nat) : Int)) = true := by simpa using hn1
        have hn4 : decide (k < m) = false := by simp; omega
        clear hmk9
        go_wp2_with fail
        go_loopw [58] (fun i wr => ∃ j : Nat, j ≤ m ∧ i = .int .i64 j ∧ Hid (Upd [] w5 wr)) (fun i _ => m - (intOf i).toNat)
        case atStart => exact ⟨0, Nat.zero_le _, rfl, Lib.hid (Upd.refl _ _)⟩
        case round =>
          obtain ⟨j, hj, rfl, hU⟩ := hrel
          by_cases hlt : j < m
          · obtain ⟨e1, f1, k1, n1, a1, l1, c1, b1, s1, i1, m1, d1, t1, o1, p1, rfl, hat1, hd1⟩ := row_at HROW5.out (i := j) (by rw [← HM.out]; exact hlt)
            obtain ⟨e2, f2, k2, n2, a2, l2, c2, b2, s2, i2, m2, d2, t2, o2, p2, e, hat2, hd2⟩ := row_at HROWL.out (i := j) (by rw [← HQ.out]; omega)
            injection e with e
            injection e with e5 e6
            subst e5; subst e6
            rw [HEL.out j hlt] at hd1
            have hdx := HDSZ.out j (by rw [← HQ.out]; omega)
            obtain ⟨x, hx⟩ : ∃ x, x = ds.getD j default := ⟨_, rfl⟩
            rw [← hx] at hd1 hd2 hdx
            unfold datCells at *
            obtain ⟨y0, y1, y2, y3, y4, y5, y6⟩ := (hat1.upd hU.out (by simp)).cells
            obtain ⟨z0, z1, z2, z3, z4, z5, z6⟩ := (hat2.upd hU.out (by simp)).cells
            have HS := Lib.hid (fun (W' : World) (hu : Upd [] wr W') => Same_calls (hd1.upd (HW5.out.then (hU.out.then hu))) (hd2.upd (HV5.out.then (hU.out.then hu))) (by omega) (by omega))
            have hjq : j < m := by omega
            clear hat1 hat2 hd1 hd2 hdx hx HRA HDS HROW HQ HQS HES HM HEL HROW5 HROWL HA HDSZ
            go_wp2_with fail
            go_region_with (go_at_call 9; refine (HS.out _ (Upd.refl [] wr).drew).mono ?_; rintro e w9 ⟨rfl, hu⟩)
            all_goals
              have HU9 := Lib.hid (hU.out.then ((Upd.refl [] wr).drew.then hu))
              clear hu
              go_wp2
              go_roundw
              case rel => exact ⟨j + 1, by omega, by go_num, HU9⟩
              case measure => simp [intOf]; omega
          · obtain rfl : j = m := by omega
            go_wp2_with fail
            refine (lives_calls _).mono ?_
            rintro e w9 ⟨rfl, hu⟩
            have HU9 := Lib.hid (HU5.out.then (hU.out.then hu))
            clear hu
            go_wp2
            go_ret
            exact ⟨rfl, HU9.out⟩
theorem law_DatumWalks (v : Value) (most : Int) (w : World) (h : ArgS Try.prog w 27 v) (hm : (Lit.int .u64 most).wf = true) :
    Calls Try.prog 3 #[v, .int .u64 most] w fun e w' => e = .returned (.bool true) ∧ Upd [] w w' := by
  obtain ⟨cs, n, rfl, hr⟩ := h.agg (by kernel_rfl)
  obtain ⟨d, hd⟩ := dat_open _ _ hr
  exact walks_walk (n := n) (xa := cs.toList) most hm hd.any
end Go.Proofs.Ytknbgbeepachgaa
