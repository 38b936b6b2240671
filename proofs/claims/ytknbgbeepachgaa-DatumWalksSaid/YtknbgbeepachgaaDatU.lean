/-
  datum.Number, datum.Pair.
-/
import Derived.Test.YtknbgbeepachgaaDatQ
namespace Go.Proofs.Ytknbgbeepachgaa
open Go.RowKit

/-- A number of one limb. -/
def numD (k : Int) : Dat := .mk 1 false [k] false ByteArray.empty [] []
set_option maxRecDepth 100000 in
set_option maxHeartbeats 1500000 in
theorem of_calls (w : World) (k : Int) (hk : k = 1 ∨ k = 2 ∨ k = 3) : Calls Try.prog 27 #[.int .i64 k] w (NumPost w false [k]) := by
  have hB : Blk ((w.alloc (.cells #[.bool false, .slice none 0 0] 24)).alloc (.cells #[.int .u32 k, .int .u32 0] 61)) (w.heap.size + 1) [.int .u32 k, .int .u32 0] 61 := Blk.newAt (by simp)
  have hR : Blk ((w.alloc (.cells #[.bool false, .slice none 0 0] 24)).alloc (.cells #[.int .u32 k, .int .u32 0] 61)) w.heap.size [.bool false, .slice none 0 0] 24 := (Blk.new w [.bool false, .slice none 0 0] _).alloc _
  have hU : Upd [] w ((w.alloc (.cells #[.bool false, .slice none 0 0] 24)).alloc (.cells #[.int .u32 k, .int .u32 0] 61)) := ((Upd.refl [] w).alloc _).alloc _
  have hL : LimbsOf ((w.alloc (.cells #[.bool false, .slice none 0 0] 24)).alloc (.cells #[.int .u32 k, .int .u32 0] 61)) (fun _ => True) (some ⟨w.heap.size + 1, 0, none⟩) [k, 0] := by
    intro i hi
    refine ⟨w.heap.size + 1, 0, rfl, trivial, ?_⟩
    have hi' : i = 0 ∨ i = 1 := by simp at hi; omega
    rw [hB.cell]
    rcases hi' with rfl | rfl <;> rfl
  have hC := Lib.hid (wholeOf_calls false 2 2 rfl hL (Nat.le_refl _) (by omega) (by intro x hx; simp at hx; omega))
  have ht : trimL [k, 0] = [k] := by
    rcases hk with rfl | rfl | rfl <;> rfl
  rw [ht] at hC
  have HR := Lib.hid hR
  have HU := Lib.hid hU
  have hsz : ((w.alloc (.cells #[.bool false, .slice none 0 0] 24)).alloc (.cells #[.int .u32 k, .int .u32 0] 61)).heap.size = w.heap.size + 2 := by simp
  clear hB hR hU hL ht
  have hfin : ∀ w2, NumPost ((w.alloc (.cells #[.bool false, .slice none 0 0] 24)).alloc (.cells #[.int .u32 k, .int .u32 0] 61)) false [k] (.returned default) w2 → True := fun _ _ => trivial
  clear hfin
  rcases hk with rfl | rfl | rfl
  all_goals
    go_enter Try.func27, Try.ntmps27
    go_wp2_with fail
    refine hC.out.mono ?_
    rintro e w2 ⟨⟨a2, c2, rfl, hL2, hc2⟩, hu2⟩
    rw [hsz] at hL2
    have hr2 := hu2.blk HR.out (by simp)
    have c0 := hr2.cell_some (i := 0) rfl
    have c1 := hr2.cell_some (i := 1) rfl
    have f0 := hr2.free 0
    have f1 := hr2.free 1
    have HR2 := Lib.hid hr2
    have HU2 := Lib.hid (HU.out.then hu2)
    have HL2 := Lib.hid hL2
    have HC2 := Lib.hid hc2
    clear hC HR HU hsz hu2 hr2 hL2 hc2
    simp only [Bool.false_and, List.length_cons, List.length_nil, Nat.zero_add] at *
    go_wp2
    have hb := (HR2.out.set 0 (.bool false)).set 1 (.slice a2 1 c2)
    have k0 := hb.cell_some (i := 0) rfl
    have k1 := hb.cell_some (i := 1) rfl
    refine bodyPost_ret (v := .agg #[.bool false, .slice a2 1 c2]) ?_ rfl ⟨⟨a2, c2, rfl, ?_, HC2.out⟩, (HU2.out.setCell _ (.inr (Nat.le_refl _))).setCell _ (.inr (Nat.le_refl _))⟩
    · simp [results, Try.results27, go_sem, k0, k1]
    · exact LimbsOf.mono (P := fun b => w.heap.size + 2 ≤ b) ((HL2.out.set_other _ _ (fun b hb => by simp; omega)).set_other _ _ (fun b hb => by simp; omega)) (fun b hb => by omega)
set_option maxRecDepth 100000 in
set_option maxHeartbeats 1500000 in
theorem number_calls (w : World) (k : Int) (hk : k = 1 ∨ k = 2 ∨ k = 3) : Calls Try.prog 16 #[.int .i64 k] w (NormPost w 1 (numD k)) := by
  have hu1 := (Upd.refl [] w).alloc (.cells #[.int .i64 0, .bool false, .slice none 0 0, .bool false, .string ⟨#[]⟩, .slice none 0 0, .slice none 0 0] 27)
  have hR := Lib.hid (Blk.new w [.int .i64 0, .bool false, .slice none 0 0, .bool false, .string ⟨#[]⟩, .slice none 0 0, .slice none 0 0] 27)
  have hU := Lib.hid hu1
  have hC := Lib.hid (of_calls (w.alloc (.cells #[.int .i64 0, .bool false, .slice none 0 0, .bool false, .string ⟨#[]⟩, .slice none 0 0, .slice none 0 0] 27)) k hk)
  have hkb : 0 ≤ k ∧ k < 4294967296 := by omega
  clear hu1 hk
  go_enter Try.func16, Try.ntmps16
  go_wp2_with fail
  refine hC.out.mono ?_
  rintro e w2 ⟨⟨a2, c2, rfl, hL2, hc2⟩, hu2⟩
  have hr2 := hu2.blk hR.out (by simp)
  obtain ⟨p0, p1, p2, p3, p4, p5, p6⟩ := Blk.seven hr2
  obtain ⟨f0, f1, f2, f3, f4, f5, f6⟩ := Blk.frees hr2
  have HR2 := Lib.hid hr2
  have HU2 := Lib.hid (hU.out.then hu2)
  have HL2 : Hid (LimbsOf w2 (fun b => w.heap.size + 1 ≤ b) a2 [k]) := Lib.hid (hL2.mono fun b hb => by simp at hb; omega)
  have HC2 := Lib.hid hc2
  clear hC hR hU hu2 hr2 hL2 hc2
  simp only [Bool.false_and, List.length_cons, List.length_nil, Nat.zero_add] at *
  go_wp2
  have hb := HR2.out.put7 (.int .i64 1) (.bool false) (.slice a2 1 c2) (.bool false) (.string ⟨#[]⟩) (.slice none 0 0) (.slice none 0 0)
  obtain ⟨k0, k1, k2, k3, k4, k5, k6⟩ := Blk.seven hb
  have hD : IsD w2 (fun b => w.heap.size + 1 ≤ b) 1 [.int .i64 1, .bool false, .slice a2 1 c2, .bool false, .string ⟨#[]⟩, .slice none 0 0, .slice none 0 0] (numD k) :=
    isd_flat (ls := [k]) (by omega) HL2.out (by intro x hx; simp at hx; omega) (by simp) HC2.out (by simp [ByteArray.size])
  refine bodyPost_ret (v := .agg #[.int .i64 1, .bool false, .slice a2 1 c2, .bool false, .string ⟨#[]⟩, .slice none 0 0, .slice none 0 0]) ?_ rfl ⟨⟨[.int .i64 1, .bool false, .slice a2 1 c2, .bool false, .string ⟨#[]⟩, .slice none 0 0, .slice none 0 0], rfl, (hD.put7 w.heap.size (fun k hk => by omega) _ _ _ _ _ _ _).mono fun b _ hb => by omega⟩, HU2.out.put7 (.inr (Nat.le_refl _)) _ _ _ _ _ _ _⟩
  simp [results, Try.results16, go_sem, k0, k1, k2, k3, k4, k5, k6]
/-- What Pair norms. -/
def pairD (a b : Dat) : Dat := .mk 5 false [] false ByteArray.empty [a] [b]
set_option maxRecDepth 100000 in
set_option maxHeartbeats 1500000 in
theorem pair_calls {P P' : Nat → Prop} {n : Nat} {a b : Dat} {xa xb : List Value} {w : World} (ha : IsD w P n xa a) (hb : IsD w P' n xb b) (hs : 1 + szN n a + szN n b ≤ 100000) (hd : 1 + max (dpN n a) (dpN n b) ≤ 10000) :
    Calls Try.prog 11 #[.agg xa.toArray, .agg xb.toArray] w (NormPost w (n + 1) (normD (n + 1) (pairD a b))) := by
  obtain ⟨ka, na, aa, la, ca, ba, sa, ia, ma, da, ta, oa, pa, rfl⟩ := ha.shaped
  obtain ⟨kb, nb, ab, lb, cb, bb, sb, ib, mb, db, tb, ob, pb, rfl⟩ := hb.shaped
  unfold datCells at *
  obtain ⟨W5, hW5⟩ : ∃ W5, W5 = ((((w.alloc (.cells #[.int .i64 ka, .bool na, .slice aa la ca, .bool ba, .string sa, .slice ia ma da, .slice ta oa pa] 27)).alloc (.cells #[.int .i64 kb, .bool nb, .slice ab lb cb, .bool bb, .string sb, .slice ib mb db, .slice tb ob pb] 27)).alloc (.cells #[.int .i64 0, .bool false, .slice none 0 0, .bool false, .string ⟨#[]⟩, .slice none 0 0, .slice none 0 0] 27)).alloc (.cells #[.int .i64 ka, .bool na, .slice aa la ca, .bool ba, .string sa, .slice ia ma da, .slice ta oa pa] 27)).alloc (.cells #[.int .i64 kb, .bool nb, .slice ab lb cb, .bool bb, .string sb, .slice ib mb db, .slice tb ob pb] 27) := ⟨_, rfl⟩
  have hu5 : Upd [] w W5 := by
    rw [hW5]
    exact (((((Upd.refl [] w).alloc _).alloc _).alloc _).alloc _).alloc _
  have hr5 : Blk W5 (w.heap.size + 1 + 1) [.int .i64 0, .bool false, .slice none 0 0, .bool false, .string ⟨#[]⟩, .slice none 0 0, .slice none 0 0] 27 := by
    rw [hW5]
    exact ((Blk.newAt (by simp)).alloc _).alloc _
  have hA5 : Blk W5 (w.heap.size + 1 + 1 + 1) [.int .i64 ka, .bool na, .slice aa la ca, .bool ba, .string sa, .slice ia ma da, .slice ta oa pa] 27 := by
    rw [hW5]
    exact (Blk.newAt (by simp)).alloc _
  have hB5 : Blk W5 (w.heap.size + 1 + 1 + 1 + 1) [.int .i64 kb, .bool nb, .slice ab lb cb, .bool bb, .string sb, .slice ib mb db, .slice tb ob pb] 27 := by
    rw [hW5]
    exact Blk.newAt (by simp)
  have hz5 : W5.heap.size = w.heap.size + 5 := by
    rw [hW5]
    simp
  have hD5 : IsD W5 (fun _ => True) (n + 1) [.int .i64 5, .bool false, .slice none 0 0, .bool false, .string ⟨#[]⟩, .slice (some ⟨w.heap.size + 1 + 1 + 1, 0, none⟩) 1 1, .slice (some ⟨w.heap.size + 1 + 1 + 1 + 1, 0, none⟩) 1 1] (pairD a b) := by
    refine ⟨none, 0, some ⟨w.heap.size + 1 + 1 + 1, 0, none⟩, 1, some ⟨w.heap.size + 1 + 1 + 1 + 1, 0, none⟩, 1, rfl, fun i hi => absurd hi (by simp [pairD, Dat.limbs]), fun i hi => ?_, fun i hi => ?_, ⟨by simp [pairD, Dat.limbs], by simp [pairD, Dat.items], by simp [pairD, Dat.tail]⟩, by simp [pairD, Dat.kind], by simp [pairD, Dat.limbs], by simp [pairD, Dat.limbs], by simp [pairD, Dat.s, ByteArray.size], by simp [pairD, Dat.items], by simp [pairD, Dat.tail]⟩
    · have hi0 : i = 0 := by simpa [pairD, Dat.items] using hi
      subst hi0
      exact ⟨_, 0, _, rfl, trivial, ⟨rfl, fun j _ => by rw [show 0 + 0 * 7 + j = j by omega, hA5.cell]⟩, (ha.upd hu5).mono fun _ _ _ => trivial⟩
    · have hi0 : i = 0 := by simpa [pairD, Dat.tail] using hi
      subst hi0
      exact ⟨_, 0, _, rfl, trivial, ⟨rfl, fun j _ => by rw [show 0 + 0 * 7 + j = j by omega, hB5.cell]⟩, (hb.upd hu5).mono fun _ _ _ => trivial⟩
  have hC := Lib.hid (Norm_calls hD5 (by unfold pairD; rw [szN_mk]; simp only [szL]; omega) (by unfold pairD; rw [dpN_mk]; simp only [dpL]; omega))
  have HR5 := Lib.hid hr5
  have HU5 := Lib.hid hu5
  have HZ := Lib.hid hz5
  obtain ⟨D, hDD⟩ : ∃ D, D = normD (n + 1) (pairD a b) := ⟨_, rfl⟩
  rw [← hDD] at hC ⊢
  rw [hW5] at hC HR5 HU5 HZ
  clear ha hb hs hd hu5 hr5 hA5 hB5 hz5 hD5 hDD hW5 W5
  go_enter Try.func11, Try.ntmps11
  go_wp2_with fail
  refine hC.out.mono ?_
  rintro e w6 ⟨⟨cs6, rfl, hD6⟩, hu6⟩
  obtain ⟨k3, n3, a3, l3, c3, b3, s3, i3, m3, d3, t3, x3, y3, rfl⟩ := hD6.shaped
  unfold datCells at *
  have hr6 := hu6.blk HR5.out (by simp)
  obtain ⟨p0, p1, p2, p3, p4, p5, p6⟩ := Blk.seven hr6
  obtain ⟨f0, f1, f2, f3, f4, f5, f6⟩ := Blk.frees hr6
  have HR6 := Lib.hid hr6
  have HU6 := Lib.hid (HU5.out.then hu6)
  have HD6 : Hid (IsD w6 (fun b => w.heap.size + 5 ≤ b) (n + 1) _ _) := Lib.hid (hD6.mono fun b _ hb => by have := HZ.out; omega)
  clear hC HR5 HU5 HZ hr6 hu6 hD6
  go_wp2
  have hb := HR6.out.put7 (.int .i64 k3) (.bool n3) (.slice a3 l3 c3) (.bool b3) (.string s3) (.slice i3 m3 d3) (.slice t3 x3 y3)
  obtain ⟨k0, k1, k2, k3', k4, k5, k6⟩ := Blk.seven hb
  refine bodyPost_ret (v := .agg #[.int .i64 k3, .bool n3, .slice a3 l3 c3, .bool b3, .string s3, .slice i3 m3 d3, .slice t3 x3 y3]) ?_ rfl ⟨⟨[.int .i64 k3, .bool n3, .slice a3 l3 c3, .bool b3, .string s3, .slice i3 m3 d3, .slice t3 x3 y3], rfl, (HD6.out.put7 (w.heap.size + 1 + 1) (fun k hk => by omega) _ _ _ _ _ _ _).mono fun b _ hb => by omega⟩, HU6.out.put7 (.inr (by omega)) _ _ _ _ _ _ _⟩
  simp [results, Try.results11, go_sem, k0, k1, k2, k3', k4, k5, k6]
end Go.Proofs.Ytknbgbeepachgaa
