/-
  datum.Split of a list.
-/
import Derived.Test.YtknbgbeepachgaaDat1
namespace Go.Proofs.Ytknbgbeepachgaa
open Go.RowKit

/-- The rest of a list. -/
def restD (is ts : List Dat) : Dat := if is = [] ∧ ts ≠ [] then ts.getD 0 default else .mk 5 false [] false ByteArray.empty is ts
/-- What Split answers of a list. -/
def SplitPost (w : World) (n : Nat) (x y : Dat) (e : Ending) (w' : World) : Prop :=
  (∃ c1 c2, e = .returned (.tuple #[.agg c1.toArray, .agg c2.toArray, .bool true]) ∧ IsD w' (fun b => w.heap.size ≤ b) n c1 x ∧ IsD w' (fun b => w.heap.size ≤ b) (n + 1) c2 y) ∧ Upd [] w w'
theorem RowOf.tail {w : World} {P : Nat → Prop} {R : List Value → Dat → Prop} {b o : Nat} {d : Dat} {ds : List Dat} (h : RowOf w P R (some ⟨b, o, none⟩) (d :: ds)) : RowOf w P R (some ⟨b, o + 7, none⟩) ds := by
  intro i hi
  obtain ⟨b', o', cs, e, hp, ha, hr⟩ := h (i + 1) (by simp; omega)
  injection e with e
  injection e with e1 e2
  subst e1; subst e2
  refine ⟨b, o + 7, cs, rfl, hp, ?_, by simpa using hr⟩
  rw [show o + 7 + i * 7 = o + (i + 1) * 7 by omega]
  exact ha
theorem split_fin {w W : World} {n : Nat} {x y : Dat} {u0 u1 u2 u3 u4 u5 u6 v0 v1 v2 v3 v4 v5 v6 : Value} {xa xb : List Value} (hu : Upd [] w W)
    (h1 : Blk W (w.heap.size + 1) xa 27) (h2 : Blk W (w.heap.size + 1 + 1) xb 27) (ha : IsD W (fun b => w.heap.size + 1 + 1 + 1 ≤ b) n [u0, u1, u2, u3, u4, u5, u6] x) (hb : IsD W (fun b => w.heap.size + 1 + 1 + 1 ≤ b) (n + 1) [v0, v1, v2, v3, v4, v5, v6] y) (l1 : xa.length = 7 := by rfl) (l2 : xb.length = 7 := by rfl) :
    Blk (put7 (put7 W (w.heap.size + 1) u0 u1 u2 u3 u4 u5 u6) (w.heap.size + 1 + 1) v0 v1 v2 v3 v4 v5 v6) (w.heap.size + 1) [u0, u1, u2, u3, u4, u5, u6] 27 ∧
    Blk (put7 (put7 W (w.heap.size + 1) u0 u1 u2 u3 u4 u5 u6) (w.heap.size + 1 + 1) v0 v1 v2 v3 v4 v5 v6) (w.heap.size + 1 + 1) [v0, v1, v2, v3, v4, v5, v6] 27 ∧
    SplitPost w n x y (.returned (.tuple #[.agg #[u0, u1, u2, u3, u4, u5, u6], .agg #[v0, v1, v2, v3, v4, v5, v6], .bool true])) (put7 (put7 W (w.heap.size + 1) u0 u1 u2 u3 u4 u5 u6) (w.heap.size + 1 + 1) v0 v1 v2 v3 v4 v5 v6) := by
  match xa, l1, xb, l2 with
  | [a0, a1, a2, a3, a4, a5, a6], _, [b0, b1, b2, b3, b4, b5, b6], _ =>
    have hP1 : ∀ k, w.heap.size + 1 + 1 + 1 ≤ k → k ≠ w.heap.size + 1 := fun k h => by omega
    have hP2 : ∀ k, w.heap.size + 1 + 1 + 1 ≤ k → k ≠ w.heap.size + 1 + 1 := fun k h => by omega
    have k1 := h1.put7 u0 u1 u2 u3 u4 u5 u6
    have k2 := ((Upd.refl [w.heap.size + 1] W).put7 (b := w.heap.size + 1) (.inl (by simp)) u0 u1 u2 u3 u4 u5 u6).blk h2 (by simp)
    refine ⟨((Upd.refl [w.heap.size + 1 + 1] _).put7 (b := w.heap.size + 1 + 1) (.inl (by simp)) v0 v1 v2 v3 v4 v5 v6).blk k1 (by simp), k2.put7 _ _ _ _ _ _ _, ⟨_, _, rfl, ?_, ?_⟩, (hu.put7 (.inr (by omega)) _ _ _ _ _ _ _).put7 (.inr (by omega)) _ _ _ _ _ _ _⟩
    · exact ((ha.put7 _ hP1 u0 u1 u2 u3 u4 u5 u6).put7 _ hP2 v0 v1 v2 v3 v4 v5 v6).mono fun b _ hb => by omega
    · exact ((hb.put7 _ hP1 u0 u1 u2 u3 u4 u5 u6).put7 _ hP2 v0 v1 v2 v3 v4 v5 v6).mono fun b _ hb => by omega
set_option maxRecDepth 100000 in
set_option maxHeartbeats 40000000 in
theorem split_calls {P : Nat → Prop} {n : Nat} {ng : Bool} {ls : List Int} {bb : Bool} {ss : ByteArray} {x : Dat} {is ts : List Dat} {cs : List Value} {w : World} (h : IsD w P (n + 1) cs (.mk 5 ng ls bb ss (x :: is) ts)) (hs : szN (n + 1) (.mk 5 ng ls bb ss (x :: is) ts) ≤ 100000) (hd : dpN (n + 1) (.mk 5 ng ls bb ss (x :: is) ts) ≤ 10000) :
    Calls Try.prog 12 #[.agg cs.toArray] w (SplitPost w n x (restD is ts)) := by
  obtain ⟨aL, cL, aI, cI, aT, cT, rfl, l1, r1, r2, hcap, hbd⟩ := h
  simp only [Dat.kind, Dat.neg, Dat.limbs, Dat.b, Dat.s, Dat.items, Dat.tail] at *
  rw [szN_mk] at hs
  rw [dpN_mk] at hd
  simp only [szL, dpL] at hs hd
  obtain ⟨b, o, cs, e, _, hat, hx⟩ := r1 0 (by simp)
  subst e
  have hx : IsD w P n cs x := by simpa using hx
  have r1t := r1.tail
  rw [Nat.zero_mul, Nat.add_zero] at hat
  obtain ⟨k9, n9, a9, l9, c9, b9, s9, i9, m9, d9, t9, o9, p9, rfl⟩ := hx.shaped
  obtain ⟨y0, y1, y2, y3, y4, y5, y6⟩ := hat.cells
  have HX := Lib.hid (fun (W : World) (hu : Upd [] w W) => copy_calls (hx.upd hu) (by omega) (by omega))
  obtain ⟨m, hm⟩ : ∃ m, m = (x :: is).length := ⟨_, rfl⟩
  have hml : m = is.length + 1 := by rw [hm, List.length_cons]
  have hcm : m ≤ cI := by rw [hm]; exact hcap.2.1
  obtain ⟨q, hq⟩ : ∃ q, q = ts.length := ⟨_, rfl⟩
  have HQL := Lib.hid hq
  rw [← hq]
  clear hq
  rw [← hm]
  have HM := Lib.hid hm
  have HT := Lib.hid r2
  have HI := Lib.hid r1t
  have HC := Lib.hid hcap
  have HB := Lib.hid hbd
  have HSZ := Lib.hid (And.intro hs hd)
  unfold datCells at *
  clear hm l1 r1 r2 r1t hcap hbd hat hx hs hd
  have hne : ¬ ((m : Nat) : Int) = 0 := by omega
  have hm1 : (1 : Int) ≤ ((m : Nat) : Int) := by omega
  have hcmi : ((m : Nat) : Int) ≤ ((cI : Nat) : Int) := by omega
  have HML := Lib.hid hml
  clear hml
  go_enter Try.func12, Try.ntmps12
  go_wp2_with fail
  obtain ⟨W1, hW1⟩ : ∃ W1, W1 = ((w.alloc (.cells #[.int .i64 5, .bool ng, .slice aL ls.length cL, .bool bb, .string ss, .slice (some ⟨b, o, none⟩) m cI, .slice aT q cT] 27)).alloc (.cells #[.int .i64 0, .bool false, .slice none 0 0, .bool false, .string ⟨#[]⟩, .slice none 0 0, .slice none 0 0] 27)).alloc (.cells #[.int .i64 0, .bool false, .slice none 0 0, .bool false, .string ⟨#[]⟩, .slice none 0 0, .slice none 0 0] 27) := ⟨_, rfl⟩
  have hu1 : Upd [] w W1 := by
    rw [hW1]
    exact (((Upd.refl [] w).alloc _).alloc _).alloc _
  have hb1 : Blk W1 w.heap.size [.int .i64 5, .bool ng, .slice aL ls.length cL, .bool bb, .string ss, .slice (some ⟨b, o, none⟩) m cI, .slice aT q cT] 27 := by
    rw [hW1]
    exact ((Blk.newAt rfl).alloc _).alloc _
  have hr1 : Blk W1 (w.heap.size + 1) [.int .i64 0, .bool false, .slice none 0 0, .bool false, .string ⟨#[]⟩, .slice none 0 0, .slice none 0 0] 27 := by
    rw [hW1]
    exact (Blk.newAt (by simp)).alloc _
  have hr2 : Blk W1 (w.heap.size + 1 + 1) [.int .i64 0, .bool false, .slice none 0 0, .bool false, .string ⟨#[]⟩, .slice none 0 0, .slice none 0 0] 27 := by
    rw [hW1]
    exact Blk.newAt (by simp)
  have hz1 : W1.heap.size = w.heap.size + 1 + 1 + 1 := by
    rw [hW1]
    simp
  rw [← hW1]
  clear hW1
  have hlt1 := hb1.lt
  have b5 := hb1.cell_some (i := 5) rfl
  have b6 := hb1.cell_some (i := 6) rfl
  have HU1 := Lib.hid hu1
  have HB1 := Lib.hid hb1
  have HR1 := Lib.hid hr1
  have HR2 := Lib.hid hr2
  clear hu1 hb1 hr1 hr2
  by_cases h1 : m = 1
  · subst h1
    have his : is = [] := List.eq_nil_of_length_eq_zero (by have := HML.out; omega)
    have hcl : Hid (∀ (a : Option Addr) (W : World), Upd [] w W → RowOf W P (IsD W P n) a is) := Lib.hid (fun a W _ i hi => absurd hi (by rw [his]; simp))
    by_cases hc1 : cI = 1
    · subst hc1
      go_region
      obtain ⟨W3, hW3⟩ : ∃ W3, W3 = (W1.alloc (.cells #[.int .i64 5, .bool false, .slice none 0 0, .bool false, .string ⟨#[]⟩, .slice (some ⟨b, o, none⟩) 0 0, .slice aT q cT] 27)).drew := ⟨_, rfl⟩
      have hu3 : Upd [] W1 W3 := by
        rw [hW3]
        exact ((Upd.refl [] W1).alloc _).drew
      have hb3 : Blk W3 (w.heap.size + 1 + 1 + 1) [.int .i64 5, .bool false, .slice none 0 0, .bool false, .string ⟨#[]⟩, .slice (some ⟨b, o, none⟩) 0 0, .slice aT q cT] 27 := by
        rw [hW3]
        exact Blk.drew (Blk.newAt hz1.symm)
      rw [← hW3]
      clear hW3
      have HU3 := Lib.hid (HU1.out.then hu3)
      have b5 := (hu3.blk HB1.out (by simp)).cell_some (i := 5) rfl
      have b6 := (hu3.blk HB1.out (by simp)).cell_some (i := 6) rfl
      have hlt3 := (hu3.blk HB1.out (by simp)).lt
      have HR1 := Lib.hid (hu3.blk HR1.out (by simp))
      have HR2 := Lib.hid (hu3.blk HR2.out (by simp))
      have HB3 := Lib.hid hb3
      obtain ⟨z0, z1, z2, z3, z4, z5, z6⟩ := Blk.seven hb3
      obtain ⟨g0, g1, g2, g3, g4, g5, g6⟩ := Blk.frees hb3
      have HRest := Lib.hid (fun (W : World) (hu : Upd [] w W) => show IsD W (fun _ => True) (n + 1) [.int .i64 5, .bool false, .slice none 0 0, .bool false, .string ⟨#[]⟩, .slice (some ⟨b, o, none⟩) 0 0, .slice aT q cT] (.mk 5 false [] false ByteArray.empty is ts) from
        ⟨none, 0, _, _, aT, cT, by rw [show q = ts.length from HQL.out, his]; rfl, fun i hi => absurd hi (by simp [Dat.limbs]), (hcl.out _ W hu).map (fun _ _ _ => trivial) (fun _ _ _ _ hc => hc) (fun _ _ hd => hd.any), (HT.out.updD hu).map (fun _ _ _ => trivial) (fun _ _ _ _ hc => hc) (fun _ _ hd => hd.any), ⟨by simp [Dat.limbs], by simp only [Dat.items]; have := HML.out; have := HM.out; have := HC.out.2.1; omega, HC.out.2.2⟩, by simp [Dat.kind], by simp [Dat.limbs], by simp [Dat.limbs], by simp [Dat.s, ByteArray.size], by simp only [Dat.items]; have := HML.out; have := HM.out; have := HB.out.2.2.2.2.1; omega, HB.out.2.2.2.2.2⟩)
      clear hu3 hb3 HB1 HU1
      by_cases hq0 : q = 0
      · subst hq0
        have hts : ts = [] := List.eq_nil_of_length_eq_zero HQL.out.symm
        have hrd : restD is ts = .mk 5 false [] false ByteArray.empty is ts := if_neg (fun h => h.2 hts)
        have HRD := Lib.hid hrd
        clear hrd hts
        go_wp2_with fail
        have HY := Lib.hid (fun (W : World) (hu : Upd [] w W) => copy_calls ((fun W hu => HRest.out W hu) W hu) (by rw [szN_mk]; have := HSZ.out.1; rw [his]; simp only [szL]; omega) (by rw [dpN_mk]; have := HSZ.out.2; rw [his]; simp only [dpL]; omega))
        clear HT HI HC HB HSZ HRest HML HM HQL hcl b6 g0 g1 g2 g3 g4 g5 g6
        obtain ⟨Y0, Y1, Y2, Y3, Y4, Y5, Y6⟩ : W3.cell? ⟨b, o, none⟩ = _ ∧ W3.cell? ⟨b, o + 1, none⟩ = _ ∧ W3.cell? ⟨b, o + 2, none⟩ = _ ∧ W3.cell? ⟨b, o + 3, none⟩ = _ ∧ W3.cell? ⟨b, o + 4, none⟩ = _ ∧ W3.cell? ⟨b, o + 5, none⟩ = _ ∧ W3.cell? ⟨b, o + 6, none⟩ = _ := ⟨HU3.out.cell y0 (by simp), HU3.out.cell y1 (by simp), HU3.out.cell y2 (by simp), HU3.out.cell y3 (by simp), HU3.out.cell y4 (by simp), HU3.out.cell y5 (by simp), HU3.out.cell y6 (by simp)⟩
        have B5 := b5
        go_region_with (first
          | (go_at_call_of 23 (Value.string s9); refine (HX.out _ (by first | exact HU3.out.drew | exact HU8.out)).mono ?_; rintro e w7 ⟨⟨cs7, rfl, hD7⟩, hu7⟩; obtain ⟨k7, n7, a7, l7, c7, b7, s7, i7, m7, d7, t7, o7, p7, rfl⟩ := hD7.shaped; unfold datCells at *; have hv : Upd [] W3 w7 := (by first | exact Upd.then (Upd.refl [] W3).drew hu7 | exact HV8.out.then hu7); have HV7 := Lib.hid hv; have HU7 := Lib.hid (HU3.out.then hv); have hsv := hv.size; obtain ⟨z0, z1, z2, z3, z4, z5, z6⟩ := Blk.seven (hv.blk HB3.out (by simp)); obtain ⟨b5, _, _, _⟩ : w7.cell? ⟨w.heap.size, 5, none⟩ = _ ∧ True ∧ True ∧ True := ⟨hv.cell B5 (by simp), trivial, trivial, trivial⟩; obtain ⟨r0, r1, r2, r3, r4, r5, r6⟩ := Blk.seven (hv.blk HR1.out (by simp)); obtain ⟨v0, v1, v2, v3, v4, v5, v6⟩ := Blk.frees (hv.blk HR1.out (by simp)); obtain ⟨x0, x1, x2, x3, x4, x5, x6⟩ := Blk.seven (hv.blk HR2.out (by simp)); obtain ⟨e0, e1, e2, e3, e4, e5, e6⟩ := Blk.frees (hv.blk HR2.out (by simp)); obtain ⟨y0, y1, y2, y3, y4, y5, y6⟩ : w7.cell? ⟨b, o, none⟩ = _ ∧ w7.cell? ⟨b, o + 1, none⟩ = _ ∧ w7.cell? ⟨b, o + 2, none⟩ = _ ∧ w7.cell? ⟨b, o + 3, none⟩ = _ ∧ w7.cell? ⟨b, o + 4, none⟩ = _ ∧ w7.cell? ⟨b, o + 5, none⟩ = _ ∧ w7.cell? ⟨b, o + 6, none⟩ = _ := ⟨hv.cell Y0 (by simp), hv.cell Y1 (by simp), hv.cell Y2 (by simp), hv.cell Y3 (by simp), hv.cell Y4 (by simp), hv.cell Y5 (by simp), hv.cell Y6 (by simp)⟩; have hlw := Nat.lt_of_lt_of_le hlt3 hsv; have HD7 := Lib.hid hD7; have HQ7 := Lib.hid hu7; clear hv)
          | (go_at_call_of 23 (Value.slice aT 0 cT); refine (HY.out _ (by first | exact HU3.out.drew | exact HU7.out)).mono ?_; rintro e w8 ⟨⟨cs8, rfl, hD8⟩, hu8⟩; obtain ⟨k8, n8, a8, l8, c8, b8, s8, i8, m8, d8, t8, o8, p8, rfl⟩ := hD8.shaped; unfold datCells at *; have hv : Upd [] W3 w8 := (by first | exact Upd.then (Upd.refl [] W3).drew hu8 | exact HV7.out.then hu8); have HV8 := Lib.hid hv; have HU8 := Lib.hid (HU3.out.then hv); have hsv := hv.size; obtain ⟨z0, z1, z2, z3, z4, z5, z6⟩ := Blk.seven (hv.blk HB3.out (by simp)); obtain ⟨b5, _, _, _⟩ : w8.cell? ⟨w.heap.size, 5, none⟩ = _ ∧ True ∧ True ∧ True := ⟨hv.cell B5 (by simp), trivial, trivial, trivial⟩; obtain ⟨r0, r1, r2, r3, r4, r5, r6⟩ := Blk.seven (hv.blk HR1.out (by simp)); obtain ⟨v0, v1, v2, v3, v4, v5, v6⟩ := Blk.frees (hv.blk HR1.out (by simp)); obtain ⟨x0, x1, x2, x3, x4, x5, x6⟩ := Blk.seven (hv.blk HR2.out (by simp)); obtain ⟨e0, e1, e2, e3, e4, e5, e6⟩ := Blk.frees (hv.blk HR2.out (by simp)); obtain ⟨y0, y1, y2, y3, y4, y5, y6⟩ : w8.cell? ⟨b, o, none⟩ = _ ∧ w8.cell? ⟨b, o + 1, none⟩ = _ ∧ w8.cell? ⟨b, o + 2, none⟩ = _ ∧ w8.cell? ⟨b, o + 3, none⟩ = _ ∧ w8.cell? ⟨b, o + 4, none⟩ = _ ∧ w8.cell? ⟨b, o + 5, none⟩ = _ ∧ w8.cell? ⟨b, o + 6, none⟩ = _ := ⟨hv.cell Y0 (by simp), hv.cell Y1 (by simp), hv.cell Y2 (by simp), hv.cell Y3 (by simp), hv.cell Y4 (by simp), hv.cell Y5 (by simp), hv.cell Y6 (by simp)⟩; have hlw := Nat.lt_of_lt_of_le hlt3 hsv; have HD8 := Lib.hid hD8; have HQ8 := Lib.hid hu8; clear hv))
        all_goals
          have hz : w.heap.size + 1 + 1 + 1 < W3.heap.size := HB3.out.lt
          first
          | (have hr1 := Upd.blk HV8.out HR1.out (by simp); have hr2 := Upd.blk HV8.out HR2.out (by simp); have hf := split_fin (w := w) (W := w8) HU8.out hr1 hr2 (IsD.mono (HD7.out.upd HQ8.out) (fun b _ hb => show w.heap.size + 1 + 1 + 1 ≤ b by first | omega | (simp at hb; omega))) (IsD.mono HD8.out (fun b _ hb => show w.heap.size + 1 + 1 + 1 ≤ b by first | omega | (simp at hb; omega))); have HF := Lib.hid hf; clear hf hr1 hr2; go_wp2; obtain ⟨hf1, hf2, hf3⟩ := HF.out; obtain ⟨j0, j1, j2, j3, j4, j5, j6⟩ := Blk.seven hf1; obtain ⟨h0, h1, h2, h3, h4, h5, h6⟩ := Blk.seven hf2; refine bodyPost_ret (v := .tuple #[.agg #[.int .i64 k7, .bool n7, .slice a7 l7 c7, .bool b7, .string s7, .slice i7 m7 d7, .slice t7 o7 p7], .agg #[.int .i64 k8, .bool n8, .slice a8 l8 c8, .bool b8, .string s8, .slice i8 m8 d8, .slice t8 o8 p8], .bool true]) ?_ rfl (by first | exact hf3 | (rw [HRD.out]; exact hf3)); simp [results, Try.results12, go_sem, j0, j1, j2, j3, j4, j5, j6, h0, h1, h2, h3, h4, h5, h6])
          | (have hr1 := Upd.blk HV7.out HR1.out (by simp); have hr2 := Upd.blk HV7.out HR2.out (by simp); have hf := split_fin (w := w) (W := w7) HU7.out hr1 hr2 (IsD.mono HD7.out (fun b _ hb => show w.heap.size + 1 + 1 + 1 ≤ b by first | omega | (simp at hb; omega))) (IsD.mono (HD8.out.upd HQ7.out) (fun b _ hb => show w.heap.size + 1 + 1 + 1 ≤ b by first | omega | (simp at hb; omega))); have HF := Lib.hid hf; clear hf hr1 hr2; go_wp2; obtain ⟨hf1, hf2, hf3⟩ := HF.out; obtain ⟨j0, j1, j2, j3, j4, j5, j6⟩ := Blk.seven hf1; obtain ⟨h0, h1, h2, h3, h4, h5, h6⟩ := Blk.seven hf2; refine bodyPost_ret (v := .tuple #[.agg #[.int .i64 k7, .bool n7, .slice a7 l7 c7, .bool b7, .string s7, .slice i7 m7 d7, .slice t7 o7 p7], .agg #[.int .i64 k8, .bool n8, .slice a8 l8 c8, .bool b8, .string s8, .slice i8 m8 d8, .slice t8 o8 p8], .bool true]) ?_ rfl (by first | exact hf3 | (rw [HRD.out]; exact hf3)); simp [results, Try.results12, go_sem, j0, j1, j2, j3, j4, j5, j6, h0, h1, h2, h3, h4, h5, h6])
      · have hts : ts ≠ [] := fun h => hq0 (by rw [HQL.out, h]; rfl)
        have hrd : restD is ts = ts.getD 0 default := if_pos ⟨his, hts⟩
        have hqi : (0 : Int) < ((q : Nat) : Int) := by omega
        obtain ⟨bt', ot', cst, e, _, hatt, hdt⟩ := HT.out 0 (List.length_pos_iff.2 hts)
        have hst := tail0_sz (f := szN n) hts
        have hdt' := dpL_get (dpN n) (List.length_pos_iff.2 hts)
        subst e
        obtain ⟨tt, htt⟩ : ∃ tt, tt = ts.getD 0 default := ⟨_, rfl⟩
        rw [← htt] at hdt hst hdt' hrd
        clear htt hts
        obtain ⟨kt, nt, at', lt, ct, bt, st, it, mt, dt, tl, ot, pt, rfl⟩ := hdt.shaped
        rw [Nat.zero_mul, Nat.add_zero] at hatt
        obtain ⟨T0, T1, T2, T3, T4, T5, T6⟩ := (hatt.upd HU3.out (by simp)).cells
        have hs1 := HSZ.out.1
        have hd1 := HSZ.out.2
        have HRest := Lib.hid (fun (W : World) (hu : Upd [] w W) => (hdt.upd hu).more 1)
        have hz2 : szN (n + 1) tt ≤ 100000 := by rw [szN_one n tt (by omega)]; omega
        have hz3 : dpN (n + 1) tt ≤ 10000 := by rw [dpN_one n tt (by omega)]; omega
        have HRD := Lib.hid hrd
        have HZ := Lib.hid (And.intro hz2 hz3)
        unfold datCells at *
        clear hrd hatt hdt hst hdt' hs1 hd1 hz2 hz3
        go_wp2_with fail
        obtain ⟨W4, hW4⟩ : ∃ W4, W4 = put7 W3 (w.heap.size + 1 + 1 + 1) (.int .i64 kt) (.bool nt) (.slice at' lt ct) (.bool bt) (.string st) (.slice it mt dt) (.slice tl ot pt) := ⟨_, rfl⟩
        have hu34 : Upd [w.heap.size + 1 + 1 + 1] W3 W4 := by rw [hW4]; exact (Upd.refl _ W3).put7 (.inl (by simp)) _ _ _ _ _ _ _
        have hu4 : Upd [] w W4 := by rw [hW4]; exact HU3.out.put7 (.inr (by omega)) _ _ _ _ _ _ _
        have hb4 : Blk W4 (w.heap.size + 1 + 1 + 1) [.int .i64 kt, .bool nt, .slice at' lt ct, .bool bt, .string st, .slice it mt dt, .slice tl ot pt] 27 := by rw [hW4]; exact HB3.out.put7 _ _ _ _ _ _ _
        unfold put7 at hW4
        rw [← hW4]
        clear hW4 T0 T1 T2 T3 T4 T5 T6 z0 z1 z2 z3 z4 z5 z6 HB3
        have HB3 := Lib.hid hb4
        have HR1' := Lib.hid (hu34.blk HR1.out (by simp))
        have HR2' := Lib.hid (hu34.blk HR2.out (by simp))
        have b5' := hu34.cell b5 (by simp; omega)
        have hlt4 := Nat.lt_of_lt_of_le hlt3 hu34.size
        have HU4 := Lib.hid hu4
        obtain ⟨z0, z1, z2, z3, z4, z5, z6⟩ := Blk.seven hb4
        clear HR1 HR2 b5 hlt3 HU3 hu34 hu4 hb4
        have HR1 := HR1'
        have HR2 := HR2'
        have b5 := b5'
        have hlt3 := hlt4
        clear HR1' HR2' b5' hlt4
        have HY := Lib.hid (fun (W : World) (hu : Upd [] w W) => copy_calls ((fun W hu => HRest.out W hu) W hu) (by exact HZ.out.1) (by exact HZ.out.2))
        clear HT HI HC HB HSZ HRest HML HM HQL hcl b6 g0 g1 g2 g3 g4 g5 g6
        obtain ⟨Y0, Y1, Y2, Y3, Y4, Y5, Y6⟩ : W4.cell? ⟨b, o, none⟩ = _ ∧ W4.cell? ⟨b, o + 1, none⟩ = _ ∧ W4.cell? ⟨b, o + 2, none⟩ = _ ∧ W4.cell? ⟨b, o + 3, none⟩ = _ ∧ W4.cell? ⟨b, o + 4, none⟩ = _ ∧ W4.cell? ⟨b, o + 5, none⟩ = _ ∧ W4.cell? ⟨b, o + 6, none⟩ = _ := ⟨HU4.out.cell y0 (by simp), HU4.out.cell y1 (by simp), HU4.out.cell y2 (by simp), HU4.out.cell y3 (by simp), HU4.out.cell y4 (by simp), HU4.out.cell y5 (by simp), HU4.out.cell y6 (by simp)⟩
        have B5 := b5
        go_region_with (first
          | (go_at_call_of 23 (Value.string s9); refine (HX.out _ (by first | exact HU4.out.drew | exact HU8.out)).mono ?_; rintro e w7 ⟨⟨cs7, rfl, hD7⟩, hu7⟩; obtain ⟨k7, n7, a7, l7, c7, b7, s7, i7, m7, d7, t7, o7, p7, rfl⟩ := hD7.shaped; unfold datCells at *; have hv : Upd [] W4 w7 := (by first | exact Upd.then (Upd.refl [] W4).drew hu7 | exact HV8.out.then hu7); have HV7 := Lib.hid hv; have HU7 := Lib.hid (HU4.out.then hv); have hsv := hv.size; obtain ⟨z0, z1, z2, z3, z4, z5, z6⟩ := Blk.seven (hv.blk HB3.out (by simp)); obtain ⟨b5, _, _, _⟩ : w7.cell? ⟨w.heap.size, 5, none⟩ = _ ∧ True ∧ True ∧ True := ⟨hv.cell B5 (by simp), trivial, trivial, trivial⟩; obtain ⟨r0, r1, r2, r3, r4, r5, r6⟩ := Blk.seven (hv.blk HR1.out (by simp)); obtain ⟨v0, v1, v2, v3, v4, v5, v6⟩ := Blk.frees (hv.blk HR1.out (by simp)); obtain ⟨x0, x1, x2, x3, x4, x5, x6⟩ := Blk.seven (hv.blk HR2.out (by simp)); obtain ⟨e0, e1, e2, e3, e4, e5, e6⟩ := Blk.frees (hv.blk HR2.out (by simp)); obtain ⟨y0, y1, y2, y3, y4, y5, y6⟩ : w7.cell? ⟨b, o, none⟩ = _ ∧ w7.cell? ⟨b, o + 1, none⟩ = _ ∧ w7.cell? ⟨b, o + 2, none⟩ = _ ∧ w7.cell? ⟨b, o + 3, none⟩ = _ ∧ w7.cell? ⟨b, o + 4, none⟩ = _ ∧ w7.cell? ⟨b, o + 5, none⟩ = _ ∧ w7.cell? ⟨b, o + 6, none⟩ = _ := ⟨hv.cell Y0 (by simp), hv.cell Y1 (by simp), hv.cell Y2 (by simp), hv.cell Y3 (by simp), hv.cell Y4 (by simp), hv.cell Y5 (by simp), hv.cell Y6 (by simp)⟩; have hlw := Nat.lt_of_lt_of_le hlt3 hsv; have HD7 := Lib.hid hD7; have HQ7 := Lib.hid hu7; clear hv)
          | (go_at_call_of 23 (Value.string st); refine (HY.out _ (by first | exact HU4.out.drew | exact HU7.out)).mono ?_; rintro e w8 ⟨⟨cs8, rfl, hD8⟩, hu8⟩; obtain ⟨k8, n8, a8, l8, c8, b8, s8, i8, m8, d8, t8, o8, p8, rfl⟩ := hD8.shaped; unfold datCells at *; have hv : Upd [] W4 w8 := (by first | exact Upd.then (Upd.refl [] W4).drew hu8 | exact HV7.out.then hu8); have HV8 := Lib.hid hv; have HU8 := Lib.hid (HU4.out.then hv); have hsv := hv.size; obtain ⟨z0, z1, z2, z3, z4, z5, z6⟩ := Blk.seven (hv.blk HB3.out (by simp)); obtain ⟨b5, _, _, _⟩ : w8.cell? ⟨w.heap.size, 5, none⟩ = _ ∧ True ∧ True ∧ True := ⟨hv.cell B5 (by simp), trivial, trivial, trivial⟩; obtain ⟨r0, r1, r2, r3, r4, r5, r6⟩ := Blk.seven (hv.blk HR1.out (by simp)); obtain ⟨v0, v1, v2, v3, v4, v5, v6⟩ := Blk.frees (hv.blk HR1.out (by simp)); obtain ⟨x0, x1, x2, x3, x4, x5, x6⟩ := Blk.seven (hv.blk HR2.out (by simp)); obtain ⟨e0, e1, e2, e3, e4, e5, e6⟩ := Blk.frees (hv.blk HR2.out (by simp)); obtain ⟨y0, y1, y2, y3, y4, y5, y6⟩ : w8.cell? ⟨b, o, none⟩ = _ ∧ w8.cell? ⟨b, o + 1, none⟩ = _ ∧ w8.cell? ⟨b, o + 2, none⟩ = _ ∧ w8.cell? ⟨b, o + 3, none⟩ = _ ∧ w8.cell? ⟨b, o + 4, none⟩ = _ ∧ w8.cell? ⟨b, o + 5, none⟩ = _ ∧ w8.cell? ⟨b, o + 6, none⟩ = _ := ⟨hv.cell Y0 (by simp), hv.cell Y1 (by simp), hv.cell Y2 (by simp), hv.cell Y3 (by simp), hv.cell Y4 (by simp), hv.cell Y5 (by simp), hv.cell Y6 (by simp)⟩; have hlw := Nat.lt_of_lt_of_le hlt3 hsv; have HD8 := Lib.hid hD8; have HQ8 := Lib.hid hu8; clear hv))
        all_goals
          have hz : w.heap.size + 1 + 1 + 1 < W4.heap.size := HB3.out.lt
          first
          | (have hr1 := Upd.blk HV8.out HR1.out (by simp); have hr2 := Upd.blk HV8.out HR2.out (by simp); have hf := split_fin (w := w) (W := w8) HU8.out hr1 hr2 (IsD.mono (HD7.out.upd HQ8.out) (fun b _ hb => show w.heap.size + 1 + 1 + 1 ≤ b by first | omega | (simp at hb; omega))) (IsD.mono HD8.out (fun b _ hb => show w.heap.size + 1 + 1 + 1 ≤ b by first | omega | (simp at hb; omega))); have HF := Lib.hid hf; clear hf hr1 hr2; go_wp2; obtain ⟨hf1, hf2, hf3⟩ := HF.out; obtain ⟨j0, j1, j2, j3, j4, j5, j6⟩ := Blk.seven hf1; obtain ⟨h0, h1, h2, h3, h4, h5, h6⟩ := Blk.seven hf2; refine bodyPost_ret (v := .tuple #[.agg #[.int .i64 k7, .bool n7, .slice a7 l7 c7, .bool b7, .string s7, .slice i7 m7 d7, .slice t7 o7 p7], .agg #[.int .i64 k8, .bool n8, .slice a8 l8 c8, .bool b8, .string s8, .slice i8 m8 d8, .slice t8 o8 p8], .bool true]) ?_ rfl (by first | exact hf3 | (rw [HRD.out]; exact hf3)); simp [results, Try.results12, go_sem, j0, j1, j2, j3, j4, j5, j6, h0, h1, h2, h3, h4, h5, h6])
          | (have hr1 := Upd.blk HV7.out HR1.out (by simp); have hr2 := Upd.blk HV7.out HR2.out (by simp); have hf := split_fin (w := w) (W := w7) HU7.out hr1 hr2 (IsD.mono HD7.out (fun b _ hb => show w.heap.size + 1 + 1 + 1 ≤ b by first | omega | (simp at hb; omega))) (IsD.mono (HD8.out.upd HQ7.out) (fun b _ hb => show w.heap.size + 1 + 1 + 1 ≤ b by first | omega | (simp at hb; omega))); have HF := Lib.hid hf; clear hf hr1 hr2; go_wp2; obtain ⟨hf1, hf2, hf3⟩ := HF.out; obtain ⟨j0, j1, j2, j3, j4, j5, j6⟩ := Blk.seven hf1; obtain ⟨h0, h1, h2, h3, h4, h5, h6⟩ := Blk.seven hf2; refine bodyPost_ret (v := .tuple #[.agg #[.int .i64 k7, .bool n7, .slice a7 l7 c7, .bool b7, .string s7, .slice i7 m7 d7, .slice t7 o7 p7], .agg #[.int .i64 k8, .bool n8, .slice a8 l8 c8, .bool b8, .string s8, .slice i8 m8 d8, .slice t8 o8 p8], .bool true]) ?_ rfl (by first | exact hf3 | (rw [HRD.out]; exact hf3)); simp [results, Try.results12, go_sem, j0, j1, j2, j3, j4, j5, j6, h0, h1, h2, h3, h4, h5, h6])
    · have hc2 : ¬ ((cI : Nat) : Int) = 1 := by omega
      go_region
      obtain ⟨W3, hW3⟩ : ∃ W3, W3 = (W1.alloc (.cells #[.int .i64 5, .bool false, .slice none 0 0, .bool false, .string ⟨#[]⟩, .slice (some ⟨b, o + 7, none⟩) 0 (cI - 1), .slice aT q cT] 27)).drew := ⟨_, rfl⟩
      have hu3 : Upd [] W1 W3 := by
        rw [hW3]
        exact ((Upd.refl [] W1).alloc _).drew
      have hb3 : Blk W3 (w.heap.size + 1 + 1 + 1) [.int .i64 5, .bool false, .slice none 0 0, .bool false, .string ⟨#[]⟩, .slice (some ⟨b, o + 7, none⟩) 0 (cI - 1), .slice aT q cT] 27 := by
        rw [hW3]
        exact Blk.drew (Blk.newAt hz1.symm)
      rw [← hW3]
      clear hW3
      have HU3 := Lib.hid (HU1.out.then hu3)
      have b5 := (hu3.blk HB1.out (by simp)).cell_some (i := 5) rfl
      have b6 := (hu3.blk HB1.out (by simp)).cell_some (i := 6) rfl
      have hlt3 := (hu3.blk HB1.out (by simp)).lt
      have HR1 := Lib.hid (hu3.blk HR1.out (by simp))
      have HR2 := Lib.hid (hu3.blk HR2.out (by simp))
      have HB3 := Lib.hid hb3
      obtain ⟨z0, z1, z2, z3, z4, z5, z6⟩ := Blk.seven hb3
      obtain ⟨g0, g1, g2, g3, g4, g5, g6⟩ := Blk.frees hb3
      have HRest := Lib.hid (fun (W : World) (hu : Upd [] w W) => show IsD W (fun _ => True) (n + 1) [.int .i64 5, .bool false, .slice none 0 0, .bool false, .string ⟨#[]⟩, .slice (some ⟨b, o + 7, none⟩) 0 (cI - 1), .slice aT q cT] (.mk 5 false [] false ByteArray.empty is ts) from
        ⟨none, 0, _, _, aT, cT, by rw [show q = ts.length from HQL.out, his]; rfl, fun i hi => absurd hi (by simp [Dat.limbs]), (hcl.out _ W hu).map (fun _ _ _ => trivial) (fun _ _ _ _ hc => hc) (fun _ _ hd => hd.any), (HT.out.updD hu).map (fun _ _ _ => trivial) (fun _ _ _ _ hc => hc) (fun _ _ hd => hd.any), ⟨by simp [Dat.limbs], by simp only [Dat.items]; have := HML.out; have := HM.out; have := HC.out.2.1; omega, HC.out.2.2⟩, by simp [Dat.kind], by simp [Dat.limbs], by simp [Dat.limbs], by simp [Dat.s, ByteArray.size], by simp only [Dat.items]; have := HML.out; have := HM.out; have := HB.out.2.2.2.2.1; omega, HB.out.2.2.2.2.2⟩)
      clear hu3 hb3 HB1 HU1
      by_cases hq0 : q = 0
      · subst hq0
        have hts : ts = [] := List.eq_nil_of_length_eq_zero HQL.out.symm
        have hrd : restD is ts = .mk 5 false [] false ByteArray.empty is ts := if_neg (fun h => h.2 hts)
        have HRD := Lib.hid hrd
        clear hrd hts
        go_wp2_with fail
        have HY := Lib.hid (fun (W : World) (hu : Upd [] w W) => copy_calls ((fun W hu => HRest.out W hu) W hu) (by rw [szN_mk]; have := HSZ.out.1; rw [his]; simp only [szL]; omega) (by rw [dpN_mk]; have := HSZ.out.2; rw [his]; simp only [dpL]; omega))
        clear HT HI HC HB HSZ HRest HML HM HQL hcl b6 g0 g1 g2 g3 g4 g5 g6
        obtain ⟨Y0, Y1, Y2, Y3, Y4, Y5, Y6⟩ : W3.cell? ⟨b, o, none⟩ = _ ∧ W3.cell? ⟨b, o + 1, none⟩ = _ ∧ W3.cell? ⟨b, o + 2, none⟩ = _ ∧ W3.cell? ⟨b, o + 3, none⟩ = _ ∧ W3.cell? ⟨b, o + 4, none⟩ = _ ∧ W3.cell? ⟨b, o + 5, none⟩ = _ ∧ W3.cell? ⟨b, o + 6, none⟩ = _ := ⟨HU3.out.cell y0 (by simp), HU3.out.cell y1 (by simp), HU3.out.cell y2 (by simp), HU3.out.cell y3 (by simp), HU3.out.cell y4 (by simp), HU3.out.cell y5 (by simp), HU3.out.cell y6 (by simp)⟩
        have B5 := b5
        go_region_with (first
          | (go_at_call_of 23 (Value.string s9); refine (HX.out _ (by first | exact HU3.out.drew | exact HU8.out)).mono ?_; rintro e w7 ⟨⟨cs7, rfl, hD7⟩, hu7⟩; obtain ⟨k7, n7, a7, l7, c7, b7, s7, i7, m7, d7, t7, o7, p7, rfl⟩ := hD7.shaped; unfold datCells at *; have hv : Upd [] W3 w7 := (by first | exact Upd.then (Upd.refl [] W3).drew hu7 | exact HV8.out.then hu7); have HV7 := Lib.hid hv; have HU7 := Lib.hid (HU3.out.then hv); have hsv := hv.size; obtain ⟨z0, z1, z2, z3, z4, z5, z6⟩ := Blk.seven (hv.blk HB3.out (by simp)); obtain ⟨b5, _, _, _⟩ : w7.cell? ⟨w.heap.size, 5, none⟩ = _ ∧ True ∧ True ∧ True := ⟨hv.cell B5 (by simp), trivial, trivial, trivial⟩; obtain ⟨r0, r1, r2, r3, r4, r5, r6⟩ := Blk.seven (hv.blk HR1.out (by simp)); obtain ⟨v0, v1, v2, v3, v4, v5, v6⟩ := Blk.frees (hv.blk HR1.out (by simp)); obtain ⟨x0, x1, x2, x3, x4, x5, x6⟩ := Blk.seven (hv.blk HR2.out (by simp)); obtain ⟨e0, e1, e2, e3, e4, e5, e6⟩ := Blk.frees (hv.blk HR2.out (by simp)); obtain ⟨y0, y1, y2, y3, y4, y5, y6⟩ : w7.cell? ⟨b, o, none⟩ = _ ∧ w7.cell? ⟨b, o + 1, none⟩ = _ ∧ w7.cell? ⟨b, o + 2, none⟩ = _ ∧ w7.cell? ⟨b, o + 3, none⟩ = _ ∧ w7.cell? ⟨b, o + 4, none⟩ = _ ∧ w7.cell? ⟨b, o + 5, none⟩ = _ ∧ w7.cell? ⟨b, o + 6, none⟩ = _ := ⟨hv.cell Y0 (by simp), hv.cell Y1 (by simp), hv.cell Y2 (by simp), hv.cell Y3 (by simp), hv.cell Y4 (by simp), hv.cell Y5 (by simp), hv.cell Y6 (by simp)⟩; have hlw := Nat.lt_of_lt_of_le hlt3 hsv; have HD7 := Lib.hid hD7; have HQ7 := Lib.hid hu7; clear hv)
          | (go_at_call_of 23 (Value.slice aT 0 cT); refine (HY.out _ (by first | exact HU3.out.drew | exact HU7.out)).mono ?_; rintro e w8 ⟨⟨cs8, rfl, hD8⟩, hu8⟩; obtain ⟨k8, n8, a8, l8, c8, b8, s8, i8, m8, d8, t8, o8, p8, rfl⟩ := hD8.shaped; unfold datCells at *; have hv : Upd [] W3 w8 := (by first | exact Upd.then (Upd.refl [] W3).drew hu8 | exact HV7.out.then hu8); have HV8 := Lib.hid hv; have HU8 := Lib.hid (HU3.out.then hv); have hsv := hv.size; obtain ⟨z0, z1, z2, z3, z4, z5, z6⟩ := Blk.seven (hv.blk HB3.out (by simp)); obtain ⟨b5, _, _, _⟩ : w8.cell? ⟨w.heap.size, 5, none⟩ = _ ∧ True ∧ True ∧ True := ⟨hv.cell B5 (by simp), trivial, trivial, trivial⟩; obtain ⟨r0, r1, r2, r3, r4, r5, r6⟩ := Blk.seven (hv.blk HR1.out (by simp)); obtain ⟨v0, v1, v2, v3, v4, v5, v6⟩ := Blk.frees (hv.blk HR1.out (by simp)); obtain ⟨x0, x1, x2, x3, x4, x5, x6⟩ := Blk.seven (hv.blk HR2.out (by simp)); obtain ⟨e0, e1, e2, e3, e4, e5, e6⟩ := Blk.frees (hv.blk HR2.out (by simp)); obtain ⟨y0, y1, y2, y3, y4, y5, y6⟩ : w8.cell? ⟨b, o, none⟩ = _ ∧ w8.cell? ⟨b, o + 1, none⟩ = _ ∧ w8.cell? ⟨b, o + 2, none⟩ = _ ∧ w8.cell? ⟨b, o + 3, none⟩ = _ ∧ w8.cell? ⟨b, o + 4, none⟩ = _ ∧ w8.cell? ⟨b, o + 5, none⟩ = _ ∧ w8.cell? ⟨b, o + 6, none⟩ = _ := ⟨hv.cell Y0 (by simp), hv.cell Y1 (by simp), hv.cell Y2 (by simp), hv.cell Y3 (by simp), hv.cell Y4 (by simp), hv.cell Y5 (by simp), hv.cell Y6 (by simp)⟩; have hlw := Nat.lt_of_lt_of_le hlt3 hsv; have HD8 := Lib.hid hD8; have HQ8 := Lib.hid hu8; clear hv))
        all_goals
          have hz : w.heap.size + 1 + 1 + 1 < W3.heap.size := HB3.out.lt
          first
          | (have hr1 := Upd.blk HV8.out HR1.out (by simp); have hr2 := Upd.blk HV8.out HR2.out (by simp); have hf := split_fin (w := w) (W := w8) HU8.out hr1 hr2 (IsD.mono (HD7.out.upd HQ8.out) (fun b _ hb => show w.heap.size + 1 + 1 + 1 ≤ b by first | omega | (simp at hb; omega))) (IsD.mono HD8.out (fun b _ hb => show w.heap.size + 1 + 1 + 1 ≤ b by first | omega | (simp at hb; omega))); have HF := Lib.hid hf; clear hf hr1 hr2; go_wp2; obtain ⟨hf1, hf2, hf3⟩ := HF.out; obtain ⟨j0, j1, j2, j3, j4, j5, j6⟩ := Blk.seven hf1; obtain ⟨h0, h1, h2, h3, h4, h5, h6⟩ := Blk.seven hf2; refine bodyPost_ret (v := .tuple #[.agg #[.int .i64 k7, .bool n7, .slice a7 l7 c7, .bool b7, .string s7, .slice i7 m7 d7, .slice t7 o7 p7], .agg #[.int .i64 k8, .bool n8, .slice a8 l8 c8, .bool b8, .string s8, .slice i8 m8 d8, .slice t8 o8 p8], .bool true]) ?_ rfl (by first | exact hf3 | (rw [HRD.out]; exact hf3)); simp [results, Try.results12, go_sem, j0, j1, j2, j3, j4, j5, j6, h0, h1, h2, h3, h4, h5, h6])
          | (have hr1 := Upd.blk HV7.out HR1.out (by simp); have hr2 := Upd.blk HV7.out HR2.out (by simp); have hf := split_fin (w := w) (W := w7) HU7.out hr1 hr2 (IsD.mono HD7.out (fun b _ hb => show w.heap.size + 1 + 1 + 1 ≤ b by first | omega | (simp at hb; omega))) (IsD.mono (HD8.out.upd HQ7.out) (fun b _ hb => show w.heap.size + 1 + 1 + 1 ≤ b by first | omega | (simp at hb; omega))); have HF := Lib.hid hf; clear hf hr1 hr2; go_wp2; obtain ⟨hf1, hf2, hf3⟩ := HF.out; obtain ⟨j0, j1, j2, j3, j4, j5, j6⟩ := Blk.seven hf1; obtain ⟨h0, h1, h2, h3, h4, h5, h6⟩ := Blk.seven hf2; refine bodyPost_ret (v := .tuple #[.agg #[.int .i64 k7, .bool n7, .slice a7 l7 c7, .bool b7, .string s7, .slice i7 m7 d7, .slice t7 o7 p7], .agg #[.int .i64 k8, .bool n8, .slice a8 l8 c8, .bool b8, .string s8, .slice i8 m8 d8, .slice t8 o8 p8], .bool true]) ?_ rfl (by first | exact hf3 | (rw [HRD.out]; exact hf3)); simp [results, Try.results12, go_sem, j0, j1, j2, j3, j4, j5, j6, h0, h1, h2, h3, h4, h5, h6])
      · have hts : ts ≠ [] := fun h => hq0 (by rw [HQL.out, h]; rfl)
        have hrd : restD is ts = ts.getD 0 default := if_pos ⟨his, hts⟩
        have hqi : (0 : Int) < ((q : Nat) : Int) := by omega
        obtain ⟨bt', ot', cst, e, _, hatt, hdt⟩ := HT.out 0 (List.length_pos_iff.2 hts)
        have hst := tail0_sz (f := szN n) hts
        have hdt' := dpL_get (dpN n) (List.length_pos_iff.2 hts)
        subst e
        obtain ⟨tt, htt⟩ : ∃ tt, tt = ts.getD 0 default := ⟨_, rfl⟩
        rw [← htt] at hdt hst hdt' hrd
        clear htt hts
        obtain ⟨kt, nt, at', lt, ct, bt, st, it, mt, dt, tl, ot, pt, rfl⟩ := hdt.shaped
        rw [Nat.zero_mul, Nat.add_zero] at hatt
        obtain ⟨T0, T1, T2, T3, T4, T5, T6⟩ := (hatt.upd HU3.out (by simp)).cells
        have hs1 := HSZ.out.1
        have hd1 := HSZ.out.2
        have HRest := Lib.hid (fun (W : World) (hu : Upd [] w W) => (hdt.upd hu).more 1)
        have hz2 : szN (n + 1) tt ≤ 100000 := by rw [szN_one n tt (by omega)]; omega
        have hz3 : dpN (n + 1) tt ≤ 10000 := by rw [dpN_one n tt (by omega)]; omega
        have HRD := Lib.hid hrd
        have HZ := Lib.hid (And.intro hz2 hz3)
        unfold datCells at *
        clear hrd hatt hdt hst hdt' hs1 hd1 hz2 hz3
        go_wp2_with fail
        obtain ⟨W4, hW4⟩ : ∃ W4, W4 = put7 W3 (w.heap.size + 1 + 1 + 1) (.int .i64 kt) (.bool nt) (.slice at' lt ct) (.bool bt) (.string st) (.slice it mt dt) (.slice tl ot pt) := ⟨_, rfl⟩
        have hu34 : Upd [w.heap.size + 1 + 1 + 1] W3 W4 := by rw [hW4]; exact (Upd.refl _ W3).put7 (.inl (by simp)) _ _ _ _ _ _ _
        have hu4 : Upd [] w W4 := by rw [hW4]; exact HU3.out.put7 (.inr (by omega)) _ _ _ _ _ _ _
        have hb4 : Blk W4 (w.heap.size + 1 + 1 + 1) [.int .i64 kt, .bool nt, .slice at' lt ct, .bool bt, .string st, .slice it mt dt, .slice tl ot pt] 27 := by rw [hW4]; exact HB3.out.put7 _ _ _ _ _ _ _
        unfold put7 at hW4
        rw [← hW4]
        clear hW4 T0 T1 T2 T3 T4 T5 T6 z0 z1 z2 z3 z4 z5 z6 HB3
        have HB3 := Lib.hid hb4
        have HR1' := Lib.hid (hu34.blk HR1.out (by simp))
        have HR2' := Lib.hid (hu34.blk HR2.out (by simp))
        have b5' := hu34.cell b5 (by simp; omega)
        have hlt4 := Nat.lt_of_lt_of_le hlt3 hu34.size
        have HU4 := Lib.hid hu4
        obtain ⟨z0, z1, z2, z3, z4, z5, z6⟩ := Blk.seven hb4
        clear HR1 HR2 b5 hlt3 HU3 hu34 hu4 hb4
        have HR1 := HR1'
        have HR2 := HR2'
        have b5 := b5'
        have hlt3 := hlt4
        clear HR1' HR2' b5' hlt4
        have HY := Lib.hid (fun (W : World) (hu : Upd [] w W) => copy_calls ((fun W hu => HRest.out W hu) W hu) (by exact HZ.out.1) (by exact HZ.out.2))
        clear HT HI HC HB HSZ HRest HML HM HQL hcl b6 g0 g1 g2 g3 g4 g5 g6
        obtain ⟨Y0, Y1, Y2, Y3, Y4, Y5, Y6⟩ : W4.cell? ⟨b, o, none⟩ = _ ∧ W4.cell? ⟨b, o + 1, none⟩ = _ ∧ W4.cell? ⟨b, o + 2, none⟩ = _ ∧ W4.cell? ⟨b, o + 3, none⟩ = _ ∧ W4.cell? ⟨b, o + 4, none⟩ = _ ∧ W4.cell? ⟨b, o + 5, none⟩ = _ ∧ W4.cell? ⟨b, o + 6, none⟩ = _ := ⟨HU4.out.cell y0 (by simp), HU4.out.cell y1 (by simp), HU4.out.cell y2 (by simp), HU4.out.cell y3 (by simp), HU4.out.cell y4 (by simp), HU4.out.cell y5 (by simp), HU4.out.cell y6 (by simp)⟩
        have B5 := b5
        go_region_with (first
          | (go_at_call_of 23 (Value.string s9); refine (HX.out _ (by first | exact HU4.out.drew | exact HU8.out)).mono ?_; rintro e w7 ⟨⟨cs7, rfl, hD7⟩, hu7⟩; obtain ⟨k7, n7, a7, l7, c7, b7, s7, i7, m7, d7, t7, o7, p7, rfl⟩ := hD7.shaped; unfold datCells at *; have hv : Upd [] W4 w7 := (by first | exact Upd.then (Upd.refl [] W4).drew hu7 | exact HV8.out.then hu7); have HV7 := Lib.hid hv; have HU7 := Lib.hid (HU4.out.then hv); have hsv := hv.size; obtain ⟨z0, z1, z2, z3, z4, z5, z6⟩ := Blk.seven (hv.blk HB3.out (by simp)); obtain ⟨b5, _, _, _⟩ : w7.cell? ⟨w.heap.size, 5, none⟩ = _ ∧ True ∧ True ∧ True := ⟨hv.cell B5 (by simp), trivial, trivial, trivial⟩; obtain ⟨r0, r1, r2, r3, r4, r5, r6⟩ := Blk.seven (hv.blk HR1.out (by simp)); obtain ⟨v0, v1, v2, v3, v4, v5, v6⟩ := Blk.frees (hv.blk HR1.out (by simp)); obtain ⟨x0, x1, x2, x3, x4, x5, x6⟩ := Blk.seven (hv.blk HR2.out (by simp)); obtain ⟨e0, e1, e2, e3, e4, e5, e6⟩ := Blk.frees (hv.blk HR2.out (by simp)); obtain ⟨y0, y1, y2, y3, y4, y5, y6⟩ : w7.cell? ⟨b, o, none⟩ = _ ∧ w7.cell? ⟨b, o + 1, none⟩ = _ ∧ w7.cell? ⟨b, o + 2, none⟩ = _ ∧ w7.cell? ⟨b, o + 3, none⟩ = _ ∧ w7.cell? ⟨b, o + 4, none⟩ = _ ∧ w7.cell? ⟨b, o + 5, none⟩ = _ ∧ w7.cell? ⟨b, o + 6, none⟩ = _ := ⟨hv.cell Y0 (by simp), hv.cell Y1 (by simp), hv.cell Y2 (by simp), hv.cell Y3 (by simp), hv.cell Y4 (by simp), hv.cell Y5 (by simp), hv.cell Y6 (by simp)⟩; have hlw := Nat.lt_of_lt_of_le hlt3 hsv; have HD7 := Lib.hid hD7; have HQ7 := Lib.hid hu7; clear hv)
          | (go_at_call_of 23 (Value.string st); refine (HY.out _ (by first | exact HU4.out.drew | exact HU7.out)).mono ?_; rintro e w8 ⟨⟨cs8, rfl, hD8⟩, hu8⟩; obtain ⟨k8, n8, a8, l8, c8, b8, s8, i8, m8, d8, t8, o8, p8, rfl⟩ := hD8.shaped; unfold datCells at *; have hv : Upd [] W4 w8 := (by first | exact Upd.then (Upd.refl [] W4).drew hu8 | exact HV7.out.then hu8); have HV8 := Lib.hid hv; have HU8 := Lib.hid (HU4.out.then hv); have hsv := hv.size; obtain ⟨z0, z1, z2, z3, z4, z5, z6⟩ := Blk.seven (hv.blk HB3.out (by simp)); obtain ⟨b5, _, _, _⟩ : w8.cell? ⟨w.heap.size, 5, none⟩ = _ ∧ True ∧ True ∧ True := ⟨hv.cell B5 (by simp), trivial, trivial, trivial⟩; obtain ⟨r0, r1, r2, r3, r4, r5, r6⟩ := Blk.seven (hv.blk HR1.out (by simp)); obtain ⟨v0, v1, v2, v3, v4, v5, v6⟩ := Blk.frees (hv.blk HR1.out (by simp)); obtain ⟨x0, x1, x2, x3, x4, x5, x6⟩ := Blk.seven (hv.blk HR2.out (by simp)); obtain ⟨e0, e1, e2, e3, e4, e5, e6⟩ := Blk.frees (hv.blk HR2.out (by simp)); obtain ⟨y0, y1, y2, y3, y4, y5, y6⟩ : w8.cell? ⟨b, o, none⟩ = _ ∧ w8.cell? ⟨b, o + 1, none⟩ = _ ∧ w8.cell? ⟨b, o + 2, none⟩ = _ ∧ w8.cell? ⟨b, o + 3, none⟩ = _ ∧ w8.cell? ⟨b, o + 4, none⟩ = _ ∧ w8.cell? ⟨b, o + 5, none⟩ = _ ∧ w8.cell? ⟨b, o + 6, none⟩ = _ := ⟨hv.cell Y0 (by simp), hv.cell Y1 (by simp), hv.cell Y2 (by simp), hv.cell Y3 (by simp), hv.cell Y4 (by simp), hv.cell Y5 (by simp), hv.cell Y6 (by simp)⟩; have hlw := Nat.lt_of_lt_of_le hlt3 hsv; have HD8 := Lib.hid hD8; have HQ8 := Lib.hid hu8; clear hv))
        all_goals
          have hz : w.heap.size + 1 + 1 + 1 < W4.heap.size := HB3.out.lt
          first
          | (have hr1 := Upd.blk HV8.out HR1.out (by simp); have hr2 := Upd.blk HV8.out HR2.out (by simp); have hf := split_fin (w := w) (W := w8) HU8.out hr1 hr2 (IsD.mono (HD7.out.upd HQ8.out) (fun b _ hb => show w.heap.size + 1 + 1 + 1 ≤ b by first | omega | (simp at hb; omega))) (IsD.mono HD8.out (fun b _ hb => show w.heap.size + 1 + 1 + 1 ≤ b by first | omega | (simp at hb; omega))); have HF := Lib.hid hf; clear hf hr1 hr2; go_wp2; obtain ⟨hf1, hf2, hf3⟩ := HF.out; obtain ⟨j0, j1, j2, j3, j4, j5, j6⟩ := Blk.seven hf1; obtain ⟨h0, h1, h2, h3, h4, h5, h6⟩ := Blk.seven hf2; refine bodyPost_ret (v := .tuple #[.agg #[.int .i64 k7, .bool n7, .slice a7 l7 c7, .bool b7, .string s7, .slice i7 m7 d7, .slice t7 o7 p7], .agg #[.int .i64 k8, .bool n8, .slice a8 l8 c8, .bool b8, .string s8, .slice i8 m8 d8, .slice t8 o8 p8], .bool true]) ?_ rfl (by first | exact hf3 | (rw [HRD.out]; exact hf3)); simp [results, Try.results12, go_sem, j0, j1, j2, j3, j4, j5, j6, h0, h1, h2, h3, h4, h5, h6])
          | (have hr1 := Upd.blk HV7.out HR1.out (by simp); have hr2 := Upd.blk HV7.out HR2.out (by simp); have hf := split_fin (w := w) (W := w7) HU7.out hr1 hr2 (IsD.mono HD7.out (fun b _ hb => show w.heap.size + 1 + 1 + 1 ≤ b by first | omega | (simp at hb; omega))) (IsD.mono (HD8.out.upd HQ7.out) (fun b _ hb => show w.heap.size + 1 + 1 + 1 ≤ b by first | omega | (simp at hb; omega))); have HF := Lib.hid hf; clear hf hr1 hr2; go_wp2; obtain ⟨hf1, hf2, hf3⟩ := HF.out; obtain ⟨j0, j1, j2, j3, j4, j5, j6⟩ := Blk.seven hf1; obtain ⟨h0, h1, h2, h3, h4, h5, h6⟩ := Blk.seven hf2; refine bodyPost_ret (v := .tuple #[.agg #[.int .i64 k7, .bool n7, .slice a7 l7 c7, .bool b7, .string s7, .slice i7 m7 d7, .slice t7 o7 p7], .agg #[.int .i64 k8, .bool n8, .slice a8 l8 c8, .bool b8, .string s8, .slice i8 m8 d8, .slice t8 o8 p8], .bool true]) ?_ rfl (by first | exact hf3 | (rw [HRD.out]; exact hf3)); simp [results, Try.results12, go_sem, j0, j1, j2, j3, j4, j5, j6, h0, h1, h2, h3, h4, h5, h6])
  · have hc2 : ¬ ((cI : Nat) : Int) = 1 := by omega
    have hm2 : ¬ ((m : Nat) : Int) = 1 := by omega
    have his : is ≠ [] := fun h => by have := HML.out; rw [h] at this; simp at this; omega
    have hcl : Hid True := Lib.hid trivial
    go_region
    obtain ⟨W3, hW3⟩ : ∃ W3, W3 = (W1.alloc (.cells #[.int .i64 5, .bool false, .slice none 0 0, .bool false, .string ⟨#[]⟩, .slice (some ⟨b, o + 7, none⟩) (m - 1) (cI - 1), .slice aT q cT] 27)).drew := ⟨_, rfl⟩
    have hu3 : Upd [] W1 W3 := by
      rw [hW3]
      exact ((Upd.refl [] W1).alloc _).drew
    have hb3 : Blk W3 (w.heap.size + 1 + 1 + 1) [.int .i64 5, .bool false, .slice none 0 0, .bool false, .string ⟨#[]⟩, .slice (some ⟨b, o + 7, none⟩) (m - 1) (cI - 1), .slice aT q cT] 27 := by
      rw [hW3]
      exact Blk.drew (Blk.newAt hz1.symm)
    rw [← hW3]
    clear hW3
    have HU3 := Lib.hid (HU1.out.then hu3)
    have b5 := (hu3.blk HB1.out (by simp)).cell_some (i := 5) rfl
    have b6 := (hu3.blk HB1.out (by simp)).cell_some (i := 6) rfl
    have hlt3 := (hu3.blk HB1.out (by simp)).lt
    have HR1 := Lib.hid (hu3.blk HR1.out (by simp))
    have HR2 := Lib.hid (hu3.blk HR2.out (by simp))
    have HB3 := Lib.hid hb3
    obtain ⟨z0, z1, z2, z3, z4, z5, z6⟩ := Blk.seven hb3
    obtain ⟨g0, g1, g2, g3, g4, g5, g6⟩ := Blk.frees hb3
    have HRest := Lib.hid (fun (W : World) (hu : Upd [] w W) => show IsD W (fun _ => True) (n + 1) [.int .i64 5, .bool false, .slice none 0 0, .bool false, .string ⟨#[]⟩, .slice (some ⟨b, o + 7, none⟩) (m - 1) (cI - 1), .slice aT q cT] (.mk 5 false [] false ByteArray.empty is ts) from
      ⟨none, 0, _, _, aT, cT, by rw [show q = ts.length from HQL.out, show m - 1 = is.length from by have := HML.out; omega]; rfl, fun i hi => absurd hi (by simp [Dat.limbs]), (HI.out.updD hu).map (fun _ _ _ => trivial) (fun _ _ _ _ hc => hc) (fun _ _ hd => hd.any), (HT.out.updD hu).map (fun _ _ _ => trivial) (fun _ _ _ _ hc => hc) (fun _ _ hd => hd.any), ⟨by simp [Dat.limbs], by simp only [Dat.items]; have := HML.out; have := HM.out; have := HC.out.2.1; omega, HC.out.2.2⟩, by simp [Dat.kind], by simp [Dat.limbs], by simp [Dat.limbs], by simp [Dat.s, ByteArray.size], by simp only [Dat.items]; have := HML.out; have := HM.out; have := HB.out.2.2.2.2.1; omega, HB.out.2.2.2.2.2⟩)
    clear hu3 hb3 HB1 HU1
    have hrd : restD is ts = .mk 5 false [] false ByteArray.empty is ts := if_neg (fun h => his h.1)
    have HRD := Lib.hid hrd
    clear hrd
    go_wp2_with fail
    have HY := Lib.hid (fun (W : World) (hu : Upd [] w W) => copy_calls ((fun W hu => HRest.out W hu) W hu) (by rw [szN_mk]; have := HSZ.out.1; omega) (by rw [dpN_mk]; have := HSZ.out.2; omega))
    clear HT HI HC HB HSZ HRest HML HM HQL hcl b6 g0 g1 g2 g3 g4 g5 g6
    obtain ⟨Y0, Y1, Y2, Y3, Y4, Y5, Y6⟩ : W3.cell? ⟨b, o, none⟩ = _ ∧ W3.cell? ⟨b, o + 1, none⟩ = _ ∧ W3.cell? ⟨b, o + 2, none⟩ = _ ∧ W3.cell? ⟨b, o + 3, none⟩ = _ ∧ W3.cell? ⟨b, o + 4, none⟩ = _ ∧ W3.cell? ⟨b, o + 5, none⟩ = _ ∧ W3.cell? ⟨b, o + 6, none⟩ = _ := ⟨HU3.out.cell y0 (by simp), HU3.out.cell y1 (by simp), HU3.out.cell y2 (by simp), HU3.out.cell y3 (by simp), HU3.out.cell y4 (by simp), HU3.out.cell y5 (by simp), HU3.out.cell y6 (by simp)⟩
    have B5 := b5
    go_region_with (first
      | (go_at_call_of 23 (Value.string s9); refine (HX.out _ (by first | exact HU3.out.drew | exact HU8.out)).mono ?_; rintro e w7 ⟨⟨cs7, rfl, hD7⟩, hu7⟩; obtain ⟨k7, n7, a7, l7, c7, b7, s7, i7, m7, d7, t7, o7, p7, rfl⟩ := hD7.shaped; unfold datCells at *; have hv : Upd [] W3 w7 := (by first | exact Upd.then (Upd.refl [] W3).drew hu7 | exact HV8.out.then hu7); have HV7 := Lib.hid hv; have HU7 := Lib.hid (HU3.out.then hv); have hsv := hv.size; obtain ⟨z0, z1, z2, z3, z4, z5, z6⟩ := Blk.seven (hv.blk HB3.out (by simp)); obtain ⟨b5, _, _, _⟩ : w7.cell? ⟨w.heap.size, 5, none⟩ = _ ∧ True ∧ True ∧ True := ⟨hv.cell B5 (by simp), trivial, trivial, trivial⟩; obtain ⟨r0, r1, r2, r3, r4, r5, r6⟩ := Blk.seven (hv.blk HR1.out (by simp)); obtain ⟨v0, v1, v2, v3, v4, v5, v6⟩ := Blk.frees (hv.blk HR1.out (by simp)); obtain ⟨x0, x1, x2, x3, x4, x5, x6⟩ := Blk.seven (hv.blk HR2.out (by simp)); obtain ⟨e0, e1, e2, e3, e4, e5, e6⟩ := Blk.frees (hv.blk HR2.out (by simp)); obtain ⟨y0, y1, y2, y3, y4, y5, y6⟩ : w7.cell? ⟨b, o, none⟩ = _ ∧ w7.cell? ⟨b, o + 1, none⟩ = _ ∧ w7.cell? ⟨b, o + 2, none⟩ = _ ∧ w7.cell? ⟨b, o + 3, none⟩ = _ ∧ w7.cell? ⟨b, o + 4, none⟩ = _ ∧ w7.cell? ⟨b, o + 5, none⟩ = _ ∧ w7.cell? ⟨b, o + 6, none⟩ = _ := ⟨hv.cell Y0 (by simp), hv.cell Y1 (by simp), hv.cell Y2 (by simp), hv.cell Y3 (by simp), hv.cell Y4 (by simp), hv.cell Y5 (by simp), hv.cell Y6 (by simp)⟩; have hlw := Nat.lt_of_lt_of_le hlt3 hsv; have HD7 := Lib.hid hD7; have HQ7 := Lib.hid hu7; clear hv)
      | (go_at_call_of 23 (Value.slice aT q cT); refine (HY.out _ (by first | exact HU3.out.drew | exact HU7.out)).mono ?_; rintro e w8 ⟨⟨cs8, rfl, hD8⟩, hu8⟩; obtain ⟨k8, n8, a8, l8, c8, b8, s8, i8, m8, d8, t8, o8, p8, rfl⟩ := hD8.shaped; unfold datCells at *; have hv : Upd [] W3 w8 := (by first | exact Upd.then (Upd.refl [] W3).drew hu8 | exact HV7.out.then hu8); have HV8 := Lib.hid hv; have HU8 := Lib.hid (HU3.out.then hv); have hsv := hv.size; obtain ⟨z0, z1, z2, z3, z4, z5, z6⟩ := Blk.seven (hv.blk HB3.out (by simp)); obtain ⟨b5, _, _, _⟩ : w8.cell? ⟨w.heap.size, 5, none⟩ = _ ∧ True ∧ True ∧ True := ⟨hv.cell B5 (by simp), trivial, trivial, trivial⟩; obtain ⟨r0, r1, r2, r3, r4, r5, r6⟩ := Blk.seven (hv.blk HR1.out (by simp)); obtain ⟨v0, v1, v2, v3, v4, v5, v6⟩ := Blk.frees (hv.blk HR1.out (by simp)); obtain ⟨x0, x1, x2, x3, x4, x5, x6⟩ := Blk.seven (hv.blk HR2.out (by simp)); obtain ⟨e0, e1, e2, e3, e4, e5, e6⟩ := Blk.frees (hv.blk HR2.out (by simp)); obtain ⟨y0, y1, y2, y3, y4, y5, y6⟩ : w8.cell? ⟨b, o, none⟩ = _ ∧ w8.cell? ⟨b, o + 1, none⟩ = _ ∧ w8.cell? ⟨b, o + 2, none⟩ = _ ∧ w8.cell? ⟨b, o + 3, none⟩ = _ ∧ w8.cell? ⟨b, o + 4, none⟩ = _ ∧ w8.cell? ⟨b, o + 5, none⟩ = _ ∧ w8.cell? ⟨b, o + 6, none⟩ = _ := ⟨hv.cell Y0 (by simp), hv.cell Y1 (by simp), hv.cell Y2 (by simp), hv.cell Y3 (by simp), hv.cell Y4 (by simp), hv.cell Y5 (by simp), hv.cell Y6 (by simp)⟩; have hlw := Nat.lt_of_lt_of_le hlt3 hsv; have HD8 := Lib.hid hD8; have HQ8 := Lib.hid hu8; clear hv))
    all_goals
      have hz : w.heap.size + 1 + 1 + 1 < W3.heap.size := HB3.out.lt
      first
      | (have hr1 := Upd.blk HV8.out HR1.out (by simp); have hr2 := Upd.blk HV8.out HR2.out (by simp); have hf := split_fin (w := w) (W := w8) HU8.out hr1 hr2 (IsD.mono (HD7.out.upd HQ8.out) (fun b _ hb => show w.heap.size + 1 + 1 + 1 ≤ b by first | omega | (simp at hb; omega))) (IsD.mono HD8.out (fun b _ hb => show w.heap.size + 1 + 1 + 1 ≤ b by first | omega | (simp at hb; omega))); have HF := Lib.hid hf; clear hf hr1 hr2; go_wp2; obtain ⟨hf1, hf2, hf3⟩ := HF.out; obtain ⟨j0, j1, j2, j3, j4, j5, j6⟩ := Blk.seven hf1; obtain ⟨h0, h1, h2, h3, h4, h5, h6⟩ := Blk.seven hf2; refine bodyPost_ret (v := .tuple #[.agg #[.int .i64 k7, .bool n7, .slice a7 l7 c7, .bool b7, .string s7, .slice i7 m7 d7, .slice t7 o7 p7], .agg #[.int .i64 k8, .bool n8, .slice a8 l8 c8, .bool b8, .string s8, .slice i8 m8 d8, .slice t8 o8 p8], .bool true]) ?_ rfl (by first | exact hf3 | (rw [HRD.out]; exact hf3)); simp [results, Try.results12, go_sem, j0, j1, j2, j3, j4, j5, j6, h0, h1, h2, h3, h4, h5, h6])
      | (have hr1 := Upd.blk HV7.out HR1.out (by simp); have hr2 := Upd.blk HV7.out HR2.out (by simp); have hf := split_fin (w := w) (W := w7) HU7.out hr1 hr2 (IsD.mono HD7.out (fun b _ hb => show w.heap.size + 1 + 1 + 1 ≤ b by first | omega | (simp at hb; omega))) (IsD.mono (HD8.out.upd HQ7.out) (fun b _ hb => show w.heap.size + 1 + 1 + 1 ≤ b by first | omega | (simp at hb; omega))); have HF := Lib.hid hf; clear hf hr1 hr2; go_wp2; obtain ⟨hf1, hf2, hf3⟩ := HF.out; obtain ⟨j0, j1, j2, j3, j4, j5, j6⟩ := Blk.seven hf1; obtain ⟨h0, h1, h2, h3, h4, h5, h6⟩ := Blk.seven hf2; refine bodyPost_ret (v := .tuple #[.agg #[.int .i64 k7, .bool n7, .slice a7 l7 c7, .bool b7, .string s7, .slice i7 m7 d7, .slice t7 o7 p7], .agg #[.int .i64 k8, .bool n8, .slice a8 l8 c8, .bool b8, .string s8, .slice i8 m8 d8, .slice t8 o8 p8], .bool true]) ?_ rfl (by first | exact hf3 | (rw [HRD.out]; exact hf3)); simp [results, Try.results12, go_sem, j0, j1, j2, j3, j4, j5, j6, h0, h1, h2, h3, h4, h5, h6])
end Go.Proofs.Ytknbgbeepachgaa
