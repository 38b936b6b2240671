/-
  datum.Copy.
-/
import Derived.Test.YtknbgbeepachgaaDatD
namespace Go.Proofs.Ytknbgbeepachgaa
open Go.RowKit

theorem IsD.set_other {w : World} {P : Nat → Prop} {n : Nat} {cs : List Value} {d : Dat} (h : IsD w P n cs d) (a : Addr) (v : Value) (hP : ∀ b, P b → b ≠ a.block) : IsD (w.setCell a v) P n cs d :=
  IsD.map (m := 0) (fun _ _ hp => hp) (fun b o u hp hc => (World.cell?_of_block (w := w) (Below.heap_setCell _ _ _ _ (by have := hP b hp; simpa [eq_comm] using this))).trans hc) h
set_option maxRecDepth 100000 in
set_option maxHeartbeats 1500000 in
theorem copy_calls {P : Nat → Prop} {n : Nat} {d : Dat} {cs : List Value} {w : World} (h : IsD w P n cs d) (hs : szN n d ≤ 100000) (hd : dpN n d ≤ 10000) :
    Calls Try.prog 23 #[.agg cs.toArray] w fun e w' => (∃ cs', e = .returned (.agg cs'.toArray) ∧ IsD w' (fun b => w.heap.size ≤ b) n cs' d) ∧ Upd [] w w' := by
  obtain ⟨yL, zL, yI, zI, yT, zT, rfl⟩ := cells_agg h
  have hu1 := ((Upd.refl [] w).alloc (.cells (datCells d.kind d.neg yL d.limbs.length zL d.b d.s yI d.items.length zI yT d.tail.length zT).toArray 27)).alloc (.cells (datCells 0 false none 0 0 false ByteArray.empty none 0 0 none 0 0).toArray 27)
  have hF := Lib.hid (few_calls (h.upd hu1) hs hd)
  have hU := Lib.hid hu1
  have hB0 := Lib.hid (((Blk.new w (datCells d.kind d.neg yL d.limbs.length zL d.b d.s yI d.items.length zI yT d.tail.length zT) 27).alloc (.cells (datCells 0 false none 0 0 false ByteArray.empty none 0 0 none 0 0).toArray 27)))
  have hC := Lib.hid (fun (W : World) (hu : Upd [] w W) (b : Nat) (hb : Blk W b (datCells d.kind d.neg yL d.limbs.length zL d.b d.s yI d.items.length zI yT d.tail.length zT) 27) =>
    copied_calls (fun _ => True) n [d] W (some ⟨b, 0, none⟩) 1 1 rfl (fun i hi => by
      have hi0 : i = 0 := by simpa using hi
      subst hi0
      exact ⟨b, 0, _, rfl, trivial, ⟨rfl, fun j _ => by rw [show 0 + 0 * 7 + j = j by omega, hb.cell]⟩, (h.upd hu).mono fun _ _ _ => trivial⟩) (by simp only [szL]; omega))
  have hKS := Lib.hid (And.intro hs hd)
  clear h hu1 hs hd
  unfold datCells at hF hU hB0 hC ⊢
  generalize d.kind = kd9 at *
  generalize d.neg = ng9 at *
  generalize d.limbs.length = nl9 at *
  generalize d.b = bb9 at *
  generalize d.s = ss9 at *
  generalize d.items.length = ni9 at *
  generalize d.tail.length = nt9 at *
  go_enter Try.func23, Try.ntmps23
  go_wp2_with fail
  refine hF.out.mono ?_
  rintro e w2 ⟨rfl, hu2⟩
  have hU2 := Lib.hid (hU.out.then hu2)
  have hB2 := hu2.blk hB0.out (by simp)
  have q0 := hB2.cell_some (i := 0) rfl
  have q1 := hB2.cell_some (i := 1) rfl
  have q2 := hB2.cell_some (i := 2) rfl
  have q3 := hB2.cell_some (i := 3) rfl
  have q4 := hB2.cell_some (i := 4) rfl
  have q5 := hB2.cell_some (i := 5) rfl
  have q6 := hB2.cell_some (i := 6) rfl
  have hR2 := Lib.hid (hu2.blk (Blk.new (w.alloc (.cells #[.int .i64 kd9, .bool ng9, .slice yL nl9 zL, .bool bb9, .string ss9, .slice yI ni9 zI, .slice yT nt9 zT] 27)) (datCells 0 false none 0 0 false ByteArray.empty none 0 0 none 0 0) 27) (by simp))
  have HB2 := Lib.hid hB2
  clear hF hB0 hB2 hu2 hU
  go_wp2_with fail
  refine (hC.out (w2.alloc (.cells #[.int .i64 kd9, .bool ng9, .slice yL nl9 zL, .bool bb9, .string ss9, .slice yI ni9 zI, .slice yT nt9 zT] 27)) (hU2.out.alloc _) w2.heap.size (Blk.newAt rfl)).mono ?_
  rintro e w3 ⟨⟨a, c, rfl, hRow, _⟩, hu3⟩
  obtain ⟨b3, o3, cs, rfl, hb3, hat, hD⟩ := hRow 0 (by simp)
  obtain ⟨k, neg, aL, nL, cL, bb, ss, aI, nI, cI, aT, nT, cT, rfl⟩ := hD.shaped
  have hR3 := hu3.blk (hR2.out.alloc (.cells #[.int .i64 kd9, .bool ng9, .slice yL nl9 zL, .bool bb9, .string ss9, .slice yI ni9 zI, .slice yT nt9 zT] 27)) (by simp)
  have hU3 := Lib.hid ((hU2.out.alloc (.cells #[.int .i64 kd9, .bool ng9, .slice yL nl9 zL, .bool bb9, .string ss9, .slice yI ni9 zI, .slice yT nt9 zT] 27)).then hu3)
  rw [Nat.zero_mul, Nat.add_zero] at hat
  obtain ⟨p0, p1, p2, p3, p4, p5, p6⟩ := hat.cells
  have hne : w.heap.size + 1 < b3 := by
    have h1 := hR2.out.lt
    simp at h1 hb3
    omega
  have hr : (w.alloc (.cells #[.int .i64 kd9, .bool ng9, .slice yL nl9 zL, .bool bb9, .string ss9, .slice yI ni9 zI, .slice yT nt9 zT] 27)).heap.size = w.heap.size + 1 := by simp
  rw [hr] at hR3
  have e0 := hR3.cell_some (i := 0) rfl
  have e1 := hR3.cell_some (i := 1) rfl
  have e2 := hR3.cell_some (i := 2) rfl
  have e3 := hR3.cell_some (i := 3) rfl
  have e4 := hR3.cell_some (i := 4) rfl
  have e5 := hR3.cell_some (i := 5) rfl
  have e6 := hR3.cell_some (i := 6) rfl
  have f0 := hR3.free 0
  have f1 := hR3.free 1
  have f2 := hR3.free 2
  have f3 := hR3.free 3
  have f4 := hR3.free 4
  have f5 := hR3.free 5
  have f6 := hR3.free 6
  have hRlt := hR3.lt
  have HR3 := Lib.hid hR3
  have HD := Lib.hid hD
  have HB3 := Lib.hid (And.intro hb3 hR2.out.lt)
  clear hC hR3 hD hRow hu3 hat hb3 hr q0 q1 q2 q3 q4 q5 q6 HB2
  go_wp2
  have hBf := (((((((HR3.out.set 0 (.int .i64 k)).set 1 (.bool neg)).set 2 (.slice aL nL cL)).set 3 (.bool bb)).set 4 (.string ss)).set 5 (.slice aI nI cI)).set 6 (.slice aT nT cT))
  have k0 := hBf.cell_some (i := 0) rfl
  have k1 := hBf.cell_some (i := 1) rfl
  have k2 := hBf.cell_some (i := 2) rfl
  have k3 := hBf.cell_some (i := 3) rfl
  have k4 := hBf.cell_some (i := 4) rfl
  have k5 := hBf.cell_some (i := 5) rfl
  have k6 := hBf.cell_some (i := 6) rfl
  have hUf := (((((((hU3.out.setCell (.int .i64 k) (p := ⟨w.heap.size + 1, 0, none⟩) (.inr (Nat.le_succ _))).setCell (.bool neg) (p := ⟨w.heap.size + 1, 1, none⟩) (.inr (Nat.le_succ _))).setCell (.slice aL nL cL) (p := ⟨w.heap.size + 1, 2, none⟩) (.inr (Nat.le_succ _))).setCell (.bool bb) (p := ⟨w.heap.size + 1, 3, none⟩) (.inr (Nat.le_succ _))).setCell (.string ss) (p := ⟨w.heap.size + 1, 4, none⟩) (.inr (Nat.le_succ _))).setCell (.slice aI nI cI) (p := ⟨w.heap.size + 1, 5, none⟩) (.inr (Nat.le_succ _))).setCell (.slice aT nT cT) (p := ⟨w.heap.size + 1, 6, none⟩) (.inr (Nat.le_succ _)))
  have hPn : ∀ b, w.heap.size + 2 ≤ b → b ≠ w.heap.size + 1 := fun b h => by omega
  have hD4 : IsD w3 (fun b => w.heap.size + 2 ≤ b) n _ d := HD.out.mono fun b _ hp => by
    have h1 := HB3.out.2
    simp at h1 hp
    omega
  have hD5 := (((((((hD4.set_other ⟨w.heap.size + 1, 0, none⟩ (.int .i64 k) hPn).set_other ⟨w.heap.size + 1, 1, none⟩ (.bool neg) hPn).set_other ⟨w.heap.size + 1, 2, none⟩ (.slice aL nL cL) hPn).set_other ⟨w.heap.size + 1, 3, none⟩ (.bool bb) hPn).set_other ⟨w.heap.size + 1, 4, none⟩ (.string ss) hPn).set_other ⟨w.heap.size + 1, 5, none⟩ (.slice aI nI cI) hPn).set_other ⟨w.heap.size + 1, 6, none⟩ (.slice aT nT cT) hPn)
  refine bodyPost_ret (v := .agg #[.int .i64 k, .bool neg, .slice aL nL cL, .bool bb, .string ss, .slice aI nI cI, .slice aT nT cT]) ?_ rfl ⟨⟨[.int .i64 k, .bool neg, .slice aL nL cL, .bool bb, .string ss, .slice aI nI cI, .slice aT nT cT], rfl, hD5.mono fun b _ hp => by omega⟩, hUf⟩
  simp [results, Try.results23, go_sem, k0, k1, k2, k3, k4, k5, k6]
end Go.Proofs.Ytknbgbeepachgaa
