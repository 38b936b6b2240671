/-
  Texts of this claim, merged: DatN, DatP. Lemmas and contracts; no conditions of our own.
-/
import Derived.Test.YthmpaepdbjldfaaG19
import Derived.Test.YthmpaepdbjldfaaG21

/-
  datum.norm.
-/
namespace Go.Proofs.Ythmpaepdbjldfaa
set_option linter.unusedVariables false
set_option linter.unusedSimpArgs false
open Go.RowKit

theorem normD_num (n : Nat) (ng : Bool) (ls : List Int) (bb : Bool) (ss : ByteArray) (is ts : List Dat) : normD (n + 1) (.mk 1 ng ls bb ss is ts) = .mk 1 (ng && decide (0 < (trimL ls).length)) (trimL ls) false ByteArray.empty [] [] := by
  rw [normD]
  exact if_pos rfl
theorem normD_bool (n : Nat) (ng : Bool) (ls : List Int) (bb : Bool) (ss : ByteArray) (is ts : List Dat) : normD (n + 1) (.mk 2 ng ls bb ss is ts) = .mk 2 false [] bb ByteArray.empty [] [] := by
  rw [normD]
  simp [Dat.kind, Dat.b]
theorem normD_text (n : Nat) {kd : Int} (hk : kd = 3 ∨ kd = 4) (ng : Bool) (ls : List Int) (bb : Bool) (ss : ByteArray) (is ts : List Dat) : normD (n + 1) (.mk kd ng ls bb ss is ts) = .mk kd false [] false ss [] [] := by
  rw [normD]
  rcases hk with rfl | rfl <;> simp [Dat.kind, Dat.s]
theorem normD_list (n : Nat) (ng : Bool) (ls : List Int) (bb : Bool) (ss : ByteArray) (is ts : List Dat) : normD (n + 1) (.mk 5 ng ls bb ss is ts) = if ts = [] then .mk 5 false [] false ByteArray.empty (is.map (normD n)) [] else joinD (is.map (normD n)) (normD n (ts.getD 0 default)) := by
  rw [normD]
  simp [Dat.kind, Dat.items, Dat.tail]
theorem normD_other (n : Nat) {kd : Int} (h1 : kd ≠ 1) (h2 : kd ≠ 2) (h3 : kd ≠ 3) (h4 : kd ≠ 4) (h5 : kd ≠ 5) (ng : Bool) (ls : List Int) (bb : Bool) (ss : ByteArray) (is ts : List Dat) : normD (n + 1) (.mk kd ng ls bb ss is ts) = .mk kd false [] false ByteArray.empty [] [] := by
  rw [normD]
  simp [Dat.kind, h1, h2, h3, h4, h5]
/-- What norm answers. -/
def NormPost (w : World) (n : Nat) (d : Dat) (e : Ending) (w' : World) : Prop :=
  (∃ cs', e = .returned (.agg cs'.toArray) ∧ IsD w' (fun b => w.heap.size ≤ b) n cs' d) ∧ Upd [] w w'
def NormSaid (n : Nat) : Prop := ∀ (P : Nat → Prop) (d : Dat) (cs : List Value) (w : World), IsD w P n cs d → szN n d ≤ 100000 →
    Calls Try.prog 43 #[.agg cs.toArray] w (NormPost w n (normD n d))
theorem Blk.seven {W : World} {b : Nat} {t : TypeId} {y0 y1 y2 y3 y4 y5 y6 : Value} (h : Blk W b [y0, y1, y2, y3, y4, y5, y6] t) :
    W.cell? ⟨b, 0, none⟩ = some y0 ∧ W.cell? ⟨b, 1, none⟩ = some y1 ∧ W.cell? ⟨b, 2, none⟩ = some y2 ∧ W.cell? ⟨b, 3, none⟩ = some y3 ∧ W.cell? ⟨b, 4, none⟩ = some y4 ∧ W.cell? ⟨b, 5, none⟩ = some y5 ∧ W.cell? ⟨b, 6, none⟩ = some y6 :=
  ⟨h.cell_some rfl, h.cell_some rfl, h.cell_some rfl, h.cell_some rfl, h.cell_some rfl, h.cell_some rfl, h.cell_some rfl⟩
theorem Blk.frees {W : World} {b : Nat} {t : TypeId} {cs : List Value} (h : Blk W b cs t) :
    W.frozen? ⟨b, 0, none⟩ = false ∧ W.frozen? ⟨b, 1, none⟩ = false ∧ W.frozen? ⟨b, 2, none⟩ = false ∧ W.frozen? ⟨b, 3, none⟩ = false ∧ W.frozen? ⟨b, 4, none⟩ = false ∧ W.frozen? ⟨b, 5, none⟩ = false ∧ W.frozen? ⟨b, 6, none⟩ = false :=
  ⟨h.free 0, h.free 1, h.free 2, h.free 3, h.free 4, h.free 5, h.free 6⟩
/-- What stands at the beginning. -/
structure NBeg (w W : World) (kd : Int) (xs : List Value) : Prop where
  box : Blk W w.heap.size xs 27
  res : Blk W (w.heap.size + 1) [.int .i64 0, .bool false, .slice none 0 0, .bool false, .string ⟨#[]⟩, .slice none 0 0, .slice none 0 0] 27
  out : Blk W (w.heap.size + 1 + 1) [.int .i64 kd, .bool false, .slice none 0 0, .bool false, .string ⟨#[]⟩, .slice none 0 0, .slice none 0 0] 27
  upd : Upd [] w W
theorem NBeg.new (w : World) (kd : Int) (xs : List Value) : NBeg w (((w.alloc (.cells xs.toArray 27)).alloc (.cells #[.int .i64 0, .bool false, .slice none 0 0, .bool false, .string ⟨#[]⟩, .slice none 0 0, .slice none 0 0] 27)).alloc (.cells #[.int .i64 kd, .bool false, .slice none 0 0, .bool false, .string ⟨#[]⟩, .slice none 0 0, .slice none 0 0] 27)) kd xs :=
  ⟨((Blk.new w xs _).alloc _).alloc _, (Blk.newAt (by simp)).alloc _, Blk.newAt (by simp), (((Upd.refl [] w).alloc _).alloc _).alloc _⟩
theorem NBeg.step {w W W' : World} {kd : Int} {xs : List Value} (h : NBeg w W kd xs) (hu : Upd [] W W') : NBeg w W' kd xs :=
  ⟨hu.blk h.box (by simp), hu.blk h.res (by simp), hu.blk h.out (by simp), h.upd.then hu⟩
/-- What stands at the end: out's cells are stored into the result's box. -/
structure NEnd (w W : World) (n : Nat) (d : Dat) (x0 x1 x2 x3 x4 x5 x6 : Value) : Prop where
  out : Blk W (w.heap.size + 1 + 1) [x0, x1, x2, x3, x4, x5, x6] 27
  res : Blk W (w.heap.size + 1) [.int .i64 0, .bool false, .slice none 0 0, .bool false, .string ⟨#[]⟩, .slice none 0 0, .slice none 0 0] 27
  upd : Upd [] w W
  isd : IsD W (fun b => w.heap.size + 3 ≤ b) n [x0, x1, x2, x3, x4, x5, x6] d
theorem NEnd.fin {w W : World} {n : Nat} {d : Dat} {x0 x1 x2 x3 x4 x5 x6 : Value} (h : NEnd w W n d x0 x1 x2 x3 x4 x5 x6) :
    Blk (put7 W (w.heap.size + 1) x0 x1 x2 x3 x4 x5 x6) (w.heap.size + 1) [x0, x1, x2, x3, x4, x5, x6] 27 ∧ NormPost w n d (.returned (.agg #[x0, x1, x2, x3, x4, x5, x6])) (put7 W (w.heap.size + 1) x0 x1 x2 x3 x4 x5 x6) :=
  ⟨h.res.put7 _ _ _ _ _ _ _, ⟨[x0, x1, x2, x3, x4, x5, x6], rfl, (h.isd.put7 (w.heap.size + 1) (fun k hk => by omega) _ _ _ _ _ _ _).mono fun b _ hp => by omega⟩, h.upd.put7 (.inr (Nat.le_succ _)) _ _ _ _ _ _ _⟩
/-- A datum without lists. -/
theorem isd_flat {W : World} {P : Nat → Prop} {n : Nat} {kd : Int} {ng : Bool} {ls : List Int} {bb : Bool} {ss : ByteArray} {aL : Option Addr} {cL : Nat} (hk : -9223372036854775808 ≤ kd ∧ kd ≤ 9223372036854775807) (hL : LimbsOf W P aL ls) (hx : ∀ x ∈ ls, 0 ≤ x ∧ x < 4294967296) (hl : ls.length ≤ 35184372088832) (hc : ls.length ≤ cL) (hs : ss.size ≤ 140737488351232) :
    IsD W P (n + 1) [.int .i64 kd, .bool ng, .slice aL ls.length cL, .bool bb, .string ss, .slice none 0 0, .slice none 0 0] (.mk kd ng ls bb ss [] []) :=
  ⟨aL, cL, none, 0, none, 0, rfl, hL, fun i hi => absurd hi (by simp [Dat.items]), fun i hi => absurd hi (by simp [Dat.tail]), ⟨hc, by simp [Dat.items], by simp [Dat.tail]⟩, hk, hx, hl, hs, by simp [Dat.items], by simp [Dat.tail]⟩
theorem isd_flat0 {W : World} {P : Nat → Prop} {n : Nat} {kd : Int} {bb : Bool} {ss : ByteArray} (hk : -9223372036854775808 ≤ kd ∧ kd ≤ 9223372036854775807) (hs : ss.size ≤ 140737488351232) :
    IsD W P (n + 1) [.int .i64 kd, .bool false, .slice none 0 0, .bool bb, .string ss, .slice none 0 0, .slice none 0 0] (.mk kd false [] bb ss [] []) :=
  isd_flat (aL := none) (cL := 0) (ls := []) hk (fun i hi => absurd hi (by simp)) (by simp) (by simp) (by simp) hs
theorem norm_flat {w : World} {n : Nat} {d : Dat} (bx : Array Value) (x0 x1 x2 x3 x4 x5 x6 : Value) (hD : ∀ (W : World) (P : Nat → Prop), IsD W P n [x0, x1, x2, x3, x4, x5, x6] d) :
    Blk (((w.alloc (.cells bx 27)).alloc (.cells #[x0, x1, x2, x3, x4, x5, x6] 27)).alloc (.cells #[x0, x1, x2, x3, x4, x5, x6] 27)) (w.heap.size + 1) [x0, x1, x2, x3, x4, x5, x6] 27 ∧
    NormPost w n d (.returned (.agg #[x0, x1, x2, x3, x4, x5, x6])) (((w.alloc (.cells bx 27)).alloc (.cells #[x0, x1, x2, x3, x4, x5, x6] 27)).alloc (.cells #[x0, x1, x2, x3, x4, x5, x6] 27)) :=
  ⟨(Blk.newAt (by simp)).alloc _, ⟨[x0, x1, x2, x3, x4, x5, x6], rfl, hD _ _⟩, (((Upd.refl [] w).alloc _).alloc _).alloc _⟩
set_option maxRecDepth 100000 in
set_option maxHeartbeats 1500000 in
theorem norm_flats (n : Nat) (P : Nat → Prop) (d : Dat) (cs : List Value) (w : World) (h : IsD w P (n + 1) cs d) (hk5 : d.kind ≠ 5) :
    Calls Try.prog 43 #[.agg cs.toArray] w (NormPost w (n + 1) (normD (n + 1) d)) := by
  obtain ⟨aL, cL, aI, cI, aT, cT, rfl, l1, r1, r2, hcap, hbd⟩ := h
  obtain ⟨kd, ng, ls, bb, ss, is, ts⟩ := d
  simp only [Dat.kind, Dat.neg, Dat.limbs, Dat.b, Dat.s, Dat.items, Dat.tail] at *
  have HL := Lib.hid l1
  have HI := Lib.hid r1
  have HT := Lib.hid r2
  have HC := Lib.hid hcap
  have HB := Lib.hid hbd
  clear l1 r1 r2 hcap hbd
  obtain ⟨D, hD⟩ : ∃ D, D = normD (n + 1) (.mk kd ng ls bb ss is ts) := ⟨_, rfl⟩
  rw [← hD]
  have hND := Lib.hid hD
  clear hD
  unfold datCells
  refine callsIn_wide.1 (callsIn_of_wp_marks (n := 5) Try.func43 rfl trivial (wpIn_wide.2 ?_) rfl)
  simp only [Try.ntmps43, List.size_toArray, List.length_cons, List.length_nil, Nat.reduceAdd, Nat.reduceSub, Array.replicate_succ, Array.replicate_zero, List.push_toArray, List.append_toArray, List.nil_append, List.cons_append]
  by_cases hk1 : kd = 1
  · subst hk1
    have hD : D = .mk 1 (ng && decide (0 < (trimL ls).length)) (trimL ls) false ByteArray.empty [] [] := by
      rw [hND.out]
      exact normD_num _ _ _ _ _ _ _
    have HD := Lib.hid hD
    clear hND hD
    have hb := NBeg.new w 1 [.int .i64 1, .bool ng, .slice aL ls.length cL, .bool bb, .string ss, .slice aI is.length cI, .slice aT ts.length cT]
    have hN := Lib.hid (wholeNorm_calls ng ls.length cL rfl (HL.out.upd0 hb.upd) HC.out.1 HB.out.2.2.1 HB.out.2.1)
    have HBG := Lib.hid hb
    clear hb
    go_wp2_with fail
    refine hN.out.mono ?_
    rintro e w2 ⟨⟨a2, c2, rfl, hL, hlc⟩, hu2⟩
    have hb2 := HBG.out.step hu2
    obtain ⟨c0, c1, c2', c3, c4, c5, c6⟩ := hb2.out.seven
    obtain ⟨d0, d1, d2, d3, d4, d5, d6⟩ := hb2.res.seven
    obtain ⟨e0, e1, e2, e3, e4, e5, e6⟩ := hb2.res.frees
    have f1 := hb2.out.free 1
    have f2 := hb2.out.free 2
    have HB2 := Lib.hid hb2
    have hsz : ((((w.alloc (.cells #[.int .i64 1, .bool ng, .slice aL ls.length cL, .bool bb, .string ss, .slice aI is.length cI, .slice aT ts.length cT] 27)).alloc (.cells #[.int .i64 0, .bool false, .slice none 0 0, .bool false, .string ⟨#[]⟩, .slice none 0 0, .slice none 0 0] 27)).alloc (.cells #[.int .i64 1, .bool false, .slice none 0 0, .bool false, .string ⟨#[]⟩, .slice none 0 0, .slice none 0 0] 27))).heap.size = w.heap.size + 3 := by simp
    have HLm := Lib.hid (show LimbsOf w2 (fun b => w.heap.size + 3 ≤ b) a2 (trimL ls) from hL.mono (fun b hb => by rw [← hsz]; exact hb))
    have hlt : w.heap.size + 2 < w2.heap.size := hb2.out.lt
    obtain ⟨bv, hbv⟩ : ∃ bv, bv = (ng && decide (0 < (trimL ls).length)) := ⟨_, rfl⟩
    rw [← hbv]
    have HBV := Lib.hid hbv
    clear hN HBG hu2 hL hsz hbv hb2
    have HLC := Lib.hid hlc
    clear hlc
    have hE : NEnd w ((w2.setCell ⟨w.heap.size + 1 + 1, 1, none⟩ (.bool bv)).setCell ⟨w.heap.size + 1 + 1, 2, none⟩ (.slice a2 (trimL ls).length c2)) (n + 1) D (.int .i64 1) (.bool bv) (.slice a2 (trimL ls).length c2) (.bool false) (.string ⟨#[]⟩) (.slice none 0 0) (.slice none 0 0) := by
      refine ⟨(HB2.out.out.set 1 _).set 2 _, (HB2.out.res.set_other _ (by simp)).set_other _ (by simp), (HB2.out.upd.setCell _ (.inr (by simp; omega))).setCell _ (.inr (by simp; omega)), ?_⟩
      rw [HD.out, ← HBV.out]
      have hpre := trimL_prefix ls
      obtain ⟨k, hk, he⟩ := hpre
      have hle : (trimL ls).length ≤ ls.length := by rw [he, List.length_take]; omega
      refine isd_flat (by omega) ((HLm.out.set_other _ _ (fun b hb => by simp; omega)).set_other _ _ (fun b hb => by simp; omega)) (fun x hx => HB.out.2.1 x (by rw [he] at hx; exact List.mem_of_mem_take hx)) (by have := HB.out.2.2.1; omega) HLC.out (by simp [ByteArray.size])
    have HE := Lib.hid hE
    clear hE
    go_wp2
    obtain ⟨hBf, hP⟩ := HE.out.fin
    obtain ⟨k0, k1, k2, k3, k4, k5, k6⟩ := hBf.seven
    refine ⟨_, ?_, hP⟩
    simp [results, Try.results43, go_sem, k0, k1, k2, k3, k4, k5, k6]
  · by_cases hk2 : kd = 2
    · subst hk2
      have hD : D = .mk 2 false [] bb ByteArray.empty [] [] := hND.out.trans (normD_bool _ _ _ _ _ _ _)
      have HD := Lib.hid hD
      clear hND hD
      go_wp2
      obtain ⟨hBf, hP⟩ := norm_flat (w := w) (n := n + 1) (d := D) #[.int .i64 2, .bool ng, .slice aL ls.length cL, .bool bb, .string ss, .slice aI is.length cI, .slice aT ts.length cT] (.int .i64 2) (.bool false) (.slice none 0 0) (.bool bb) (.string ⟨#[]⟩) (.slice none 0 0) (.slice none 0 0) (fun W P => by rw [HD.out]; exact isd_flat0 (by omega) (by simp [ByteArray.size]))
      obtain ⟨k0, k1, k2, k3, k4, k5, k6⟩ := hBf.seven
      refine ⟨_, ?_, hP⟩
      simp [results, Try.results43, go_sem, k0, k1, k2, k3, k4, k5, k6]
    · have hfl : ∀ (ssx : ByteArray), D = .mk kd false [] false ssx [] [] → ssx.size ≤ 140737488351232 → Hid (Blk (((w.alloc (.cells #[.int .i64 kd, .bool ng, .slice aL ls.length cL, .bool bb, .string ss, .slice aI is.length cI, .slice aT ts.length cT] 27)).alloc (.cells #[.int .i64 kd, .bool false, .slice none 0 0, .bool false, .string ssx, .slice none 0 0, .slice none 0 0] 27)).alloc (.cells #[.int .i64 kd, .bool false, .slice none 0 0, .bool false, .string ssx, .slice none 0 0, .slice none 0 0] 27)) (w.heap.size + 1) [.int .i64 kd, .bool false, .slice none 0 0, .bool false, .string ssx, .slice none 0 0, .slice none 0 0] 27 ∧ NormPost w (n + 1) D (.returned (.agg #[.int .i64 kd, .bool false, .slice none 0 0, .bool false, .string ssx, .slice none 0 0, .slice none 0 0])) (((w.alloc (.cells #[.int .i64 kd, .bool ng, .slice aL ls.length cL, .bool bb, .string ss, .slice aI is.length cI, .slice aT ts.length cT] 27)).alloc (.cells #[.int .i64 kd, .bool false, .slice none 0 0, .bool false, .string ssx, .slice none 0 0, .slice none 0 0] 27)).alloc (.cells #[.int .i64 kd, .bool false, .slice none 0 0, .bool false, .string ssx, .slice none 0 0, .slice none 0 0] 27))) :=
        fun ssx e hss => Lib.hid (norm_flat _ _ _ _ _ _ _ _ (fun W P => by rw [e]; exact isd_flat0 HB.out.1 hss))
      by_cases hk3 : kd = 3
      · subst hk3
        have HF := hfl ss (hND.out.trans (normD_text _ (.inl rfl) _ _ _ _ _ _)) HB.out.2.2.2.1
        clear hfl hND
        go_wp2
        obtain ⟨k0, k1, k2, k3, k4, k5, k6⟩ := HF.out.1.seven
        refine ⟨_, ?_, HF.out.2⟩
        simp [results, Try.results43, go_sem, k0, k1, k2, k3, k4, k5, k6]
      · by_cases hk4 : kd = 4
        · subst hk4
          have HF := hfl ss (hND.out.trans (normD_text _ (.inr rfl) _ _ _ _ _ _)) HB.out.2.2.2.1
          clear hfl hND
          go_wp2
          obtain ⟨k0, k1, k2, k3, k4, k5, k6⟩ := HF.out.1.seven
          refine ⟨_, ?_, HF.out.2⟩
          simp [results, Try.results43, go_sem, k0, k1, k2, k3, k4, k5, k6]
        · have HF := hfl ⟨#[]⟩ (hND.out.trans (normD_other _ hk1 hk2 hk3 hk4 hk5 _ _ _ _ _ _)) (by simp [ByteArray.size])
          clear hfl hND
          go_wp2
          obtain ⟨k0, k1, k2, k3, k4, k5, k6⟩ := HF.out.1.seven
          refine ⟨_, ?_, HF.out.2⟩
          simp [results, Try.results43, go_sem, k0, k1, k2, k3, k4, k5, k6]
end Go.Proofs.Ythmpaepdbjldfaa

/-
  datum.norm of lists: one round.
-/
namespace Go.Proofs.Ythmpaepdbjldfaa
set_option linter.unusedVariables false
set_option linter.unusedSimpArgs false
open Go.RowKit

/-- Seven cells stored within a row. -/
abbrev put7at (W : World) (g k : Nat) (x0 x1 x2 x3 x4 x5 x6 : Value) : World :=
  ((((((W.setCell ⟨g, k, none⟩ x0).setCell ⟨g, k + 1, none⟩ x1).setCell ⟨g, k + 2, none⟩ x2).setCell ⟨g, k + 3, none⟩ x3).setCell ⟨g, k + 4, none⟩ x4).setCell ⟨g, k + 5, none⟩ x5).setCell ⟨g, k + 6, none⟩ x6
def set7 (xs : List Value) (k : Nat) (x0 x1 x2 x3 x4 x5 x6 : Value) : List Value := ((((((xs.set k x0).set (k + 1) x1).set (k + 2) x2).set (k + 3) x3).set (k + 4) x4).set (k + 5) x5).set (k + 6) x6
theorem set_right (pre : List Value) (zs : List Value) (i : Nat) (x : Value) : (pre ++ zs).set (pre.length + i) x = pre ++ zs.set i x := by
  rw [List.set_append_right _ _ (Nat.le_add_right _ _), Nat.add_sub_cancel_left]
theorem set7_append (pre : List Value) (z0 z1 z2 z3 z4 z5 z6 x0 x1 x2 x3 x4 x5 x6 : Value) : set7 (pre ++ [z0, z1, z2, z3, z4, z5, z6]) pre.length x0 x1 x2 x3 x4 x5 x6 = pre ++ [x0, x1, x2, x3, x4, x5, x6] := by
  unfold set7
  have h0 := set_right pre [z0, z1, z2, z3, z4, z5, z6] 0 x0
  rw [Nat.add_zero] at h0
  rw [h0, set_right, set_right, set_right, set_right, set_right, set_right]
  rfl
theorem own_put7at {W : World} {base : Nat} {e : TypeId} {size g n cap : Nat} {xs : List Value} (h : W.ownsRow base e size (.slice (some ⟨g, 0, none⟩) n cap) n xs) (k : Nat) (x0 x1 x2 x3 x4 x5 x6 : Value) :
    (put7at W g k x0 x1 x2 x3 x4 x5 x6).ownsRow base e size (.slice (some ⟨g, 0, none⟩) n cap) n (set7 xs k x0 x1 x2 x3 x4 x5 x6) :=
  (World.ownsRow.stored (World.ownsRow.stored (World.ownsRow.stored (World.ownsRow.stored (World.ownsRow.stored (World.ownsRow.stored (h.stored k x0).1 (k + 1) x1).1 (k + 2) x2).1 (k + 3) x3).1 (k + 4) x4).1 (k + 5) x5).1 (k + 6) x6).1
theorem Upd.put7at {S : List Nat} {W0 W : World} {g : Nat} (h : Upd S W0 W) (hg : g ∈ S ∨ W0.heap.size ≤ g) (k : Nat) (x0 x1 x2 x3 x4 x5 x6 : Value) : Upd S W0 (put7at W g k x0 x1 x2 x3 x4 x5 x6) :=
  ((((((h.setCell x0 (p := ⟨g, k, none⟩) hg).setCell x1 (p := ⟨g, k + 1, none⟩) hg).setCell x2 (p := ⟨g, k + 2, none⟩) hg).setCell x3 (p := ⟨g, k + 3, none⟩) hg).setCell x4 (p := ⟨g, k + 4, none⟩) hg).setCell x5 (p := ⟨g, k + 5, none⟩) hg).setCell x6 (p := ⟨g, k + 6, none⟩) hg
theorem Blk.put7at {W : World} {b g : Nat} {cs : List Value} {t : TypeId} (h : Blk W b cs t) (hne : b ≠ g) (k : Nat) (x0 x1 x2 x3 x4 x5 x6 : Value) : Blk (put7at W g k x0 x1 x2 x3 x4 x5 x6) b cs t :=
  ((Upd.refl [g] W).put7at (.inl (by simp)) k x0 x1 x2 x3 x4 x5 x6).blk h (by simpa using hne)
/-- One more, other blocks below turned too. -/
theorem OutRow.add2 {w0 w w' : World} {n : Nat} {v v' : Value} {ds : List Dat} {x : Dat} {cs : List Value} {S : List Nat} {css : List (List Value)}
    (h1 : css.length = ds.length) (h2 : ∀ i, i < ds.length → IsD w (fun b => w0.heap.size ≤ b ∧ v.ownBlock ≠ some b) n (css.getD i []) (ds.getD i default))
    (hx : IsD w (fun b => w0.heap.size ≤ b ∧ v.ownBlock ≠ some b) n cs x) (hu : Upd S w w') (hS : ∀ k, k ∈ S → v.ownBlock = some k ∨ k < w0.heap.size) (hv : v'.ownBlock = v.ownBlock ∨ ∃ g, v'.ownBlock = some g ∧ w.heap.size ≤ g)
    (hO : w'.ownsRow w0.heap.size 27 7 v' (ds.length + 1) (css.flatten ++ cs)) : OutRow w0 w' n v' (ds ++ [x]) := by
  have hm : ∀ {cs : List Value} {d : Dat}, IsD w (fun b => w0.heap.size ≤ b ∧ v.ownBlock ≠ some b) n cs d → IsD w' (fun b => w0.heap.size ≤ b ∧ v'.ownBlock ≠ some b) n cs d := by
    intro cs d h
    refine IsD.map (m := 0) (fun b hb hp => ⟨hp.1, fun e => ?_⟩) (fun b o u hp hc => hu.cell hc (fun hx => ?_)) h
    · rcases hS b hx with h | h
      · exact hp.2 h
      · omega
    · rcases hv with hv | ⟨g, hv, hg⟩
      · exact hp.2 (hv.symm.trans e)
      · rw [hv] at e
        injection e with e
        omega
  refine ⟨css ++ [cs], by simp [h1], fun i hi => ?_, by simpa using hO⟩
  rw [List.length_append, List.length_singleton] at hi
  rw [getD_append, getD_append, h1]
  split
  · rename_i hl
    exact hm (h2 i hl)
  · rename_i hl
    have e : i - ds.length = 0 := by omega
    rw [e]
    exact hm hx
theorem OutRow.noCell {w0 W W' : World} {n : Nat} {v : Value} {ds : List Dat} {row : Option Nat} (h : OutRow w0 W n v ds) (hg : W.grownBy W' row) (hr : ∀ r, row = some r → ∃ o : Obj, W.heap[r]? = some o ∧ o.isCells = false) : OutRow w0 W' n v ds := by
  obtain ⟨css, h1, h2, h3⟩ := h
  have hu : Upd row.toList W W' := Upd.of_grown hg (fun k hk => by simp [hk])
  have hc : ∀ b o v, W.cell? ⟨b, o, none⟩ = some v → W'.cell? ⟨b, o, none⟩ = some v := by
    intro b o v hc
    refine hu.cell hc (fun hx => ?_)
    obtain ⟨ob, e1, e2⟩ := hr b (by simpa using hx)
    obtain ⟨ob', e1', e2'⟩ := cells_of_cell hc
    rw [e1] at e1'
    cases e1'
    rw [e2] at e2'
    cases e2'
  refine ⟨css, h1, fun i hi => IsD.map (m := 0) (fun _ _ hp => hp) (fun b o v _ h => hc b o v h) (h2 i hi), own_upd h3 hu (fun g hg hx => ?_)⟩
  obtain ⟨ob, e1, e2⟩ := hr g (by simpa using hx)
  rcases h3.2 with ⟨rfl, _⟩ | ⟨g', cap, cur, rfl, _, hgg, _⟩
  · cases hg
  · injection hg with hg
    subst hg
    rw [hgg] at e1
    cases e1
    cases e2
theorem Blk.noCell {W W' : World} {b : Nat} {cs : List Value} {t : TypeId} {row : Option Nat} (h : Blk W b cs t) (hg : W.grownBy W' row) (hr : ∀ r, row = some r → ∃ o : Obj, W.heap[r]? = some o ∧ o.isCells = false) : Blk W' b cs t :=
  h.of_eq (hg.block b h.lt (fun e => by
    obtain ⟨o, e1, e2⟩ := hr b e.symm
    rw [show W.heap[b]? = _ from h] at e1
    cases e1
    cases e2))
/-- What the loop over the items leans on. -/
structure NRel (w W4 W : World) (xs : List Value) (n : Nat) (lv : Value) (ds : List Dat) : Prop where
  box : Blk W w.heap.size xs 27
  res : Blk W (w.heap.size + 1) [.int .i64 0, .bool false, .slice none 0 0, .bool false, .string ⟨#[]⟩, .slice none 0 0, .slice none 0 0] 27
  out : Blk W (w.heap.size + 1 + 1) [.int .i64 5, .bool false, .slice none 0 0, .bool false, .string ⟨#[]⟩, lv, .slice none 0 0] 27
  row : OutRow W4 W n lv ds
  upd : Upd [] w W
  lt : W4.heap.size ≤ W.heap.size
theorem NRel.noCell {w W4 W W' : World} {xs : List Value} {n : Nat} {lv : Value} {ds : List Dat} {row : Option Nat} (h : NRel w W4 W xs n lv ds) (hg : W.grownBy W' row) (hr : ∀ r, row = some r → w.heap.size ≤ r ∧ ∃ o : Obj, W.heap[r]? = some o ∧ o.isCells = false) : NRel w W4 W' xs n lv ds :=
  ⟨h.box.noCell hg (fun r e => (hr r e).2), h.res.noCell hg (fun r e => (hr r e).2), h.out.noCell hg (fun r e => (hr r e).2), h.row.noCell hg (fun r e => (hr r e).2),
    h.upd.onto (Upd.of_grown (S := row.toList) hg (fun k hk => by simp [hk])) (fun x hx => (hr x (by simpa using hx)).1), Nat.le_trans h.lt hg.size⟩
theorem NRel.step {w W4 W W' : World} {xs : List Value} {n : Nat} {lv : Value} {ds : List Dat} (h : NRel w W4 W xs n lv ds) (hu : Upd [] W W') : NRel w W4 W' xs n lv ds :=
  ⟨hu.blk h.box (by simp), hu.blk h.res (by simp), hu.blk h.out (by simp), h.row.step hu (by simp), h.upd.then hu, Nat.le_trans h.lt hu.size⟩
theorem KeepsFrom.of_upd {W W' : World} {B : Nat} (h : Upd [] W W') : KeepsFrom B W W' := ⟨h.size, fun k o _ hk _ => (h.block k (Array.getElem?_eq_some_iff.1 hk).1 (by simp)).trans hk⟩
/-- The append of a nought, at a step of a region. -/
theorem step_zero {W4 X : World} {j g0 : Nat} {lv : Value} {xs : List Value} {z0 z1 z2 z3 z4 z5 z6 : Value} {ops : Array Oper} {o : Oper} {a : Act} {K : Act → World → Prop} {Q : Exit → Act → World → Prop} {E : Prop} (hgd : o.guard = none) (s x : Operand)
    (ho : o.op = .call { callee := .builtin .append, args := #[s, x], argTypes := #[25, 25] })
    (hs : a.eval s = lv) (hx : a.eval x = .slice (some ⟨g0, 0, none⟩) 1 1)
    (hO : X.ownsRow W4.heap.size 27 7 lv j xs) (hB : Blk X g0 [z0, z1, z2, z3, z4, z5, z6] 27) (h1 : ∀ u ∈ [z0, z1, z2, z3, z4, z5, z6], u.oneCell' = true) (hj : j ≤ 100000) (hb : W4.heap.size ≤ X.heap.size)
    (h : ∀ g cap w10, w10.ownsRow W4.heap.size 27 7 (.slice (some ⟨g, 0, none⟩) (j + 1) cap) (j + 1) (xs ++ [z0, z1, z2, z3, z4, z5, z6]) → X.grownBy w10 lv.ownBlock → (lv.ownBlock = some g ∨ g = X.heap.size) → K (a.put o.dst (.slice (some ⟨g, 0, none⟩) (j + 1) cap)) w10) :
    if Region.wanted o (yielded ops a.tmps) = true then Oper.wp Try.prog o a X K Q else E := by
  obtain ⟨i0, hi, hz0, hz1, hz2⟩ := info_parts info_dat
  exact step_append_lies _ hgd s x 25 ho W4.heap.size 27 i0 _ 7 112 Try.underlying25 hi hz0 hz1 hz2 (by rfl) (by decide) lv j xs hs hO ⟨g0, 0, none⟩ 1 1 [z0, z1, z2, z3, z4, z5, z6] hx (by rfl) (World.news_of_block hB) h1 (by omega) (by unfold maxLen; omega) (by omega) hb _ rfl (fun g cap w10 hown hgr hg _ => h g cap w10 hown hgr hg)
/-- The cells of the new element. -/
theorem own_last {w : World} {base : Nat} {e : TypeId} {g n cap k : Nat} {xs : List Value} {z0 z1 z2 z3 z4 z5 z6 : Value} (h : w.ownsRow base e 7 (.slice (some ⟨g, 0, none⟩) n cap) n (xs ++ [z0, z1, z2, z3, z4, z5, z6])) (hk : xs.length = k) :
    w.cell? ⟨g, k, none⟩ = some z0 ∧ w.cell? ⟨g, k + 1, none⟩ = some z1 ∧ w.cell? ⟨g, k + 2, none⟩ = some z2 ∧ w.cell? ⟨g, k + 3, none⟩ = some z3 ∧ w.cell? ⟨g, k + 4, none⟩ = some z4 ∧ w.cell? ⟨g, k + 5, none⟩ = some z5 ∧ w.cell? ⟨g, k + 6, none⟩ = some z6 := by
  have hc : ∀ i u, [z0, z1, z2, z3, z4, z5, z6][i]? = some u → w.cell? ⟨g, k + i, none⟩ = some u := by
    intro i u hi
    have := h.cells (g := g) rfl (k + i) u (by rw [← hk, List.getElem?_append_right (Nat.le_add_right _ _), Nat.add_sub_cancel_left]; exact hi)
    rwa [show (⟨g, 0, none⟩ : Addr).add (k + i) = ⟨g, k + i, none⟩ by unfold Addr.add; split <;> simp_all] at this
  exact ⟨hc 0 _ rfl, hc 1 _ rfl, hc 2 _ rfl, hc 3 _ rfl, hc 4 _ rfl, hc 5 _ rfl, hc 6 _ rfl⟩
/-- Behind a round. -/
theorem nrel_fin {w W4 W X W' : World} {xs7 : List Value} {n g cap j : Nat} {lv : Value} {ds : List Dat} {x : Dat} {css : List (List Value)} {cs : List Value} (hR : NRel w W4 W xs7 n lv ds) (hj : ds.length = j) (hz4 : w.heap.size + 1 + 1 < W4.heap.size)
    (k1 : css.length = ds.length) (k2 : ∀ i, i < ds.length → IsD W (fun b => W4.heap.size ≤ b ∧ lv.ownBlock ≠ some b) n (css.getD i []) (ds.getD i default)) (hlo : ∀ k, lv.ownBlock = some k → W4.heap.size ≤ k ∧ k < W.heap.size)
    (hX : Upd [] W X) (hD : IsD X (fun b => W.heap.size ≤ b) n cs x) (hu : Upd ((w.heap.size + 1 + 1) :: lv.ownBlock.toList) X W') (hg : lv.ownBlock = some g ∨ g = X.heap.size)
    (hO : W'.ownsRow W4.heap.size 27 7 (.slice (some ⟨g, 0, none⟩) (j + 1) cap) (j + 1) (css.flatten ++ cs))
    (hout : Blk W' (w.heap.size + 1 + 1) [.int .i64 5, .bool false, .slice none 0 0, .bool false, .string ⟨#[]⟩, .slice (some ⟨g, 0, none⟩) (j + 1) cap, .slice none 0 0] 27) :
    (KeepsFrom W4.heap.size W W' ∧ Below w.heap.size W W') ∧ NRel w W4 W' xs7 n (.slice (some ⟨g, 0, none⟩) (j + 1) cap) (ds ++ [x]) := by
  have hWX := hX.size
  have hsz := hR.upd.size
  have hn : ∀ b, b < W4.heap.size → b ≠ w.heap.size + 1 + 1 → b ∉ (w.heap.size + 1 + 1) :: lv.ownBlock.toList := by
    intro b hb hne hx
    rcases List.mem_cons.1 hx with h | h
    · exact hne h
    · have := (hlo b (by simpa using h)).1
      omega
  have hUW : Upd ((w.heap.size + 1 + 1) :: lv.ownBlock.toList) W W' := (hX.mono (by simp)).then hu
  refine ⟨⟨⟨hUW.size, fun k o hk hko hc => ?_⟩, Below.mk hUW.os hUW.tape hUW.output hUW.size (fun k hk => hUW.block k (by omega) (hn k (by omega) (by omega)))⟩, hUW.blk hR.box (hn _ (by omega) (by omega)), hUW.blk hR.res (hn _ (by omega) (by omega)), hout, ?_, ?_, Nat.le_trans hR.lt hUW.size⟩
  · refine (hUW.block k (Array.getElem?_eq_some_iff.1 hko).1 (fun hx => ?_)).trans hko
    rcases List.mem_cons.1 hx with h | h
    · omega
    · have hk' : lv.ownBlock = some k := by simpa using h
      obtain ⟨css', _, _, h3⟩ := hR.row
      rcases h3.2 with ⟨rfl, _⟩ | ⟨g', cap', cur, rfl, _, hgg, _⟩
      · cases hk'
      · injection hk' with hk'
        subst hk'
        rw [hgg] at hko
        cases hko
        cases hc
  · refine OutRow.add2 (w := X) k1 (fun i hi => (k2 i hi).upd hX) (hD.mono fun b _ hp => ⟨by have := hR.lt; omega, fun e => by have := (hlo b e).2; omega⟩) hu (fun k hk => ?_) ?_ (by rw [hj]; exact hO)
    · rcases List.mem_cons.1 hk with h | h
      · exact .inr (by omega)
      · exact .inl (by simpa using h)
    · rcases hg with h | h
      · exact .inl h.symm
      · exact .inr ⟨g, rfl, by omega⟩
  · refine (hR.upd.then hX).onto hu (fun k hk => ?_)
    rcases List.mem_cons.1 hk with h | h
    · omega
    · have := (hlo k (by simpa using h)).1
      omega
theorem own_blk {g g' : Nat} {m c : Nat} (h : (Value.slice (some ⟨g, 0, none⟩) m c).ownBlock = some g') : g = g' := by
  injection h
theorem leafA {w W4 W X w10 : World} {xs7 : List Value} {n g cap j k : Nat} {lv : Value} {ds : List Dat} {x : Dat} {css : List (List Value)} {y0 y1 y2 y3 y4 y5 y6 z0 z1 z2 z3 z4 z5 z6 : Value} (hR : NRel w W4 W xs7 n lv ds) (hj : ds.length = j) (hz4 : w.heap.size + 1 + 1 < W4.heap.size)
    (k1 : css.length = ds.length) (k2 : ∀ i, i < ds.length → IsD W (fun b => W4.heap.size ≤ b ∧ lv.ownBlock ≠ some b) n (css.getD i []) (ds.getD i default)) (hlo : ∀ k, lv.ownBlock = some k → W4.heap.size ≤ k ∧ k < W.heap.size)
    (hX : Upd [] W X) (hD : IsD X (fun b => W.heap.size ≤ b) n [y0, y1, y2, y3, y4, y5, y6] x) (hgr : X.grownBy w10 lv.ownBlock) (hg : lv.ownBlock = some g ∨ g = X.heap.size)
    (hO : w10.ownsRow W4.heap.size 27 7 (.slice (some ⟨g, 0, none⟩) (j + 1) cap) (j + 1) (css.flatten ++ [z0, z1, z2, z3, z4, z5, z6])) (hk : css.flatten.length = k)
    (hB : Blk w10 (w.heap.size + 1 + 1) [.int .i64 5, .bool false, .slice none 0 0, .bool false, .string ⟨#[]⟩, lv, .slice none 0 0] 27) :
    (KeepsFrom W4.heap.size W ((put7at w10 g k y0 y1 y2 y3 y4 y5 y6).setCell ⟨w.heap.size + 1 + 1, 5, none⟩ (.slice (some ⟨g, 0, none⟩) (j + 1) cap)) ∧ Below w.heap.size W ((put7at w10 g k y0 y1 y2 y3 y4 y5 y6).setCell ⟨w.heap.size + 1 + 1, 5, none⟩ (.slice (some ⟨g, 0, none⟩) (j + 1) cap))) ∧ NRel w W4 ((put7at w10 g k y0 y1 y2 y3 y4 y5 y6).setCell ⟨w.heap.size + 1 + 1, 5, none⟩ (.slice (some ⟨g, 0, none⟩) (j + 1) cap)) xs7 n (.slice (some ⟨g, 0, none⟩) (j + 1) cap) (ds ++ [x]) := by
  have hng : w.heap.size + 1 + 1 ≠ g := by
    rcases hg with h | h
    · have := (hlo g h).1
      omega
    · have := hX.size
      have := hR.lt
      omega
  have hgS : g ∈ (w.heap.size + 1 + 1) :: lv.ownBlock.toList ∨ X.heap.size ≤ g := by
    rcases hg with h | h
    · exact .inl (by rw [h]; simp)
    · exact .inr (by omega)
  have hu10 : Upd ((w.heap.size + 1 + 1) :: lv.ownBlock.toList) X w10 := Upd.of_grown hgr (fun k hk => by rw [hk]; simp)
  subst hk
  have h1 := own_put7at hO css.flatten.length y0 y1 y2 y3 y4 y5 y6
  rw [set7_append] at h1
  exact nrel_fin hR hj hz4 k1 k2 hlo hX hD ((hu10.put7at hgS css.flatten.length y0 y1 y2 y3 y4 y5 y6).setCell (.slice (some ⟨g, 0, none⟩) (j + 1) cap) (p := ⟨w.heap.size + 1 + 1, 5, none⟩) (.inl (by simp))) hg
    (own_upd h1 ((Upd.refl [w.heap.size + 1 + 1] _).setCell (.slice (some ⟨g, 0, none⟩) (j + 1) cap) (p := ⟨w.heap.size + 1 + 1, 5, none⟩) (.inl (by simp))) (fun g' hg' hx => hng ((own_blk hg').trans (by simpa using hx)).symm))
    ((hB.put7at hng css.flatten.length y0 y1 y2 y3 y4 y5 y6).set 5 (.slice (some ⟨g, 0, none⟩) (j + 1) cap))
theorem leafB {w W4 W X w10 : World} {xs7 : List Value} {n g cap j k : Nat} {lv : Value} {ds : List Dat} {x : Dat} {css : List (List Value)} {y0 y1 y2 y3 y4 y5 y6 z0 z1 z2 z3 z4 z5 z6 : Value} (hR : NRel w W4 W xs7 n lv ds) (hj : ds.length = j) (hz4 : w.heap.size + 1 + 1 < W4.heap.size)
    (k1 : css.length = ds.length) (k2 : ∀ i, i < ds.length → IsD W (fun b => W4.heap.size ≤ b ∧ lv.ownBlock ≠ some b) n (css.getD i []) (ds.getD i default)) (hlo : ∀ k, lv.ownBlock = some k → W4.heap.size ≤ k ∧ k < W.heap.size)
    (hX : Upd [] W X) (hD : IsD X (fun b => W.heap.size ≤ b) n [y0, y1, y2, y3, y4, y5, y6] x) (hgr : X.grownBy w10 lv.ownBlock) (hg : lv.ownBlock = some g ∨ g = X.heap.size)
    (hO : w10.ownsRow W4.heap.size 27 7 (.slice (some ⟨g, 0, none⟩) (j + 1) cap) (j + 1) (css.flatten ++ [z0, z1, z2, z3, z4, z5, z6])) (hk : css.flatten.length = k)
    (hB : Blk w10 (w.heap.size + 1 + 1) [.int .i64 5, .bool false, .slice none 0 0, .bool false, .string ⟨#[]⟩, lv, .slice none 0 0] 27) :
    (KeepsFrom W4.heap.size W (put7at (w10.setCell ⟨w.heap.size + 1 + 1, 5, none⟩ (.slice (some ⟨g, 0, none⟩) (j + 1) cap)) g k y0 y1 y2 y3 y4 y5 y6) ∧ Below w.heap.size W (put7at (w10.setCell ⟨w.heap.size + 1 + 1, 5, none⟩ (.slice (some ⟨g, 0, none⟩) (j + 1) cap)) g k y0 y1 y2 y3 y4 y5 y6)) ∧ NRel w W4 (put7at (w10.setCell ⟨w.heap.size + 1 + 1, 5, none⟩ (.slice (some ⟨g, 0, none⟩) (j + 1) cap)) g k y0 y1 y2 y3 y4 y5 y6) xs7 n (.slice (some ⟨g, 0, none⟩) (j + 1) cap) (ds ++ [x]) := by
  have hng : w.heap.size + 1 + 1 ≠ g := by
    rcases hg with h | h
    · have := (hlo g h).1
      omega
    · have := hX.size
      have := hR.lt
      omega
  have hgS : g ∈ (w.heap.size + 1 + 1) :: lv.ownBlock.toList ∨ X.heap.size ≤ g := by
    rcases hg with h | h
    · exact .inl (by rw [h]; simp)
    · exact .inr (by omega)
  have hu10 : Upd ((w.heap.size + 1 + 1) :: lv.ownBlock.toList) X w10 := Upd.of_grown hgr (fun k hk => by rw [hk]; simp)
  subst hk
  have h1 := own_put7at (own_upd hO ((Upd.refl [w.heap.size + 1 + 1] w10).setCell (.slice (some ⟨g, 0, none⟩) (j + 1) cap) (p := ⟨w.heap.size + 1 + 1, 5, none⟩) (.inl (by simp))) (fun g' hg' hx => hng ((own_blk hg').trans (by simpa using hx)).symm)) css.flatten.length y0 y1 y2 y3 y4 y5 y6
  rw [set7_append] at h1
  exact nrel_fin hR hj hz4 k1 k2 hlo hX hD ((hu10.setCell (.slice (some ⟨g, 0, none⟩) (j + 1) cap) (p := ⟨w.heap.size + 1 + 1, 5, none⟩) (.inl (by simp))).put7at hgS css.flatten.length y0 y1 y2 y3 y4 y5 y6) hg h1
    ((hB.set 5 (.slice (some ⟨g, 0, none⟩) (j + 1) cap)).put7at hng css.flatten.length y0 y1 y2 y3 y4 y5 y6)
theorem IsD.noCell {W W' : World} {P : Nat → Prop} {n : Nat} {cs : List Value} {d : Dat} {row : Option Nat} (h : IsD W P n cs d) (hg : W.grownBy W' row) (hr : ∀ r, row = some r → ∃ o : Obj, W.heap[r]? = some o ∧ o.isCells = false) : IsD W' P n cs d := by
  have hu : Upd row.toList W W' := Upd.of_grown hg (fun k hk => by simp [hk])
  refine IsD.map (m := 0) (fun _ _ hp => hp) (fun b o v _ hc => hu.cell hc (fun hx => ?_)) h
  obtain ⟨ob, e1, e2⟩ := hr b (by simpa using hx)
  obtain ⟨ob', e1', e2'⟩ := cells_of_cell hc
  rw [e1] at e1'
  cases e1'
  rw [e2] at e2'
  cases e2'
/-- The function leaves: the loop's block is shut. -/
theorem norm_close {w W9 : World} {n D2 : Nat} {d : Dat} {x0 x1 x2 x3 x4 x5 x6 : Value} {ds : Option (List Deferred)} (hres : Blk W9 (w.heap.size + 1) [.int .i64 0, .bool false, .slice none 0 0, .bool false, .string ⟨#[]⟩, .slice none 0 0, .slice none 0 0] 27) (hupd : Upd [] w W9)
    (hisd : IsD W9 (fun b => w.heap.size + 3 ≤ b) n [x0, x1, x2, x3, x4, x5, x6] d) (hK : W9.heap[D2]? = some (.deferred ds)) (hD2 : w.heap.size + 3 ≤ D2) :
    (put7 W9 (w.heap.size + 1) x0 x1 x2 x3 x4 x5 x6).heap[D2]? = some (.deferred ds) ∧
    Blk ((put7 W9 (w.heap.size + 1) x0 x1 x2 x3 x4 x5 x6).putObj D2 (.deferred none)) (w.heap.size + 1) [x0, x1, x2, x3, x4, x5, x6] 27 ∧
    NormPost w n d (.returned (.agg #[x0, x1, x2, x3, x4, x5, x6])) ((put7 W9 (w.heap.size + 1) x0 x1 x2 x3 x4 x5 x6).putObj D2 (.deferred none)) := by
  have hk : (put7 W9 (w.heap.size + 1) x0 x1 x2 x3 x4 x5 x6).heap[D2]? = some (.deferred ds) :=
    (((Upd.refl [w.heap.size + 1] W9).put7 (.inl (by simp)) x0 x1 x2 x3 x4 x5 x6).block D2 (Array.getElem?_eq_some_iff.1 hK).1 (by simp; omega)).trans hK
  have hg := grownBy_putObj' (put7 W9 (w.heap.size + 1) x0 x1 x2 x3 x4 x5 x6) D2 (.deferred none)
  have hr : ∀ r, some D2 = some r → ∃ o : Obj, (put7 W9 (w.heap.size + 1) x0 x1 x2 x3 x4 x5 x6).heap[r]? = some o ∧ o.isCells = false := fun r e => by
    injection e with e
    subst e
    exact ⟨_, hk, rfl⟩
  refine ⟨hk, (hres.put7 _ _ _ _ _ _ _).noCell hg hr, ⟨[x0, x1, x2, x3, x4, x5, x6], rfl, ?_⟩, ?_⟩
  · exact IsD.noCell ((hisd.put7 (w.heap.size + 1) (fun k hk => by omega) _ _ _ _ _ _ _).mono fun b _ hp => by omega) hg hr
  · exact (hupd.put7 (.inr (Nat.le_succ _)) _ _ _ _ _ _ _).onto (Upd.of_grown (S := [D2]) hg (fun k hk => by simpa [eq_comm] using hk)) (fun x hx => by simp at hx; omega)
theorem items_le {w : World} {P : Nat → Prop} {n : Nat} {cs : List Value} {d : Dat} (h : IsD w P n cs d) : d.items.length ≤ szN n d := by
  cases n with
  | zero => exact h.elim
  | succ n =>
    have := len_le_szL (szN_pos n) d.items
    rw [szN]
    omega
/-- A region that ends as it should, or not at all. -/
def onlyN (Q : Exit → Act → World → Prop) : Exit → Act → World → Prop
  | .normal, a, w => Q .normal a w
  | _, _, _ => False
theorem onlyN_imp (Q : Exit → Act → World → Prop) : ∀ e a w, onlyN Q e a w → Q e a w
  | .normal, _, _, h => h
  | .ret, _, _, h => h.elim
  | .exit _, _, _, h => h.elim
  | .goto _, _, _, h => h.elim
  | .panic _, _, _, h => h.elim
  | .outgrown, _, _, h => h.elim
end Go.Proofs.Ythmpaepdbjldfaa
