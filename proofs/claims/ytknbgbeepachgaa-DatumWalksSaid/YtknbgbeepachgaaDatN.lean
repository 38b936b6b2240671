/-
  datum.norm.
-/
import Derived.Test.YtknbgbeepachgaaDatZ
import Derived.Test.YtknbgbeepachgaaDatV
namespace Go.Proofs.Ytknbgbeepachgaa
open Go.RowKit

theorem normD_num (n : Nat) (ng : Bool) (ls : List Int) (bb : Bool) (ss : ByteArray) (is ts : List Dat) : normD (n + 1) (.mk 1 ng ls bb ss is ts) = .mk 1 (ng && decide (0 < (trimL ls).length)) (trimL ls) false ByteArray.empty [] [] := by
  rw [normD]
  exact if_pos rfl
theorem normD_bool (n : Nat) (ng : Bool) (ls : List Int) (bb : Bool) (ss : ByteArray) (is ts : List Dat) : normD (n + 1) (.mk 2 ng ls bb ss is ts) = .mk 2 false [] bb ByteArray.empty [] [] := by
  rw [normD]
  simp [Dat.kind, Dat.b]
theorem normD_text (n : Nat) {kd : Int} (hk : kd = 3 ∨ kd = 4) (ng : Bool) (ls : List Int) (bb : Bool) (ss : ByteArray) (is ts : List Dat) : normD (n + 1) (.mk kd ng ls bb ss is ts) = .mk kd false [] false ss [] [] := by
  rw [normD]
  rcases hk with rfl | rfl <;> simp [Dat.kind, Dat.s]
theorem normD_list (n : Nat) (ng : Bool) (ls : List Int) (bb : Bool) (ss : ByteArray) (is ts : List Dat) : normD (n + 1) (.mk 5 ng ls bb ss is ts) = if ts = [] then .mk 5 false [] false ByteArray.empty (is.map (normD n)) [] else joinD (is.map (normD n)) (normD n (ts.getD 0 default)) := by
  rw [normD]
  simp [Dat.kind, Dat.items, Dat.tail]
theorem normD_other (n : Nat) {kd : Int} (h1 : kd ≠ 1) (h2 : kd ≠ 2) (h3 : kd ≠ 3) (h4 : kd ≠ 4) (h5 : kd ≠ 5) (ng : Bool) (ls : List Int) (bb : Bool) (ss : ByteArray) (is ts : List Dat) : normD (n + 1) (.mk kd ng ls bb ss is ts) = .mk kd false [] false ByteArray.empty [] [] := by
  rw [normD]
  simp [Dat.kind, h1, h2, h3, h4, h5]
/-- What norm answers. -/
def NormPost (w : World) (n : Nat) (d : Dat) (e : Ending) (w' : World) : Prop :=
  (∃ cs', e = .returned (.agg cs'.toArray) ∧ IsD w' (fun b => w.heap.size ≤ b) n cs' d) ∧ Upd [] w w'
def NormSaid (n : Nat) : Prop := ∀ (P : Nat → Prop) (d : Dat) (cs : List Value) (w : World), IsD w P n cs d → szN n d ≤ 100000 →
    Calls Try.prog 22 #[.agg cs.toArray] w (NormPost w n (normD n d))
theorem Blk.seven {W : World} {b : Nat} {t : TypeId} {y0 y1 y2 y3 y4 y5 y6 : Value} (h : Blk W b [y0, y1, y2, y3, y4, y5, y6] t) :
    W.cell? ⟨b, 0, none⟩ = some y0 ∧ W.cell? ⟨b, 1, none⟩ = some y1 ∧ W.cell? ⟨b, 2, none⟩ = some y2 ∧ W.cell? ⟨b, 3, none⟩ = some y3 ∧ W.cell? ⟨b, 4, none⟩ = some y4 ∧ W.cell? ⟨b, 5, none⟩ = some y5 ∧ W.cell? ⟨b, 6, none⟩ = some y6 :=
  ⟨h.cell_some rfl, h.cell_some rfl, h.cell_some rfl, h.cell_some rfl, h.cell_some rfl, h.cell_some rfl, h.cell_some rfl⟩
theorem Blk.frees {W : World} {b : Nat} {t : TypeId} {cs : List Value} (h : Blk W b cs t) :
    W.frozen? ⟨b, 0, none⟩ = false ∧ W.frozen? ⟨b, 1, none⟩ = false ∧ W.frozen? ⟨b, 2, none⟩ = false ∧ W.frozen? ⟨b, 3, none⟩ = false ∧ W.frozen? ⟨b, 4, none⟩ = false ∧ W.frozen? ⟨b, 5, none⟩ = false ∧ W.frozen? ⟨b, 6, none⟩ = false :=
  ⟨h.free 0, h.free 1, h.free 2, h.free 3, h.free 4, h.free 5, h.free 6⟩
/-- What stands at the beginning. -/
structure NBeg (w W : World) (kd : Int) (xs : List Value) : Prop where
  box : Blk W w.heap.size xs 27
  res : Blk W (w.heap.size + 1) [.int .i64 0, .bool false, .slice none 0 0, .bool false, .string ⟨#[]⟩, .slice none 0 0, .slice none 0 0] 27
  out : Blk W (w.heap.size + 1 + 1) [.int .i64 kd, .bool false, .slice none 0 0, .bool false, .string ⟨#[]⟩, .slice none 0 0, .slice none 0 0] 27
  upd : Upd [] w W
theorem NBeg.new (w : World) (kd : Int) (xs : List Value) : NBeg w (((w.alloc (.cells xs.toArray 27)).alloc (.cells #[.int .i64 0, .bool false, .slice none 0 0, .bool false, .string ⟨#[]⟩, .slice none 0 0, .slice none 0 0] 27)).alloc (.cells #[.int .i64 kd, .bool false, .slice none 0 0, .bool false, .string ⟨#[]⟩, .slice none 0 0, .slice none 0 0] 27)) kd xs :=
  ⟨((Blk.new w xs _).alloc _).alloc _, (Blk.newAt (by simp)).alloc _, Blk.newAt (by simp), (((Upd.refl [] w).alloc _).alloc _).alloc _⟩
theorem NBeg.step {w W W' : World} {kd : Int} {xs : List Value} (h : NBeg w W kd xs) (hu : Upd [] W W') : NBeg w W' kd xs :=
  ⟨hu.blk h.box (by simp), hu.blk h.res (by simp), hu.blk h.out (by simp), h.upd.then hu⟩
/-- What stands at the end: out's cells are stored into the result's box. -/
structure NEnd (w W : World) (n : Nat) (d : Dat) (x0 x1 x2 x3 x4 x5 x6 : Value) : Prop where
  out : Blk W (w.heap.size + 1 + 1) [x0, x1, x2, x3, x4, x5, x6] 27
  res : Blk W (w.heap.size + 1) [.int .i64 0, .bool false, .slice none 0 0, .bool false, .string ⟨#[]⟩, .slice none 0 0, .slice none 0 0] 27
  upd : Upd [] w W
  isd : IsD W (fun b => w.heap.size + 3 ≤ b) n [x0, x1, x2, x3, x4, x5, x6] d
theorem NEnd.fin {w W : World} {n : Nat} {d : Dat} {x0 x1 x2 x3 x4 x5 x6 : Value} (h : NEnd w W n d x0 x1 x2 x3 x4 x5 x6) :
    Blk (put7 W (w.heap.size + 1) x0 x1 x2 x3 x4 x5 x6) (w.heap.size + 1) [x0, x1, x2, x3, x4, x5, x6] 27 ∧ NormPost w n d (.returned (.agg #[x0, x1, x2, x3, x4, x5, x6])) (put7 W (w.heap.size + 1) x0 x1 x2 x3 x4 x5 x6) :=
  ⟨h.res.put7 _ _ _ _ _ _ _, ⟨[x0, x1, x2, x3, x4, x5, x6], rfl, (h.isd.put7 (w.heap.size + 1) (fun k hk => by omega) _ _ _ _ _ _ _).mono fun b _ hp => by omega⟩, h.upd.put7 (.inr (Nat.le_succ _)) _ _ _ _ _ _ _⟩
/-- A datum without lists. -/
theorem isd_flat {W : World} {P : Nat → Prop} {n : Nat} {kd : Int} {ng : Bool} {ls : List Int} {bb : Bool} {ss : ByteArray} {aL : Option Addr} {cL : Nat} (hk : -9223372036854775808 ≤ kd ∧ kd ≤ 9223372036854775807) (hL : LimbsOf W P aL ls) (hx : ∀ x ∈ ls, 0 ≤ x ∧ x < 4294967296) (hl : ls.length ≤ 35184372088832) (hc : ls.length ≤ cL) (hs : ss.size ≤ 140737488351232) :
    IsD W P (n + 1) [.int .i64 kd, .bool ng, .slice aL ls.length cL, .bool bb, .string ss, .slice none 0 0, .slice none 0 0] (.mk kd ng ls bb ss [] []) :=
  ⟨aL, cL, none, 0, none, 0, rfl, hL, fun i hi => absurd hi (by simp [Dat.items]), fun i hi => absurd hi (by simp [Dat.tail]), ⟨hc, by simp [Dat.items], by simp [Dat.tail]⟩, hk, hx, hl, hs, by simp [Dat.items], by simp [Dat.tail]⟩
theorem isd_flat0 {W : World} {P : Nat → Prop} {n : Nat} {kd : Int} {bb : Bool} {ss : ByteArray} (hk : -9223372036854775808 ≤ kd ∧ kd ≤ 9223372036854775807) (hs : ss.size ≤ 140737488351232) :
    IsD W P (n + 1) [.int .i64 kd, .bool false, .slice none 0 0, .bool bb, .string ss, .slice none 0 0, .slice none 0 0] (.mk kd false [] bb ss [] []) :=
  isd_flat (aL := none) (cL := 0) (ls := []) hk (fun i hi => absurd hi (by simp)) (by simp) (by simp) (by simp) hs
theorem norm_flat {w : World} {n : Nat} {d : Dat} (bx : Array Value) (x0 x1 x2 x3 x4 x5 x6 : Value) (hD : ∀ (W : World) (P : Nat → Prop), IsD W P n [x0, x1, x2, x3, x4, x5, x6] d) :
    Blk (((w.alloc (.cells bx 27)).alloc (.cells #[x0, x1, x2, x3, x4, x5, x6] 27)).alloc (.cells #[x0, x1, x2, x3, x4, x5, x6] 27)) (w.heap.size + 1) [x0, x1, x2, x3, x4, x5, x6] 27 ∧
    NormPost w n d (.returned (.agg #[x0, x1, x2, x3, x4, x5, x6])) (((w.alloc (.cells bx 27)).alloc (.cells #[x0, x1, x2, x3, x4, x5, x6] 27)).alloc (.cells #[x0, x1, x2, x3, x4, x5, x6] 27)) :=
  ⟨(Blk.newAt (by simp)).alloc _, ⟨[x0, x1, x2, x3, x4, x5, x6], rfl, hD _ _⟩, (((Upd.refl [] w).alloc _).alloc _).alloc _⟩
set_option maxRecDepth 100000 in
set_option maxHeartbeats 1500000 in
theorem norm_flats (n : Nat) (P : Nat → Prop) (d : Dat) (cs : List Value) (w : World) (h : IsD w P (n + 1) cs d) (hk5 : d.kind ≠ 5) :
    Calls Try.prog 22 #[.agg cs.toArray] w (NormPost w (n + 1) (normD (n + 1) d)) := by
  obtain ⟨aL, cL, aI, cI, aT, cT, rfl, l1, r1, r2, hcap, hbd⟩ := h
  obtain ⟨kd, ng, ls, bb, ss, is, ts⟩ := d
  simp only [Dat.kind, Dat.neg, Dat.limbs, Dat.b, Dat.s, Dat.items, Dat.tail] at *
  have HL := Lib.hid l1
  have HI := Lib.hid r1
  have HT := Lib.hid r2
  have HC := Lib.hid hcap
  have HB := Lib.hid hbd
  clear l1 r1 r2 hcap hbd
  obtain ⟨D, hD⟩ : ∃ D, D = normD (n + 1) (.mk kd ng ls bb ss is ts) := ⟨_, rfl⟩
  rw [← hD]
  have hND := Lib.hid hD
  clear hD
  unfold datCells
  refine callsIn_wide.1 (callsIn_of_wp_marks (n := 5) Try.func22 rfl trivial (wpIn_wide.2 ?_) rfl)
  simp only [Try.ntmps22, List.size_toArray, List.length_cons, List.length_nil, Nat.reduceAdd, Nat.reduceSub, Array.replicate_succ, Array.replicate_zero, List.push_toArray, List.append_toArray, List.nil_append, List.cons_append]
  by_cases hk1 : kd = 1
  · subst hk1
    have hD : D = .mk 1 (ng && decide (0 < (trimL ls).length)) (trimL ls) false ByteArray.empty [] [] := by
      rw [hND.out]
      exact normD_num _ _ _ _ _ _ _
    have HD := Lib.hid hD
    clear hND hD
    have hb := NBeg.new w 1 [.int .i64 1, .bool ng, .slice aL ls.length cL, .bool bb, .string ss, .slice aI is.length cI, .slice aT ts.length cT]
    have hN := Lib.hid (wholeNorm_calls ng ls.length cL rfl (HL.out.upd0 hb.upd) HC.out.1 HB.out.2.2.1 HB.out.2.1)
    have HBG := Lib.hid hb
    clear hb
    go_wp2_with fail
    refine hN.out.mono ?_
    rintro e w2 ⟨⟨a2, c2, rfl, hL, hlc⟩, hu2⟩
    have hb2 := HBG.out.step hu2
    obtain ⟨c0, c1, c2', c3, c4, c5, c6⟩ := hb2.out.seven
    obtain ⟨d0, d1, d2, d3, d4, d5, d6⟩ := hb2.res.seven
    obtain ⟨e0, e1, e2, e3, e4, e5, e6⟩ := hb2.res.frees
    have f1 := hb2.out.free 1
    have f2 := hb2.out.free 2
    have HB2 := Lib.hid hb2
    have hsz : ((((w.alloc (.cells #[.int .i64 1, .bool ng, .slice aL ls.length cL, .bool bb, .string ss, .slice aI is.length cI, .slice aT ts.length cT] 27)).alloc (.cells #[.int .i64 0, .bool false, .slice none 0 0, .bool false, .string ⟨#[]⟩, .slice none 0 0, .slice none 0 0] 27)).alloc (.cells #[.int .i64 1, .bool false, .slice none 0 0, .bool false, .string ⟨#[]⟩, .slice none 0 0, .slice none 0 0] 27))).heap.size = w.heap.size + 3 := by simp
    have HLm := Lib.hid (show LimbsOf w2 (fun b => w.heap.size + 3 ≤ b) a2 (trimL ls) from hL.mono (fun b hb => by rw [← hsz]; exact hb))
    have hlt : w.heap.size + 2 < w2.heap.size := hb2.out.lt
    obtain ⟨bv, hbv⟩ : ∃ bv, bv = (ng && decide (0 < (trimL ls).length)) := ⟨_, rfl⟩
    rw [← hbv]
    have HBV := Lib.hid hbv
    clear hN HBG hu2 hL hsz hbv hb2
    have HLC := Lib.hid hlc
    clear hlc
    have hE : NEnd w ((w2.setCell ⟨w.heap.size + 1 + 1, 1, none⟩ (.bool bv)).setCell ⟨w.heap.size + 1 + 1, 2, none⟩ (.slice a2 (trimL ls).length c2)) (n + 1) D (.int .i64 1) (.bool bv) (.slice a2 (trimL ls).length c2) (.bool false) (.string ⟨#[]⟩) (.slice none 0 0) (.slice none 0 0) := by
      refine ⟨(HB2.out.out.set 1 _).set 2 _, (HB2.out.res.set_other _ (by simp)).set_other _ (by simp), (HB2.out.upd.setCell _ (.inr (by simp; omega))).setCell _ (.inr (by simp; omega)), ?_⟩
      rw [HD.out, ← HBV.out]
      have hpre := trimL_prefix ls
      obtain ⟨k, hk, he⟩ := hpre
      have hle : (trimL ls).length ≤ ls.length := by rw [he, List.length_take]; omega
      refine isd_flat (by omega) ((HLm.out.set_other _ _ (fun b hb => by simp; omega)).set_other _ _ (fun b hb => by simp; omega)) (fun x hx => HB.out.2.1 x (by rw [he] at hx; exact List.mem_of_mem_take hx)) (by have := HB.out.2.2.1; omega) HLC.out (by simp [ByteArray.size])
    have HE := Lib.hid hE
    clear hE
    go_wp2
    obtain ⟨hBf, hP⟩ := HE.out.fin
    obtain ⟨k0, k1, k2, k3, k4, k5, k6⟩ := hBf.seven
    refine ⟨_, ?_, hP⟩
    simp [results, Try.results22, go_sem, k0, k1, k2, k3, k4, k5, k6]
  · by_cases hk2 : kd = 2
    · subst hk2
      have hD : D = .mk 2 false [] bb ByteArray.empty [] [] := hND.out.trans (normD_bool _ _ _ _ _ _ _)
      have HD := Lib.hid hD
      clear hND hD
      go_wp2
      obtain ⟨hBf, hP⟩ := norm_flat (w := w) (n := n + 1) (d := D) #[.int .i64 2, .bool ng, .slice aL ls.length cL, .bool bb, .string ss, .slice aI is.length cI, .slice aT ts.length cT] (.int .i64 2) (.bool false) (.slice none 0 0) (.bool bb) (.string ⟨#[]⟩) (.slice none 0 0) (.slice none 0 0) (fun W P => by rw [HD.out]; exact isd_flat0 (by omega) (by simp [ByteArray.size]))
      obtain ⟨k0, k1, k2, k3, k4, k5, k6⟩ := hBf.seven
      refine ⟨_, ?_, hP⟩
      simp [results, Try.results22, go_sem, k0, k1, k2, k3, k4, k5, k6]
    · have hfl : ∀ (ssx : ByteArray), D = .mk kd false [] false ssx [] [] → ssx.size ≤ 140737488351232 → Hid (Blk (((w.alloc (.cells #[.int .i64 kd, .bool ng, .slice aL ls.length cL, .bool bb, .string ss, .slice aI is.length cI, .slice aT ts.length cT] 27)).alloc (.cells #[.int .i64 kd, .bool false, .slice none 0 0, .bool false, .string ssx, .slice none 0 0, .slice none 0 0] 27)).alloc (.cells #[.int .i64 kd, .bool false, .slice none 0 0, .bool false, .string ssx, .slice none 0 0, .slice none 0 0] 27)) (w.heap.size + 1) [.int .i64 kd, .bool false, .slice none 0 0, .bool false, .string ssx, .slice none 0 0, .slice none 0 0] 27 ∧ NormPost w (n + 1) D (.returned (.agg #[.int .i64 kd, .bool false, .slice none 0 0, .bool false, .string ssx, .slice none 0 0, .slice none 0 0])) (((w.alloc (.cells #[.int .i64 kd, .bool ng, .slice aL ls.length cL, .bool bb, .string ss, .slice aI is.length cI, .slice aT ts.length cT] 27)).alloc (.cells #[.int .i64 kd, .bool false, .slice none 0 0, .bool false, .string ssx, .slice none 0 0, .slice none 0 0] 27)).alloc (.cells #[.int .i64 kd, .bool false, .slice none 0 0, .bool false, .string ssx, .slice none 0 0, .slice none 0 0] 27))) :=
        fun ssx e hss => Lib.hid (norm_flat _ _ _ _ _ _ _ _ (fun W P => by rw [e]; exact isd_flat0 HB.out.1 hss))
      by_cases hk3 : kd = 3
      · subst hk3
        have HF := hfl ss (hND.out.trans (normD_text _ (.inl rfl) _ _ _ _ _ _)) HB.out.2.2.2.1
        clear hfl hND
        go_wp2
        obtain ⟨k0, k1, k2, k3, k4, k5, k6⟩ := HF.out.1.seven
        refine ⟨_, ?_, HF.out.2⟩
        simp [results, Try.results22, go_sem, k0, k1, k2, k3, k4, k5, k6]
      · by_cases hk4 : kd = 4
        · subst hk4
          have HF := hfl ss (hND.out.trans (normD_text _ (.inr rfl) _ _ _ _ _ _)) HB.out.2.2.2.1
          clear hfl hND
          go_wp2
          obtain ⟨k0, k1, k2, k3, k4, k5, k6⟩ := HF.out.1.seven
          refine ⟨_, ?_, HF.out.2⟩
          simp [results, Try.results22, go_sem, k0, k1, k2, k3, k4, k5, k6]
        · have HF := hfl ⟨#[]⟩ (hND.out.trans (normD_other _ hk1 hk2 hk3 hk4 hk5 _ _ _ _ _ _)) (by simp [ByteArray.size])
          clear hfl hND
          go_wp2
          obtain ⟨k0, k1, k2, k3, k4, k5, k6⟩ := HF.out.1.seven
          refine ⟨_, ?_, HF.out.2⟩
          simp [results, Try.results22, go_sem, k0, k1, k2, k3, k4, k5, k6]
end Go.Proofs.Ytknbgbeepachgaa
