/-
  Texts of this claim, merged: RcF. Lemmas and contracts; no conditions of our own.
-/
import Derived.Test.YtknbgbeepachgaaDoorG15
import Derived.Test.YtknbgbeepachgaaDoorG18
import Derived.Test.YtknbgbeepachgaaDoorG22
import Derived.Deep.LoopGhost
import Derived.Deep.DeepCutAuto

/-
  CheckCodes, the document's side: a block that is looked at.
-/
namespace Go.Proofs.YtknbgbeepachgaaDoor
open Go.RowKit Go.Shelf

def RBPost (w : World) (base F D nD : Nat) (RR : Int × Flow) (e : Ending) (w' : World) : Prop :=
  e = .returned (.int .i64 RR.1) ∧ Upd [F, D] w w' ∧ (RR.1 < 0 → RS w' base F D nD RR.2 ∧ RR.2.opn = [] ∧ RR.2.bad = false)
theorem RBPost.wrong {w w' : World} {base F D nD : Nat} {RR : Int × Flow} {r : Int} {g : Flow} {e : Ending} (h : RR = (r, g)) (he : e = .returned (.int .i64 r)) (h0 : 0 ≤ r) (hu : Upd [F, D] w w') : RBPost w base F D nD RR e w' := by
  rw [h]
  exact ⟨he, hu, fun hr => by have : r < 0 := hr; omega⟩
theorem RS.cut {w w' : World} {base F D nD : Nat} {f : Flow} {v : Value} {xs : List Int} (h : RS w base F D nD f) (hv : SO w base v xs) (hl : xs.length ≤ 100000) (hw : w' = w.setCell ⟨F, 1, none⟩ v) : RS w' base F D nD { f with opn := xs } ∧ Upd [F, D] w w' := by
  subst hw
  obtain ⟨v0, h1, h2⟩ := h.ex
  have hu : Upd [F] w (w.setCell ⟨F, 1, none⟩ v) := (Upd.refl _ w).setCell (p := ⟨F, 1, none⟩) _ (.inl (by simp))
  have hb := h.F
  exact ⟨⟨⟨v, h1.set 1 v, hv.updS hu (by intro x hx; simp at hx; omega)⟩, h.deep.set_other _ (by simpa using h.ne), h.len, hl, h.F, h.D, by simpa [World.setCell] using h.base⟩, hu.mono (by simp)⟩
theorem oneF_wrong {c : CodeV} {n : Nat} {b : BlkV} {hi : Int} {f : Flow} {i : Nat} {x : InsV} {d : Int} (hx : x = c.ins.getD i default) (hd : d = f.deep.getD i 0) (h : wrongF c n b hi x d = true) : oneF c n b hi f i = (false, f) := by
  unfold oneF
  simp only [Int.toNat_natCast, ← hx, ← hd]
  rw [if_pos h]
theorem oneF_end {c : CodeV} {n : Nat} {b : BlkV} {hi : Int} {f : Flow} {i : Nat} {x : InsV} {d : Int} (hx : x = c.ins.getD i default) (hd : d = f.deep.getD i 0) (h : wrongF c n b hi x d = false) (ho : x.op = 11 ∨ x.op = 10) : oneF c n b hi f i = (decide (d + ((needsF x).2 - (needsF x).1) = 0), f) := by
  unfold oneF
  simp only [Int.toNat_natCast, ← hx, ← hd]
  rw [if_neg (by simp [h]), if_pos ho]
theorem oneF_go {c : CodeV} {n : Nat} {b : BlkV} {hi : Int} {f : Flow} {i : Nat} {x : InsV} {d : Int} (hx : x = c.ins.getD i default) (hd : d = f.deep.getD i 0) (h : wrongF c n b hi x d = false) (hb : f.bad = false) {j78 nx9 : Bool} (h1 : j78 = decide (x.op = 7 ∨ x.op = 8)) (h2 : nx9 = decide (x.op ≠ 7 ∧ x.op ≠ 11 ∧ x.op ≠ 10)) (h3 : ¬ ((x.op = 11 ∨ x.op = 10) ∧ d + ((needsF x).2 - (needsF x).1) ≠ 0)) (f6 f7 : Flow)
    (h6 : f6 = if j78 then comeF b.lo hi f x.a (d + ((needsF x).2 - (needsF x).1)) else f) (h7 : f7 = if nx9 then comeF b.lo hi f6 (i + 1) (d + ((needsF x).2 - (needsF x).1)) else f6) : oneF c n b hi f i = (!f7.bad, f7) := by
  unfold oneF
  simp only [Int.toNat_natCast, ← hx, ← hd]
  rw [if_neg (by simp [h])]
  by_cases he : x.op = 11 ∨ x.op = 10
  · have h0 : d + ((needsF x).2 - (needsF x).1) = 0 := Classical.not_not.1 fun hh => h3 ⟨he, hh⟩
    have e1 : j78 = false := by rw [h1]; exact decide_eq_false (by omega)
    have e2 : nx9 = false := by rw [h2]; exact decide_eq_false (by omega)
    rw [if_pos he, h7, e2, h6, e1]
    simp [hb, h0]
  · rw [if_neg he]
    by_cases h8 : x.op = 7 ∨ x.op = 8
    · have e1 : j78 = true := by rw [h1]; exact decide_eq_true h8
      rw [e1] at h6
      by_cases h9 : x.op = 7
      · have e2 : nx9 = false := by rw [h2]; exact decide_eq_false (by omega)
        rw [h7, e2, h6, if_pos h9, if_pos h8]
        rfl
      · have e2 : nx9 = true := by rw [h2]; exact decide_eq_true (by omega)
        rw [h7, e2, h6, if_neg h9, if_pos h8]
        rfl
    · have e1 : j78 = false := by rw [h1]; exact decide_eq_false h8
      have e2 : nx9 = true := by rw [h2]; exact decide_eq_true (by omega)
      rw [h7, e2, h6, e1, if_neg (by omega), if_neg h8]
      rfl
theorem loop_go {c : CodeV} {n : Nat} {b : BlkV} {hi i : Int} {f fl : Flow} {rest : List Int} {g : Nat} {RR : Int × Flow} (h : RR = loopF c n b hi (g + 1) f) (ho : f.opn = i :: rest) (h1 : oneF c n b hi { f with opn := rest } i = (true, fl)) : RR = loopF c n b hi g fl := by
  rw [h]
  conv => lhs; unfold loopF
  rw [ho]
  simp only [h1, if_true]
theorem loop_stop {c : CodeV} {n : Nat} {b : BlkV} {hi i : Int} {f fl : Flow} {rest : List Int} {g : Nat} {RR : Int × Flow} (h : RR = loopF c n b hi (g + 1) f) (ho : f.opn = i :: rest) (h1 : oneF c n b hi { f with opn := rest } i = (false, fl)) : RR = (i, fl) := by
  rw [h]
  conv => lhs; unfold loopF
  rw [ho]
  simp [h1]
/-- What a round leaves. -/
structure Rnd (w base0 : World) (base F D nD : Nat) (lo hi : Int) (c : CodeV) (j : Nat) (b : BlkV) (RR : Int × Flow) (g : Nat) (fl : Flow) : Prop where
  S : RS w base F D nD fl
  U : Upd [F, D] base0 w
  I : FInv lo hi nD fl
  bad : fl.bad = false
  R : RR = loopF c j b hi g fl
  m1 : muF fl < g
  m2 : muF fl ≤ nD
theorem rnd_of {w base0 : World} {base F D nD : Nat} {lo hi : Int} {c : CodeV} {j : Nat} {b : BlkV} {RR : Int × Flow} {g : Nat} {f fl : Flow} {i : Nat} {rest : List Int} (hlo : b.lo = lo) (h0 : 0 ≤ lo) (hhi : hi ≤ nD) (hdp : b.dp ≤ 100000) (hR : RR = loopF c j b hi (g + 1) f) (hop : f.opn = (i : Int) :: rest) (hb : f.bad = false) (h1 : oneF c j b hi { f with opn := rest } i = (true, fl))
    (hI : FInv lo hi nD { f with opn := rest }) (hm : muF f = muF { f with opn := rest } + 1) (hg : muF f < g + 1) (hn : muF f ≤ nD) (hS : RS w base F D nD fl) (hU : Upd [F, D] base0 w) : Rnd w base0 base F D nD lo hi c j b RR g fl := by
  subst hlo
  have k := hI.one (c := c) (n := j) h0 hhi hdp i hb
  rw [h1] at k
  have k2 : muF fl = muF { f with opn := rest } := k.2.1
  exact ⟨hS, hU, k.1, k.2.2 rfl, loop_go hR hop h1, by omega, by omega⟩
set_option maxRecDepth 100000 in
set_option maxHeartbeats 4000000 in
theorem rblock_calls {w : World} {base F D nD m j : Nat} {aI aB aC : Option Addr} (cI cB cC : Nat) {c : CodeV} {f : Flow} {b : BlkV} {hi : Int} (hbl : b = c.blks.getD j default) (hhi9 : hi = hiF c j) (hS : RS w base F D nD f)
    (hC : ∀ w', Upd [F, D] w w' → IsC w' m aI aB aC c) (hK : CodeOk c) (hj : j < c.blks.length) (hjn : c.blks.length ≤ 100000) (hI : FInv b.lo hi nD f) (hop : f.opn = []) (hb : f.bad = false) (hneg : f.deep.getD b.lo.toNat 0 < 0) (hlt : b.lo < hi)
    (hlo : 0 ≤ b.lo) (hhi : hi ≤ nD) (hnD : nD ≤ 65536) (hdp : b.dp ≤ 100000) (hnI : c.ins.length = nD) (hIF : ∀ bI o, aI = some ⟨bI, o, none⟩ → bI ≠ F ∧ bI ≠ D) :
    Calls Tryd.prog 17 #[.agg #[.slice aI c.ins.length cI, .slice aB c.blks.length cB, .slice aC c.cons.length cC], .int .i64 j, .pointer (some ⟨F, 0, none⟩)] w (RBPost w base F D nD (blockF c j b hi f)) := by
  have hc0 := hC w (Upd.refl _ w)
  obtain ⟨bb, o, eB, y0, y1, y2, y3, y4, y5⟩ := blkAt_get hc0.blks hj
  rw [← hbl] at y0 y1 y2 y3 y4 y5
  have l1 := World.block_lt_of_cell? w _ y0
  simp only at l1
  have l2 : bb < w.heap.size + 1 := by omega
  have l3 : bb < w.heap.size + 1 + 1 := by omega
  have hnx : j + 1 < c.blks.length → w.cell? ⟨bb, o + (j + 1) * 6, none⟩ = some (.int .i64 hi) := by
    intro h
    obtain ⟨bb', o', eB', z0, _⟩ := blkAt_get hc0.blks h
    rw [eB] at eB'
    injection eB' with e
    injection e with e1 e2
    subst e1; subst e2
    rw [z0, hhi9]
    unfold hiF
    rw [if_pos h]
  have hnl : ¬ j + 1 < c.blks.length → (nD : Int) = hi := by
    intro h
    rw [hhi9]
    unfold hiF
    rw [if_neg h, hnI]
  have HC := Lib.hid hC
  have HS := Lib.hid hS
  have HK := Lib.hid hK
  have HI := Lib.hid hI
  obtain ⟨RR, hRR⟩ : ∃ RR, RR = blockF c j b hi f := ⟨_, rfl⟩
  rw [← hRR]
  unfold blockF at hRR
  subst eB
  have hj' : (j : Int) < (c.blks.length : Int) := by omega
  obtain ⟨nB, hnB⟩ : ∃ nB, nB = c.blks.length := ⟨_, rfl⟩
  obtain ⟨nC, hnC⟩ : ∃ nC, nC = c.cons.length := ⟨_, rfl⟩
  rw [← hnB] at hnx hnl hj hjn hj'
  have HNB := Lib.hid hnB
  have HNC := Lib.hid hnC
  rw [hnI, ← hnB, ← hnC]
  have HNI := Lib.hid hnI
  obtain ⟨lo, pr, rest, sl, dp, ou⟩ := b
  simp only at *
  obtain ⟨b9, hb9⟩ : ∃ b9, b9 = c.blks.getD j default := ⟨_, rfl⟩
  have hb8 : b9 = ⟨lo, pr, rest, sl, dp, ou⟩ := by rw [hb9, ← hbl]
  have hlo9 : b9.lo = lo := by rw [hb8]
  have hdp9 : b9.dp = dp := by rw [hb8]
  rw [← hb8] at hRR
  have HRR := Lib.hid hRR
  have HB9 := Lib.hid hb9
  have HB8 := Lib.hid hb8
  have HLO9 := Lib.hid hlo9
  have HDP9 := Lib.hid hdp9
  clear hb9 hb8 hlo9 hdp9
  have HIF := Lib.hid hIF
  have hXF : ¬ w.heap.size = F := by have := hS.F; have := hS.base; omega
  have hXF1 : ¬ w.heap.size + 1 = F := by have := hS.F; have := hS.base; omega
  clear hIF
  have hprr : w.heap.size = w.heap.size := rfl
  have hpre : ∀ nq W, W = ((w.alloc (.cells #[.slice aI nD cI, .slice (some ⟨bb, o, none⟩) nB cB, .slice aC nC cC] 37)).alloc (.cells #[.int .i64 lo, .int .i64 pr, .bool rest, .int .i64 sl, .int .i64 dp, .int .i64 ou] 61)).drewN nq →
      Upd [F, D] w W ∧ RS W base F D nD f ∧ ∀ w', Upd [F, D] W w' → Blk w' w.heap.size [.slice aI nD cI, .slice (some ⟨bb, o, none⟩) nB cB, .slice aC nC cC] 37 ∧ Blk w' (w.heap.size + 1) [.int .i64 lo, .int .i64 pr, .bool rest, .int .i64 sl, .int .i64 dp, .int .i64 ou] 61 := by
    intro nq W hW
    have hF := hS.F
    have hD := hS.D
    have hbs := hS.base
    have hu : ∀ S, Upd S w W := fun S => by rw [hW]; exact (((Upd.refl S w).alloc _).alloc _).drewN nq
    refine ⟨hu _, hS.upd (hu _), fun w' h => ⟨h.blk ?_ (by simp; omega), h.blk ?_ (by simp; omega)⟩⟩
    · rw [hW]; exact ((Blk.newAt rfl).alloc _).drewN nq
    · rw [hW]; exact (Blk.newAt (by simp)).drewN nq
  have HPRE := Lib.hid hpre
  clear hC hS hK hI hRR hbl hnB hnC hnI hc0 hprr hpre hhi9
  go_enter Tryd.func17, Tryd.ntmps17
  go_wp2_with fail
  have y0' : w.cell? ⟨bb, o + j * 6, none⟩ = some (.int .i64 lo) := y0
  go_quiet (fail)
  obtain ⟨W, hW⟩ : ∃ W, W = ((w.alloc (.cells #[.slice aI nD cI, .slice (some ⟨bb, o, none⟩) nB cB, .slice aC nC cC] 37)).alloc (.cells #[.int .i64 lo, .int .i64 pr, .bool rest, .int .i64 sl, .int .i64 dp, .int .i64 ou] 61)).drewN nq := ⟨_, rfl⟩
  obtain ⟨hu1, hS1, hXY⟩ := HPRE.out nq W hW
  have hnx1 : j + 1 < nB → W.cell? ⟨bb, o + (j + 1) * 6, none⟩ = some (.int .i64 hi) := fun h => by
    rw [hW]
    exact (((Upd.refl [] w).alloc _).alloc _).drewN nq |>.cell (hnx h) (by simp)
  rw [← hW]
  clear hW HPRE hnx y0' y0 y1 y2 y3 y4 y5 l1 l2 l3
  generalize w.heap.size = X at *
  have bX := (hXY W (Upd.refl _ W)).1
  have bY := (hXY W (Upd.refl _ W)).2
  have x0 := bX.cell_some (i := 0) rfl
  have x1 := bX.cell_some (i := 1) rfl
  have x2 := bX.cell_some (i := 2) rfl
  have z1 := bY.cell_some (i := 1) rfl
  have z2 := bY.cell_some (i := 2) rfl
  have z3 := bY.cell_some (i := 3) rfl
  have z4 := bY.cell_some (i := 4) rfl
  have HU1 := Lib.hid hu1
  have HS1 := Lib.hid hS1
  have HXY := Lib.hid hXY
  have hcm := rcome_calls (lo := lo) (hi := hi) lo 0 hS1 hlo hhi (by rw [hop]; simp)
  have HCM := Lib.hid hcm
  clear hu1 hS1 hXY bX bY hcm
  have hj2 : (j : Int) + 1 < (nB : Int) ∨ (¬ (j : Int) + 1 < (nB : Int) ∧ (nD : Int) = hi) := by
    by_cases h : j + 1 < nB
    · exact .inl (by omega)
    · exact .inr ⟨by omega, hnl h⟩
  have hq : (Hid (RR = (lo, f)) ∧ (decide (sl < pr) = true ∨ (decide (sl < pr) = false ∧ rest = true ∧ (pr == 0) = true))) ∨
      (Hid (RR = loopF c j b9 hi (nD + 1) (comeF lo hi f lo 0)) ∧ decide (sl < pr) = false ∧ (rest = false ∨ (rest = true ∧ (pr == 0) = false))) := by
    by_cases hbad : sl < pr ∨ (rest = true ∧ pr = 0)
    · refine .inl ⟨Lib.hid (by rw [HRR.out, if_pos hbad]), ?_⟩
      by_cases q1 : sl < pr
      · exact .inl (decide_eq_true q1)
      · rcases hbad with h | h
        · exact absurd h q1
        · exact .inr ⟨decide_eq_false q1, h.1, by simpa using h.2⟩
    · refine .inr ⟨Lib.hid (by rw [HRR.out, if_neg hbad, HNI.out]), decide_eq_false fun h => hbad (.inl h), ?_⟩
      cases rest with
      | false => exact .inl rfl
      | true => exact .inr ⟨rfl, by simpa using fun e => hbad (.inr ⟨rfl, e⟩)⟩
  clear HRR
  go_upto_if 30 with (fail)
  go_cut [9] from 15 to 37 (fun s9 wx => s9 = .int .i64 hi ∧ wx = W)
  case first =>
    rcases hj2 with h2 | ⟨h2, h3⟩
    · have zz := hnx1 (by omega)
      have h4 : (((j : Int) + 1).toNat) = j + 1 := by omega
      clear hnx1 hnl
      go_wp2
      go_meet
      case rel => exact ⟨rfl, rfl⟩
    · clear hnx1 hnl
      go_wp2
      go_meet
      case rel => exact ⟨rfl, rfl⟩
  case rest =>
  obtain ⟨rfl, hwc⟩ := hcut
  rw [hwc]
  clear hwc wc hj2 hnx1 hnl
  obtain ⟨bad9, hbad9⟩ : ∃ bad9, bad9 = decide (sl < pr ∨ (rest = true ∧ pr = 0)) := ⟨_, rfl⟩
  go_upto_region 5 with (fail)
  go_cut [51] from 38 to 51 (fun s51 wx => s51 = .bool bad9 ∧ wx = W)
  case first =>
    rcases hq with ⟨E9, q1 | ⟨q1, rfl, q3⟩⟩ | ⟨HL, q1, rfl | ⟨rfl, q3⟩⟩
    all_goals
      go_wp2
      go_meet
      case rel => exact ⟨by rw [hbad9]; simp_all, rfl⟩
  case rest =>
  obtain ⟨rfl, hwc⟩ := hcut
  rw [hwc]
  clear hwc wc
  cases bad9 with
  | true =>
    have hbad := of_decide_eq_true hbad9.symm
    have hq9 : Hid (RR = (lo, f)) := by
      rcases hq with ⟨E9, _⟩ | ⟨_, q1, q2⟩
      · exact E9
      · rcases hbad with h | ⟨h, h'⟩
        · exact absurd (decide_eq_true h) (by simp [q1])
        · rcases q2 with q2 | ⟨_, q2⟩
          · exact absurd (h.symm.trans q2) (by simp)
          · exact absurd h' (by simpa using q2)
    clear hq hbad9 hbad
    go_wp2
    go_ret
    exact RBPost.wrong hq9.out rfl hlo HU1.out
  | false =>
    have hbad := of_decide_eq_false hbad9.symm
    have HL : Hid (RR = loopF c j b9 hi (nD + 1) (comeF lo hi f lo 0)) := by
      rcases hq with ⟨_, h⟩ | ⟨HL, _⟩
      · refine absurd ?_ hbad
        rcases h with h | ⟨_, h, h'⟩
        · exact .inl (of_decide_eq_true h)
        · exact .inr ⟨h, by simpa using h'⟩
      · exact HL
    clear hq hbad9 hbad
    have hcs : comeF lo hi f lo 0 = ⟨f.deep.set lo.toNat 0, [lo], false⟩ := by
      unfold comeF
      rw [if_neg (by omega), if_pos hneg, hop, hb]
      rfl
    have hi4 := HI.out.come lo (on := 0) (by omega) (by omega)
    have hmu : muF (comeF lo hi f lo 0) ≤ nD := by
      rw [muF_come HI.out hlo hhi _ (by omega)]
      unfold muF
      rw [hop]
      have := List.countP_le_length (p := fun x : Int => decide (x < 0)) (l := f.deep)
      rw [HI.out.len] at this
      simpa using this
    have hbd : (comeF lo hi f lo 0).bad = false := by rw [hcs]
    have HI4 := Lib.hid hi4
    have HBD := Lib.hid hbd
    clear hcs hi4 hbd hneg hop hb HI HS HS1
    generalize comeF lo hi f lo 0 = f4 at *
    go_wp2_with fail
    refine HCM.out.mono ?_
    rintro e w3 ⟨rfl, hS4, hu4⟩
    have HS4 := Lib.hid hS4
    have HU4 := Lib.hid hu4
    clear hS4 hu4 HCM x0 x1 x2 z1 z2 z3 z4
    go_wp2_with fail
    go_loopg [10] (nD + 1) (fun g p wr => ∃ f', Hid (RS wr base F D nD f') ∧ Hid (FInv lo hi nD f') ∧ Hid (f'.bad = false) ∧ Hid (RR = loopF c j b9 hi g f') ∧ muF f' < g ∧ muF f' ≤ nD ∧ Hid (Upd [F, D] W wr))
    case atStart => exact ⟨_, HS4, HI4, HBD, HL, by omega, hmu, HU4⟩
    case round =>
        obtain ⟨f', hS', hI', hb', hR', hmu1, hmu2, hU'⟩ := hrel
        obtain ⟨g', rfl⟩ : ∃ g', gk = g' + 1 := ⟨gk - 1, by omega⟩
        obtain ⟨v', p1, p2⟩ := hS'.out.ex
        obtain ⟨a', cap', hv', o2, o3, o4, o5, o6⟩ := p2.ex
        have c1 := p1.cell_some (i := 1) rfl
        have f1 := p1.free 1
        rw [hv'] at c1
        obtain ⟨nx, hnx⟩ : ∃ nx, nx = f'.opn.length := ⟨_, rfl⟩
        rw [← hnx] at c1
        clear HI4 HBD HS4 HL
        cases hopn : f'.opn with
        | nil =>
          have e : RR = (-1, f') := by rw [hR'.out, loopF_opn _ _ hopn]
          have E9 := Lib.hid e
          have HF : Hid (RS wr base F D nD f' ∧ f'.opn = [] ∧ f'.bad = false ∧ Upd [F, D] w wr) := Lib.hid ⟨hS'.out, hopn, hb'.out, HU1.out.then hU'.out⟩
          have hn0 : nx = 0 := by rw [hnx, hopn]; rfl
          clear hnx e hopn p1 p2 hv' o2 o3 o4 o5 o6
          subst hn0
          go_wp2
          go_ret
          rw [E9.out]
          exact ⟨rfl, HF.out.2.2.2, fun _ => ⟨HF.out.1, HF.out.2.1, HF.out.2.2.1⟩⟩
        | cons i rest9 =>
          obtain ⟨q5, q6, q7, q8⟩ := hI'.out.tail hopn
          obtain ⟨i, rfl⟩ : ∃ i9 : Nat, i = i9 := ⟨i.toNat, by omega⟩
          obtain ⟨g9, o9, rfl, ci⟩ := o6 0 (by rw [hopn]; simp)
          rw [hopn] at ci
          have ci : wr.cell? ⟨g9, o9, none⟩ = some (.int .i64 (i : Int)) := by simpa using ci
          have hnp : 0 < nx := by rw [hnx, hopn]; simp
          have hnp' : (0 : Int) < (nx : Int) := by omega
          obtain ⟨a2, c2, r2, s2⟩ := run_rest p2 (i := 1) (by rw [hopn]; simp)
          rw [hv', ← hnx] at r2
          have r2 : ∀ w, (Instr.slice 39 (.slice (some ⟨g9, o9, none⟩) nx cap') (some (.int .i64 1)) none none).run Tryd.prog w = .ok (.slice a2 (nx - 1) c2) w := r2
          rw [hopn, List.drop_succ_cons, List.drop_zero, ← hopn, ← hnx] at s2
          have hfew : rest9.length ≤ 99000 := by
            have h1 : f'.opn.length ≤ muF f' := by unfold muF; omega
            rw [hopn] at h1
            simp at h1
            omega
          obtain ⟨hS5, hU5⟩ := hS'.out.cut s2 (by omega) (w' := wr.setCell ⟨F, 1, none⟩ (.slice a2 (nx - 1) c2)) rfl
          have hcI := HC.out wr (HU1.out.then hU'.out)
          obtain ⟨bI, oI, eI, y0, y1, y2⟩ := insAt_get hcI.ins (i := i) (by rw [HNI.out]; omega)
          subst eI
          have nF := (HIF.out bI oI rfl).1
          have hx := HK.out.at (i := i) (by rw [HNI.out]; omega)
          obtain ⟨x, ex⟩ : ∃ x, x = c.ins.getD i default := ⟨_, rfl⟩
          rw [← ex] at y0 y1 y2 hx
          have hxy := HXY.out wr hU'.out
          have x0 := hxy.1.cell_some (i := 0) rfl
          have x1 := hxy.1.cell_some (i := 1) rfl
          have x2 := hxy.1.cell_some (i := 2) rfl
          have EX := Lib.hid ex
          have HX := Lib.hid hx
          have HQ5 := Lib.hid q5
          have HOP := Lib.hid hopn
          have HS5 := Lib.hid hS5
          have HU5 := Lib.hid (hU'.out.then hU5)
          have iD : i < nD := by omega
          have iD' : (i : Int) < (nD : Int) := by omega
          have lI := World.block_lt_of_cell? wr _ y0
          have lF := World.block_lt_of_cell? wr _ c1
          have lX := World.block_lt_of_cell? wr _ x0
          simp only at lI lF lX
          have hu6 : Upd [] (wr.setCell ⟨F, 1, none⟩ (.slice a2 (nx - 1) c2)) ((wr.setCell ⟨F, 1, none⟩ (.slice a2 (nx - 1) c2)).alloc (.cells #[.int .i64 x.op, .int .i64 x.a, .int .i64 x.b] 60)) := (Upd.refl [] _).alloc _
          have HU6 := Lib.hid hu6
          have bB : Blk ((wr.setCell ⟨F, 1, none⟩ (.slice a2 (nx - 1) c2)).alloc (.cells #[.int .i64 x.op, .int .i64 x.a, .int .i64 x.b] 60)) wr.heap.size [.int .i64 x.op, .int .i64 x.a, .int .i64 x.b] 60 := Blk.newAt (by simp)
          have HBB := Lib.hid bB
          have HT := Lib.hid (fun w => takes_calls (w := w) hx)
          unfold insCells at HT
          have HNX := Lib.hid hnx
          clear hnx ex hx hopn hS5 hU5 hcI hxy p1 p2 hv' o2 o3 o4 o5 o6 s2 hu6 bB q5 hS'
          go_wp2_with fail
          refine (HT.out _).mono ?_
          rintro e w6 ⟨rfl, hu7⟩
          have HU7 := Lib.hid (HU6.out.then hu7)
          have HBB7 := Lib.hid (hu7.blk HBB.out (by simp))
          have HS7 := Lib.hid (HS5.out.upd HU7.out)
          have HUW7 := Lib.hid (HU5.out.then0 HU7.out)
          have hbf : wr.heap.size ≠ F ∧ wr.heap.size ≠ D := by
            have := HS5.out.F
            have := HS5.out.D
            have := HS5.out.base
            have e : (wr.setCell ⟨F, 1, none⟩ (.slice a2 (nx - 1) c2)).heap.size = wr.heap.size := by simp [World.setCell]
            rw [e] at this
            omega
          have HBF := Lib.hid hbf
          clear hbf
          generalize wr.heap.size = B at *
          clear hu7 HT HS5 HU5 HU6 HU7 HBB y0 y1 y2 ci c1 f1 r2 x0 x1 x2 lI lF lX
          obtain ⟨v7, p1, _⟩ := HS7.out.ex
          have c0 := p1.cell_some (i := 0) rfl
          have hdl := HS7.out.len
          have cD : w6.cell? ⟨D, i, none⟩ = some (.int .i64 (f'.deep.getD i 0)) := HS7.out.deep.cell_some (by rw [map_int_get, List.getElem?_eq_getElem (by omega)]; simp [List.getD_eq_getElem?_getD, List.getElem?_eq_getElem (show i < f'.deep.length from (by show i < f'.deep.length; have : f'.deep.length = nD := hdl; omega))])
          obtain ⟨d, ed⟩ : ∃ d, d = f'.deep.getD i 0 := ⟨_, rfl⟩
          rw [← ed] at cD
          have HED := Lib.hid ed
          obtain ⟨bX, bY⟩ := HXY.out w6 HUW7.out
          have x0 := bX.cell_some (i := 0) rfl
          have x1 := bX.cell_some (i := 1) rfl
          have x2 := bX.cell_some (i := 2) rfl
          have b0 := HBB7.out.cell_some (i := 0) rfl
          have b1 := HBB7.out.cell_some (i := 1) rfl
          have b2 := HBB7.out.cell_some (i := 2) rfl
          have hmay := may_calls cI cB cC (HC.out w6 (HU1.out.then HUW7.out)) (by rw [← HNB.out]; exact hj) (by omega) hi HX.out
          rw [← HB9.out, HLO9.out, HNI.out, ← HNB.out, ← HNC.out] at hmay
          unfold insCells at hmay
          have HMAY := Lib.hid hmay
          clear hmay p1 hdl ed bX bY
          obtain ⟨th, hth⟩ : ∃ th, th = thereF c j b9 hi x := ⟨_, rfl⟩
          obtain ⟨tk, htk⟩ : ∃ tk, tk = (needsF x).1 := ⟨_, rfl⟩
          obtain ⟨pt, hpt⟩ : ∃ pt, pt = (needsF x).2 := ⟨_, rfl⟩
          obtain ⟨wrg, hwrg⟩ : ∃ wrg, wrg = wrongF c j b9 hi x d := ⟨_, rfl⟩
          have hwr : wrg = (!th || decide (d < tk ∨ dp < d - tk + pt)) := by
            rw [hwrg, hth, htk, hpt]
            unfold wrongF
            rw [HDP9.out]
          rw [← hth] at HMAY
          rw [← htk, ← hpt]
          have hnr := needs_range HX.out
          rw [← htk, ← hpt] at hnr
          have hxr : 1 ≤ x.op ∧ x.op ≤ 12 ∧ 0 ≤ x.a ∧ x.a ≤ 1000000 := ⟨HX.out.op1, HX.out.op2, HX.out.a1, HX.out.a2⟩
          have hdr := HQ5.out.deep i (by have := HS7.out.len; show i < f'.deep.length; have : f'.deep.length = nD := this; omega)
          rw [show ({ f' with opn := rest9 } : Flow).deep.getD i 0 = d from HED.out.symm] at hdr
          have hi0 : (0 : Int) ≤ (i : Int) := by omega
          have HWRG := Lib.hid hwrg
          have HTK := Lib.hid htk
          have HPT := Lib.hid hpt
          clear hth hwrg htk hpt
          go_upto_region 14 with (fail)
          go_cut [116] from 64 to 116 (fun s116 wx => s116 = .bool wrg ∧ Upd [] w6 wx)
          case first =>
            have hwr9 := Lib.hid hwr
            clear hwr
            go_wp2_with fail
            refine HMAY.out.mono ?_
            rintro e w8 ⟨rfl, hu8⟩
            have bY := (HXY.out w8 (HUW7.out.then0 hu8)).2
            have z4 := bY.cell_some (i := 4) rfl
            have HU8 := Lib.hid hu8
            clear hu8 bY HMAY
            cases th with
            | false =>
              go_wp2
              go_meet
              case rel => exact ⟨by rw [hwr9.out]; rfl, HU8.out⟩
            | true =>
              by_cases g1 : d < tk
              · have g1' : decide (d < tk) = true := decide_eq_true g1
                go_wp2
                go_meet
                case rel => exact ⟨by rw [hwr9.out]; simp [g1], HU8.out⟩
              · have g1' : decide (d < tk) = false := decide_eq_false g1
                have hw2 : Hid (wrg = decide (dp < d - tk + pt)) := Lib.hid (by rw [hwr9.out]; simp [g1])
                clear hwr9
                go_wp2
                go_meet
                case rel => exact ⟨by rw [hw2.out], HU8.out⟩
          case rest =>
          obtain ⟨rfl, hu8⟩ := hcut
          generalize wc = w8 at *
          have HBB8 := Lib.hid (hu8.blk HBB7.out (by simp))
          have HS8 := Lib.hid (HS7.out.upd hu8)
          have HUW8 := Lib.hid (HUW7.out.then0 hu8)
          clear hu8 HMAY HS7 HUW7 HBB7 c0 cD x0 x1 x2 b0 b1 b2
          have b0 := HBB8.out.cell_some (i := 0) rfl
          have b1 := HBB8.out.cell_some (i := 1) rfl
          have hB8 := HBB8.out.lt
          have hstop : ∀ fl, oneF c j b9 hi { f' with opn := rest9 } i = (false, fl) → RR = ((i : Int), fl) := fun fl h => loop_stop hR'.out HOP.out h
          have hgo : ∀ fl w', oneF c j b9 hi { f' with opn := rest9 } i = (true, fl) → RS w' base F D nD fl → Upd [F, D] W w' → Rnd w' W base F D nD lo hi c j b9 RR g' fl := fun fl w' h h1 h2 =>
            rnd_of HLO9.out hlo hhi (by rw [HDP9.out]; exact hdp) hR'.out HOP.out hb'.out h HQ5.out q8 (by omega) hmu2 h1 h2
          have hfw : ({ f' with opn := rest9 } : Flow).opn.length < 99001 := by show rest9.length < 99001; omega
          have hfb : ({ f' with opn := rest9 } : Flow).bad = false := hb'.out
          have o1 := oneF_wrong (n := j) (b := b9) (hi := hi) (f := { f' with opn := rest9 }) EX.out HED.out
          have o2 := oneF_end (n := j) (b := b9) (hi := hi) (f := { f' with opn := rest9 }) EX.out HED.out
          have o3 := fun h j78 nx9 => oneF_go (n := j) (b := b9) (hi := hi) (f := { f' with opn := rest9 }) EX.out HED.out h hfb (j78 := j78) (nx9 := nx9)
          rw [← HWRG.out] at o1 o2 o3
          rw [HLO9.out] at o3
          rw [← HTK.out, ← HPT.out] at o2 o3
          obtain ⟨f5, hf5⟩ : ∃ f5, f5 = ({ f' with opn := rest9 } : Flow) := ⟨_, rfl⟩
          rw [← hf5] at HS8 hstop hgo o1 o2 o3 hfw hfb
          have HSTOP := Lib.hid hstop
          have HGO := Lib.hid hgo
          have HO1 := Lib.hid o1
          have HO2 := Lib.hid o2
          have HO3 := Lib.hid o3
          obtain ⟨op, xa, xb⟩ := x
          simp only at hxr b0 b1 HO2 HO3
          clear hstop hgo o1 o2 o3 hf5 hfb
          cases wrg with
          | true =>
            have E9 := Lib.hid (HSTOP.out _ (HO1.out rfl))
            clear hwr HO1 HO2 HO3 HGO HSTOP
            go_wp2
            go_ret
            exact RBPost.wrong E9.out rfl hi0 (HU1.out.then HUW8.out)
          | false =>
            have hw9 : ¬ d < tk ∧ ¬ dp < d - tk + pt := by
              have h := hwr.symm
              simp only [Bool.or_eq_false_iff, decide_eq_false_iff_not, not_or] at h
              exact h.2
            have hr2 : 0 ≤ d + (pt - tk) ∧ d + (pt - tk) ≤ 100000 := by omega
            have o2 := HO2.out rfl
            have o3 := HO3.out rfl
            clear hwr HO1 HO2 HO3
            have HO2 := Lib.hid o2
            have HO3 := Lib.hid o3
            clear o2 o3
            obtain ⟨nz, hnz⟩ : ∃ nz, nz = decide ((op = 11 ∨ op = 10) ∧ d + (pt - tk) ≠ 0) := ⟨_, rfl⟩
            have HNZ := Lib.hid hnz
            clear hnz
            go_upto_region 17 with (fail)
            go_cut [134] from 118 to 134 (fun s wx => s = .bool nz ∧ wx = w8)
            case first =>
              by_cases p11 : op = 11
              · subst p11
                have e : Hid (nz = (d + (pt - tk) != 0)) := Lib.hid (by rw [HNZ.out]; by_cases z : d + (pt - tk) = 0 <;> simp [z])
                clear HNZ
                go_wp2
                go_meet
                case rel => exact ⟨by rw [e.out], rfl⟩
              · by_cases p10 : op = 10
                · subst p10
                  have e : Hid (nz = (d + (pt - tk) != 0)) := Lib.hid (by rw [HNZ.out]; by_cases z : d + (pt - tk) = 0 <;> simp [z])
                  clear HNZ
                  go_wp2
                  go_meet
                  case rel => exact ⟨by rw [e.out], rfl⟩
                · have e : Hid (nz = false) := Lib.hid (by rw [HNZ.out]; simp [p11, p10])
                  have n10 : (op == 10) = false := by simpa using p10
                  have n11 : (op == 11) = false := by simpa using p11
                  clear HNZ
                  go_wp2
                  go_meet
                  case rel => exact ⟨by rw [e.out], rfl⟩
            case rest =>
            obtain ⟨rfl, hwc⟩ := hcut
            rw [hwc]
            clear hwc wc
            cases nz with
            | true =>
              have h := of_decide_eq_true HNZ.out.symm
              have E9 := Lib.hid (HSTOP.out f5 (by rw [HO2.out h.1, decide_eq_false h.2]))
              clear HO2 HO3 HGO HSTOP HNZ h
              go_wp2
              go_ret
              exact RBPost.wrong E9.out rfl hi0 (HU1.out.then HUW8.out)
            | false =>
              have hnz := of_decide_eq_false HNZ.out.symm
              obtain ⟨j78, hj78⟩ : ∃ j78, j78 = decide (op = 7 ∨ op = 8) := ⟨_, rfl⟩
              obtain ⟨nx9, hnx9⟩ : ∃ nx9, nx9 = decide (op ≠ 7 ∧ op ≠ 11 ∧ op ≠ 10) := ⟨_, rfl⟩
              have o3 := HO3.out j78 nx9 hj78 hnx9 hnz
              have HJ := Lib.hid hj78
              have HN := Lib.hid hnx9
              have HO := Lib.hid o3
              clear HNZ hnz hj78 hnx9 o3 HO2 HO3
              go_upto_region 19 with (fail)
              go_cut [143] from 135 to 143 (fun s wx => s = .bool j78 ∧ wx = w8)
              case first =>
                by_cases p7 : op = 7
                · subst p7
                  have e : Hid (j78 = true) := Lib.hid (by rw [HJ.out]; simp)
                  clear HJ HN HO
                  go_wp2
                  go_meet
                  case rel => exact ⟨by rw [e.out], rfl⟩
                · have e : Hid (j78 = (op == 8)) := Lib.hid (by rw [HJ.out]; by_cases p8 : op = 8 <;> simp [p7, p8])
                  have n7 : (op == 7) = false := by simpa using p7
                  clear HJ HN HO
                  go_wp2
                  go_meet
                  case rel => exact ⟨by rw [e.out], rfl⟩
              case rest =>
              obtain ⟨rfl, hwc⟩ := hcut
              rw [hwc]
              clear hwc wc
              obtain ⟨f6, hf6⟩ : ∃ f6, f6 = if j78 then comeF lo hi f5 xa (d + (pt - tk)) else f5 := ⟨_, rfl⟩
              have hfw6 : f6.opn.length < 99002 := by
                rw [hf6]
                have := comeF_len lo hi f5 xa (d + (pt - tk))
                split <;> omega
              have HF6 := Lib.hid hf6
              have hbf := HBF.out
              clear hf6
              go_upto_if 143 with (fail)
              go_cut [] from 144 to 150 (fun wx => Hid (RS wx base F D nD f6) ∧ Hid (Upd [F, D] W wx) ∧ Hid (Blk wx B [.int .i64 op, .int .i64 xa, .int .i64 xb] 60))
              case first =>
                cases j78 with
                | true =>
                  have hcm := rcome_calls (lo := lo) (hi := hi) xa (d + (pt - tk)) HS8.out hlo hhi (by omega)
                  have e : f6 = comeF lo hi f5 xa (d + (pt - tk)) := HF6.out
                  rw [← e] at hcm
                  have HCM := Lib.hid hcm
                  clear hcm e HF6 HJ HN HO
                  go_wp2_with fail
                  refine HCM.out.mono ?_
                  rintro e wz ⟨rfl, hSz, huz⟩
                  have H9 : Hid (RS wz base F D nD f6) ∧ Hid (Upd [F, D] W wz) ∧ Hid (Blk wz B [.int .i64 op, .int .i64 xa, .int .i64 xb] 60) := ⟨hSz, HUW8.out.then huz, huz.blk HBB8.out (by simp; omega)⟩
                  clear HCM hSz huz
                  go_wp2
                  go_meet
                  case rel => exact H9
                | false =>
                  have e : f6 = f5 := HF6.out
                  have H9 : Hid (RS w8 base F D nD f6) ∧ Hid (Upd [F, D] W w8) ∧ Hid (Blk w8 B [.int .i64 op, .int .i64 xa, .int .i64 xb] 60) := ⟨by rw [e]; exact HS8.out, HUW8.out, HBB8.out⟩
                  clear e HF6 HJ HN HO
                  go_wp2
                  go_meet
                  case rel => exact H9
              case rest =>
              obtain ⟨HS8, HUW8, HBB8⟩ := hcut
              generalize wc = w9 at *
              clear b0 b1
              have b0 := HBB8.out.cell_some (i := 0) rfl
              go_upto_region 21 with (fail)
              go_cut [163] from 151 to 163 (fun s wx => s = .bool nx9 ∧ wx = w9)
              case first =>
                by_cases p7 : op = 7
                · subst p7
                  have e : Hid (nx9 = false) := Lib.hid (by rw [HN.out]; simp)
                  clear HJ HN HO
                  go_wp2
                  go_meet
                  case rel => exact ⟨by rw [e.out], rfl⟩
                · have n7 : (op != 7) = true := by simpa using p7
                  by_cases p11 : op = 11
                  · subst p11
                    have e : Hid (nx9 = false) := Lib.hid (by rw [HN.out]; simp)
                    clear HJ HN HO
                    go_wp2
                    go_meet
                    case rel => exact ⟨by rw [e.out], rfl⟩
                  · have n11 : (op != 11) = true := by simpa using p11
                    have e : Hid (nx9 = (op != 10)) := Lib.hid (by rw [HN.out]; by_cases p8 : op = 10 <;> simp [p7, p11, p8])
                    clear HJ HN HO
                    go_wp2
                    go_meet
                    case rel => exact ⟨by rw [e.out], rfl⟩
              case rest =>
              obtain ⟨rfl, hwc⟩ := hcut
              rw [hwc]
              clear hwc wc b0
              obtain ⟨f7, hf7⟩ : ∃ f7, f7 = if nx9 then comeF lo hi f6 ((i : Int) + 1) (d + (pt - tk)) else f6 := ⟨_, rfl⟩
              have HF7 := Lib.hid hf7
              clear hf7
              have HO7 := Lib.hid (HO.out f6 f7 HF6.out HF7.out)
              clear HO HF6 HJ HN
              go_upto_if 163 with (fail)
              go_cut [] from 164 to 170 (fun wx => Hid (RS wx base F D nD f7) ∧ Hid (Upd [F, D] W wx))
              case first =>
                cases nx9 with
                | true =>
                  have hcm := rcome_calls (lo := lo) (hi := hi) ((i : Int) + 1) (d + (pt - tk)) HS8.out hlo hhi (by omega)
                  have e : f7 = comeF lo hi f6 ((i : Int) + 1) (d + (pt - tk)) := HF7.out
                  rw [← e] at hcm
                  have HCM := Lib.hid hcm
                  clear hcm e HF7 HO7
                  go_wp2_with fail
                  refine HCM.out.mono ?_
                  rintro e wz ⟨rfl, hSz, huz⟩
                  have H9 : Hid (RS wz base F D nD f7) ∧ Hid (Upd [F, D] W wz) := ⟨hSz, HUW8.out.then huz⟩
                  clear HCM hSz huz
                  go_wp2
                  go_meet
                  case rel => exact H9
                | false =>
                  have e : f7 = f6 := HF7.out
                  have H9 : Hid (RS w9 base F D nD f7) ∧ Hid (Upd [F, D] W w9) := ⟨by rw [e]; exact HS8.out, HUW8.out⟩
                  clear e HF7 HO7
                  go_wp2
                  go_meet
                  case rel => exact H9
              case rest =>
              obtain ⟨HSz, HUWz⟩ := hcut
              generalize wc = wz at *
              obtain ⟨vz, bz, _⟩ := HSz.out.ex
              have c2z := bz.cell_some (i := 2) rfl
              clear bz HF7
              cases hbz : f7.bad with
              | true =>
                rw [hbz] at c2z
                have E9 := Lib.hid (HSTOP.out f7 (by rw [HO7.out, hbz]; rfl))
                clear HO7 HGO HSTOP hbz
                go_wp2
                go_ret
                exact RBPost.wrong E9.out rfl hi0 (HU1.out.then HUWz.out)
              | false =>
                rw [hbz] at c2z
                have R9 := Lib.hid (HGO.out f7 wz (by rw [HO7.out, hbz]; rfl) HSz.out HUWz.out)
                clear HO7 HGO HSTOP hbz
                go_wp2
                go_roundg g'
                case measure => omega
                case rel => exact ⟨_, Lib.hid R9.out.S, Lib.hid R9.out.I, Lib.hid R9.out.bad, Lib.hid R9.out.R, R9.out.m1, R9.out.m2, Lib.hid R9.out.U⟩
end Go.Proofs.YtknbgbeepachgaaDoor
