/-
  Texts of this claim, merged: RcM, DoorL. Lemmas and contracts; no conditions of our own.
-/
import Derived.Test.YtknbgbeepachgaaDoorG12
import Derived.Test.YtknbgbeepachgaaDoorG24
import Derived.LaidMore
import Derived.Stop.Joined

/-
  CheckCodes: the walk.
-/
namespace Go.Proofs.YtknbgbeepachgaaDoor
open Go.RowKit Go.Shelf

set_option maxRecDepth 100000 in
set_option maxHeartbeats 3000000 in
theorem codes_walk {w : World} {n : Nat} {aI aB aC : Option Addr} (cI cB cC : Nat) {c : CodeV} (h : IsC w n aI aB aC c) (hT : Tabs w) :
    Calls Tryd.prog 3 #[.agg #[.slice aI c.ins.length cI, .slice aB c.blks.length cB, .slice aC c.cons.length cC]] w fun e w' => e = .returned (.bool true) ∧ Upd [] w w' := by
  have hBx : Blk (w.alloc (.cells #[.slice aI c.ins.length cI, .slice aB c.blks.length cB, .slice aC c.cons.length cC] 26)) w.heap.size [.slice aI c.ins.length cI, .slice aB c.blks.length cB, .slice aC c.cons.length cC] 26 := Blk.newAt rfl
  have hu1 : Upd [] w (w.alloc (.cells #[.slice aI c.ins.length cI, .slice aB c.blks.length cB, .slice aC c.cons.length cC] 26)) := (Upd.refl [] w).alloc _
  have HL := Lib.hid (light16_calls cI cB cC (h.upd hu1))
  have HV := Lib.hid (fun (W : World) (hu : Upd [] w W) => lives16_calls (hT.upd hu))
  obtain ⟨R, hR⟩ : ∃ R, R = depthsF n c := ⟨_, rfl⟩
  have hck := fun (hlit : Lit' n c) (W : World) (hu : Upd [] w W) => check_calls cI cB cC (h.upd hu) hlit (hT.upd hu)
  have hdp := fun (hlit : Lit' n c) (W : World) (hu : Upd [] w W) => depths2_calls cI cB cC (h.upd hu) hlit (hT.upd hu)
  have hpl := fun (hlit : Lit' n c) (W : World) (hu : Upd [] w W) => plain16_calls cI cB cC (h.upd hu) hlit
  have hrc := fun (hlit : Lit' n c) (W : World) (a1 a2 : Option Addr) (c1 c2 : Nat) (hc : IsC W n a1 a2 aC c) => rcheck_calls c1 c2 cC hc hlit
  have hrd := fun (hlit : Lit' n c) (W : World) (a1 a2 : Option Addr) (c1 c2 : Nat) (hc : IsC W n a1 a2 aC c) => rdepths_calls c1 c2 cC hc hlit
  have hdl : Lit' n c → c.ins.length ≤ 300 → R.deep.length ≤ 300 := fun _ h1 => by
    rw [hR]
    rcases depths_e (n := n) c with he | ⟨_, he⟩
    · rw [depths_len he]; exact h1
    · rw [he]; simp
  rw [← hR] at hck hdp hrc hrd
  clear hR
  have HBX := Lib.hid hBx
  have HU1 := Lib.hid hu1
  clear h hT hBx hu1
  unfold BoolIf at HL
  obtain ⟨nI, hI⟩ : ∃ nI, nI = c.ins.length := ⟨_, rfl⟩
  obtain ⟨nB, hB⟩ : ∃ nB, nB = c.blks.length := ⟨_, rfl⟩
  obtain ⟨nC, hC⟩ : ∃ nC, nC = c.cons.length := ⟨_, rfl⟩
  rw [← hI, ← hB, ← hC] at HL HBX HU1 hck hdp hpl hrc hrd ⊢
  rw [← hI] at hdl
  have HCK := Lib.hid hck
  have HDP := Lib.hid hdp
  have HPL := Lib.hid hpl
  have HRC := Lib.hid hrc
  have HRD := Lib.hid hrd
  have HDL := Lib.hid hdl
  clear hI hB hC hck hdp hpl hrc hrd hdl
  go_enter Tryd.func3, Tryd.ntmps3
  go_wp2_with fail
  refine HL.out.mono ?_
  rintro e w2 ⟨⟨r, rfl, hr⟩, hu2⟩
  have HBX2 := Lib.hid (hu2.blk HBX.out (by simp))
  have HU2 := Lib.hid (HU1.out.then hu2)
  have HR := Lib.hid hr
  clear hu2 hr HL HBX HU1
  cases r with
  | false =>
    clear HR
    go_wp2_with fail
    refine (HV.out _ HU2.out).mono ?_
    rintro e w3 ⟨rfl, hu3⟩
    have HU3 := Lib.hid (HU2.out.then hu3)
    clear hu3
    go_wp2
    go_ret
    exact ⟨rfl, HU3.out⟩
  | true =>
    obtain ⟨hnI, hnB, hlit⟩ := HR.out rfl
    have HLIT := Lib.hid hlit
    have hdl := HDL.out hlit hnI
    clear HR hlit HDL
    have x0 := HBX2.out.cell_some (i := 0) rfl
    have x1 := HBX2.out.cell_some (i := 1) rfl
    have x2 := HBX2.out.cell_some (i := 2) rfl
    generalize w.heap.size = X at *
    go_wp2_with fail
    refine (HCK.out HLIT.out _ HU2.out).mono ?_
    rintro e w3 ⟨rfl, hu3⟩
    have HBX3 := Lib.hid (hu3.blk HBX2.out (by simp))
    have HU3 := Lib.hid (HU2.out.then hu3)
    clear hu3 x0 x1 x2 HBX2 HU2 HCK
    have x0 := HBX3.out.cell_some (i := 0) rfl
    have x1 := HBX3.out.cell_some (i := 1) rfl
    have x2 := HBX3.out.cell_some (i := 2) rfl
    go_wp2_with fail
    refine (HPL.out HLIT.out _ HU3.out).mono ?_
    rintro e w4 ⟨⟨a1, c1, a2, c2, rfl, hc4⟩, hu4⟩
    have HC4 := Lib.hid (HRC.out HLIT.out w4 a1 a2 c1 c2 hc4)
    have HBX4 := Lib.hid (hu4.blk HBX3.out (by simp))
    have HU4 := Lib.hid (HU3.out.then hu4)
    clear hu4 hc4 x0 x1 x2 HBX3 HU3 HRC
    go_wp2_with fail
    refine HC4.out.mono ?_
    rintro e w5 ⟨rfl, hu5⟩
    have HBX5 := Lib.hid (hu5.blk HBX4.out (by simp))
    have HU5 := Lib.hid (HU4.out.then hu5)
    clear hu5 HBX4 HU4 HC4
    have x0 := HBX5.out.cell_some (i := 0) rfl
    have x1 := HBX5.out.cell_some (i := 1) rfl
    have x2 := HBX5.out.cell_some (i := 2) rfl
    go_wp2_with fail
    refine (HDP.out HLIT.out _ HU5.out).mono ?_
    rintro e w6 ⟨⟨a6, cap6, rfl, hD6⟩, hu6⟩
    have HBX6 := Lib.hid (hu6.blk HBX5.out (by simp))
    have HU6 := Lib.hid (HU5.out.then hu6)
    have HD6 := Lib.hid hD6
    clear hu6 hD6 x0 x1 x2 HBX5 HU5 HDP
    have x0 := HBX6.out.cell_some (i := 0) rfl
    have x1 := HBX6.out.cell_some (i := 1) rfl
    have x2 := HBX6.out.cell_some (i := 2) rfl
    go_wp2_with fail
    refine (HPL.out HLIT.out _ HU6.out).mono ?_
    rintro e w7 ⟨⟨a3, c3, a4, c4, rfl, hc7⟩, hu7⟩
    have HC7 := Lib.hid (HRD.out HLIT.out w7 a3 a4 c3 c4 hc7)
    have HU7 := Lib.hid (HU6.out.then hu7)
    have HU67 := Lib.hid hu7
    clear hu7 hc7 x0 x1 x2 HBX6 HU6 HPL HRD
    go_wp2_with fail
    refine HC7.out.mono ?_
    rintro e w8 ⟨⟨a8, cap8, rfl, hD8⟩, hu8⟩
    have HU8 := Lib.hid (HU7.out.then hu8)
    have HU68 := Lib.hid (HU67.out.then hu8)
    have HD8 := Lib.hid hD8
    clear hu8 hD8 HU7 HU67 HC7
    have hcell : ∀ wr, Upd [] w8 wr → ∀ k, k < R.deep.length → ∃ D1 D2, a6 = some ⟨D1, 0, none⟩ ∧ a8 = some ⟨D2, 0, none⟩ ∧ wr.cell? ⟨D1, k, none⟩ = some (.int .i64 (R.deep.getD k 0)) ∧ wr.cell? ⟨D2, k, none⟩ = some (.int .i64 (R.deep.getD k 0)) := by
      intro wr hu k hk
      obtain ⟨D1, e1, b1⟩ := HD6.out (by omega)
      obtain ⟨D2, e2, b2⟩ := HD8.out (by omega)
      have hg : (R.deep.map (Value.int .i64))[k]? = some (.int .i64 (R.deep.getD k 0)) := by
        rw [map_int_get, List.getElem?_eq_getElem hk]
        simp [List.getD_eq_getElem?_getD, hk]
      exact ⟨D1, D2, e1, e2, ((HU68.out.then hu).blk b1 (by simp)).cell_some hg, (hu.blk b2 (by simp)).cell_some hg⟩
    have HCELL := Lib.hid hcell
    clear hcell HD6 HD8 HU68
    obtain ⟨deep, hdeep⟩ : ∃ deep, deep = R.deep := ⟨_, rfl⟩
    rw [← hdeep] at HCELL hdl ⊢
    obtain ⟨at9, hat9⟩ : ∃ at9, at9 = R.at' := ⟨_, rfl⟩
    obtain ⟨e9, he9⟩ : ∃ e9, e9 = R.e := ⟨_, rfl⟩
    rw [← hat9, ← he9]
    obtain ⟨nd, hnd⟩ : ∃ nd, nd = deep.length := ⟨_, rfl⟩
    rw [← hnd] at HCELL hdl ⊢
    have hb1 : (at9 != at9) = false := by simp
    have hb2 : (e9 != e9) = false := by simp
    have hb3 : ((nd : Int) != (nd : Int)) = false := by simp
    clear hdeep hat9 he9 hnd
    go_wp2_with fail
    go_loopg [62] nd (fun g i wr => ∃ k : Nat, k ≤ nd ∧ g = nd - k ∧ i = .int .i64 k ∧ Hid (Upd [] w8 wr))
    case atStart => exact ⟨0, by omega, rfl, rfl, Upd.refl _ _⟩
    case round =>
      obtain ⟨k, hk, rfl, rfl, hU⟩ := hrel
      by_cases hlt : k < nd
      · have hlt' : (k : Int) < (nd : Int) := by omega
        obtain ⟨D1, D2, rfl, rfl, q1, q2⟩ := HCELL.out wr hU.out k hlt
        obtain ⟨y, hy⟩ : ∃ y, y = deep.getD k 0 := ⟨_, rfl⟩
        rw [← hy] at q1 q2
        have hyb : (y != y) = false := by simp
        clear hy
        go_wp2_with fail
        go_quiet (fail)
        go_wp2
        go_roundg (nd - (k + 1))
        case rel => exact ⟨k + 1, by omega, rfl, by go_num, hU.out.drewN nq⟩
        case measure => omega
      · have hlt' : ¬ (k : Int) < (nd : Int) := by omega
        go_wp2_with fail
        refine (HV.out _ (HU8.out.then hU.out)).mono ?_
        rintro e w9 ⟨rfl, hu9⟩
        have HU9 := Lib.hid ((HU8.out.then hU.out).then hu9)
        clear hu9 hU
        go_wp2
        go_ret
        exact ⟨rfl, HU9.out⟩
theorem law_CheckCodes (v : Value) (w : World) (h : ArgS Tryd.prog w 26 v) (hT : Tabs w) :
    Calls Tryd.prog 3 #[v] w fun e w' => e = .returned (.bool true) ∧ Upd [] w w' := by
  obtain ⟨aI, cI, aB, cB, aC, cC, n, c, rfl, hc⟩ := code_open h
  exact codes_walk cI cB cC hc hT
end Go.Proofs.YtknbgbeepachgaaDoor

/-
  What the listed tables give a walk.
-/
namespace Go.Proofs.YtknbgbeepachgaaDoor
open Go.RowKit Go.ChangeShapes Go.WideShapes

def laidL : List (String × DataW Unit) := [("pavane/expand.names", Rows.laid_pavane_expand_names), ("pavane/expand.arities", Rows.laid_pavane_expand_arities)]
theorem gNames : Tryd.prog.globalNamed "pavane/expand.names" = some 0 := by kernel_rfl
theorem gArs : Tryd.prog.globalNamed "pavane/expand.arities" = some 1 := by kernel_rfl
theorem tNames : (Tryd.prog.globals[0]?).map (·.type) = some 113 := by kernel_rfl
theorem tArs : (Tryd.prog.globals[1]?).map (·.type) = some 85 := by kernel_rfl
theorem door_met (os : Os) (args : Array Value) : laidMetH Tryd.prog laidL ((World.doorLaid Tryd.prog 400 os).forCall (fun _ _ => 0) ⟨#[], args, []⟩).memory :=
  laidMetH_of_parts3 (fuel := 8) (laidMet_of_run' 8 (by kernel_rfl) (by kernel_rfl)) (by kernel_rfl) (by kernel_rfl)
def strOf {H : Type} : DataW H → Option (List UInt8)
  | .lit (.string b) => some b
  | _ => none
def intOfD {H : Type} : DataW H → Option Int
  | .lit (.int _ n) => some n
  | _ => none
def partsOf {H : Type} : DataW H → List (DataW H)
  | .agg l => l
  | _ => []
theorem names_parts : (partsOf (Rows.laid_pavane_expand_names : DataW Unit)).map strOf = (List.range 39).map fun k => some (nmAt k).data.toList := by decide +kernel
theorem ars_parts : (partsOf (Rows.laid_pavane_expand_arities : DataW Unit)).map intOfD = (List.range 39).map fun k => some (arAt k) := by decide +kernel
theorem tabs_of_laid {W : World} (h : laidMetH Tryd.prog laidL W) : Tabs W := by
  rw [MakeChecks.laidMetH_plain _ _ _ (by kernel_rfl)] at h
  obtain ⟨ps, ⟨g0, t0, cs0, f0, p0, q0, hg0, ht0, hv0, hd0, ⟨g1, t1, cs1, f1, p1, q1, hg1, ht1, hv1, hd1, _, _⟩, _⟩, _, _⟩ := h
  obtain rfl := Option.some.inj (gNames.symm.trans hg0)
  obtain rfl := Option.some.inj (gArs.symm.trans hg1)
  obtain rfl := Option.some.inj (tNames.symm.trans ht0)
  obtain rfl := Option.some.inj (tArs.symm.trans ht1)
  refine ⟨fun k hk => ?_, fun k hk => ?_⟩
  · obtain ⟨xs, m1, _, hx1, hlen, hn3, hel⟩ := DataW.trod_array Tryd.underlying113 hd0
    have c9 : Tryd.prog.cellsOf 9 = 1 := by kernel_rfl
    simp only [Prod.mk.injEq] at hx1
    have hpart : xs.map (·.1) = partsOf (Rows.laid_pavane_expand_names : DataW Unit) := by
      rw [hx1.1]
      rfl
    have he := hel k hk
    rw [c9, Nat.mul_one] at he
    have hxk : k < xs.length := by omega
    rw [List.getElem?_eq_getElem hxk] at he
    obtain ⟨z, e1, e2, _⟩ := DataW.trod_string Tryd.underlying9 he
    have hs : (((xs.map (·.1)).map strOf)[k]?) = some (some (nmAt k).data.toList) := by
      rw [hpart, names_parts, List.getElem?_map, List.getElem?_range hk]
      rfl
    rw [List.getElem?_map, List.getElem?_map, List.getElem?_eq_getElem hxk, e2] at hs
    have hz : z = nmAt k := bytes_inj (by simpa [strOf] using hs)
    have hc := World.var?_cell hg0 hv0 k
    rw [hc]
    have : (cs0.toList.drop k)[0]? = some (.string z) := by
      have h9 : ((cs0.toList.drop k).take 1)[0]? = some (.string z) := by rw [e1]; rfl
      rwa [List.getElem?_take, if_pos (by omega)] at h9
    rw [List.getElem?_drop, Nat.add_zero] at this
    rw [← hz, ← this, Array.getElem?_toList]
  · obtain ⟨xs, m1, _, hx1, hlen, hn3, hel⟩ := DataW.trod_array Tryd.underlying85 hd1
    have c3 : Tryd.prog.cellsOf 3 = 1 := by kernel_rfl
    simp only [Prod.mk.injEq] at hx1
    have hpart : xs.map (·.1) = partsOf (Rows.laid_pavane_expand_arities : DataW Unit) := by
      rw [hx1.1]
      rfl
    have he := hel k hk
    rw [c3, Nat.mul_one] at he
    have hxk : k < xs.length := by omega
    rw [List.getElem?_eq_getElem hxk] at he
    obtain ⟨z, e1, e2, _⟩ := DataW.trod_int Tryd.underlying3 he
    have hs : (((xs.map (·.1)).map intOfD)[k]?) = some (some (arAt k)) := by
      rw [hpart, ars_parts, List.getElem?_map, List.getElem?_range hk]
      rfl
    rw [List.getElem?_map, List.getElem?_map, List.getElem?_eq_getElem hxk, e2] at hs
    have hz : z = arAt k := by simpa [intOfD] using hs
    have hc := World.var?_cell hg1 hv1 k
    rw [hc]
    have : (cs1.toList.drop k)[0]? = some (.int .i64 z) := by
      have h9 : ((cs1.toList.drop k).take 1)[0]? = some (.int .i64 z) := by rw [e1]; rfl
      rwa [List.getElem?_take, if_pos (by omega)] at h9
    rw [List.getElem?_drop, Nat.add_zero] at this
    rw [← hz, ← this, Array.getElem?_toList]
end Go.Proofs.YtknbgbeepachgaaDoor
