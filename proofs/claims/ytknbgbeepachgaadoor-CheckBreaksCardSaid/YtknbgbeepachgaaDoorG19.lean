/-
  Texts of this claim, merged: DoorL. Lemmas and contracts; no conditions of our own.
-/
import Derived.Test.YtknbgbeepachgaaDoorG11
import Derived.LaidMore
import Derived.Stop.Joined

/-
  What the listed tables give a walk.
-/
namespace Go.Proofs.YtknbgbeepachgaaDoor
open Go.RowKit Go.ChangeShapes Go.WideShapes

def laidL : List (String × DataW Unit) := [("pavane/expand.names", Rows.laid_pavane_expand_names), ("pavane/expand.arities", Rows.laid_pavane_expand_arities)]
theorem gNames : Tryd.prog.globalNamed "pavane/expand.names" = some 0 := by kernel_rfl
theorem gArs : Tryd.prog.globalNamed "pavane/expand.arities" = some 1 := by kernel_rfl
theorem tNames : (Tryd.prog.globals[0]?).map (·.type) = some 113 := by kernel_rfl
theorem tArs : (Tryd.prog.globals[1]?).map (·.type) = some 85 := by kernel_rfl
theorem door_met (os : Os) (args : Array Value) : laidMetH Tryd.prog laidL ((World.doorLaid Tryd.prog 400 os).forCall (fun _ _ => 0) ⟨#[], args, []⟩).memory :=
  laidMetH_of_parts3 (fuel := 8) (laidMet_of_run' 8 (by kernel_rfl) (by kernel_rfl)) (by kernel_rfl) (by kernel_rfl)
def strOf {H : Type} : DataW H → Option (List UInt8)
  | .lit (.string b) => some b
  | _ => none
def intOfD {H : Type} : DataW H → Option Int
  | .lit (.int _ n) => some n
  | _ => none
def partsOf {H : Type} : DataW H → List (DataW H)
  | .agg l => l
  | _ => []
theorem names_parts : (partsOf (Rows.laid_pavane_expand_names : DataW Unit)).map strOf = (List.range 39).map fun k => some (nmAt k).data.toList := by decide +kernel
theorem ars_parts : (partsOf (Rows.laid_pavane_expand_arities : DataW Unit)).map intOfD = (List.range 39).map fun k => some (arAt k) := by decide +kernel
theorem tabs_of_laid {W : World} (h : laidMetH Tryd.prog laidL W) : Tabs W := by
  rw [MakeChecks.laidMetH_plain _ _ _ (by kernel_rfl)] at h
  obtain ⟨ps, ⟨g0, t0, cs0, f0, p0, q0, hg0, ht0, hv0, hd0, ⟨g1, t1, cs1, f1, p1, q1, hg1, ht1, hv1, hd1, _, _⟩, _⟩, _, _⟩ := h
  obtain rfl := Option.some.inj (gNames.symm.trans hg0)
  obtain rfl := Option.some.inj (gArs.symm.trans hg1)
  obtain rfl := Option.some.inj (tNames.symm.trans ht0)
  obtain rfl := Option.some.inj (tArs.symm.trans ht1)
  refine ⟨fun k hk => ?_, fun k hk => ?_⟩
  · obtain ⟨xs, m1, _, hx1, hlen, hn3, hel⟩ := DataW.trod_array Tryd.underlying113 hd0
    have c9 : Tryd.prog.cellsOf 9 = 1 := by kernel_rfl
    simp only [Prod.mk.injEq] at hx1
    have hpart : xs.map (·.1) = partsOf (Rows.laid_pavane_expand_names : DataW Unit) := by
      rw [hx1.1]
      rfl
    have he := hel k hk
    rw [c9, Nat.mul_one] at he
    have hxk : k < xs.length := by omega
    rw [List.getElem?_eq_getElem hxk] at he
    obtain ⟨z, e1, e2, _⟩ := DataW.trod_string Tryd.underlying9 he
    have hs : (((xs.map (·.1)).map strOf)[k]?) = some (some (nmAt k).data.toList) := by
      rw [hpart, names_parts, List.getElem?_map, List.getElem?_range hk]
      rfl
    rw [List.getElem?_map, List.getElem?_map, List.getElem?_eq_getElem hxk, e2] at hs
    have hz : z = nmAt k := bytes_inj (by simpa [strOf] using hs)
    have hc := World.var?_cell hg0 hv0 k
    rw [hc]
    have : (cs0.toList.drop k)[0]? = some (.string z) := by
      have h9 : ((cs0.toList.drop k).take 1)[0]? = some (.string z) := by rw [e1]; rfl
      rwa [List.getElem?_take, if_pos (by omega)] at h9
    rw [List.getElem?_drop, Nat.add_zero] at this
    rw [← hz, ← this, Array.getElem?_toList]
  · obtain ⟨xs, m1, _, hx1, hlen, hn3, hel⟩ := DataW.trod_array Tryd.underlying85 hd1
    have c3 : Tryd.prog.cellsOf 3 = 1 := by kernel_rfl
    simp only [Prod.mk.injEq] at hx1
    have hpart : xs.map (·.1) = partsOf (Rows.laid_pavane_expand_arities : DataW Unit) := by
      rw [hx1.1]
      rfl
    have he := hel k hk
    rw [c3, Nat.mul_one] at he
    have hxk : k < xs.length := by omega
    rw [List.getElem?_eq_getElem hxk] at he
    obtain ⟨z, e1, e2, _⟩ := DataW.trod_int Tryd.underlying3 he
    have hs : (((xs.map (·.1)).map intOfD)[k]?) = some (some (arAt k)) := by
      rw [hpart, ars_parts, List.getElem?_map, List.getElem?_range hk]
      rfl
    rw [List.getElem?_map, List.getElem?_map, List.getElem?_eq_getElem hxk, e2] at hs
    have hz : z = arAt k := by simpa [intOfD] using hs
    have hc := World.var?_cell hg1 hv1 k
    rw [hc]
    have : (cs1.toList.drop k)[0]? = some (.int .i64 z) := by
      have h9 : ((cs1.toList.drop k).take 1)[0]? = some (.int .i64 z) := by rw [e1]; rfl
      rwa [List.getElem?_take, if_pos (by omega)] at h9
    rw [List.getElem?_drop, Nat.add_zero] at this
    rw [← hz, ← this, Array.getElem?_toList]
end Go.Proofs.YtknbgbeepachgaaDoor
