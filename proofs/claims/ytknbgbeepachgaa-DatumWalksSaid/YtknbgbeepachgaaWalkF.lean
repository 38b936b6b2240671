/-
  pavanelaw03.all: the two ends of a round.
-/
import Derived.Test.YtknbgbeepachgaaWalkE
namespace Go.Proofs.Ytknbgbeepachgaa
open Go.RowKit Go.Shelf


theorem all_leafA {w W4 W X w10 : World} {most : Int} {n g cap j k : Nat} {lv : Value} {ys : List (Cd w w.heap.size n)} {x : Cd w w.heap.size n} {y0 y1 y2 y3 y4 y5 y6 z0 z1 z2 z3 z4 z5 z6 : Value} (h : ARel w W4 most n lv ys W) (hz : w.heap.size + 4 ≤ W4.heap.size) (hj : ys.length = j)
    (hX : Upd [] W X) (hgr : X.grownBy w10 lv.ownBlock) (hg : lv.ownBlock = some g ∨ g = X.heap.size) (hO : w10.ownsRow W4.heap.size 27 7 (.slice (some ⟨g, 0, none⟩) (j + 1) cap) (j + 1) ((ys.map (fun y => y.1.1)).flatten ++ [z0, z1, z2, z3, z4, z5, z6]))
    (hk : (ys.map (fun y => y.1.1)).flatten.length = k) (hx : x.1.1 = [y0, y1, y2, y3, y4, y5, y6]) :
    KeepsFrom W4.heap.size W ((put7at w10 g k y0 y1 y2 y3 y4 y5 y6).setCell ⟨w.heap.size + 1 + 1 + 1, 0, none⟩ (.slice (some ⟨g, 0, none⟩) (j + 1) cap)) ∧ KW w.heap.size (w.heap.size + 1 + 1 + 1) W ((put7at w10 g k y0 y1 y2 y3 y4 y5 y6).setCell ⟨w.heap.size + 1 + 1 + 1, 0, none⟩ (.slice (some ⟨g, 0, none⟩) (j + 1) cap)) ∧ ARel w W4 most n (.slice (some ⟨g, 0, none⟩) (j + 1) cap) (ys ++ [x]) ((put7at w10 g k y0 y1 y2 y3 y4 y5 y6).setCell ⟨w.heap.size + 1 + 1 + 1, 0, none⟩ (.slice (some ⟨g, 0, none⟩) (j + 1) cap)) := by
  have hlo := h.own.lt
  have hsX := hX.size
  have hlt := h.lt
  have hng : w.heap.size + 1 + 1 + 1 ≠ g := by
    rcases hg with e | e
    · have := (hlo g e).1
      omega
    · omega
  have hgS : g ∈ (w.heap.size + 1 + 1 + 1) :: lv.ownBlock.toList ∨ X.heap.size ≤ g := by
    rcases hg with e | e
    · exact .inl (by rw [e]; simp)
    · exact .inr (by omega)
  have hB0 : Blk w10 (w.heap.size + 1 + 1 + 1) [lv] 25 := (hX.blk h.box (by simp)).of_eq (hgr.block _ (hX.blk h.box (by simp)).lt (fun e => by
    have := (hlo _ e.symm).1
    omega))
  have hu10 : Upd ((w.heap.size + 1 + 1 + 1) :: lv.ownBlock.toList) X w10 := Upd.of_grown hgr (fun k hk => by rw [hk]; simp)
  subst hk
  subst hj
  have hU : Upd ((w.heap.size + 1 + 1 + 1) :: lv.ownBlock.toList) X ((put7at w10 g (ys.map (fun y => y.1.1)).flatten.length y0 y1 y2 y3 y4 y5 y6).setCell ⟨w.heap.size + 1 + 1 + 1, 0, none⟩ (.slice (some ⟨g, 0, none⟩) (ys.length + 1) cap)) := (hu10.put7at hgS (ys.map (fun y => y.1.1)).flatten.length y0 y1 y2 y3 y4 y5 y6).setCell (.slice (some ⟨g, 0, none⟩) (ys.length + 1) cap) (p := ⟨w.heap.size + 1 + 1 + 1, 0, none⟩) (.inl (by simp))
  have hBB : Blk ((put7at w10 g (ys.map (fun y => y.1.1)).flatten.length y0 y1 y2 y3 y4 y5 y6).setCell ⟨w.heap.size + 1 + 1 + 1, 0, none⟩ (.slice (some ⟨g, 0, none⟩) (ys.length + 1) cap)) (w.heap.size + 1 + 1 + 1) [(.slice (some ⟨g, 0, none⟩) (ys.length + 1) cap)] 25 := (hB0.put7at hng (ys.map (fun y => y.1.1)).flatten.length y0 y1 y2 y3 y4 y5 y6).set 0 (.slice (some ⟨g, 0, none⟩) (ys.length + 1) cap)
  have hOO : ((put7at w10 g (ys.map (fun y => y.1.1)).flatten.length y0 y1 y2 y3 y4 y5 y6).setCell ⟨w.heap.size + 1 + 1 + 1, 0, none⟩ (.slice (some ⟨g, 0, none⟩) (ys.length + 1) cap)).ownsRow W4.heap.size 27 7 (.slice (some ⟨g, 0, none⟩) (ys.length + 1) cap) (ys.length + 1) ((ys.map (fun y => y.1.1)).flatten ++ x.1.1) := by
    rw [hx]
    have h1 := own_put7at hO (ys.map (fun y => y.1.1)).flatten.length y0 y1 y2 y3 y4 y5 y6
    rw [set7_append] at h1
    exact own_upd h1 ((Upd.refl [w.heap.size + 1 + 1 + 1] _).setCell (.slice (some ⟨g, 0, none⟩) (ys.length + 1) cap) (p := ⟨w.heap.size + 1 + 1 + 1, 0, none⟩) (.inl (by simp))) (fun g' hg' hx => hng ((own_blk hg').trans (by simpa using hx)).symm)
  have hUW : Upd ((w.heap.size + 1 + 1 + 1) :: lv.ownBlock.toList) W X := hX.mono (fun x hx _ => by cases hx)
  refine ARel.next h hz (hUW.then hU) hBB hOO ?_
  rcases hg with e | e
  · exact .inl e.symm
  · exact .inr ⟨g, rfl, by omega⟩
theorem all_leafV {w W4 W X V : World} {most : Int} {n g cap k : Nat} {lv : Value} {ys : List (Cd w w.heap.size n)} {x : Cd w w.heap.size n} {y0 y1 y2 y3 y4 y5 y6 z0 z1 z2 z3 z4 z5 z6 : Value} (h : ARel w W4 most n lv ys W) (hz : w.heap.size + 4 ≤ W4.heap.size)
    (hX : Upd [] W X) (hg : lv.ownBlock = some g ∨ g = X.heap.size) (hng : w.heap.size + 1 + 1 + 1 ≠ g) (hgS : g ∈ (w.heap.size + 1 + 1 + 1) :: lv.ownBlock.toList ∨ X.heap.size ≤ g)
    (hs0 : Blk V (w.heap.size + 1 + 1 + 1) [.slice (some ⟨g, 0, none⟩) (ys.length + 1) cap] 25) (hs1 : Upd ((w.heap.size + 1 + 1 + 1) :: lv.ownBlock.toList) X V) (hs2 : V.ownsRow W4.heap.size 27 7 (.slice (some ⟨g, 0, none⟩) (ys.length + 1) cap) (ys.length + 1) ((ys.map (fun y => y.1.1)).flatten ++ [z0, z1, z2, z3, z4, z5, z6]))
    (hk : (ys.map (fun y => y.1.1)).flatten.length = k) (hx : x.1.1 = [y0, y1, y2, y3, y4, y5, y6]) :
    KeepsFrom W4.heap.size W (put7at V g k y0 y1 y2 y3 y4 y5 y6) ∧ KW w.heap.size (w.heap.size + 1 + 1 + 1) W (put7at V g k y0 y1 y2 y3 y4 y5 y6) ∧ ARel w W4 most n (.slice (some ⟨g, 0, none⟩) (ys.length + 1) cap) (ys ++ [x]) (put7at V g k y0 y1 y2 y3 y4 y5 y6) := by
  have hU := hs1.put7at hgS k y0 y1 y2 y3 y4 y5 y6
  have hBB := hs0.put7at hng k y0 y1 y2 y3 y4 y5 y6
  have hlt := h.lt
  have hsX := hX.size
  have hOO : (put7at V g k y0 y1 y2 y3 y4 y5 y6).ownsRow W4.heap.size 27 7 (.slice (some ⟨g, 0, none⟩) (ys.length + 1) cap) (ys.length + 1) ((ys.map (fun y => y.1.1)).flatten ++ x.1.1) := by
    rw [hx]
    have h1 := own_put7at hs2 k y0 y1 y2 y3 y4 y5 y6
    rw [← hk, set7_append, hk] at h1
    exact h1
  have hUW : Upd ((w.heap.size + 1 + 1 + 1) :: lv.ownBlock.toList) W X := hX.mono (fun x hx _ => by cases hx)
  refine ARel.next h hz (hUW.then hU) hBB hOO ?_
  rcases hg with e | e
  · exact .inl e.symm
  · exact .inr ⟨g, rfl, by omega⟩

theorem all_leafB {w W4 W X w10 : World} {most : Int} {n g cap j k : Nat} {lv : Value} {ys : List (Cd w w.heap.size n)} {x : Cd w w.heap.size n} {y0 y1 y2 y3 y4 y5 y6 z0 z1 z2 z3 z4 z5 z6 : Value} (h : ARel w W4 most n lv ys W) (hz : w.heap.size + 4 ≤ W4.heap.size) (hj : ys.length = j)
    (hX : Upd [] W X) (hgr : X.grownBy w10 lv.ownBlock) (hg : lv.ownBlock = some g ∨ g = X.heap.size) (hO : w10.ownsRow W4.heap.size 27 7 (.slice (some ⟨g, 0, none⟩) (j + 1) cap) (j + 1) ((ys.map (fun y => y.1.1)).flatten ++ [z0, z1, z2, z3, z4, z5, z6]))
    (hk : (ys.map (fun y => y.1.1)).flatten.length = k) (hx : x.1.1 = [y0, y1, y2, y3, y4, y5, y6]) :
    KeepsFrom W4.heap.size W (put7at (w10.setCell ⟨w.heap.size + 1 + 1 + 1, 0, none⟩ (.slice (some ⟨g, 0, none⟩) (j + 1) cap)) g k y0 y1 y2 y3 y4 y5 y6) ∧ KW w.heap.size (w.heap.size + 1 + 1 + 1) W (put7at (w10.setCell ⟨w.heap.size + 1 + 1 + 1, 0, none⟩ (.slice (some ⟨g, 0, none⟩) (j + 1) cap)) g k y0 y1 y2 y3 y4 y5 y6) ∧ ARel w W4 most n (.slice (some ⟨g, 0, none⟩) (j + 1) cap) (ys ++ [x]) (put7at (w10.setCell ⟨w.heap.size + 1 + 1 + 1, 0, none⟩ (.slice (some ⟨g, 0, none⟩) (j + 1) cap)) g k y0 y1 y2 y3 y4 y5 y6) := by
  have hlo := h.own.lt
  have hsX := hX.size
  have hlt := h.lt
  have hng : w.heap.size + 1 + 1 + 1 ≠ g := by
    rcases hg with e | e
    · have := (hlo g e).1
      omega
    · omega
  have hgS : g ∈ (w.heap.size + 1 + 1 + 1) :: lv.ownBlock.toList ∨ X.heap.size ≤ g := by
    rcases hg with e | e
    · exact .inl (by rw [e]; simp)
    · exact .inr (by omega)
  have hB0 : Blk w10 (w.heap.size + 1 + 1 + 1) [lv] 25 := (hX.blk h.box (by simp)).of_eq (hgr.block _ (hX.blk h.box (by simp)).lt (fun e => by
    have := (hlo _ e.symm).1
    omega))
  have hu10 : Upd ((w.heap.size + 1 + 1 + 1) :: lv.ownBlock.toList) X w10 := Upd.of_grown hgr (fun k hk => by rw [hk]; simp)
  subst hj
  exact all_leafV h hz hX hg hng hgS (hB0.set 0 _) (hu10.setCell _ (p := ⟨w.heap.size + 1 + 1 + 1, 0, none⟩) (.inl (by simp)))
    (own_upd hO ((Upd.refl [w.heap.size + 1 + 1 + 1] w10).setCell _ (p := ⟨w.heap.size + 1 + 1 + 1, 0, none⟩) (.inl (by simp))) (fun g' hg' hx => hng ((own_blk hg').trans (by simpa using hx)).symm)) hk hx
end Go.Proofs.Ytknbgbeepachgaa
