/-
  Texts of this claim, merged: DatG. Lemmas and contracts; no conditions of our own.
-/
import Derived.Test.YthmpaepdbjldfaaG14
import Derived.Lib.AppendZeros

/-
  slices.Grow of nothing, slices.Concat, datum.parts.
-/
namespace Go.Proofs.Ythmpaepdbjldfaa
set_option linter.unusedVariables false
set_option linter.unusedSimpArgs false
open Go.RowKit

set_option maxRecDepth 100000 in
set_option maxHeartbeats 1500000 in
theorem grow_calls (w : World) (n : Nat) (hn : n ≤ 100000) :
    Calls Try.prog 109 #[.slice none 0 0, .int .i64 n] w fun e w' => (∃ v, e = .returned v ∧ w'.ownsRow w.heap.size 27 7 v 0 []) ∧ Upd [] w w' := by
  by_cases h0 : n = 0
  · subst h0
    go_enter Try.func109, Try.ntmps109
    go_wp2
    go_ret
    exact ⟨⟨_, rfl, World.ownsRow_nil _ _ _ _⟩, Upd.refl _ _⟩
  · obtain ⟨i, hi, hz0, hz1, hz2⟩ := info_parts info_dat
    have hpos : 0 < n := by omega
    have hr := fun (ty : TypeId) => Lib.run_append_nil_zeros (P := Try.prog) w 25 3 ty 27 i _ .i64 .i64 Try.underlying25 Try.underlying3 hi hz0 n hpos (by omega) (by omega) (by rw [hz2]; omega)
    obtain ⟨CUR, hCUR⟩ : ∃ CUR, CUR = Builtin.zeroCells (Value.cells (.agg (datCells 0 false none 0 0 false ByteArray.empty none 0 0 none 0 0).toArray)) n ++ Builtin.zeroCells (Value.cells (.agg (datCells 0 false none 0 0 false ByteArray.empty none 0 0 none 0 0).toArray)) (grownCap w n 0 27 - n) := ⟨_, rfl⟩
    have hge := grownCap_ge w n 0 27
    have hle := grownCap_le_maxLen w n 0 27 (by unfold maxLen; omega)
    have hsz : CUR.size = grownCap w n 0 27 * 7 := by
      rw [hCUR, Array.size_append, size_zeroCells, size_zeroCells]
      have : (Value.cells (.agg (datCells 0 false none 0 0 false ByteArray.empty none 0 0 none 0 0).toArray)).size = 7 := rfl
      rw [this]
      omega
    have hown := World.ownsRow_made (base := w.heap.size) (e := 27) (size := 7) w.drew CUR _ (Nat.le_refl _) hle hsz
    have hU : Upd [] w (w.drew.alloc (.cells CUR 27)) := ((Upd.refl [] w).drew).alloc _
    rw [← hCUR] at hr
    clear hCUR hge hsz hle
    generalize grownCap w n 0 27 = cap at *
    have HO := Lib.hid hown
    have HU := Lib.hid hU
    have HR := Lib.hid hr
    clear hr hown hU
    go_enter Try.func109, Try.ntmps109
    go_wp2_with (at_builtin; refine Lib.wpList_append_run _ rfl _ _ _ _ rfl _ _ rfl rfl _ _ (HR.out _) ?_)
    go_wp2
    go_ret
    exact ⟨⟨_, rfl, HO.out⟩, HU.out⟩

/-- A row of one's own, each of its elements as R says. -/
def OwnD (R : List Value → Dat → Prop) (w0 w : World) (v : Value) (ds : List Dat) : Prop :=
  ∃ css : List (List Value), css.length = ds.length ∧ (∀ i, i < ds.length → R (css.getD i []) (ds.getD i default)) ∧ w.ownsRow w0.heap.size 27 7 v ds.length css.flatten
theorem OwnD.step {R : List Value → Dat → Prop} {w0 w w' : World} {v : Value} {ds : List Dat} (h : OwnD R w0 w v ds) (hu : Upd [] w w') : OwnD R w0 w' v ds := by
  obtain ⟨css, h1, h2, h3⟩ := h
  exact ⟨css, h1, h2, own_upd0 h3 hu⟩
theorem getD_append {α : Type} {a b : List α} {z : α} {i : Nat} : (a ++ b).getD i z = if i < a.length then a.getD i z else b.getD (i - a.length) z := by
  split
  · rename_i h
    simp [List.getD_eq_getElem?_getD, List.getElem?_append_left h]
  · rename_i h
    simp [List.getD_eq_getElem?_getD, List.getElem?_append_right (Nat.le_of_not_lt h)]
theorem OwnD.add {R : List Value → Dat → Prop} {w0 w' : World} {v' : Value} {ds es : List Dat} {css ns : List (List Value)}
    (h1 : css.length = ds.length) (h2 : ∀ i, i < ds.length → R (css.getD i []) (ds.getD i default))
    (k1 : ns.length = es.length) (k2 : ∀ i, i < es.length → R (ns.getD i []) (es.getD i default))
    (hO : w'.ownsRow w0.heap.size 27 7 v' (ds.length + es.length) (css.flatten ++ ns.flatten)) : OwnD R w0 w' v' (ds ++ es) := by
  refine ⟨css ++ ns, by simp [h1, k1], fun i hi => ?_, by simpa using hO⟩
  rw [List.length_append] at hi
  rw [getD_append, getD_append, h1]
  split
  · rename_i hl
    exact h2 i hl
  · rename_i hl
    exact k2 _ (by omega)
theorem flatten_len {css : List (List Value)} (h : ∀ cs ∈ css, cs.length = 7) : css.flatten.length = css.length * 7 := by
  induction css with
  | nil => rfl
  | cons c css ih =>
    rw [List.flatten_cons, List.length_append, h c (by simp), ih (fun cs hc => h cs (by simp [hc])), List.length_cons]
    omega
/-- The cells of a row. -/
theorem RowOf.cellsR {w : World} {P : Nat → Prop} {R : List Value → Dat → Prop} {a : Option Addr} {ds : List Dat} (h : RowOf w P R a ds) (hsh : ∀ cs d, R cs d → Shaped cs) : ∃ ns : List (List Value), ns.length = ds.length ∧ (∀ i, i < ds.length → R (ns.getD i []) (ds.getD i default)) ∧ ns.flatten.length = ds.length * 7 ∧ (∀ u ∈ ns.flatten, u.oneCell' = true) ∧ (∀ ad, a = some ad → ∀ j u, ns.flatten[j]? = some u → w.cell? (ad.add j) = some u) := by
  have hx : ∀ i, i < ds.length → ∃ cs : List Value, ∃ b o, a = some ⟨b, o, none⟩ ∧ At7 w b (o + i * 7) cs ∧ R cs (ds.getD i default) := by
    intro i hi
    obtain ⟨b, o, cs, e, _, h1, h2⟩ := h i hi
    exact ⟨cs, b, o, e, h1, h2⟩
  obtain ⟨f, hf⟩ := Deep.choose_lt hx
  have hg : ∀ i, i < ds.length → ((List.range ds.length).map f).getD i [] = f i := by
    intro i hi
    simp [List.getD_eq_getElem?_getD, hi]
  have hl : ∀ cs ∈ (List.range ds.length).map f, cs.length = 7 := by
    intro cs hc
    obtain ⟨i, hi, rfl⟩ := List.mem_map.1 hc
    obtain ⟨b, o, _, h1, _⟩ := hf i (by simpa using hi)
    exact h1.1
  have hflen : ((List.range ds.length).map f).flatten.length = ds.length * 7 := by
    have := flatten_len hl
    simpa using this
  refine ⟨(List.range ds.length).map f, by simp, fun i hi => ?_, hflen, fun u hu => ?_, fun ad e j u hj => ?_⟩
  · rw [hg i hi]
    obtain ⟨b, o, _, _, h2⟩ := hf i hi
    exact h2
  · obtain ⟨cs, hc, hu⟩ := List.mem_flatten.1 hu
    obtain ⟨i, hi, rfl⟩ := List.mem_map.1 hc
    obtain ⟨b, o, _, _, h2⟩ := hf i (by simpa using hi)
    exact (hsh _ _ h2).one u hu
  · have hjl : j < ds.length * 7 := by
      rw [← hflen]
      exact (List.getElem?_eq_some_iff.1 hj).1
    have hi : j / 7 < ds.length := by omega
    have hf2 := flatten_get hl (i := j / 7) (j := j % 7) (by simpa using hi) (by omega)
    rw [show j / 7 * 7 + j % 7 = j by omega, hj, hg _ hi] at hf2
    obtain ⟨b, o, e2, h1, _⟩ := hf (j / 7) hi
    rw [e2] at e
    injection e with e
    subst e
    have : (⟨b, o, none⟩ : Addr).add j = ⟨b, o + j / 7 * 7 + j % 7, none⟩ := by
      have : o + j / 7 * 7 + j % 7 = o + j := by omega
      rw [this]
      unfold Addr.add
      split <;> simp_all
    rw [this, h1.2 (j % 7) (by omega), ← hf2]
theorem RowOf.cells {w : World} {P : Nat → Prop} {n : Nat} {a : Option Addr} {ds : List Dat} (h : RowOf w P (IsD w P n) a ds) : ∃ ns : List (List Value), ns.length = ds.length ∧ (∀ i, i < ds.length → IsD w P n (ns.getD i []) (ds.getD i default)) ∧ ns.flatten.length = ds.length * 7 ∧ (∀ u ∈ ns.flatten, u.oneCell' = true) ∧ (∀ ad, a = some ad → ∀ j u, ns.flatten[j]? = some u → w.cell? (ad.add j) = some u) :=
  h.cellsR (fun _ _ h => h.shaped)
end Go.Proofs.Ythmpaepdbjldfaa
