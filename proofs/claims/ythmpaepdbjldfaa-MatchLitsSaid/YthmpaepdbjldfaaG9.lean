/-
  Texts of this claim, merged: Args. Lemmas and contracts; no conditions of our own.
-/
import Derived.Test.YthmpaepdbjldfaaG1
import Derived.ProofKit
import Derived.Deep.Slices
import Derived.OpenShut

/-
  What an argument reads as, opened type by type: small lemmas over any program.
-/
namespace Go.Proofs.Ythmpaepdbjldfaa
set_option linter.unusedVariables false
set_option linter.unusedSimpArgs false
open Go.RowKit Go.ChangeShapes Go.WideShapes

/-- These cells read as a value of type t, in so many levels. -/
def RdN (P : Program) (w : World) (n : Nat) (t : TypeId) (cs : List Value) : Prop :=
  ∃ (H : Type) (enc : TypeId × Value → H) (base : Nat) (x : DataW H × List MemPlace), DataW.trod enc P w base (fun _ => true) true n t cs = some x

section
variable {P : Program} {w : World} {n : Nat} {t : TypeId} {cs : List Value}
theorem RdN.int {k : IntKind} (ht : P.underlying t = some (.int k)) (h : RdN P w n t cs) : ∃ z, cs = [.int k z] ∧ (Lit.int k z).wf = true := by
  obtain ⟨H, enc, base, x, h⟩ := h
  obtain ⟨z, h1, _, h2⟩ := DataW.trod_int ht h
  exact ⟨z, h1, h2⟩
theorem RdN.bool (ht : P.underlying t = some .bool) (h : RdN P w n t cs) : ∃ b, cs = [.bool b] := by
  obtain ⟨H, enc, base, x, h⟩ := h
  obtain ⟨z, h1, _⟩ := DataW.trod_bool ht h
  exact ⟨z, h1⟩
theorem RdN.str (ht : P.underlying t = some .string) (h : RdN P w n t cs) : ∃ s : ByteArray, cs = [.string s] ∧ s.size ≤ maxLen := by
  obtain ⟨H, enc, base, x, h⟩ := h
  obtain ⟨z, h1, _, h2⟩ := DataW.trod_string ht h
  exact ⟨z, h1, h2⟩
theorem add_none (b o k : Nat) : (⟨b, o, none⟩ : Addr).add k = ⟨b, o + k, none⟩ := by
  unfold Addr.add
  split <;> simp_all
theorem spot_zero {w : World} {a : Addr} {v : Value} (h : w.cell? (a.add 0) = some v) : ∃ b o, a = ⟨b, o, none⟩ := by
  obtain ⟨b, o, s⟩ := a
  have := World.cell?_spot h
  cases s with
  | none => exact ⟨b, o, rfl⟩
  | some s => simp [Addr.add] at this
/-- A slice: nil, or so many elements, each read. -/
theorem RdN.slice {e : TypeId} (ht : P.underlying t = some (.slice e)) (hsz : 0 < P.cellsOf e) (h : RdN P w n t cs) :
    cs = [.slice none 0 0] ∨ ∃ (a : Addr) (len cap m : Nat), n = m + 1 ∧ cs = [.slice (some a) len cap] ∧ len ≤ cap ∧ cap ≤ maxLen ∧
      ∀ i, i < cap → ∃ b o cs', a = ⟨b, o, none⟩ ∧ cs'.length = P.cellsOf e ∧ (∀ j, j < P.cellsOf e → w.cell? ⟨b, o + i * P.cellsOf e + j, none⟩ = cs'[j]?) ∧ RdN P w m e cs' := by
  obtain ⟨H, enc, base, x, h⟩ := h
  rcases DataW.trod_slice ht h with ⟨h, _⟩ | ⟨a, len, cap, elems, rest, m, hn, hcs, _, hb, hl, hm, hlen, hel, hsp, _⟩
  · exact .inl h
  · refine .inr ⟨a, len, cap, m, hn, hcs, hl, hm, fun i hi => ?_⟩
    have hgot : ∀ i, i < cap → ∃ cs' y, w.cells? base (a.add (i * P.cellsOf e)) (P.cellsOf e) = some cs' ∧ DataW.trod enc P w base (fun _ => true) true m e cs' = some y := by
      intro i hi
      have hgot : ∃ y, (w.cells? base (a.add (i * P.cellsOf e)) (P.cellsOf e)).bind (DataW.trod enc P w base (fun _ => true) true m e) = some y := by
        rcases Nat.lt_or_ge i len with hlt | hge
        · exact ⟨_, (hel i hlt).trans (List.getElem?_eq_getElem (by omega))⟩
        · obtain ⟨h1, h2⟩ := hsp rfl
          have := h2 (i - len) (by omega)
          rw [show len + (i - len) = i by omega] at this
          exact ⟨_, this.trans (List.getElem?_eq_getElem (by omega))⟩
      obtain ⟨y, hy⟩ := hgot
      obtain ⟨cs', h1, h2⟩ := Option.bind_eq_some_iff.1 hy
      exact ⟨cs', y, h1, h2⟩
    obtain ⟨b, o, rfl⟩ : ∃ b o, a = ⟨b, o, none⟩ := by
      obtain ⟨cs', y, h1, h2⟩ := hgot 0 (by omega)
      obtain ⟨_, h4, h5⟩ := World.cells?_some h1
      have h0 := h5 0 hsz
      rw [List.getElem?_eq_getElem (by omega), Nat.zero_mul] at h0
      have : (a.add 0).add 0 = a.add 0 := by
        unfold Addr.add
        split <;> simp_all
      rw [this] at h0
      exact spot_zero h0
    obtain ⟨cs', y, h1, h2⟩ := hgot i hi
    obtain ⟨_, h4, h5⟩ := World.cells?_some h1
    refine ⟨b, o, cs', rfl, h4, fun j hj => ?_, ⟨H, enc, base, y, h2⟩⟩
    have := h5 j hj
    rw [add_none, add_none] at this
    exact this
theorem RdN.struct {fs : Array Field} (ht : P.underlying t = some (.struct fs)) (h : RdN P w n t cs) :
    ∃ m, n = m + 1 ∧ cs.length = P.cellsOf t ∧ ∀ (i : Nat) (f : Field), fs[i]? = some f → RdN P w m f.type ((cs.drop f.offset).take (P.cellsOf f.type)) := by
  obtain ⟨H, enc, base, x, h⟩ := h
  obtain ⟨xs, m, hn, _, hl, hx, hf⟩ := DataW.trod_struct ht h
  refine ⟨m, hn, hl, fun i f hi => ?_⟩
  have hlt : i < fs.size := (Array.getElem?_eq_some_iff.1 hi).1
  exact ⟨H, enc, base, _, (hf i f hi).trans (List.getElem?_eq_getElem (by omega))⟩
theorem RdN.array {k : Nat} {e : TypeId} (ht : P.underlying t = some (.array k e)) (h : RdN P w n t cs) :
    ∃ m, n = m + 1 ∧ cs.length = P.cellsOf t ∧ ∀ i, i < k → RdN P w m e ((cs.drop (i * P.cellsOf e)).take (P.cellsOf e)) := by
  obtain ⟨H, enc, base, x, h⟩ := h
  obtain ⟨xs, m, hn, _, hl, hx, hf⟩ := DataW.trod_array ht h
  exact ⟨m, hn, hl, fun i hi => ⟨H, enc, base, _, (hf i hi).trans (List.getElem?_eq_getElem (by omega))⟩⟩
end

theorem ArgIs.rd {P : Program} {w : World} {t : TypeId} {v : Value} (h : ArgIs P w t v) : ∃ n, RdN P w n t v.cells.toList := by
  obtain ⟨H, enc, d, ps, ⟨n, h⟩, _⟩ := h
  exact ⟨n, H, enc, 0, _, h⟩
theorem ArgIs.agg {P : Program} {w : World} {t : TypeId} {v : Value} (h : ArgIs P w t v) (ht : (match P.underlying t with | some (.struct _) | some (.array _ _) => true | _ => false) = true) : ∃ cs n, v = .agg cs ∧ RdN P w n t cs.toList := by
  obtain ⟨n, hr⟩ := h.rd
  obtain ⟨H, enc, d, ps, _, base, hok⟩ := h
  unfold Value.okWide at hok
  split at hok
  · obtain ⟨cs, rfl, _⟩ := hok
    exact ⟨cs, n, rfl, hr⟩
  · obtain ⟨cs, rfl, _⟩ := hok
    exact ⟨cs, n, rfl, hr⟩
  · simp_all
theorem ArgIs.slice {P : Program} {w : World} {t e : TypeId} {v : Value} (h : ArgIs P w t v) (ht : P.underlying t = some (.slice e)) : ∃ a len cap n, v = .slice a len cap ∧ RdN P w n t [v] := by
  obtain ⟨n, hr⟩ := h.rd
  obtain ⟨H, enc, d, ps, _, base, hok⟩ := h
  obtain ⟨a, len, cap, rfl⟩ := okWide_slice ht hok
  exact ⟨a, len, cap, n, rfl, hr⟩

theorem SlI.lt {w : World} {k : IntKind} {a : Option Addr} {xs : List Int} (h : SlI w k a xs) (hx : 0 < xs.length) : ∃ b o, a = some ⟨b, o, none⟩ ∧ b < w.heap.size := by
  obtain ⟨b, o, e, hc⟩ := h 0 hx
  exact ⟨b, o, e, World.block_lt_of_cell? w _ hc⟩
end Go.Proofs.Ythmpaepdbjldfaa
