/-
  What an argument reads as, with the bounds on what it takes: small lemmas over any program.
-/
import Derived.Test.YtknbgbeepachgaaArgs
import Derived.SizedLaws
namespace Go.Proofs.Ytknbgbeepachgaa
open Go.RowKit Go.ChangeShapes Go.WideShapes

/-- These cells read as a value of type t, in so many levels; no string or slice of it takes more than there may be. -/
def RdS (P : Program) (w : World) (n : Nat) (t : TypeId) (cs : List Value) : Prop :=
  ∃ (H : Type) (enc : TypeId × Value → H) (base : Nat) (x : DataW H × List MemPlace), DataW.trod enc P w base (fun _ => true) true n t cs = some x ∧ ∀ k, k ∈ x.1.weights P t → k ≤ 140737488351232
def ArgS (P : Program) (w : World) (t : TypeId) (v : Value) : Prop := ∃ n, RdS P w n t v.cells.toList ∧ ∃ base, Value.okWide P w .any base t v

section
variable {P : Program} {w : World} {n : Nat} {t : TypeId} {cs : List Value}
theorem RdS.rd (h : RdS P w n t cs) : RdN P w n t cs := by
  obtain ⟨H, enc, base, x, h, _⟩ := h
  exact ⟨H, enc, base, x, h⟩
theorem RdS.int {k : IntKind} (ht : P.underlying t = some (.int k)) (h : RdS P w n t cs) : ∃ z, cs = [.int k z] ∧ (Lit.int k z).wf = true := h.rd.int ht
theorem RdS.bool (ht : P.underlying t = some .bool) (h : RdS P w n t cs) : ∃ b, cs = [.bool b] := h.rd.bool ht
theorem RdS.str (ht : P.underlying t = some .string) (h : RdS P w n t cs) : ∃ s : ByteArray, cs = [.string s] ∧ s.size ≤ 140737488351232 := by
  obtain ⟨H, enc, base, x, h, hx⟩ := h
  obtain ⟨z, h1, rfl, _⟩ := DataW.trod_string ht h
  exact ⟨z, h1, hx _ (by simp [DataW.weights])⟩
theorem weightsAll_get {H : Type} {P : Program} {e : TypeId} : ∀ {l : List (DataW H)} {i : Nat} {d : DataW H}, l[i]? = some d → ∀ k, k ∈ d.weights P e → k ∈ DataW.weightsAll P e l
  | d0 :: r, 0, d, hi, k, hk => by
    simp at hi
    subst hi
    simp only [DataW.weightsAll, List.mem_append]
    exact .inl hk
  | d0 :: r, i + 1, d, hi, k, hk => by
    simp at hi
    simp only [DataW.weightsAll, List.mem_append]
    exact .inr (weightsAll_get hi k hk)
  | [], _, _, hi, _, _ => by simp at hi
/-- A slice: nil, or so many elements, each read. -/
theorem RdS.slice {e : TypeId} (ht : P.underlying t = some (.slice e)) (hsz : 0 < P.cellsOf e) (h : RdS P w n t cs) :
    cs = [.slice none 0 0] ∨ ∃ (a : Addr) (len cap m : Nat), n = m + 1 ∧ cs = [.slice (some a) len cap] ∧ len ≤ cap ∧ cap ≤ maxLen ∧ cap * P.bytesOf e ≤ 140737488351232 ∧
      ∀ i, i < cap → ∃ b o cs', a = ⟨b, o, none⟩ ∧ cs'.length = P.cellsOf e ∧ (∀ j, j < P.cellsOf e → w.cell? ⟨b, o + i * P.cellsOf e + j, none⟩ = cs'[j]?) ∧ RdS P w m e cs' := by
  obtain ⟨H, enc, base, x, h, hx⟩ := h
  rcases DataW.trod_slice ht h with ⟨h, _⟩ | ⟨a, len, cap, elems, rest, m, hn, hcs, rfl, hb, hl, hm, hlen, hel, hsp, _⟩
  · exact .inl h
  · obtain ⟨hr1, hr2⟩ := hsp rfl
    have hw : (DataW.slice (elems.map (·.1)) (rest.map (·.1))).weights P t = ((elems.map (·.1)).length + (rest.map (·.1)).length) * P.bytesOf e :: (DataW.weightsAll P e (elems.map (·.1)) ++ DataW.weightsAll P e (rest.map (·.1))) := by
      simp [DataW.weights, ht]
    rw [hw] at hx
    have hcap := hx _ (List.mem_cons_self ..)
    simp only [List.length_map] at hcap
    rw [show elems.length + rest.length = cap by omega] at hcap
    refine .inr ⟨a, len, cap, m, hn, hcs, hl, hm, hcap, fun i hi => ?_⟩
    have hgot : ∀ i, i < cap → ∃ cs' y, w.cells? base (a.add (i * P.cellsOf e)) (P.cellsOf e) = some cs' ∧ DataW.trod enc P w base (fun _ => true) true m e cs' = some y ∧ ∀ k, k ∈ y.1.weights P e → k ≤ 140737488351232 := by
      intro i hi
      have hgot : ∃ y, (w.cells? base (a.add (i * P.cellsOf e)) (P.cellsOf e)).bind (DataW.trod enc P w base (fun _ => true) true m e) = some y ∧ ∀ k, k ∈ y.1.weights P e → k ≤ 140737488351232 := by
        rcases Nat.lt_or_ge i len with hlt | hge
        · have he : elems[i]? = some (elems[i]'(by omega)) := List.getElem?_eq_getElem (by omega)
          refine ⟨_, (hel i hlt).trans he, fun k hk => hx k (List.mem_cons_of_mem _ (List.mem_append_left _ (weightsAll_get (i := i) (by rw [List.getElem?_map, he]; rfl) k hk)))⟩
        · have h2 := hr2 (i - len) (by omega)
          rw [show len + (i - len) = i by omega] at h2
          have he : rest[i - len]? = some (rest[i - len]'(by omega)) := List.getElem?_eq_getElem (by omega)
          refine ⟨_, h2.trans he, fun k hk => hx k (List.mem_cons_of_mem _ (List.mem_append_right _ (weightsAll_get (i := i - len) (by rw [List.getElem?_map, he]; rfl) k hk)))⟩
      obtain ⟨y, hy, hk⟩ := hgot
      obtain ⟨cs', h1, h2⟩ := Option.bind_eq_some_iff.1 hy
      exact ⟨cs', y, h1, h2, hk⟩
    obtain ⟨b, o, rfl⟩ : ∃ b o, a = ⟨b, o, none⟩ := by
      obtain ⟨cs', y, h1, h2, _⟩ := hgot 0 (by omega)
      obtain ⟨_, h4, h5⟩ := World.cells?_some h1
      have h0 := h5 0 hsz
      rw [List.getElem?_eq_getElem (by omega), Nat.zero_mul] at h0
      have : (a.add 0).add 0 = a.add 0 := by
        unfold Addr.add
        split <;> simp_all
      rw [this] at h0
      exact spot_zero h0
    obtain ⟨cs', y, h1, h2, hk⟩ := hgot i hi
    obtain ⟨_, h4, h5⟩ := World.cells?_some h1
    refine ⟨b, o, cs', rfl, h4, fun j hj => ?_, ⟨H, enc, base, y, h2, hk⟩⟩
    have := h5 j hj
    rw [add_none, add_none] at this
    exact this
theorem RdS.struct {fs : Array Field} (ht : P.underlying t = some (.struct fs)) (h : RdS P w n t cs) :
    ∃ m, n = m + 1 ∧ cs.length = P.cellsOf t ∧ ∀ (i : Nat) (f : Field), fs[i]? = some f → RdS P w m f.type ((cs.drop f.offset).take (P.cellsOf f.type)) := by
  obtain ⟨H, enc, base, x, h, hw⟩ := h
  obtain ⟨xs, m, hn, rfl, hl, hx, hf⟩ := DataW.trod_struct ht h
  refine ⟨m, hn, hl, fun i f hi => ?_⟩
  have hlt : i < fs.size := (Array.getElem?_eq_some_iff.1 hi).1
  have he : xs[i]? = some (xs[i]'(by omega)) := List.getElem?_eq_getElem (by omega)
  refine ⟨H, enc, base, _, (hf i f hi).trans he, fun k hk => hw k ?_⟩
  have e : (DataW.agg (xs.map (·.1))).weights P t = DataW.weightsEach P (fs.toList.map (·.type)) (xs.map (·.1)) := by simp [DataW.weights, ht]
  rw [e]
  exact DataW.weights_mem_each (j := i) (by rw [List.getElem?_map, Array.getElem?_toList, hi]; rfl) (by rw [List.getElem?_map, he]; rfl) k hk
theorem RdS.array {k : Nat} {e : TypeId} (ht : P.underlying t = some (.array k e)) (h : RdS P w n t cs) :
    ∃ m, n = m + 1 ∧ cs.length = P.cellsOf t ∧ ∀ i, i < k → RdS P w m e ((cs.drop (i * P.cellsOf e)).take (P.cellsOf e)) := by
  obtain ⟨H, enc, base, x, h, hw⟩ := h
  obtain ⟨xs, m, hn, rfl, hl, hx, hf⟩ := DataW.trod_array ht h
  refine ⟨m, hn, hl, fun i hi => ?_⟩
  have he : xs[i]? = some (xs[i]'(by omega)) := List.getElem?_eq_getElem (by omega)
  refine ⟨H, enc, base, _, (hf i hi).trans he, fun k hk => hw k ?_⟩
  have e : (DataW.agg (xs.map (·.1))).weights P t = DataW.weightsAll P e (xs.map (·.1)) := by simp [DataW.weights, ht]
  rw [e]
  exact weightsAll_get (i := i) (by rw [List.getElem?_map, he]; rfl) k hk
end
theorem argS_mk {H : Type} {enc : TypeId × Value → H} {P : Program} {W : World} {t : TypeId} {v : Value} {d : DataW H} {p : List MemPlace} {ts : List TypeId} {ds : List (DataW H)} (h : DataW.Trod enc P W 0 (fun _ => true) true t v d p)
    (hsz : (DataW.weightsEach P ts ds).all (· ≤ reachBytes) = true) {j : Nat} (ht : ts[j]? = some t) (hd : ds[j]? = some d) {base : Nat} (hok : Value.okWide P W .any base t v) : ArgS P W t v := by
  obtain ⟨n, hn⟩ := h
  refine ⟨n, ⟨H, enc, 0, (d, p), hn, fun k hk => ?_⟩, base, hok⟩
  have := List.all_eq_true.1 hsz _ (DataW.weights_mem_each ht hd k hk)
  exact of_decide_eq_true this
theorem ArgS.arg {P : Program} {w : World} {t : TypeId} {v : Value} (h : ArgS P w t v) : ∃ n, RdS P w n t v.cells.toList := by
  obtain ⟨n, h, _⟩ := h
  exact ⟨n, h⟩
theorem ArgS.agg {P : Program} {w : World} {t : TypeId} {v : Value} (h : ArgS P w t v) (ht : (match P.underlying t with | some (.struct _) | some (.array _ _) => true | _ => false) = true) : ∃ cs n, v = .agg cs ∧ RdS P w n t cs.toList := by
  obtain ⟨n, hr, base, hok⟩ := h
  unfold Value.okWide at hok
  split at hok
  · obtain ⟨cs, rfl, _⟩ := hok
    exact ⟨cs, n, rfl, hr⟩
  · obtain ⟨cs, rfl, _⟩ := hok
    exact ⟨cs, n, rfl, hr⟩
  · simp_all
theorem ArgS.slice {P : Program} {w : World} {t e : TypeId} {v : Value} (h : ArgS P w t v) (ht : P.underlying t = some (.slice e)) : ∃ a len cap n, v = .slice a len cap ∧ RdS P w n t [v] := by
  obtain ⟨n, hr, base, hok⟩ := h
  obtain ⟨a, len, cap, rfl⟩ := okWide_slice ht hok
  exact ⟨a, len, cap, n, rfl, hr⟩
end Go.Proofs.Ytknbgbeepachgaa
