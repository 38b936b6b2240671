/-
  Texts of this claim, merged: Sized, DatM, DatB, DatW, DatT, DatS, DatA, DatL, DatC. Lemmas and contracts; no conditions of our own.
-/
import Derived.Test.YthmpaepdbjldfaaG9
import Derived.SizedLaws
import Derived.Test.YthmpaepdbjldfaaRows

/-
  What an argument reads as, with the bounds on what it takes: small lemmas over any program.
-/
namespace Go.Proofs.Ythmpaepdbjldfaa
set_option linter.unusedVariables false
set_option linter.unusedSimpArgs false
open Go.RowKit Go.ChangeShapes Go.WideShapes

/-- These cells read as a value of type t, in so many levels; no string or slice of it takes more than there may be. -/
def RdS (P : Program) (w : World) (n : Nat) (t : TypeId) (cs : List Value) : Prop :=
  ∃ (H : Type) (enc : TypeId × Value → H) (base : Nat) (x : DataW H × List MemPlace), DataW.trod enc P w base (fun _ => true) true n t cs = some x ∧ ∀ k, k ∈ x.1.weights P t → k ≤ 140737488351232
def ArgS (P : Program) (w : World) (t : TypeId) (v : Value) : Prop := ∃ n, RdS P w n t v.cells.toList ∧ ∃ base, Value.okWide P w .any base t v

section
variable {P : Program} {w : World} {n : Nat} {t : TypeId} {cs : List Value}
theorem RdS.rd (h : RdS P w n t cs) : RdN P w n t cs := by
  obtain ⟨H, enc, base, x, h, _⟩ := h
  exact ⟨H, enc, base, x, h⟩
theorem RdS.int {k : IntKind} (ht : P.underlying t = some (.int k)) (h : RdS P w n t cs) : ∃ z, cs = [.int k z] ∧ (Lit.int k z).wf = true := h.rd.int ht
theorem RdS.bool (ht : P.underlying t = some .bool) (h : RdS P w n t cs) : ∃ b, cs = [.bool b] := h.rd.bool ht
theorem RdS.str (ht : P.underlying t = some .string) (h : RdS P w n t cs) : ∃ s : ByteArray, cs = [.string s] ∧ s.size ≤ 140737488351232 := by
  obtain ⟨H, enc, base, x, h, hx⟩ := h
  obtain ⟨z, h1, rfl, _⟩ := DataW.trod_string ht h
  exact ⟨z, h1, hx _ (by simp [DataW.weights])⟩
theorem weightsAll_get {H : Type} {P : Program} {e : TypeId} : ∀ {l : List (DataW H)} {i : Nat} {d : DataW H}, l[i]? = some d → ∀ k, k ∈ d.weights P e → k ∈ DataW.weightsAll P e l
  | d0 :: r, 0, d, hi, k, hk => by
    simp at hi
    subst hi
    simp only [DataW.weightsAll, List.mem_append]
    exact .inl hk
  | d0 :: r, i + 1, d, hi, k, hk => by
    simp at hi
    simp only [DataW.weightsAll, List.mem_append]
    exact .inr (weightsAll_get hi k hk)
  | [], _, _, hi, _, _ => by simp at hi
/-- A slice: nil, or so many elements, each read. -/
theorem RdS.slice {e : TypeId} (ht : P.underlying t = some (.slice e)) (hsz : 0 < P.cellsOf e) (h : RdS P w n t cs) :
    cs = [.slice none 0 0] ∨ ∃ (a : Addr) (len cap m : Nat), n = m + 1 ∧ cs = [.slice (some a) len cap] ∧ len ≤ cap ∧ cap ≤ maxLen ∧ cap * P.bytesOf e ≤ 140737488351232 ∧
      ∀ i, i < cap → ∃ b o cs', a = ⟨b, o, none⟩ ∧ cs'.length = P.cellsOf e ∧ (∀ j, j < P.cellsOf e → w.cell? ⟨b, o + i * P.cellsOf e + j, none⟩ = cs'[j]?) ∧ RdS P w m e cs' := by
  obtain ⟨H, enc, base, x, h, hx⟩ := h
  rcases DataW.trod_slice ht h with ⟨h, _⟩ | ⟨a, len, cap, elems, rest, m, hn, hcs, rfl, hb, hl, hm, hlen, hel, hsp, _⟩
  · exact .inl h
  · obtain ⟨hr1, hr2⟩ := hsp rfl
    have hw : (DataW.slice (elems.map (·.1)) (rest.map (·.1))).weights P t = ((elems.map (·.1)).length + (rest.map (·.1)).length) * P.bytesOf e :: (DataW.weightsAll P e (elems.map (·.1)) ++ DataW.weightsAll P e (rest.map (·.1))) := by
      simp [DataW.weights, ht]
    rw [hw] at hx
    have hcap := hx _ (List.mem_cons_self ..)
    simp only [List.length_map] at hcap
    rw [show elems.length + rest.length = cap by omega] at hcap
    refine .inr ⟨a, len, cap, m, hn, hcs, hl, hm, hcap, fun i hi => ?_⟩
    have hgot : ∀ i, i < cap → ∃ cs' y, w.cells? base (a.add (i * P.cellsOf e)) (P.cellsOf e) = some cs' ∧ DataW.trod enc P w base (fun _ => true) true m e cs' = some y ∧ ∀ k, k ∈ y.1.weights P e → k ≤ 140737488351232 := by
      intro i hi
      have hgot : ∃ y, (w.cells? base (a.add (i * P.cellsOf e)) (P.cellsOf e)).bind (DataW.trod enc P w base (fun _ => true) true m e) = some y ∧ ∀ k, k ∈ y.1.weights P e → k ≤ 140737488351232 := by
        rcases Nat.lt_or_ge i len with hlt | hge
        · have he : elems[i]? = some (elems[i]'(by omega)) := List.getElem?_eq_getElem (by omega)
          refine ⟨_, (hel i hlt).trans he, fun k hk => hx k (List.mem_cons_of_mem _ (List.mem_append_left _ (weightsAll_get (i := i) (by rw [List.getElem?_map, he]; rfl) k hk)))⟩
        · have h2 := hr2 (i - len) (by omega)
          rw [show len + (i - len) = i by omega] at h2
          have he : rest[i - len]? = some (rest[i - len]'(by omega)) := List.getElem?_eq_getElem (by omega)
          refine ⟨_, h2.trans he, fun k hk => hx k (List.mem_cons_of_mem _ (List.mem_append_right _ (weightsAll_get (i := i - len) (by rw [List.getElem?_map, he]; rfl) k hk)))⟩
      obtain ⟨y, hy, hk⟩ := hgot
      obtain ⟨cs', h1, h2⟩ := Option.bind_eq_some_iff.1 hy
      exact ⟨cs', y, h1, h2, hk⟩
    obtain ⟨b, o, rfl⟩ : ∃ b o, a = ⟨b, o, none⟩ := by
      obtain ⟨cs', y, h1, h2, _⟩ := hgot 0 (by omega)
      obtain ⟨_, h4, h5⟩ := World.cells?_some h1
      have h0 := h5 0 hsz
      rw [List.getElem?_eq_getElem (by omega), Nat.zero_mul] at h0
      have : (a.add 0).add 0 = a.add 0 := by
        unfold Addr.add
        split <;> simp_all
      rw [this] at h0
      exact spot_zero h0
    obtain ⟨cs', y, h1, h2, hk⟩ := hgot i hi
    obtain ⟨_, h4, h5⟩ := World.cells?_some h1
    refine ⟨b, o, cs', rfl, h4, fun j hj => ?_, ⟨H, enc, base, y, h2, hk⟩⟩
    have := h5 j hj
    rw [add_none, add_none] at this
    exact this
theorem RdS.struct {fs : Array Field} (ht : P.underlying t = some (.struct fs)) (h : RdS P w n t cs) :
    ∃ m, n = m + 1 ∧ cs.length = P.cellsOf t ∧ ∀ (i : Nat) (f : Field), fs[i]? = some f → RdS P w m f.type ((cs.drop f.offset).take (P.cellsOf f.type)) := by
  obtain ⟨H, enc, base, x, h, hw⟩ := h
  obtain ⟨xs, m, hn, rfl, hl, hx, hf⟩ := DataW.trod_struct ht h
  refine ⟨m, hn, hl, fun i f hi => ?_⟩
  have hlt : i < fs.size := (Array.getElem?_eq_some_iff.1 hi).1
  have he : xs[i]? = some (xs[i]'(by omega)) := List.getElem?_eq_getElem (by omega)
  refine ⟨H, enc, base, _, (hf i f hi).trans he, fun k hk => hw k ?_⟩
  have e : (DataW.agg (xs.map (·.1))).weights P t = DataW.weightsEach P (fs.toList.map (·.type)) (xs.map (·.1)) := by simp [DataW.weights, ht]
  rw [e]
  exact DataW.weights_mem_each (j := i) (by rw [List.getElem?_map, Array.getElem?_toList, hi]; rfl) (by rw [List.getElem?_map, he]; rfl) k hk
theorem RdS.array {k : Nat} {e : TypeId} (ht : P.underlying t = some (.array k e)) (h : RdS P w n t cs) :
    ∃ m, n = m + 1 ∧ cs.length = P.cellsOf t ∧ ∀ i, i < k → RdS P w m e ((cs.drop (i * P.cellsOf e)).take (P.cellsOf e)) := by
  obtain ⟨H, enc, base, x, h, hw⟩ := h
  obtain ⟨xs, m, hn, rfl, hl, hx, hf⟩ := DataW.trod_array ht h
  refine ⟨m, hn, hl, fun i hi => ?_⟩
  have he : xs[i]? = some (xs[i]'(by omega)) := List.getElem?_eq_getElem (by omega)
  refine ⟨H, enc, base, _, (hf i hi).trans he, fun k hk => hw k ?_⟩
  have e : (DataW.agg (xs.map (·.1))).weights P t = DataW.weightsAll P e (xs.map (·.1)) := by simp [DataW.weights, ht]
  rw [e]
  exact weightsAll_get (i := i) (by rw [List.getElem?_map, he]; rfl) k hk
end
theorem ArgS.arg {P : Program} {w : World} {t : TypeId} {v : Value} (h : ArgS P w t v) : ∃ n, RdS P w n t v.cells.toList := by
  obtain ⟨n, h, _⟩ := h
  exact ⟨n, h⟩
theorem ArgS.agg {P : Program} {w : World} {t : TypeId} {v : Value} (h : ArgS P w t v) (ht : (match P.underlying t with | some (.struct _) | some (.array _ _) => true | _ => false) = true) : ∃ cs n, v = .agg cs ∧ RdS P w n t cs.toList := by
  obtain ⟨n, hr, base, hok⟩ := h
  unfold Value.okWide at hok
  split at hok
  · obtain ⟨cs, rfl, _⟩ := hok
    exact ⟨cs, n, rfl, hr⟩
  · obtain ⟨cs, rfl, _⟩ := hok
    exact ⟨cs, n, rfl, hr⟩
  · simp_all
theorem ArgS.slice {P : Program} {w : World} {t e : TypeId} {v : Value} (h : ArgS P w t v) (ht : P.underlying t = some (.slice e)) : ∃ a len cap n, v = .slice a len cap ∧ RdS P w n t [v] := by
  obtain ⟨n, hr, base, hok⟩ := h
  obtain ⟨a, len, cap, rfl⟩ := okWide_slice ht hok
  exact ⟨a, len, cap, n, rfl, hr⟩
end Go.Proofs.Ythmpaepdbjldfaa

/-
  Data in memory.
-/
namespace Go.Proofs.Ythmpaepdbjldfaa
set_option linter.unusedVariables false
set_option linter.unusedSimpArgs false
open Go.RowKit

/-- A datum: its kind, its number's sign and limbs, its truth, its text, its items and its tail. -/
inductive Dat where
  | mk (kind : Int) (neg : Bool) (limbs : List Int) (b : Bool) (s : ByteArray) (items tail : List Dat)
instance : Inhabited Dat := ⟨.mk 0 false [] false ByteArray.empty [] []⟩
def Dat.kind : Dat → Int | .mk k _ _ _ _ _ _ => k
def Dat.neg : Dat → Bool | .mk _ n _ _ _ _ _ => n
def Dat.limbs : Dat → List Int | .mk _ _ l _ _ _ _ => l
def Dat.b : Dat → Bool | .mk _ _ _ b _ _ _ => b
def Dat.s : Dat → ByteArray | .mk _ _ _ _ s _ _ => s
def Dat.items : Dat → List Dat | .mk _ _ _ _ _ i _ => i
def Dat.tail : Dat → List Dat | .mk _ _ _ _ _ _ t => t

/-- The seven cells of a datum. -/
def datCells (kind : Int) (neg : Bool) (aL : Option Addr) (nL cL : Nat) (b : Bool) (s : ByteArray) (aI : Option Addr) (nI cI : Nat) (aT : Option Addr) (nT cT : Nat) : List Value :=
  [.int .i64 kind, .bool neg, .slice aL nL cL, .bool b, .string s, .slice aI nI cI, .slice aT nT cT]
/-- Seven cells from here on. -/
def At7 (w : World) (b o : Nat) (cs : List Value) : Prop := cs.length = 7 ∧ ∀ j, j < 7 → w.cell? ⟨b, o + j, none⟩ = cs[j]?
/-- Limbs in blocks that P lets in. -/
def LimbsOf (w : World) (P : Nat → Prop) (a : Option Addr) (xs : List Int) : Prop :=
  ∀ i, i < xs.length → ∃ b o, a = some ⟨b, o, none⟩ ∧ P b ∧ w.cell? ⟨b, o + i, none⟩ = some (.int .u32 (xs.getD i 0))
/-- A row of data, each as R says, in blocks that P lets in. -/
def RowOf (w : World) (P : Nat → Prop) (R : List Value → Dat → Prop) (a : Option Addr) (ds : List Dat) : Prop :=
  ∀ i, i < ds.length → ∃ b o cs, a = some ⟨b, o, none⟩ ∧ P b ∧ At7 w b (o + i * 7) cs ∧ R cs (ds.getD i default)
/-- These cells are this datum, in so many levels, in blocks that P lets in. -/
def IsD (w : World) (P : Nat → Prop) : Nat → List Value → Dat → Prop
  | 0, _, _ => False
  | n + 1, cs, d => ∃ aL cL aI cI aT cT, cs = datCells d.kind d.neg aL d.limbs.length cL d.b d.s aI d.items.length cI aT d.tail.length cT ∧
      LimbsOf w P aL d.limbs ∧ RowOf w P (IsD w P n) aI d.items ∧ RowOf w P (IsD w P n) aT d.tail ∧ (d.limbs.length ≤ cL ∧ d.items.length ≤ cI ∧ d.tail.length ≤ cT) ∧
      (-9223372036854775808 ≤ d.kind ∧ d.kind ≤ 9223372036854775807) ∧ (∀ x ∈ d.limbs, 0 ≤ x ∧ x < 4294967296) ∧ d.limbs.length ≤ 35184372088832 ∧ d.s.size ≤ 140737488351232 ∧ d.items.length ≤ 35184372088832 ∧ d.tail.length ≤ 35184372088832
theorem At7.upd {w w' : World} {b o : Nat} {cs : List Value} {S : List Nat} (h : At7 w b o cs) (hu : Upd S w w') (hS : b ∉ S) : At7 w' b o cs := by
  refine ⟨h.1, fun j hj => ?_⟩
  have hc := h.2 j hj
  rw [List.getElem?_eq_getElem (by rw [h.1]; exact hj)] at hc ⊢
  exact hu.cell hc hS
theorem At7.lt {w : World} {b o : Nat} {cs : List Value} (h : At7 w b o cs) : b < w.heap.size := by
  have hc := h.2 0 (by omega)
  rw [List.getElem?_eq_getElem (by rw [h.1]; omega)] at hc
  exact World.block_lt_of_cell? w _ hc
/-- What holds of data stays where their cells stay, under more blocks, and one level up. -/
theorem IsD.map {w w' : World} {P Q : Nat → Prop} {m : Nat} (hP : ∀ b, b < w.heap.size → P b → Q b) (hc : ∀ b o v, P b → w.cell? ⟨b, o, none⟩ = some v → w'.cell? ⟨b, o, none⟩ = some v) : ∀ {n : Nat} {cs : List Value} {d : Dat}, IsD w P n cs d → IsD w' Q (n + m) cs d
  | 0, _, _, h => h.elim
  | n + 1, cs, d, h => by
    obtain ⟨aL, cL, aI, cI, aT, cT, e, h1, h2, h3, h4⟩ := h
    have hrow : ∀ {a : Option Addr} {ds : List Dat}, RowOf w P (IsD w P n) a ds → RowOf w' Q (IsD w' Q (n + m)) a ds := by
      intro a ds h i hi
      obtain ⟨b, o, cs, e, hp, ha, hr⟩ := h i hi
      refine ⟨b, o, cs, e, hP b ha.lt hp, ⟨ha.1, fun j hj => ?_⟩, IsD.map hP hc hr⟩
      have h' := ha.2 j hj
      rw [List.getElem?_eq_getElem (by rw [ha.1]; exact hj)] at h' ⊢
      exact hc _ _ _ hp h'
    rw [show n + 1 + m = (n + m) + 1 by omega]
    refine ⟨aL, cL, aI, cI, aT, cT, e, fun i hi => ?_, hrow h2, hrow h3, h4⟩
    obtain ⟨b, o, e, hp, h'⟩ := h1 i hi
    exact ⟨b, o, e, hP b (World.block_lt_of_cell? w _ h') hp, hc _ _ _ hp h'⟩
theorem IsD.updS {w w' : World} {P : Nat → Prop} {S : List Nat} {n : Nat} {cs : List Value} {d : Dat} (h : IsD w P n cs d) (hu : Upd S w w') (hS : ∀ b, P b → b ∉ S) : IsD w' P n cs d :=
  IsD.map (m := 0) (fun _ _ hp => hp) (fun b _ _ hp hc => hu.cell hc (hS b hp)) h
theorem IsD.upd {w w' : World} {P : Nat → Prop} {n : Nat} {cs : List Value} {d : Dat} (h : IsD w P n cs d) (hu : Upd [] w w') : IsD w' P n cs d := h.updS hu (by simp)
theorem IsD.mono {w : World} {P Q : Nat → Prop} {n : Nat} {cs : List Value} {d : Dat} (h : IsD w P n cs d) (hP : ∀ b, b < w.heap.size → P b → Q b) : IsD w Q n cs d :=
  IsD.map (m := 0) hP (fun _ _ _ _ hc => hc) h
theorem IsD.more {w : World} {P : Nat → Prop} {n : Nat} {cs : List Value} {d : Dat} (h : IsD w P n cs d) (m : Nat) : IsD w P (n + m) cs d :=
  IsD.map (fun _ _ hp => hp) (fun _ _ _ _ hc => hc) h
theorem RowOf.map {w w' : World} {P Q : Nat → Prop} {R R' : List Value → Dat → Prop} {a : Option Addr} {ds : List Dat} (h : RowOf w P R a ds) (hP : ∀ b, b < w.heap.size → P b → Q b) (hc : ∀ b o v, P b → w.cell? ⟨b, o, none⟩ = some v → w'.cell? ⟨b, o, none⟩ = some v) (hR : ∀ cs d, R cs d → R' cs d) : RowOf w' Q R' a ds := by
  intro i hi
  obtain ⟨b, o, cs, e, hp, ha, hr⟩ := h i hi
  refine ⟨b, o, cs, e, hP b ha.lt hp, ⟨ha.1, fun j hj => ?_⟩, hR _ _ hr⟩
  have h' := ha.2 j hj
  rw [List.getElem?_eq_getElem (by rw [ha.1]; exact hj)] at h' ⊢
  exact hc _ _ _ hp h'
/-- Data in blocks that are there. -/
abbrev Old (w : World) (b : Nat) : Prop := b < w.heap.size
theorem IsD.old {w : World} {P : Nat → Prop} {n : Nat} {cs : List Value} {d : Dat} (h : IsD w P n cs d) : IsD w (Old w) n cs d := h.mono fun _ hb _ => hb

/-! ### Reading an argument -/
end Go.Proofs.Ythmpaepdbjldfaa

/-
  How many data are left: the document's budget.
-/
namespace Go.Proofs.Ythmpaepdbjldfaa
set_option linter.unusedVariables false
set_option linter.unusedSimpArgs false
open Go.RowKit

def budL (f : Dat → Int → Int → Int) : List Dat → Int → Int → Int
  | [], left, _ => left
  | x :: xs, left, deep => if f x left (deep - 1) < 0 then -1 else budL f xs (f x left (deep - 1)) deep
/-- How many of left data are left behind d, in so many levels; -1: none. -/
def budN : Nat → Dat → Int → Int → Int
  | 0, _, _, _ => -1
  | n + 1, d, left, deep => if left - 1 < 0 ∨ deep ≤ 0 then -1 else if budL (budN n) d.items (left - 1) deep < 0 then -1 else budL (budN n) d.tail (budL (budN n) d.items (left - 1) deep) deep
theorem budL_le {f : Dat → Int → Int → Int} (hf : ∀ x l k, -1 ≤ f x l k ∧ (0 ≤ l → f x l k ≤ l)) : ∀ (ds : List Dat) (left deep : Int), (0 ≤ left → budL f ds left deep ≤ left) ∧ (-1 ≤ left → -1 ≤ budL f ds left deep)
  | [], left, deep => ⟨fun _ => Int.le_refl _, fun h => h⟩
  | x :: xs, left, deep => by
    unfold budL
    have h1 := hf x left (deep - 1)
    have ih := budL_le hf xs (f x left (deep - 1)) deep
    split
    · exact ⟨fun h => by omega, fun _ => Int.le_refl _⟩
    · refine ⟨fun h => ?_, fun _ => ih.2 (by omega)⟩
      have := ih.1 (by omega)
      have := h1.2 h
      omega
theorem budN_le : ∀ (n : Nat) (d : Dat) (left deep : Int), -1 ≤ budN n d left deep ∧ (0 ≤ left → budN n d left deep ≤ left)
  | 0, _, _, _ => ⟨Int.le_refl _, fun h => by simp only [budN]; omega⟩
  | n + 1, d, left, deep => by
    unfold budN
    have ih := budN_le n
    have h1 := budL_le (f := budN n) (fun x l k => ih x l k) d.items (left - 1) deep
    have h2 := budL_le (f := budN n) (fun x l k => ih x l k) d.tail (budL (budN n) d.items (left - 1) deep) deep
    split
    · exact ⟨Int.le_refl _, fun _ => by omega⟩
    · split
      · exact ⟨Int.le_refl _, fun _ => by omega⟩
      · exact ⟨h2.2 (by omega), fun h => by have := h1.1 (by omega); have := h2.1 (by omega); omega⟩
/-- Behind the first so many of a list. -/
theorem budL_split {f : Dat → Int → Int → Int} : ∀ (ds : List Dat) (left deep : Int) (i : Nat), 0 ≤ left → 0 ≤ budL f (ds.take i) left deep → budL f ds left deep = budL f (ds.drop i) (budL f (ds.take i) left deep) deep
  | [], left, deep, i, _, _ => by simp [budL]
  | x :: xs, left, deep, 0, _, _ => by simp [budL]
  | x :: xs, left, deep, i + 1, h0, h => by
    simp only [List.take_succ_cons, List.drop_succ_cons, budL] at h ⊢
    split at h
    · omega
    · rename_i hc
      rw [if_neg hc, if_neg hc]
      exact budL_split xs _ deep i (by omega) h
theorem budL_next {f : Dat → Int → Int → Int} {ds : List Dat} {left deep : Int} {i : Nat} (hi : i < ds.length) (h0 : 0 ≤ left) (h : 0 ≤ budL f (ds.take i) left deep) :
    (f (ds.getD i default) (budL f (ds.take i) left deep) (deep - 1) < 0 → budL f ds left deep = -1) ∧ (0 ≤ f (ds.getD i default) (budL f (ds.take i) left deep) (deep - 1) → budL f (ds.take (i + 1)) left deep = f (ds.getD i default) (budL f (ds.take i) left deep) (deep - 1)) := by
  have e : ds.getD i default = ds[i] := by simp [List.getD_eq_getElem?_getD, hi]
  rw [e]
  constructor
  · intro h1
    rw [budL_split ds left deep i h0 h, List.drop_eq_getElem_cons hi, budL, if_pos h1]
  · intro h1
    rw [budL_split (ds.take (i + 1)) left deep i h0 (by rw [List.take_take, Nat.min_eq_left (by omega)]; exact h), List.take_take, Nat.min_eq_left (by omega)]
    rw [List.drop_take, show i + 1 - i = 1 by omega, List.drop_eq_getElem_cons hi]
    simp only [List.take_succ_cons, List.take_zero, budL]
    rw [if_neg (by omega)]
theorem cells_agg {w : World} {P : Nat → Prop} {n : Nat} {cs : List Value} {d : Dat} (h : IsD w P n cs d) : ∃ aL cL aI cI aT cT, cs = datCells d.kind d.neg aL d.limbs.length cL d.b d.s aI d.items.length cI aT d.tail.length cT := by
  cases n with
  | zero => exact h.elim
  | succ n =>
    obtain ⟨aL, cL, aI, cI, aT, cT, e, _⟩ := h
    exact ⟨aL, cL, aI, cI, aT, cT, e⟩
theorem At7.cells {w : World} {b o : Nat} {k : Int} {neg : Bool} {aL aI aT : Option Addr} {nL cL nI cI nT cT : Nat} {bb : Bool} {s : ByteArray} (h : At7 w b o (datCells k neg aL nL cL bb s aI nI cI aT nT cT)) :
    w.cell? ⟨b, o, none⟩ = some (.int .i64 k) ∧ w.cell? ⟨b, o + 1, none⟩ = some (.bool neg) ∧ w.cell? ⟨b, o + 2, none⟩ = some (.slice aL nL cL) ∧ w.cell? ⟨b, o + 3, none⟩ = some (.bool bb) ∧ w.cell? ⟨b, o + 4, none⟩ = some (.string s) ∧ w.cell? ⟨b, o + 5, none⟩ = some (.slice aI nI cI) ∧ w.cell? ⟨b, o + 6, none⟩ = some (.slice aT nT cT) :=
  ⟨h.2 0 (by omega), h.2 1 (by omega), h.2 2 (by omega), h.2 3 (by omega), h.2 4 (by omega), h.2 5 (by omega), h.2 6 (by omega)⟩
/-- Left before the j-th row. -/
def budAt (n : Nat) (d : Dat) (left deep : Int) : Nat → Int
  | 0 => left - 1
  | 1 => budL (budN n) d.items (left - 1) deep
  | _ => budL (budN n) d.tail (budL (budN n) d.items (left - 1) deep) deep
end Go.Proofs.Ythmpaepdbjldfaa

/-
  datum.within: the same law.
-/
namespace Go.Proofs.Ythmpaepdbjldfaa
set_option linter.unusedVariables false
set_option linter.unusedSimpArgs false
open Go.RowKit

set_option maxRecDepth 100000 in
set_option maxHeartbeats 1500000 in
theorem within_calls (P : Nat → Prop) : ∀ (n : Nat) (d : Dat) (cs : List Value) (w : World) (left deep : Int), IsD w P n cs d → -1 ≤ left → left ≤ 4294967296 → -4294967296 ≤ deep → deep ≤ 4294967296 →
    Calls Try.prog 61 #[.agg cs.toArray, .int .i64 left, .int .i64 deep] w fun e w' => e = .returned (.int .i64 (budN n d left deep)) ∧ Upd [] w w' := by
  intro n
  induction n with
  | zero => intro d cs w left deep h; exact h.elim
  | succ n ih =>
    intro d cs w left deep h hl1 hl2 hd1 hd2
    have IH := Lib.hid ih
    clear ih
    obtain ⟨aL, cL, aI, cI, aT, cT, rfl, h1, h2, h3, _, h4, h5, h6, h7, h8, h9⟩ := h
    have H2 := Lib.hid h2
    have H3 := Lib.hid h3
    unfold datCells
    clear h1 h2 h3 h4 h5 h7
    by_cases hlo : left - 1 < 0
    · have e0 : budN (n + 1) d left deep = -1 := by unfold budN; rw [if_pos (.inl hlo)]
      rw [e0]
      have hlo' : left < 1 := by omega
      generalize d.kind = kd at *
      generalize d.neg = ng at *
      generalize d.limbs.length = nl at *
      generalize d.b = bb at *
      generalize d.s = ss at *
      clear e0 IH H2 H3
      generalize d.items.length = ni at *
      generalize d.tail.length = nt at *
      have hU := Lib.hid ((Upd.refl [] w).alloc (.cells #[.int .i64 kd, .bool ng, .slice aL nl cL, .bool bb, .string ss, .slice aI ni cI, .slice aT nt cT] 27))
      go_enter Try.func61, Try.ntmps61
      go_wp2
      go_ret
      exact ⟨rfl, hU.out⟩
    · by_cases hdp : deep ≤ 0
      · have e0 : budN (n + 1) d left deep = -1 := by unfold budN; rw [if_pos (.inr hdp)]
        rw [e0]
        generalize d.kind = kd at *
        generalize d.neg = ng at *
        generalize d.limbs.length = nl at *
        generalize d.b = bb at *
        generalize d.s = ss at *
        clear e0 IH H2 H3
        generalize d.items.length = ni at *
        generalize d.tail.length = nt at *
        have hU := Lib.hid ((Upd.refl [] w).alloc (.cells #[.int .i64 kd, .bool ng, .slice aL nl cL, .bool bb, .string ss, .slice aI ni cI, .slice aT nt cT] 27))
        go_enter Try.func61, Try.ntmps61
        go_wp2
        go_ret
        exact ⟨rfl, hU.out⟩
      · have hbu : budN (n + 1) d left deep = if budL (budN n) d.items (left - 1) deep < 0 then -1 else budL (budN n) d.tail (budL (budN n) d.items (left - 1) deep) deep := by
          rw [budN, if_neg (by omega)]
        rw [hbu]
        clear hbu
        obtain ⟨R, hR⟩ : ∃ R, R = (if budL (budN n) d.items (left - 1) deep < 0 then -1 else budL (budN n) d.tail (budL (budN n) d.items (left - 1) deep) deep) := ⟨_, rfl⟩
        rw [← hR]
        have hL := budN_le n
        have hrow : ∀ j, j < 2 → ∃ av ds cv, ((j = 0 ∧ Value.slice av ds.length cv = .slice aI d.items.length cI) ∨ (j = 1 ∧ Value.slice av ds.length cv = .slice aT d.tail.length cT)) ∧ RowOf w P (IsD w P n) av ds ∧ ds.length ≤ 35184372088832 ∧
            (0 ≤ budAt n d left deep j → budAt n d left deep (j + 1) = budL (budN n) ds (budAt n d left deep j) deep ∧ (budL (budN n) ds (budAt n d left deep j) deep < 0 → R = -1) ∧ budAt n d left deep j ≤ 4294967296) := by
          intro j hj
          have h1 := budL_le (f := budN n) (fun x l k => hL x l k) d.items (left - 1) deep
          obtain rfl | rfl : j = 0 ∨ j = 1 := by omega
          · exact ⟨_, _, _, .inl ⟨rfl, rfl⟩, H2.out, h8, fun h0 => ⟨rfl, fun h => by rw [hR]; exact if_pos h, by simp only [budAt] at h0 ⊢; omega⟩⟩
          · refine ⟨_, _, _, .inr ⟨rfl, rfl⟩, H3.out, h9, fun h0 => ⟨rfl, fun h => ?_, by simp only [budAt] at h0 ⊢; omega⟩⟩
            simp only [budAt] at h h0
            have h2 := budL_le (f := budN n) (fun x l k => hL x l k) d.tail (budL (budN n) d.items (left - 1) deep) deep
            rw [hR, if_neg (by omega)]
            omega
        have hend : 0 ≤ budAt n d left deep 2 → 0 ≤ budAt n d left deep 1 → R = budAt n d left deep 2 := by
          intro h1 h2
          simp only [budAt] at h1 h2 ⊢
          rw [hR, if_neg (by omega)]
        have h00 : budAt n d left deep 0 = left - 1 := rfl
        have HB := Lib.hid hrow
        have HE := Lib.hid hend
        have HLE := Lib.hid hL
        clear hrow hend hL hR H2 H3 h6 h8 h9
        obtain ⟨bA, hbA⟩ : ∃ bA, bA = budAt n d left deep := ⟨_, rfl⟩
        rw [← hbA] at HB HE h00
        clear hbA
        generalize d.kind = kd at *
        generalize d.neg = ng at *
        generalize d.limbs.length = nl at *
        generalize d.b = bb at *
        generalize d.s = ss at *
        generalize d.items.length = ni at *
        generalize d.tail.length = nt at *
        have hU := Lib.hid ((Upd.refl [] w).alloc (.cells #[.int .i64 kd, .bool ng, .slice aL nl cL, .bool bb, .string ss, .slice aI ni cI, .slice aT nt cT] 27))
        go_enter Try.func61, Try.ntmps61
        go_wp2_with fail
        obtain ⟨W1, hW1⟩ : ∃ W1, W1 = w.alloc (.cells #[.int .i64 kd, .bool ng, .slice aL nl cL, .bool bb, .string ss, .slice aI ni cI, .slice aT nt cT] 27) := ⟨_, rfl⟩
        rw [← hW1] at hU ⊢
        clear hW1
        have i0 : ∀ w, (Instr.index 89 (.agg #[.slice aI ni cI, .slice aT nt cT]) (.int .i64 0)).run Try.prog w = .ok (.slice aI ni cI) w := fun _ => by kernel_rfl
        have i1 : ∀ w, (Instr.index 89 (.agg #[.slice aI ni cI, .slice aT nt cT]) (.int .i64 1)).run Try.prog w = .ok (.slice aT nt cT) w := fun _ => by kernel_rfl
        go_loopw [1, 23] (fun l i wr => ∃ j : Nat, j ≤ 2 ∧ i = .int .i64 j ∧ l = .int .i64 (bA j) ∧ Hid (∀ k, k ≤ j → 0 ≤ bA k) ∧ Hid (Upd [] w wr)) (fun _ i _ => 2 - (intOf i).toNat)
        case atStart => exact ⟨0, by omega, rfl, by rw [h00], fun k hk => by rw [show k = 0 by omega, h00]; omega, hU⟩
        case round =>
          obtain ⟨j, hj, rfl, rfl, hnn, hUr⟩ := hrel
          by_cases hj2 : j < 2
          · obtain ⟨av, ds, cv, hcase, hds, hdl, hst⟩ := HB.out j hj2
            obtain ⟨hs1, hs2, hs3⟩ := hst (hnn.out j (Nat.le_refl _))
            have hix : ∀ w, (Instr.index 89 (.agg #[.slice aI ni cI, .slice aT nt cT]) (.int .i64 j)).run Try.prog w = .ok (.slice av ds.length cv) w := by
              rcases hcase with ⟨rfl, e⟩ | ⟨rfl, e⟩
              · rw [e]; exact i0
              · rw [e]; exact i1
            obtain ⟨m, hm⟩ : ∃ m, m = ds.length := ⟨_, rfl⟩
            rw [← hm] at hix hdl
            have HN := hnn
            have hj2' : (j : Int) < 2 := by omega
            have hj3' : decide ((j : Int) < 2) = true := decide_eq_true hj2'
            have hb0 : 0 ≤ bA j := hnn.out j (Nat.le_refl _)
            have HDS := Lib.hid hds
            have HS1 := Lib.hid hs1
            have HS2 := Lib.hid hs2
            clear hnn hcase hs1 hs2 hds hst i0 i1
            go_wp2_with fail
            go_loopw [1, 28] (fun l i wr => ∃ k : Nat, k ≤ m ∧ i = .int .i64 k ∧ l = .int .i64 (budL (budN n) (ds.take k) (bA j) deep) ∧ Hid (0 ≤ budL (budN n) (ds.take k) (bA j) deep) ∧ Hid (Upd [] w wr)) (fun _ i _ => m - (intOf i).toNat)
            case atStart => exact ⟨0, by omega, rfl, rfl, hb0, hUr⟩
            case round =>
              obtain ⟨k, hk, rfl, rfl, hk0, hUk⟩ := hrel
              by_cases hlt : k < m
              · have hkl : k < ds.length := by rw [← hm]; exact hlt
                obtain ⟨b, o, cs, rfl, _, hat, hd0⟩ := HDS.out k hkl
                have hd1 := hd0.upd hUk.out
                obtain ⟨yL, zL, yI, zI, yT, zT, rfl⟩ := cells_agg hd1
                obtain ⟨q0, q1, q2, q3, q4, q5, q6⟩ := (hat.upd hUk.out (by simp)).cells
                have hnx := budL_next (f := budN n) hkl hb0 hk0.out
                have hle := (budL_le (f := budN n) (fun x l k => HLE.out x l k) (ds.take k) (bA j) deep).1 hb0
                obtain ⟨lk, hlk⟩ : ∃ lk, lk = budL (budN n) (ds.take k) (bA j) deep := ⟨_, rfl⟩
                rw [← hlk] at hnx hle hk0
                have hlk2 : lk ≤ 4294967296 := by omega
                have HLK := Lib.hid hlk
                have HNX := Lib.hid hnx
                obtain ⟨x, hx⟩ : ∃ x, x = ds.getD k default := ⟨_, rfl⟩
                rw [← hx] at HNX hd1 q0 q1 q2 q3 q4 q5 q6
                clear hnx hx hd0 hat
                have hU2 := hUk
                have hC := Lib.hid (IH.out x _ wr lk (deep - 1) hd1 (by have := hk0.out; omega) hlk2 (by omega) (by omega))
                unfold datCells at hC
                rw [← hlk]
                clear hd1 hlk
                generalize x.kind = kd9 at *
                generalize x.neg = ng9 at *
                generalize x.limbs.length = nl9 at *
                generalize x.b = bb9 at *
                generalize x.s = ss9 at *
                generalize x.items.length = ni9 at *
                generalize x.tail.length = nt9 at *
                go_wp2_with fail
                refine hC.out.mono ?_
                rintro e w2 ⟨rfl, hu2⟩
                have hU3 := Lib.hid (hU2.out.then hu2)
                have hr1 := (HLE.out x lk (deep - 1)).1
                clear hC hU2 hu2 q0 q1 q2 q3 q4 q5 q6
                by_cases hneg : budN n x lk (deep - 1) < 0
                · have hans := HS2.out (by rw [HNX.out.1 hneg]; decide)
                  clear HNX
                  generalize budN n x lk (deep - 1) = rs at *
                  go_wp2
                  go_ret
                  refine ⟨?_, hU3.out⟩
                  rw [hans]
                  rfl
                · have hnx := HNX.out.2 (by omega)
                  have HX := Lib.hid hnx
                  clear HNX hnx
                  generalize budN n x lk (deep - 1) = rs at *
                  go_wp2
                  go_roundw
                  case rel => exact ⟨k + 1, by omega, by go_num, by rw [HX.out], by rw [HX.out]; exact hneg, hU3⟩
                  case measure => simp [intOf]; omega
              · have hkm : k = m := by omega
                subst hkm
                rw [hm, List.take_length] at hk0
                have hsx := HS1.out
                rw [hm, List.take_length, ← hsx]
                rw [← hsx] at hk0
                clear hsx
                go_wp2
                go_roundw
                case rel => exact ⟨j + 1, by omega, by go_num, rfl, fun i hi => by
                  by_cases h : i = j + 1
                  · rw [h]; exact hk0.out
                  · exact HN.out i (by omega), hUk⟩
                case measure => simp [intOf]; omega
          · have hj3 : j = 2 := by omega
            subst hj3
            have hR := HE.out (hnn.out 2 (by omega)) (hnn.out 1 (by omega))
            go_wp2
            go_ret
            refine ⟨?_, hUr.out⟩
            rw [hR]
            rfl
end Go.Proofs.Ythmpaepdbjldfaa

/-
  How many data there are, and how deep; datum.Size, datum.few, pavaneref03.Small.
-/
namespace Go.Proofs.Ythmpaepdbjldfaa
set_option linter.unusedVariables false
set_option linter.unusedSimpArgs false
open Go.RowKit

def szL (f : Dat → Nat) : List Dat → Nat
  | [] => 0
  | x :: xs => f x + szL f xs
def szN : Nat → Dat → Nat
  | 0, _ => 1000001
  | n + 1, d => 1 + szL (szN n) d.items + szL (szN n) d.tail
def dpL (f : Dat → Nat) : List Dat → Nat
  | [] => 0
  | x :: xs => max (f x) (dpL f xs)
def dpN : Nat → Dat → Nat
  | 0, _ => 0
  | n + 1, d => 1 + max (dpL (dpN n) d.items) (dpL (dpN n) d.tail)
theorem szL_append (f : Dat → Nat) : ∀ (a b : List Dat), szL f (a ++ b) = szL f a + szL f b
  | [], b => by simp [szL]
  | x :: xs, b => by rw [List.cons_append, szL, szL, szL_append f xs b]; omega
theorem dpL_append (f : Dat → Nat) : ∀ (a b : List Dat), dpL f (a ++ b) = max (dpL f a) (dpL f b)
  | [], b => by simp [dpL]
  | x :: xs, b => by rw [List.cons_append, dpL, dpL, dpL_append f xs b]; omega
theorem take_next {ds : List Dat} {i : Nat} (hi : i < ds.length) : ds.take (i + 1) = ds.take i ++ [ds.getD i default] := by
  rw [List.take_add_one, List.getElem?_eq_getElem hi, List.getD_eq_getElem?_getD, List.getElem?_eq_getElem hi]
  rfl
theorem szL_next (f : Dat → Nat) {ds : List Dat} {i : Nat} (hi : i < ds.length) : szL f (ds.take (i + 1)) = szL f (ds.take i) + f (ds.getD i default) := by
  rw [take_next hi, szL_append]
  simp [szL]
theorem dpL_next (f : Dat → Nat) {ds : List Dat} {i : Nat} (hi : i < ds.length) : dpL f (ds.take (i + 1)) = max (dpL f (ds.take i)) (f (ds.getD i default)) := by
  rw [take_next hi, dpL_append]
  simp [dpL]
theorem szL_take (f : Dat → Nat) (ds : List Dat) (i : Nat) : szL f (ds.take i) ≤ szL f ds := by
  have h := szL_append f (ds.take i) (ds.drop i)
  rw [List.take_append_drop] at h
  omega
theorem dpL_take (f : Dat → Nat) (ds : List Dat) (i : Nat) : dpL f (ds.take i) ≤ dpL f ds := by
  have h := dpL_append f (ds.take i) (ds.drop i)
  rw [List.take_append_drop] at h
  omega
theorem szL_get (f : Dat → Nat) {ds : List Dat} {i : Nat} (hi : i < ds.length) : f (ds.getD i default) ≤ szL f ds := by
  have h1 := szL_next f hi
  have h2 := szL_take f ds (i + 1)
  omega
theorem dpL_get (f : Dat → Nat) {ds : List Dat} {i : Nat} (hi : i < ds.length) : f (ds.getD i default) ≤ dpL f ds := by
  have h1 := dpL_next f hi
  have h2 := dpL_take f ds (i + 1)
  omega
theorem len_le_szL {f : Dat → Nat} (hf : ∀ x, 1 ≤ f x) : ∀ ds : List Dat, ds.length ≤ szL f ds
  | [] => Nat.le_refl _
  | x :: xs => by have := hf x; have := len_le_szL hf xs; rw [szL, List.length_cons]; omega
theorem szN_pos : ∀ (n : Nat) (d : Dat), 1 ≤ szN n d
  | 0, _ => by rw [szN]; omega
  | n + 1, d => by rw [szN]; omega

/-! ### The budget tells both -/
theorem budL_fits {n : Nat} (ih : ∀ (d : Dat) (left deep : Int), (szN n d : Int) ≤ left → (dpN n d : Int) ≤ deep → left ≤ 1000000 → budN n d left deep = left - szN n d) : ∀ (ds : List Dat) (left deep : Int), (szL (szN n) ds : Int) ≤ left → (dpL (dpN n) ds : Int) + 1 ≤ deep → left ≤ 1000000 → budL (budN n) ds left deep = left - szL (szN n) ds
  | [], left, deep, h0, h, hd => by simp [budL, szL]
  | x :: xs, left, deep, h0, h, hd => by
    rw [szL] at h0
    rw [dpL] at h
    have h1 := ih x left (deep - 1) (by omega) (by omega) hd
    rw [budL, h1, if_neg (by omega), budL_fits ih xs _ deep (by omega) (by omega) (by omega), szL]
    omega
theorem budN_fits : ∀ (n : Nat) (d : Dat) (left deep : Int), (szN n d : Int) ≤ left → (dpN n d : Int) ≤ deep → left ≤ 1000000 → budN n d left deep = left - szN n d
  | 0, _, left, _, h, _, hl => by rw [szN] at h; omega
  | n + 1, d, left, deep, h, hd, hl => by
    rw [szN] at h
    rw [dpN] at hd
    rw [budN, if_neg (by omega)]
    have h1 := budL_fits (budN_fits n) d.items (left - 1) deep (by omega) (by omega) (by omega)
    rw [h1, if_neg (by omega), budL_fits (budN_fits n) d.tail _ deep (by omega) (by omega) (by omega), szN]
    omega

/-! ### Callers of the budget -/
set_option maxHeartbeats 1500000 in
theorem few_calls {P : Nat → Prop} {n : Nat} {d : Dat} {cs : List Value} {w : World} (h : IsD w P n cs d) (hs : szN n d ≤ 100000) (hd : dpN n d ≤ 10000) :
    Calls Try.prog 41 #[.agg cs.toArray] w fun e w' => e = .returned (.bool true) ∧ Upd [] w w' := by
  obtain ⟨yL, zL, yI, zI, yT, zT, rfl⟩ := cells_agg h
  have hU := Lib.hid ((Upd.refl [] w).alloc (.cells (datCells d.kind d.neg yL d.limbs.length zL d.b d.s yI d.items.length zI yT d.tail.length zT).toArray 27))
  have hC := Lib.hid (within_calls P n d _ (w.alloc (.cells (datCells d.kind d.neg yL d.limbs.length zL d.b d.s yI d.items.length zI yT d.tail.length zT).toArray 27)) 100000 10000 (h.upd ((Upd.refl [] w).alloc _)) (by omega) (by omega) (by omega) (by omega))
  rw [budN_fits n d 100000 10000 (by omega) (by omega) (by omega)] at hC
  have hge : (0 : Int) ≤ 100000 - szN n d := by omega
  unfold datCells at hC hU ⊢
  clear h hs hd
  generalize d.kind = kd9 at *
  generalize d.neg = ng9 at *
  generalize d.limbs.length = nl9 at *
  generalize d.b = bb9 at *
  generalize d.s = ss9 at *
  generalize d.items.length = ni9 at *
  generalize d.tail.length = nt9 at *
  generalize (100000 : Int) - szN n d = r at *
  go_enter Try.func41, Try.ntmps41
  go_wp2_with fail
  refine hC.out.mono ?_
  rintro e w2 ⟨rfl, hu2⟩
  have hU3 := Lib.hid (hU.out.then hu2)
  clear hC hU hu2
  go_wp2
  go_ret
  exact ⟨rfl, hU3.out⟩
end Go.Proofs.Ythmpaepdbjldfaa

/-
  datum.Size.
-/
namespace Go.Proofs.Ythmpaepdbjldfaa
set_option linter.unusedVariables false
set_option linter.unusedSimpArgs false
open Go.RowKit

/-- Counted before the j-th row. -/
def totAt (n : Nat) (d : Dat) (k : Nat) : Nat → Nat
  | 0 => k + 1
  | 1 => k + 1 + szL (szN n) d.items
  | _ => k + 1 + szL (szN n) d.items + szL (szN n) d.tail
set_option maxRecDepth 100000 in
set_option maxHeartbeats 1500000 in
theorem total_calls (P : Nat → Prop) : ∀ (n : Nat) (d : Dat) (cs : List Value) (w : World) (k : Nat), IsD w P n cs d → k + szN n d ≤ 100000 →
    Calls Try.prog 60 #[.agg cs.toArray, .int .i64 (k : Int)] w fun e w' => e = .returned (.int .i64 ((k + szN n d : Nat) : Int)) ∧ Upd [] w w' := by
  intro n
  induction n with
  | zero => intro d cs w k h; exact h.elim
  | succ n ih =>
    intro d cs w k h hk
    have IH := Lib.hid ih
    clear ih
    obtain ⟨aL, cL, aI, cI, aT, cT, rfl, h1, h2, h3, _, h4, h5, h6, h7, h8, h9⟩ := h
    have hrow : ∀ j, j < 2 → ∃ av ds cv, ((j = 0 ∧ Value.slice av ds.length cv = .slice aI d.items.length cI) ∨ (j = 1 ∧ Value.slice av ds.length cv = .slice aT d.tail.length cT)) ∧ RowOf w P (IsD w P n) av ds ∧ ds.length ≤ 35184372088832 ∧
        totAt n d k (j + 1) = totAt n d k j + szL (szN n) ds ∧ totAt n d k (j + 1) ≤ 100000 := by
      intro j hj
      rw [szN] at hk
      obtain rfl | rfl : j = 0 ∨ j = 1 := by omega
      · exact ⟨_, _, _, .inl ⟨rfl, rfl⟩, h2, h8, rfl, by simp only [totAt]; omega⟩
      · exact ⟨_, _, _, .inr ⟨rfl, rfl⟩, h3, h9, rfl, by simp only [totAt]; omega⟩
    have he : k + szN (n + 1) d = totAt n d k 2 := by rw [szN]; simp only [totAt]; omega
    rw [he] at hk ⊢
    have h00 : totAt n d k 0 = k + 1 := rfl
    have HB := Lib.hid hrow
    clear hrow he h1 h2 h3 h4 h5 h6 h7 h8 h9
    obtain ⟨bA, hbA⟩ : ∃ bA, bA = totAt n d k := ⟨_, rfl⟩
    rw [← hbA] at HB h00 hk ⊢
    clear hbA
    unfold datCells
    generalize d.kind = kd at *
    generalize d.neg = ng at *
    generalize d.limbs.length = nl at *
    generalize d.b = bb at *
    generalize d.s = ss at *
    generalize d.items.length = ni at *
    generalize d.tail.length = nt at *
    have hk0 : k ≤ 100000 := by
      obtain ⟨_, ds, _, _, _, _, a, b⟩ := HB.out 0 (by omega)
      omega
    have hU := Lib.hid ((Upd.refl [] w).alloc (.cells #[.int .i64 kd, .bool ng, .slice aL nl cL, .bool bb, .string ss, .slice aI ni cI, .slice aT nt cT] 27))
    go_enter Try.func60, Try.ntmps60
    go_wp2_with fail
    obtain ⟨W1, hW1⟩ : ∃ W1, W1 = w.alloc (.cells #[.int .i64 kd, .bool ng, .slice aL nl cL, .bool bb, .string ss, .slice aI ni cI, .slice aT nt cT] 27) := ⟨_, rfl⟩
    rw [← hW1] at hU ⊢
    clear hW1
    have i0 : ∀ w, (Instr.index 89 (.agg #[.slice aI ni cI, .slice aT nt cT]) (.int .i64 0)).run Try.prog w = .ok (.slice aI ni cI) w := fun _ => by kernel_rfl
    have i1 : ∀ w, (Instr.index 89 (.agg #[.slice aI ni cI, .slice aT nt cT]) (.int .i64 1)).run Try.prog w = .ok (.slice aT nt cT) w := fun _ => by kernel_rfl
    go_loopw [1, 15] (fun l i wr => ∃ j : Nat, j ≤ 2 ∧ i = .int .i64 j ∧ l = .int .i64 ((bA j : Nat) : Int) ∧ Hid (Upd [] w wr)) (fun _ i _ => 2 - (intOf i).toNat)
    case atStart => exact ⟨0, by omega, rfl, by rw [h00]; go_num, hU⟩
    case round =>
      obtain ⟨j, hj, rfl, rfl, hUr⟩ := hrel
      by_cases hj2 : j < 2
      · obtain ⟨av, ds, cv, hcase, hds, hdl, hs1, hs2⟩ := HB.out j hj2
        have hix : ∀ w, (Instr.index 89 (.agg #[.slice aI ni cI, .slice aT nt cT]) (.int .i64 j)).run Try.prog w = .ok (.slice av ds.length cv) w := by
          rcases hcase with ⟨rfl, e⟩ | ⟨rfl, e⟩
          · rw [e]; exact i0
          · rw [e]; exact i1
        obtain ⟨m, hm⟩ : ∃ m, m = ds.length := ⟨_, rfl⟩
        rw [← hm] at hix hdl
        have hj2' : (j : Int) < 2 := by omega
        have hj3' : decide ((j : Int) < 2) = true := decide_eq_true hj2'
        have HDS := Lib.hid hds
        have HS1 := Lib.hid hs1
        have HS2 := Lib.hid hs2
        clear hcase hs1 hs2 hds i0 i1
        go_wp2_with fail
        go_loopw [1, 7] (fun l i wr => ∃ i0 : Nat, i0 ≤ m ∧ i = .int .i64 i0 ∧ l = .int .i64 ((bA j + szL (szN n) (ds.take i0) : Nat) : Int) ∧ Hid (Upd [] w wr)) (fun _ i _ => m - (intOf i).toNat)
        case atStart => exact ⟨0, by omega, rfl, rfl, hUr⟩
        case round =>
          obtain ⟨i0, hi0, rfl, rfl, hUk⟩ := hrel
          have hle := szL_take (szN n) ds i0
          have hle2 : bA j + szL (szN n) (ds.take i0) ≤ 100000 := by have := HS1.out; have := HS2.out; omega
          by_cases hlt : i0 < m
          · have hkl : i0 < ds.length := by rw [← hm]; exact hlt
            have hnx := szL_next (szN n) hkl
            have hle3 := szL_take (szN n) ds (i0 + 1)
            obtain ⟨b, o, cs, rfl, _, hat, hd0⟩ := HDS.out i0 hkl
            have hd1 := hd0.upd hUk.out
            obtain ⟨yL, zL, yI, zI, yT, zT, rfl⟩ := cells_agg hd1
            obtain ⟨q0, q1, q2, q3, q4, q5, q6⟩ := (hat.upd hUk.out (by simp)).cells
            obtain ⟨x, hx⟩ : ∃ x, x = ds.getD i0 default := ⟨_, rfl⟩
            rw [← hx] at hnx hd1 q0 q1 q2 q3 q4 q5 q6
            obtain ⟨lk, hlk⟩ : ∃ lk, lk = bA j + szL (szN n) (ds.take i0) := ⟨_, rfl⟩
            have hC := Lib.hid (IH.out x _ wr lk hd1 (by have := HS1.out; have := HS2.out; omega))
            have hnx2 : bA j + szL (szN n) (ds.take (i0 + 1)) = lk + szN n x := by omega
            have HX := Lib.hid hnx2
            have hb3 : lk + szN n x ≤ 100000 := by have := HS1.out; have := HS2.out; omega
            rw [← hlk] at hle2 ⊢
            unfold datCells at hC
            clear hnx hd0 hat hd1 hlk hnx2 hle3 hle hx
            generalize lk + szN n x = rs at *
            generalize x.kind = kd9 at *
            generalize x.neg = ng9 at *
            generalize x.limbs.length = nl9 at *
            generalize x.b = bb9 at *
            generalize x.s = ss9 at *
            generalize x.items.length = ni9 at *
            generalize x.tail.length = nt9 at *
            go_wp2_with fail
            refine hC.out.mono ?_
            rintro e w2 ⟨rfl, hu2⟩
            have hU3 := Lib.hid (hUk.out.then hu2)
            clear hC hUk hu2 q0 q1 q2 q3 q4 q5 q6
            go_wp2
            go_roundw
            case rel => exact ⟨i0 + 1, by omega, by go_num, by rw [HX.out], hU3⟩
            case measure => simp [intOf]; omega
          · have hkm : i0 = m := by omega
            subst hkm
            have hsx : bA j + szL (szN n) (ds.take i0) = bA (j + 1) := by rw [hm, List.take_length]; exact HS1.out.symm
            rw [hsx] at hle2 ⊢
            clear hsx hle
            go_wp2
            go_roundw
            case rel => exact ⟨j + 1, by omega, by go_num, rfl, hUk⟩
            case measure => simp [intOf]; omega
      · have hj3 : j = 2 := by omega
        subst hj3
        go_wp2
        go_ret
        exact ⟨rfl, hUr.out⟩
set_option maxHeartbeats 1500000 in
theorem size_calls {P : Nat → Prop} {n : Nat} {d : Dat} {cs : List Value} {w : World} (h : IsD w P n cs d) (hs : szN n d ≤ 100000) :
    Calls Try.prog 39 #[.agg cs.toArray] w fun e w' => e = .returned (.int .i64 ((szN n d : Nat) : Int)) ∧ Upd [] w w' := by
  obtain ⟨yL, zL, yI, zI, yT, zT, rfl⟩ := cells_agg h
  have hU := Lib.hid ((Upd.refl [] w).alloc (.cells (datCells d.kind d.neg yL d.limbs.length zL d.b d.s yI d.items.length zI yT d.tail.length zT).toArray 27))
  have hC := Lib.hid (total_calls P n d _ (w.alloc (.cells (datCells d.kind d.neg yL d.limbs.length zL d.b d.s yI d.items.length zI yT d.tail.length zT).toArray 27)) 0 (h.upd ((Upd.refl [] w).alloc _)) (by omega))
  rw [Nat.zero_add] at hC
  unfold datCells at hC hU ⊢
  clear h
  generalize d.kind = kd9 at *
  generalize d.neg = ng9 at *
  generalize d.limbs.length = nl9 at *
  generalize d.b = bb9 at *
  generalize d.s = ss9 at *
  generalize d.items.length = ni9 at *
  generalize d.tail.length = nt9 at *
  generalize szN n d = r at *
  have hmin : min (r : Int) 100000 = r := by omega
  go_enter Try.func39, Try.ntmps39
  go_wp2_with fail
  refine hC.out.mono ?_
  rintro e w2 ⟨rfl, hu2⟩
  have hU3 := Lib.hid (hU.out.then hu2)
  clear hC hU hu2
  go_wp2
  go_ret
  exact ⟨rfl, hU3.out⟩
end Go.Proofs.Ythmpaepdbjldfaa

/-
  All data in one; light.
-/
namespace Go.Proofs.Ythmpaepdbjldfaa
set_option linter.unusedVariables false
set_option linter.unusedSimpArgs false
open Go.RowKit

theorem info_dat : (Try.prog.info? 27).map (fun i => (i.zero, i.size, i.bytes)) = some (some (.agg (datCells 0 false none 0 0 false ByteArray.empty none 0 0 none 0 0).toArray), 7, 112) := by kernel_rfl
theorem Upd.onto {S T : List Nat} {a b c : World} (h : Upd S a b) (k : Upd T b c) (hT : ∀ x, x ∈ T → a.heap.size ≤ x) : Upd S a c := h.trans k (fun x hx hlt => by have := hT x hx; omega)
theorem At7.box (w : World) (cs : List Value) (t : TypeId) (h : cs.length = 7) : At7 (w.alloc (.cells cs.toArray t)) w.heap.size 0 cs :=
  ⟨h, fun j _ => by rw [(Blk.new w cs t).cell, Nat.zero_add]⟩
theorem At7.cells0 {w : World} {b : Nat} {k : Int} {neg : Bool} {aL aI aT : Option Addr} {nL cL nI cI nT cT : Nat} {bb : Bool} {s : ByteArray} (h : At7 w b 0 (datCells k neg aL nL cL bb s aI nI cI aT nT cT)) :
    w.cell? ⟨b, 0, none⟩ = some (.int .i64 k) ∧ w.cell? ⟨b, 1, none⟩ = some (.bool neg) ∧ w.cell? ⟨b, 2, none⟩ = some (.slice aL nL cL) ∧ w.cell? ⟨b, 3, none⟩ = some (.bool bb) ∧ w.cell? ⟨b, 4, none⟩ = some (.string s) ∧ w.cell? ⟨b, 5, none⟩ = some (.slice aI nI cI) ∧ w.cell? ⟨b, 6, none⟩ = some (.slice aT nT cT) := h.cells
/-- Cells of some datum. -/
def Shaped (cs : List Value) : Prop := ∃ k neg aL nL cL b s aI nI cI aT nT cT, cs = datCells k neg aL nL cL b s aI nI cI aT nT cT
theorem Shaped.one {cs : List Value} (h : Shaped cs) : ∀ u ∈ cs, u.oneCell' = true := by
  obtain ⟨k, neg, aL, nL, cL, b, s, aI, nI, cI, aT, nT, cT, rfl⟩ := h
  intro u hu
  simp only [datCells, List.mem_cons, List.not_mem_nil, or_false] at hu
  rcases hu with rfl | rfl | rfl | rfl | rfl | rfl | rfl <;> rfl
/-- A row of one's own of so many data's cells. -/
def AllRow (w0 w : World) (v : Value) (m : Nat) : Prop := ∃ css : List (List Value), css.length = m ∧ (∀ cs ∈ css, Shaped cs) ∧ w.ownsRow w0.heap.size 27 7 v m css.flatten
theorem AllRow.step {w0 w w' : World} {v : Value} {m : Nat} (h : AllRow w0 w v m) (hu : Upd [] w w') : AllRow w0 w' v m := by
  obtain ⟨css, h1, h2, h3⟩ := h
  exact ⟨css, h1, h2, own_upd0 h3 hu⟩
theorem flatten_get {css : List (List Value)} (h : ∀ cs ∈ css, cs.length = 7) : ∀ {i j : Nat}, i < css.length → j < 7 → css.flatten[i * 7 + j]? = (css.getD i [])[j]? := by
  induction css with
  | nil => intro i j hi; simp at hi
  | cons c css ih =>
    intro i j hi hj
    have hc := h c (by simp)
    cases i with
    | zero => simp [List.getElem?_append, hc, hj]
    | succ i =>
      have := ih (fun cs hcs => h cs (by simp [hcs])) (i := i) (j := j) (by simpa using hi) hj
      rw [List.flatten_cons, List.getElem?_append_right (by omega), hc, show (i + 1) * 7 + j - 7 = i * 7 + j by omega, this]
      simp
theorem Shaped.len {cs : List Value} (h : Shaped cs) : cs.length = 7 := by
  obtain ⟨k, neg, aL, nL, cL, b, s, aI, nI, cI, aT, nT, cT, rfl⟩ := h
  rfl
theorem AllRow.at {w0 w : World} {v : Value} {m : Nat} (h : AllRow w0 w v m) (hm : 0 < m) : ∃ g c, v = .slice (some ⟨g, 0, none⟩) m c ∧ ∀ i, i < m → ∃ cs, Shaped cs ∧ At7 w g (0 + i * 7) cs := by
  obtain ⟨css, h1, h2, h3⟩ := h
  obtain ⟨g, c, rfl⟩ : ∃ g c, v = .slice (some ⟨g, 0, none⟩) m c := by
    rcases h3.2 with ⟨_, h0⟩ | ⟨g, c, _, e, _⟩
    · omega
    · exact ⟨g, c, e⟩
  refine ⟨g, c, rfl, fun i hi => ?_⟩
  have hm1 : css.getD i [] ∈ css := by
    rw [List.getD_eq_getElem?_getD, List.getElem?_eq_getElem (by omega)]
    exact List.getElem_mem _
  refine ⟨css.getD i [], h2 _ hm1, (h2 _ hm1).len, fun j hj => ?_⟩
  rw [show 0 + i * 7 + j = i * 7 + j by omega, h3.cellAt (i * 7 + j) (by omega)]
  exact flatten_get (fun cs hcs => (h2 cs hcs).len) (by omega) hj

theorem AllRow.lit {w0 : World} (w : World) (cs : List Value) (hs : Shaped cs) (h : w0.heap.size ≤ w.heap.size) : AllRow w0 (w.alloc (.cells cs.toArray 27)) (.slice (some ⟨w.heap.size, 0, none⟩) 1 1) 1 :=
  ⟨[cs], rfl, fun c hc => by rw [List.mem_singleton] at hc; rw [hc]; exact hs, by
    have := World.ownsRow_lit (e := 27) (size := 7) w cs.toArray 1 h (by decide) (by simpa using hs.len)
    simpa using this⟩
theorem AllRow.news {w0 w : World} {g m c : Nat} (h : AllRow w0 w (.slice (some ⟨g, 0, none⟩) m c) m) : ∃ css : List (List Value), css.length = m ∧ (∀ cs ∈ css, Shaped cs) ∧ css.flatten.length = m * 7 ∧ (∀ j u, css.flatten[j]? = some u → w.cell? ⟨g, 0 + j, none⟩ = some u) ∧ (∀ u ∈ css.flatten, u.oneCell' = true) := by
  obtain ⟨css, h1, h2, h3⟩ := h
  refine ⟨css, h1, h2, h3.1, fun j u hj => ?_, fun u hu => ?_⟩
  · rw [Nat.zero_add, h3.cellAt j, hj]
    have := (List.getElem?_eq_some_iff.1 hj).1
    rw [h3.1] at this
    exact this
  · obtain ⟨cs, hc, hu⟩ := List.mem_flatten.1 hu
    exact (h2 cs hc).one u hu
end Go.Proofs.Ythmpaepdbjldfaa

/-
  light.
-/
namespace Go.Proofs.Ythmpaepdbjldfaa
set_option linter.unusedVariables false
set_option linter.unusedSimpArgs false
open Go.RowKit

end Go.Proofs.Ythmpaepdbjldfaa

/-
  datum.copied and Copy: data in new memory.
-/
namespace Go.Proofs.Ythmpaepdbjldfaa
set_option linter.unusedVariables false
set_option linter.unusedSimpArgs false
open Go.RowKit

theorem info_u32 : (Try.prog.info? 60).map (fun i => (i.zero, i.size, i.bytes)) = some (some (.int .u32 0), 1, 4) := by kernel_rfl
theorem own_limbs {w0 w : World} {n : Nat} {v : Value} {xs : List Int} (h : w.ownsRow w0.heap.size 60 1 v n (xs.map (.int .u32))) : ∃ a c, v = .slice a n c ∧ LimbsOf w (fun b => w0.heap.size ≤ b) a xs ∧ n ≤ c := by
  have hl : xs.length = n := by have := h.1; simpa using this
  rcases h.2 with ⟨rfl, h0⟩ | ⟨g, cap, cur, rfl, hb, _, hcap, _⟩
  · subst h0
    exact ⟨none, 0, rfl, fun i hi => absurd hi (by omega), Nat.le_refl _⟩
  · refine ⟨_, cap, rfl, fun i hi => ⟨g, 0, rfl, hb, ?_⟩, hcap⟩
    have := h.cells (g := g) rfl i (.int .u32 (xs.getD i 0)) (by simp [List.getElem?_eq_getElem hi, List.getD_eq_getElem?_getD])
    rwa [show (⟨g, 0, none⟩ : Addr).add i = ⟨g, 0 + i, none⟩ by unfold Addr.add; split <;> simp_all] at this
set_option maxRecDepth 100000 in
set_option maxHeartbeats 1500000 in
theorem clone_calls {P : Nat → Prop} {w : World} {a : Option Addr} {xs : List Int} (n c : Nat) (hn : xs.length = n) (h : LimbsOf w P a xs) (hb : n ≤ 35184372088832) :
    Calls Try.prog 62 #[.slice a n c] w fun e w' => (∃ a' c', e = .returned (.slice a' n c') ∧ LimbsOf w' (fun b => w.heap.size ≤ b) a' xs ∧ n ≤ c') ∧ Upd [] w w' := by
  cases a with
  | none =>
    have h0 : xs = [] := by
      cases xs with
      | nil => rfl
      | cons x xs => obtain ⟨b, o, e, _⟩ := h 0 (by simp); cases e
    subst h0
    have hn' : n = 0 := by simpa using hn.symm
    subst hn'
    clear h hn
    have hnil : ∀ W, (binOp .eql 22 (.slice none 0 c) (.slice none 0 0)).run Try.prog W = .ok (.bool true) W := fun W => by kernel_rfl
    go_enter Try.func62, Try.ntmps62
    go_wp2
    go_ret
    exact ⟨⟨none, 0, rfl, fun i hi => absurd hi (by simp), Nat.le_refl _⟩, Upd.refl _ _⟩
  | some ad =>
    have hnews : ∀ j u, (xs.map (Value.int .u32))[j]? = some u → (w.alloc (.cells #[] 60)).cell? (ad.add j) = some u := by
      intro j u hj
      have hjl : j < xs.length := by
        have := (List.getElem?_eq_some_iff.1 hj).1
        simpa using this
      obtain ⟨b, o, e, _, hc⟩ := h j hjl
      injection e with e
      subst e
      have : (⟨b, o, none⟩ : Addr).add j = ⟨b, o + j, none⟩ := by unfold Addr.add; split <;> simp_all
      rw [this]
      refine (((Upd.refl [] w).alloc _).cell hc (by simp)).trans ?_
      rw [← hj]
      simp [List.getD_eq_getElem?_getD, hjl]
    have hone : ∀ u ∈ xs.map (Value.int .u32), u.oneCell' = true := by
      intro u hu
      obtain ⟨x, _, rfl⟩ := List.mem_map.1 hu
      rfl
    obtain ⟨us, hus⟩ : ∃ us, us = xs.map (Value.int .u32) := ⟨_, rfl⟩
    have hl : us.length = n * 1 := by rw [hus, List.length_map, hn, Nat.mul_one]
    rw [← hus] at hnews hone
    have HUS := Lib.hid hus
    have HNW := Lib.hid hnews
    have hrow := World.ownsRow_lit (e := 60) (size := 1) w #[] 0 (Nat.le_refl w.heap.size) (by decide) rfl
    have HR := Lib.hid hrow
    have hU := Lib.hid ((Upd.refl [] w).alloc (.cells #[] 60))
    clear h hrow hus hnews hn
    have hnil : ∀ W, (binOp .eql 22 (.slice (some ad) n c) (.slice none 0 0)).run Try.prog W = .ok (.bool false) W := fun W => by kernel_rfl
    go_enter Try.func62, Try.ntmps62
    obtain ⟨i, hi, hz0, hz1, hz2⟩ := info_parts info_u32
    go_wp2_with (at_builtin; refine wpList_append_own_at _ rfl _ _ 22 rfl w.heap.size 60 i (.int .u32 0) 1 4 Try.underlying22 hi hz0 hz1 hz2 rfl (by decide) _ _ _ rfl HR.out ad n c us rfl hl HNW.out hone (by unfold maxLen; omega) (by omega) (by simp) ?_; intro v9 w9 hO9 hg9 _ _)
    have hO10 : w9.ownsRow w.heap.size 60 1 v9 n (xs.map (.int .u32)) := by
      rw [← HUS.out]
      simpa using hO9
    have hg9' : World.grownBy (w.alloc (.cells #[] 60)) w9 (some w.heap.size) := hg9
    have hU9 := Lib.hid (hU.out.onto (Upd.of_grown (S := [w.heap.size]) hg9' (fun k hk => by simpa [eq_comm] using hk)) (fun x hx => by simp at hx; omega))
    obtain ⟨a', c', rfl, hL, hLc⟩ := own_limbs hO10
    have HL := Lib.hid hL
    clear hO9 hO10 hg9 hg9' HR HNW hnil hL hU
    go_wp2
    go_ret
    exact ⟨⟨a', c', rfl, HL.out, hLc⟩, hU9.out⟩
end Go.Proofs.Ythmpaepdbjldfaa
