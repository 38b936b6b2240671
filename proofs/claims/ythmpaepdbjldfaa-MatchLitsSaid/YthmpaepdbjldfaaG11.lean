/-
  Texts of this claim, merged: TH. Lemmas and contracts; no conditions of our own.
-/
import Derived.Test.YthmpaepdbjldfaaG3
import Derived.Test.YthmpaepdbjldfaaG7
import Derived.Test.YthmpaepdbjldfaaG10

/-
  Data as trees.
-/
namespace Go.Proofs.Ythmpaepdbjldfaa
set_option linter.unusedVariables false
set_option linter.unusedSimpArgs false
open Go.RowKit Go.Shelf
set_option linter.unusedSimpArgs false

/-- A datum's cells, in so many levels. -/
def encD : Nat → Dat → List PV
  | 0, _ => []
  | n + 1, d => [.raw (.int .i64 d.kind), .raw (.bool d.neg), .sl 1 (d.limbs.map fun x => [.raw (.int .u32 x)]), .raw (.bool d.b), .raw (.string d.s), .sl 7 (d.items.map (encD n)), .sl 7 (d.tail.map (encD n))]
/-- A datum that has so many levels, whose numbers are of their kinds. -/
def wfD : Nat → Dat → Prop
  | 0, _ => False
  | n + 1, d => (-9223372036854775808 ≤ d.kind ∧ d.kind ≤ 9223372036854775807) ∧ (∀ x ∈ d.limbs, 0 ≤ x ∧ x < 4294967296) ∧ d.limbs.length ≤ 35184372088832 ∧ d.s.size ≤ 140737488351232 ∧ d.items.length ≤ 35184372088832 ∧ d.tail.length ≤ 35184372088832 ∧ (∀ x ∈ d.items, wfD n x) ∧ ∀ x ∈ d.tail, wfD n x
theorem encD_len {n : Nat} {d : Dat} (h : wfD n d) : (encD n d).length = 7 := by
  cases n with
  | zero => exact h.elim
  | succ n => rfl
theorem isD_wf {w : World} {P : Nat → Prop} : ∀ {n : Nat} {cs : List Value} {d : Dat}, IsD w P n cs d → wfD n d
  | 0, _, _, h => h.elim
  | n + 1, cs, d, h => by
    obtain ⟨aL, cL, aI, cI, aT, cT, e, h1, h2, h3, hc, hk, hl, hll, hs, hi, ht⟩ := h
    refine ⟨hk, hl, hll, hs, hi, ht, fun x hx => ?_, fun x hx => ?_⟩
    · obtain ⟨i, hi, rfl⟩ := List.getElem_of_mem hx
      obtain ⟨b, o, cs', _, _, _, r⟩ := h2 i hi
      rw [List.getD_eq_getElem?_getD, List.getElem?_eq_getElem hi] at r
      exact isD_wf r
    · obtain ⟨i, hi, rfl⟩ := List.getElem_of_mem hx
      obtain ⟨b, o, cs', _, _, _, r⟩ := h3 i hi
      rw [List.getD_eq_getElem?_getD, List.getElem?_eq_getElem hi] at r
      exact isD_wf r
theorem prow {w : World} {P : Nat → Prop} {n c : Nat} {a : Option Addr} {ds : List Dat} (ih : ∀ cs d, IsD w P n cs d → ∀ (j : Nat) (x : PV), (encD n d)[j]? = some x → PRel P w x (cs.getD j undef)) (h : RowOf w P (IsD w P n) a ds) (hc : ds.length ≤ c) : PRel P w (.sl 7 (ds.map (encD n))) (.slice a ds.length c) := by
  have hx : ∀ i, i < ds.length → ∃ cs : List Value, ∃ b o, a = some ⟨b, o, none⟩ ∧ P b ∧ At7 w b (o + i * 7) cs ∧ IsD w P n cs (ds.getD i default) := by
    intro i hi
    obtain ⟨b, o, cs, q⟩ := h i hi
    exact ⟨cs, b, o, q⟩
  obtain ⟨f, hf⟩ := Deep.choose_lt hx
  have hget : ∀ i e, (ds.map (encD n))[i]? = some e → i < ds.length ∧ e = encD n (ds.getD i default) := by
    intro i e hi
    simp only [List.getElem?_map, Option.map_eq_some_iff] at hi
    obtain ⟨d, hd, rfl⟩ := hi
    exact ⟨(List.getElem?_eq_some_iff.1 hd).1, by rw [List.getD_eq_getElem?_getD, hd]; rfl⟩
  have := PRel.sl (P := P) (w := w) (k := 7) (es := ds.map (encD n)) (a := a) (c := c) (fun i j => (f i).getD j undef) (fun i e hi => by
    obtain ⟨q1, rfl⟩ := hget i e hi
    obtain ⟨b, o, _, _, _, r⟩ := hf i q1
    exact encD_len (isD_wf r)) (fun i e j x hi hj => by
    obtain ⟨q1, rfl⟩ := hget i e hi
    obtain ⟨b, o, ea, hb, hat, r⟩ := hf i q1
    have hl := encD_len (isD_wf r)
    have hj7 : j < 7 := by rw [← hl]; exact (List.getElem?_eq_some_iff.1 hj).1
    refine ⟨b, o, ea, hb, ?_⟩
    have := hat.2 j hj7
    rw [show o + (i * 7 + j) = o + i * 7 + j by omega, this, List.getD_eq_getElem?_getD, List.getElem?_eq_getElem (by rw [hat.1]; exact hj7)]
    rfl) (fun i e j x hi hj => by
    obtain ⟨q1, rfl⟩ := hget i e hi
    obtain ⟨b, o, ea, hb, hat, r⟩ := hf i q1
    exact ih _ _ r j x hj) (by simpa using hc)
  simpa using this
theorem isD_enc {w : World} {P : Nat → Prop} : ∀ {n : Nat} {cs : List Value} {d : Dat}, IsD w P n cs d → cs.length = 7 ∧ ∀ (j : Nat) (x : PV), (encD n d)[j]? = some x → PRel P w x (cs.getD j undef)
  | 0, _, _, h => h.elim
  | n + 1, cs, d, h => by
    obtain ⟨aL, cL, aI, cI, aT, cT, e, h1, h2, h3, hc, hk, hl, hll, hs, hi, ht⟩ := h
    subst e
    have pi := prow (fun cs d r => (isD_enc r).2) h2 hc.2.1
    have pt := prow (fun cs d r => (isD_enc r).2) h3 hc.2.2
    have pl : PRel P w (.sl 1 (d.limbs.map fun x => [.raw (.int .u32 x)])) (.slice aL d.limbs.length cL) := by
      have hget : ∀ i e, (d.limbs.map fun x => [PV.raw (.int .u32 x)])[i]? = some e → i < d.limbs.length ∧ e = [PV.raw (.int .u32 (d.limbs.getD i 0))] := by
        intro i e hi
        simp only [List.getElem?_map, Option.map_eq_some_iff] at hi
        obtain ⟨y, hy, rfl⟩ := hi
        exact ⟨(List.getElem?_eq_some_iff.1 hy).1, by rw [List.getD_eq_getElem?_getD, hy]; rfl⟩
      have := PRel.sl (P := P) (w := w) (k := 1) (es := d.limbs.map fun x => [.raw (.int .u32 x)]) (a := aL) (c := cL) (fun i j => .int .u32 (d.limbs.getD i 0)) (fun i e hi => by
        obtain ⟨_, rfl⟩ := hget i e hi
        rfl) (fun i e j x hi hj => by
        obtain ⟨q1, rfl⟩ := hget i e hi
        obtain ⟨b, o, ea, hb, hcell⟩ := h1 i q1
        have hj0 : j = 0 := by
          have := (List.getElem?_eq_some_iff.1 hj).1
          simpa using this
        subst hj0
        exact ⟨b, o, ea, hb, by rw [Nat.mul_one, Nat.add_zero]; exact hcell⟩) (fun i e j x hi hj => by
        obtain ⟨q1, rfl⟩ := hget i e hi
        have hj0 : j = 0 := by
          have := (List.getElem?_eq_some_iff.1 hj).1
          simpa using this
        subst hj0
        injection hj with hj
        subst hj
        exact .raw rfl) (by simpa using hc.1)
      simpa using this
    refine ⟨rfl, fun j x hj => ?_⟩
    unfold encD at hj
    unfold datCells
    match j, hj with
    | 0, hj => injection hj with hj; subst hj; exact .raw rfl
    | 1, hj => injection hj with hj; subst hj; exact .raw rfl
    | 2, hj => injection hj with hj; subst hj; exact pl
    | 3, hj => injection hj with hj; subst hj; exact .raw rfl
    | 4, hj => injection hj with hj; subst hj; exact .raw rfl
    | 5, hj => injection hj with hj; subst hj; exact pi
    | 6, hj => injection hj with hj; subst hj; exact pt
    | j + 7, hj => simp at hj
theorem row_enc {w : World} {P : Nat → Prop} {n : Nat} {v : Value} {ds : List Dat} (ih : ∀ d ∈ ds, ∀ cs : List Value, cs.length = 7 → (∀ (j : Nat) (x : PV), (encD n d)[j]? = some x → PRel P w x (cs.getD j undef)) → IsD w P n cs d) (hw : ∀ d ∈ ds, wfD n d) (h : PRel P w (.sl 7 (ds.map (encD n))) v) : ∃ a c, v = .slice a ds.length c ∧ ds.length ≤ c ∧ RowOf w P (IsD w P n) a ds := by
  cases h with
  | sl vs hk h1 h2 hc =>
    rename_i a c
    rw [List.length_map] at hc ⊢
    refine ⟨a, c, rfl, hc, fun i hi => ?_⟩
    have hei : (ds.map (encD n))[i]? = some (encD n ds[i]) := by simp [hi]
    have hwi := hw ds[i] (List.getElem_mem hi)
    have hl := encD_len hwi
    obtain ⟨b, o, ea, hb, _⟩ := h1 i _ 0 ((encD n ds[i])[0]'(by omega)) hei (List.getElem?_eq_getElem (by omega))
    refine ⟨b, o, (List.range 7).map (vs i), ea, hb, ⟨by simp, fun j hj => ?_⟩, ?_⟩
    · obtain ⟨b', o', ea', _, hc'⟩ := h1 i _ j ((encD n ds[i])[j]'(by omega)) hei (List.getElem?_eq_getElem (by omega))
      rw [ea] at ea'
      injection ea' with ea'
      injection ea' with q1 q2
      subst q1; subst q2
      rw [show o + i * 7 + j = o + (i * 7 + j) by omega, hc']
      simp [hj]
    · have e2 : ds.getD i default = ds[i] := by simp [List.getD_eq_getElem?_getD, hi]
      rw [e2]
      refine ih _ (List.getElem_mem hi) _ (by simp) (fun j x hj => ?_)
      have hj7 : j < 7 := by rw [← hl]; exact (List.getElem?_eq_some_iff.1 hj).1
      rw [show ((List.range 7).map (vs i)).getD j undef = vs i j by simp [List.getD_eq_getElem?_getD, hj7]]
      exact h2 i _ j x hei hj
theorem limbs_enc {w : World} {P : Nat → Prop} {v : Value} {ls : List Int} (h : PRel P w (.sl 1 (ls.map fun x => [.raw (.int .u32 x)])) v) : ∃ a c, v = .slice a ls.length c ∧ ls.length ≤ c ∧ LimbsOf w P a ls := by
  cases h with
  | sl vs hk h1 h2 hc =>
    rename_i a c
    rw [List.length_map] at hc ⊢
    refine ⟨a, c, rfl, hc, fun i hi' => ?_⟩
    have hei : (ls.map fun x => [PV.raw (.int .u32 x)])[i]? = some [PV.raw (.int .u32 ls[i])] := by simp [hi']
    obtain ⟨b, o, ea, hb, hcell⟩ := h1 i _ 0 _ hei rfl
    have := h2 i _ 0 _ hei rfl
    refine ⟨b, o, ea, hb, ?_⟩
    rw [Nat.mul_one, Nat.add_zero] at hcell
    rw [hcell]
    generalize vs i 0 = v at this
    cases this
    simp [List.getD_eq_getElem?_getD, hi']
theorem enc_isD {w : World} {P : Nat → Prop} : ∀ {n : Nat} {d : Dat} {cs : List Value}, wfD n d → cs.length = 7 → (∀ (j : Nat) (x : PV), (encD n d)[j]? = some x → PRel P w x (cs.getD j undef)) → IsD w P n cs d
  | 0, _, _, h, _, _ => h.elim
  | n + 1, d, cs, h, hl, hr => by
    obtain ⟨hk, hl1, hll, hs, hi, ht, hwi, hwt⟩ := h
    match cs, hl with
    | [x0, x1, x2, x3, x4, x5, x6], _ =>
      have r0 : PRel P w (.raw (.int .i64 d.kind)) x0 := hr 0 _ rfl
      have r1 : PRel P w (.raw (.bool d.neg)) x1 := hr 1 _ rfl
      have r2 : PRel P w (.sl 1 (d.limbs.map fun x => [.raw (.int .u32 x)])) x2 := hr 2 _ rfl
      have r3 : PRel P w (.raw (.bool d.b)) x3 := hr 3 _ rfl
      have r4 : PRel P w (.raw (.string d.s)) x4 := hr 4 _ rfl
      have r5 : PRel P w (.sl 7 (d.items.map (encD n))) x5 := hr 5 _ rfl
      have r6 : PRel P w (.sl 7 (d.tail.map (encD n))) x6 := hr 6 _ rfl
      cases r0; cases r1; cases r3; cases r4
      obtain ⟨aI, cI, rfl, hcI, hRI⟩ := row_enc (fun d hd cs q1 q2 => enc_isD (hwi d hd) q1 q2) hwi r5
      obtain ⟨aT, cT, rfl, hcT, hRT⟩ := row_enc (fun d hd cs q1 q2 => enc_isD (hwt d hd) q1 q2) hwt r6
      obtain ⟨aL, cL, rfl, hcL, hRL⟩ := limbs_enc r2
      exact ⟨aL, cL, aI, cI, aT, cT, rfl, hRL, hRI, hRT, ⟨hcL, hcI, hcT⟩, hk, hl1, hll, hs, hi, ht⟩
/-- As an argument. -/
theorem parel_isD {w : World} {P : Nat → Prop} {n : Nat} {d : Dat} {v : Value} (hw : wfD n d) (h : PARel P w (.agg (encD n d)) v) : ∃ cs : List Value, v = .agg cs.toArray ∧ IsD w P n cs d := by
  obtain ⟨vs, e, hl, r⟩ := h
  exact ⟨vs, e, enc_isD hw (by rw [hl, encD_len hw]) r⟩
theorem isD_parel {w : World} {P : Nat → Prop} {n : Nat} {d : Dat} {cs : List Value} (h : IsD w P n cs d) : PARel P w (.agg (encD n d)) (.agg cs.toArray) := by
  obtain ⟨q1, q2⟩ := isD_enc h
  exact ⟨cs, rfl, by rw [q1, encD_len (isD_wf h)], q2⟩
end Go.Proofs.Ythmpaepdbjldfaa
