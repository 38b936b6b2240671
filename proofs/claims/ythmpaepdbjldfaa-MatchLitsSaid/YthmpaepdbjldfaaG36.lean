/-
  Texts of this claim, merged: TO, TP, TQ, Opn, TR, TY, LwA, MatL, MatA, RefA. Lemmas and contracts; no conditions of our own.
-/
import Derived.Test.YthmpaepdbjldfaaG12
import Derived.Test.YthmpaepdbjldfaaG13
import Derived.Test.YthmpaepdbjldfaaG25
import Derived.Test.YthmpaepdbjldfaaG34
import Derived.Test.YthmpaepdbjldfaaG35

/-
  Data, trees and binds as trees, whatever their levels.
-/
namespace Go.Proofs.Ythmpaepdbjldfaa
set_option linter.unusedVariables false
set_option linter.unusedSimpArgs false
open Go.RowKit Go.Shelf

theorem dat_lt {k : Int} {n : Bool} {l : List Int} {b : Bool} {s : ByteArray} {is ts : List Dat} {x : Dat} (h : x ∈ is ∨ x ∈ ts) : SizeOf.sizeOf x < SizeOf.sizeOf (Dat.mk k n l b s is ts) := by
  rcases h with h | h
  · have := List.sizeOf_lt_of_mem h
    simp
    omega
  · have := List.sizeOf_lt_of_mem h
    simp
    omega
/-- A datum's cells. -/
def enc : Dat → List PV
  | .mk k n l b s is ts => [.raw (.int .i64 k), .raw (.bool n), .sl 1 (l.map fun x => [.raw (.int .u32 x)]), .raw (.bool b), .raw (.string s), .sl 7 (is.attach.map fun x => enc x.1), .sl 7 (ts.attach.map fun x => enc x.1)]
  termination_by d => SizeOf.sizeOf d
  decreasing_by
    · exact dat_lt (.inl x.2)
    · exact dat_lt (.inr x.2)
theorem enc_eq (d : Dat) : enc d = [.raw (.int .i64 d.kind), .raw (.bool d.neg), .sl 1 (d.limbs.map fun x => [.raw (.int .u32 x)]), .raw (.bool d.b), .raw (.string d.s), .sl 7 (d.items.map enc), .sl 7 (d.tail.map enc)] := by
  cases d with
  | mk k n l b s is ts =>
    rw [enc]
    simp only [List.map_attach_eq_pmap, List.pmap_eq_map]
    rfl
theorem enc_len (d : Dat) : (enc d).length = 7 := by rw [enc_eq]; rfl
theorem encD_enc : ∀ {n : Nat} {d : Dat}, wfD n d → encD n d = enc d
  | 0, _, h => h.elim
  | n + 1, d, h => by
    obtain ⟨_, _, _, _, _, _, hi, ht⟩ := h
    rw [enc_eq]
    unfold encD
    rw [List.map_congr_left fun x hx => encD_enc (hi x hx), List.map_congr_left fun x hx => encD_enc (ht x hx)]
theorem wfD_le : ∀ {n m : Nat} {d : Dat}, wfD n d → n ≤ m → wfD m d
  | 0, _, _, h, _ => h.elim
  | n + 1, 0, _, _, hm => absurd hm (by omega)
  | n + 1, m + 1, d, h, hm => by
    obtain ⟨h1, h2, h3, h4, h5, h6, hi, ht⟩ := h
    exact ⟨h1, h2, h3, h4, h5, h6, fun x hx => wfD_le (hi x hx) (by omega), fun x hx => wfD_le (ht x hx) (by omega)⟩
theorem pa_isD {w : World} {P : Nat → Prop} {n : Nat} {d : Dat} {v : Value} (hw : wfD n d) (h : PARel P w (.agg (enc d)) v) : ∃ cs : List Value, v = .agg cs.toArray ∧ IsD w P n cs d :=
  parel_isD hw (by rw [encD_enc hw]; exact h)
theorem isD_pa {w : World} {P : Nat → Prop} {n : Nat} {d : Dat} {cs : List Value} (h : IsD w P n cs d) : PARel P w (.agg (enc d)) (.agg cs.toArray) := by
  have := isD_parel h
  rwa [encD_enc (isD_wf h)] at this
/-! ### A function of data that only reads, told of old -/
theorem pf_datum {f : FuncId} {n : Nat} {d : Dat} {R : PX → Prop} (hw : wfD n d) (h : ∀ (P : Nat → Prop) cs w, (∀ b, P b → b < w.heap.size) → IsD w P n cs d → Calls Try.prog f #[.agg cs.toArray] w fun e w' => ∃ v X, e = .returned v ∧ Upd [] w w' ∧ PXRel (fun b => (P b ∨ w.heap.size ≤ b) ∧ b < w'.heap.size) w' X v ∧ R X) : PFun Try.prog f [.agg (enc d)] R := by
  intro Q w vs hQ hl hr
  match vs, hl with
  | [v], _ =>
    obtain ⟨cs, rfl, hd⟩ := pa_isD hw (hr 0 _ rfl)
    exact h Q cs w hQ hd
theorem Norm_pf {n : Nat} {d : Dat} (hw : wfD n d) (hs : szN n d ≤ 100000) (hp : dpN n d ≤ 10000) : PFun Try.prog 14 [.agg (enc d)] (fun X => X = .a (.agg (enc (normD n d)))) :=
  pf_datum hw fun P cs w hQ hd => (Norm_calls hd hs hp).mono fun e w' ⟨⟨cs', e1, h1⟩, hu⟩ => ⟨_, .a (.agg (enc (normD n d))), e1, hu, isD_pa (h1.mono fun b hb hq => ⟨.inr hq, hb⟩), rfl⟩
theorem size_pf {n : Nat} {d : Dat} (hw : wfD n d) (hs : szN n d ≤ 100000) : PFun Try.prog 39 [.agg (enc d)] (fun X => X = .a (.one (.raw (.int .i64 ((szN n d : Nat) : Int))))) :=
  pf_datum hw fun P cs w hQ hd => (size_calls hd hs).mono fun e w' ⟨e1, hu⟩ => ⟨_, .a (.one (.raw (.int .i64 ((szN n d : Nat) : Int)))), e1, hu, .raw rfl, rfl⟩
theorem esc_pf {n : Nat} {d : Dat} (hw : wfD n d) : PFun Try.prog 81 [.agg (enc d)] (fun X => X = .a (.one (.raw (.bool (escF d))))) :=
  pf_datum hw fun P cs w hQ hd => (escaped_calls hd).mono fun e w' ⟨e1, hu⟩ => ⟨_, .a (.one (.raw (.bool (escF d)))), e1, hu, .raw rfl, rfl⟩
end Go.Proofs.Ythmpaepdbjldfaa

/-
  Rows, trees and binds told by trees.
-/
namespace Go.Proofs.Ythmpaepdbjldfaa
set_option linter.unusedVariables false
set_option linter.unusedSimpArgs false
open Go.RowKit Go.Shelf

def CellsAs (w : World) (P : Nat → Prop) (xs : List PV) (cs : List Value) : Prop := cs.length = xs.length ∧ ∀ (j : Nat) (y : PV), xs[j]? = some y → PRel P w y (cs.getD j undef)
theorem rowK_pv {α : Type} [Inhabited α] {w : World} {P : Nat → Prop} {k : Nat} {R : List Value → α → Prop} {f : α → List PV} {xs : List α} {a : Option Addr} {c : Nat} (hf : ∀ x ∈ xs, (f x).length = k) (hR : ∀ x ∈ xs, ∀ cs, R cs x → CellsAs w P (f x) cs) (h : RowK w P k R a xs) (hc : xs.length ≤ c) : PRel P w (.sl k (xs.map f)) (.slice a xs.length c) := by
  have hx : ∀ i, i < xs.length → ∃ cs : List Value, ∃ b o, a = some ⟨b, o, none⟩ ∧ P b ∧ AtK w k b (o + i * k) cs ∧ R cs (xs.getD i default) := by
    intro i hi
    obtain ⟨b, o, cs, q⟩ := h i hi
    exact ⟨cs, b, o, q⟩
  obtain ⟨g, hg⟩ := Deep.choose_lt hx
  have hget : ∀ i e, (xs.map f)[i]? = some e → ∃ x ∈ xs, i < xs.length ∧ e = f x ∧ xs.getD i default = x := by
    intro i e hi
    simp only [List.getElem?_map, Option.map_eq_some_iff] at hi
    obtain ⟨d, hd, rfl⟩ := hi
    exact ⟨d, List.mem_of_getElem? hd, (List.getElem?_eq_some_iff.1 hd).1, rfl, by rw [List.getD_eq_getElem?_getD, hd]; rfl⟩
  have := PRel.sl (P := P) (w := w) (k := k) (es := xs.map f) (a := a) (c := c) (fun i j => (g i).getD j undef) (fun i e hi => by
    obtain ⟨x, hx, _, rfl, _⟩ := hget i e hi
    exact hf x hx) (fun i e j y hi hj => by
    obtain ⟨x, hx, q1, rfl, q2⟩ := hget i e hi
    obtain ⟨b, o, ea, hb, hat, r⟩ := hg i q1
    have hl := hf x hx
    have hjk : j < k := by rw [← hl]; exact (List.getElem?_eq_some_iff.1 hj).1
    refine ⟨b, o, ea, hb, ?_⟩
    have := hat.2 j hjk
    rw [show o + (i * k + j) = o + i * k + j by omega, this, List.getD_eq_getElem?_getD, List.getElem?_eq_getElem (by rw [hat.1]; exact hjk)]
    rfl) (fun i e j y hi hj => by
    obtain ⟨x, hx, q1, rfl, q2⟩ := hget i e hi
    obtain ⟨b, o, ea, hb, hat, r⟩ := hg i q1
    rw [q2] at r
    exact (hR x hx _ r).2 j y hj) (by simpa using hc)
  simpa using this
theorem pv_rowK {α : Type} [Inhabited α] {w : World} {P : Nat → Prop} {k : Nat} {R : List Value → α → Prop} {f : α → List PV} {xs : List α} {v : Value} (hk : 0 < k) (hf : ∀ x ∈ xs, (f x).length = k) (hR : ∀ x ∈ xs, ∀ cs, CellsAs w P (f x) cs → R cs x) (h : PRel P w (.sl k (xs.map f)) v) : ∃ a c, v = .slice a xs.length c ∧ xs.length ≤ c ∧ RowK w P k R a xs := by
  cases h with
  | sl vs hk' h1 h2 hc =>
    rename_i a c
    rw [List.length_map] at hc ⊢
    refine ⟨a, c, rfl, hc, fun i hi => ?_⟩
    have hei : (xs.map f)[i]? = some (f xs[i]) := by simp [hi]
    have hl := hf xs[i] (List.getElem_mem hi)
    obtain ⟨b, o, ea, hb, _⟩ := h1 i _ 0 ((f xs[i])[0]'(by omega)) hei (List.getElem?_eq_getElem (by omega))
    refine ⟨b, o, (List.range k).map (vs i), ea, hb, ⟨by simp, fun j hj => ?_⟩, ?_⟩
    · obtain ⟨b', o', ea', _, hc'⟩ := h1 i _ j ((f xs[i])[j]'(by omega)) hei (List.getElem?_eq_getElem (by omega))
      rw [ea] at ea'
      injection ea' with ea'
      injection ea' with q1 q2
      subst q1; subst q2
      rw [show o + i * k + j = o + (i * k + j) by omega, hc']
      simp [hj]
    · have e2 : xs.getD i default = xs[i] := by simp [List.getD_eq_getElem?_getD, hi]
      rw [e2]
      refine hR _ (List.getElem_mem hi) _ ⟨by simp [hl], fun j x hj => ?_⟩
      have hjk : j < k := by rw [← hl]; exact (List.getElem?_eq_some_iff.1 hj).1
      rw [show ((List.range k).map (vs i)).getD j undef = vs i j by simp [List.getD_eq_getElem?_getD, hjk]]
      exact h2 i _ j x hei hj
/-! ### Texts -/
def encS (s : ByteArray) : List PV := [.raw (.string s)]
theorem isS_as {w : World} {P : Nat → Prop} {s : ByteArray} {cs : List Value} : IsS cs s ↔ CellsAs w P (encS s) cs := by
  unfold IsS
  constructor
  · rintro rfl
    refine ⟨rfl, fun j y hj => ?_⟩
    cases j with
    | zero =>
      injection hj with hj
      subst hj
      exact .raw rfl
    | succ j => simp [encS] at hj
  · rintro ⟨h1, h2⟩
    match cs, h1 with
    | [v], _ =>
      have := h2 0 _ rfl
      simp only [List.getD_eq_getElem?_getD, List.getElem?_cons_zero, Option.getD_some] at this
      cases this
      rfl
/-! ### Trees and binds -/
theorem tr_lt {d : Dat} {m : Bool} {ks : List Tr} {x : Tr} (h : x ∈ ks) : SizeOf.sizeOf x < SizeOf.sizeOf (Tr.mk d m ks) := by
  have := List.sizeOf_lt_of_mem h
  simp
  omega
def encT : Tr → List PV
  | .mk d m ks => enc d ++ [.raw (.bool m), .sl 9 (ks.attach.map fun x => encT x.1)]
  termination_by t => SizeOf.sizeOf t
  decreasing_by exact tr_lt x.2
theorem encT_eq (t : Tr) : encT t = enc t.d ++ [.raw (.bool t.many), .sl 9 (t.kids.map encT)] := by
  cases t with
  | mk d m ks =>
    rw [encT]
    simp only [List.map_attach_eq_pmap, List.pmap_eq_map]
    rfl
theorem encT_len (t : Tr) : (encT t).length = 9 := by rw [encT_eq]; simp [enc_len]
def encB (b : Bd) : List PV := .raw (.string b.name) :: encT b.t
theorem encB_len (b : Bd) : (encB b).length = 10 := by simp [encB, encT_len]
/-- A tree of so many levels, whose data have m. -/
def wfT (m : Nat) : Nat → Tr → Prop
  | 0, _ => False
  | n + 1, t => (wfD m t.d ∧ szN m t.d ≤ 5000 ∧ dpN m t.d ≤ 200) ∧ t.kids.length ≤ 1000000 ∧ ∀ x ∈ t.kids, wfT m n x
theorem app_as {w : World} {P : Nat → Prop} {xs ys : List PV} {cs ds : List Value} (h1 : CellsAs w P xs cs) (h2 : CellsAs w P ys ds) : CellsAs w P (xs ++ ys) (cs ++ ds) := by
  refine ⟨by simp [h1.1, h2.1], fun j y hj => ?_⟩
  rw [List.getD_eq_getElem?_getD]
  by_cases h : j < xs.length
  · rw [List.getElem?_append_left h] at hj
    rw [List.getElem?_append_left (by rw [h1.1]; exact h), ← List.getD_eq_getElem?_getD]
    exact h1.2 j y hj
  · rw [List.getElem?_append_right (by omega)] at hj
    rw [List.getElem?_append_right (by rw [h1.1]; omega), h1.1, ← List.getD_eq_getElem?_getD]
    exact h2.2 _ y hj
theorem as_app {w : World} {P : Nat → Prop} {xs ys : List PV} {cs : List Value} (h : CellsAs w P (xs ++ ys) cs) : CellsAs w P xs (cs.take xs.length) ∧ CellsAs w P ys (cs.drop xs.length) := by
  have hl := h.1
  rw [List.length_append] at hl
  refine ⟨⟨by simp; omega, fun j y hj => ?_⟩, ⟨by simp; omega, fun j y hj => ?_⟩⟩
  · have hjl := (List.getElem?_eq_some_iff.1 hj).1
    have := h.2 j y (by rw [List.getElem?_append_left hjl]; exact hj)
    rwa [List.getD_eq_getElem?_getD, List.getElem?_take, if_pos hjl, ← List.getD_eq_getElem?_getD]
  · have := h.2 (xs.length + j) y (by rw [List.getElem?_append_right (by omega)]; simpa using hj)
    rwa [List.getD_eq_getElem?_getD, List.getElem?_drop, ← List.getD_eq_getElem?_getD]
theorem isD_as {w : World} {P : Nat → Prop} {n : Nat} {d : Dat} {cs : List Value} (hw : wfD n d) : IsD w P n cs d ↔ CellsAs w P (enc d) cs := by
  constructor
  · intro h
    have := isD_enc h
    rw [encD_enc hw] at this
    exact ⟨by rw [this.1, enc_len], this.2⟩
  · intro h
    exact enc_isD hw (by rw [h.1, enc_len]) (by rw [encD_enc hw]; exact h.2)
theorem two_as {w : World} {P : Nat → Prop} {x y : PV} {cs : List Value} : CellsAs w P [x, y] cs ↔ ∃ u v, cs = [u, v] ∧ PRel P w x u ∧ PRel P w y v := by
  constructor
  · rintro ⟨h1, h2⟩
    match cs, h1 with
    | [u, v], _ => exact ⟨u, v, rfl, h2 0 _ rfl, h2 1 _ rfl⟩
  · rintro ⟨u, v, rfl, h1, h2⟩
    refine ⟨rfl, fun j z hj => ?_⟩
    match j, hj with
    | 0, hj => injection hj with hj; subst hj; exact h1
    | 1, hj => injection hj with hj; subst hj; exact h2
    | j + 2, hj => simp at hj
theorem isT_wf {w : World} {P : Nat → Prop} {m : Nat} : ∀ {n : Nat} {cs : List Value} {t : Tr}, IsT w P m n cs t → wfT m n t
  | 0, _, _, h => h.elim
  | n + 1, cs, t, h => by
    obtain ⟨cd, aK, cK, e, ⟨h1, h2, h3⟩, h4, h5, h6⟩ := h
    refine ⟨⟨isD_wf h1, h2, h3⟩, h6, fun x hx => ?_⟩
    obtain ⟨i, hi, rfl⟩ := List.getElem_of_mem hx
    obtain ⟨b, o, cs', _, _, _, r⟩ := h4 i hi
    rw [List.getD_eq_getElem?_getD, List.getElem?_eq_getElem hi] at r
    exact isT_wf r
theorem isT_as {w : World} {P : Nat → Prop} {m : Nat} : ∀ {n : Nat} {cs : List Value} {t : Tr}, wfT m n t → (IsT w P m n cs t ↔ CellsAs w P (encT t) cs)
  | 0, _, _, h => h.elim
  | n + 1, cs, t, h => by
    obtain ⟨⟨h1, h2, h3⟩, h4, h5⟩ := h
    rw [encT_eq]
    constructor
    · rintro ⟨cd, aK, cK, rfl, ⟨g1, _⟩, g2, g3, _⟩
      exact app_as ((isD_as h1).1 g1) (two_as.2 ⟨_, _, rfl, .raw rfl, rowK_pv (fun x _ => encT_len x) (fun x hx cs r => (isT_as (h5 x hx)).1 r) g2 g3⟩)
    · intro hc
      obtain ⟨q1, q2⟩ := as_app hc
      obtain ⟨u, v, e, r1, r2⟩ := two_as.1 q2
      obtain ⟨a, c, rfl, q4, q5⟩ := pv_rowK (R := IsT w P m n) (by decide) (fun x _ => encT_len x) (fun x hx cs r => (isT_as (h5 x hx)).2 r) r2
      cases r1
      refine ⟨_, a, c, ?_, ⟨(isD_as h1).2 q1, h2, h3⟩, q5, q4, h4⟩
      rw [← e, List.take_append_drop]
theorem isB_as {w : World} {P : Nat → Prop} {m n : Nat} {cs : List Value} {b : Bd} (h : wfT m n b.t) : IsB w P m n cs b ↔ CellsAs w P (encB b) cs := by
  have one : ∀ (v : Value) (cs : List Value), CellsAs w P (encB b) (v :: cs) ↔ (v = .string b.name ∧ CellsAs w P (encT b.t) cs) := fun v cs => by
    constructor
    · rintro ⟨h1, h2⟩
      have h0 := h2 0 _ rfl
      simp only [List.getD_eq_getElem?_getD, List.getElem?_cons_zero, Option.getD_some] at h0
      cases h0
      refine ⟨rfl, by simpa [encB] using h1, fun j y hj => ?_⟩
      have := h2 (j + 1) y (by simpa [encB] using hj)
      simpa [List.getD_eq_getElem?_getD] using this
    · rintro ⟨rfl, h1, h2⟩
      refine ⟨by simp [encB, h1], fun j y hj => ?_⟩
      cases j with
      | zero =>
        injection hj with hj
        subst hj
        exact .raw rfl
      | succ j =>
        have := h2 j y (by simpa [encB] using hj)
        simpa [List.getD_eq_getElem?_getD] using this
  constructor
  · rintro ⟨ct, rfl, r⟩
    exact (one _ _).2 ⟨rfl, (isT_as h).1 r⟩
  · intro r
    cases cs with
    | nil => exact absurd r.1 (by simp [encB])
    | cons v cs =>
      obtain ⟨rfl, r2⟩ := (one _ _).1 r
      exact ⟨cs, rfl, (isT_as h).2 r2⟩
end Go.Proofs.Ythmpaepdbjldfaa

/-
  What fills templates, told by trees.
-/
namespace Go.Proofs.Ythmpaepdbjldfaa
set_option linter.unusedVariables false
set_option linter.unusedSimpArgs false
open Go.RowKit Go.Shelf

/-! ### A function with a receiver, told of old -/
theorem lone_rel {E : Env} {w w' : World} {T : TypeId} {cs cs' : List PV} {us' : List Value} (h : HRel E w) (hlh : E.lh = lone T cs) (htk : E.tk = fun _ => .hole) (hu : Upd [E.ρ 0] w w') (hb : Blk w' (E.ρ 0) us' T) (hc : CellsAs w' (fun b => (E.imm w b ∨ w.heap.size ≤ b) ∧ b < w'.heap.size) cs' us') :
    Ext E { E with lh := lone T cs' } w w' ∧ HRel { E with lh := lone T cs' } w' ∧ ∀ b, (E.imm w b ∨ w.heap.size ≤ b) ∧ b < w'.heap.size → Env.imm { E with lh := lone T cs' } w' b := by
  have hl0 : E.live 0 := by unfold Env.live; rw [hlh]; exact ⟨by simp [lone], by simp [lone]⟩
  have hlv : ∀ l, E.live l → l = 0 := fun l hl => by
    by_cases h0 : l = 0
    · exact h0
    · exact absurd (by rw [hlh]; exact if_neg h0) hl.1
  have hlv' : ∀ l, Env.live { E with lh := lone T cs' } l → l = 0 := fun l hl => by
    by_cases h0 : l = 0
    · exact h0
    · exact absurd (show lone T cs' l = .hole from if_neg h0) hl.1
  have hgr : ∀ t, ¬ E.grows t := fun t ht => ht.1 (by rw [htk])
  have hn0 := h.nol 0 hl0
  have himm : ∀ b, (E.imm w b ∨ w.heap.size ≤ b) ∧ b < w'.heap.size → Env.imm { E with lh := lone T cs' } w' b := by
    rintro b ⟨hb', hlt⟩
    refine ⟨hlt, fun hn => ?_, fun l hl => ?_, fun t ht => absurd ht (hgr t)⟩
    · rcases hb' with q | q
      · exact q.2.1 hn
      · have := h.nob b hn
        omega
    · have h0 := hlv' l hl
      subst h0
      rcases hb' with q | q
      · exact q.2.2.1 0 hl0
      · intro e
        have e' : E.ρ 0 = b := e
        omega
  have hx : Ext E { E with lh := lone T cs' } w w' := by
    refine ext_of_upd h hu (fun b hb' => ?_) rfl (fun l => ?_) (fun t => tokrefl rfl rfl) (fun b hb' => himm b ⟨.inl hb', Nat.lt_of_lt_of_le hb'.1 hu.size⟩)
    · have e : b = E.ρ 0 := by simpa using hb'
      exact .inl ⟨0, hl0, e.symm⟩
    · by_cases h0 : l = 0
      · subst h0
        refine ⟨fun _ => by simp [lone], fun q => absurd q hl0.2, fun _ _ => rfl⟩
      · have e1 : E.lh l = .hole := by rw [hlh]; exact if_neg h0
        exact ⟨fun q => absurd e1 q, fun q => absurd (e1.symm.trans q) (by simp), fun q => absurd e1 q.1⟩
  refine ⟨hx, ⟨fun b hb' => Nat.lt_of_lt_of_le (h.nob b hb') hu.size, fun l T' cs'' e => ?_, fun l hl => ?_, fun l l' g1 g2 _ => (hlv' l g1).trans (hlv' l' g2).symm, fun t T' k n es e => ?_, fun t b ht => absurd ht (hgr t)⟩, himm⟩
  · by_cases h0 : l = 0
    · subst h0
      have e' : LB.cells T (cs'.map fun x => TV.c (.p x)) = .cells T' cs'' := e
      injection e' with e1 e2
      subst e1; subst e2
      refine ⟨us', hb, by simpa using hc.1, fun j x hj => ?_⟩
      simp only [List.getElem?_map, Option.map_eq_some_iff] at hj
      obtain ⟨y, hy, rfl⟩ := hj
      exact PRel.map (fun b o v hb' hc' => ⟨himm b hb', hc'⟩) (hc.2 j y hy)
    · exact absurd (show lone T cs' l = _ from e) (by rw [show lone T cs' l = .hole from if_neg h0]; simp)
  · have h0 := hlv' l hl
    subst h0
    exact ⟨hn0.1, Nat.lt_of_lt_of_le hn0.2 hu.size⟩
  · have e' : E.tk t = _ := e
    rw [htk] at e'
    cases e'
theorem RFun.of_calls {P : Program} {f : FuncId} {T : TypeId} {cs : List PV} {args : List PA} {R : PX → List PV → Prop}
    (h : ∀ (Q : Nat → Prop) (w : World) (F : Nat) (us vs : List Value), (∀ b, Q b → b < w.heap.size ∧ b ≠ F) → Blk w F us T → CellsAs w Q cs us → vs.length = args.length → (∀ (j : Nat) (x : PA), args[j]? = some x → PARel Q w x (vs.getD j undef)) →
      Calls P f (.pointer (some ⟨F, 0, none⟩) :: vs).toArray w fun e w' => ∃ v X us' cs', e = .returned v ∧ Upd [F] w w' ∧ Blk w' F us' T ∧ CellsAs w' (fun b => (Q b ∨ w.heap.size ≤ b) ∧ b < w'.heap.size) cs' us' ∧ PXRel (fun b => (Q b ∨ w.heap.size ≤ b) ∧ b < w'.heap.size) w' X v ∧ R X cs') : RFun P f T cs args R := by
  intro E w vs h1 h2 hH hl hr
  have hl0 : E.live 0 := by unfold Env.live; rw [h1]; exact ⟨by simp [lone], by simp [lone]⟩
  match vs, hl with
  | v0 :: vs, hl =>
    have hv0 : v0 = .pointer (some ⟨E.ρ 0, 0, none⟩) := (hr 0 _ rfl).2.2 hl0
    subst hv0
    obtain ⟨us, q1, q2⟩ := hH.loc 0 T _ (by rw [h1]; rfl)
    refine (h (E.imm w) w (E.ρ 0) us vs (fun b hb => ⟨hb.1, fun e => hb.2.2.1 0 hl0 e.symm⟩) q1 ⟨by simpa using q2.1, fun j y hj => q2.2 j (.c (.p y)) (by simp [hj])⟩ (by simpa using hl) (fun j x hj => ?_)).mono ?_
    · have := hr (j + 1) x.tx (by simp [hj])
      simp only [List.getD_eq_getElem?_getD, List.getElem?_cons_succ] at this
      rw [List.getD_eq_getElem?_getD]
      exact ta_rel.1 this
    · rintro e w' ⟨v, X, us', cs', rfl, hu, hb, hc, hX, hR⟩
      obtain ⟨g1, g2, g3⟩ := lone_rel hH h1 h2 hu hb hc
      exact ⟨v, _, X, rfl, g1, g2, PXRel.map (fun b o v hb' hc' => ⟨g3 b hb', hc'⟩) hX, cs', rfl, h2, hR⟩
/-! ### at and many -/
def zeroDC : List PV := [.raw (.int .i64 0), .raw (.bool false), .raw (.slice none 0 0), .raw (.bool false), .raw (.string ByteArray.empty), .raw (.slice none 0 0), .raw (.slice none 0 0)]
def atX : Option Tr → PX
  | none => .tup [.agg (zeroDC ++ [.raw (.bool false), .raw (.slice none 0 0)]), .one (.raw (.bool false))]
  | some x => .tup [.agg (encT x), .one (.raw (.bool true))]
theorem raws_as {w : World} {P : Nat → Prop} : ∀ (vs : List Value), (∀ v ∈ vs, v.oneCell' = true) → CellsAs w P (vs.map .raw) vs := by
  intro vs h
  refine ⟨by simp, fun j y hj => ?_⟩
  simp only [List.getElem?_map, Option.map_eq_some_iff] at hj
  obtain ⟨u, hu, rfl⟩ := hj
  rw [List.getD_eq_getElem?_getD, hu]
  exact .raw (h u (List.mem_of_getElem? hu))
theorem as_raws {w : World} {P : Nat → Prop} {vs cs : List Value} (h : CellsAs w P (vs.map .raw) cs) : cs = vs := by
  refine List.ext_getElem? fun j => ?_
  have hl := h.1
  rw [List.length_map] at hl
  by_cases hj : j < vs.length
  · have := h.2 j (.raw vs[j]) (by simp [hj])
    rw [List.getD_eq_getElem?_getD, List.getElem?_eq_getElem (by omega)] at this
    rw [List.getElem?_eq_getElem hj, List.getElem?_eq_getElem (by omega)]
    generalize cs[j]'(by omega) = c at this ⊢
    cases this
    rfl
  · rw [List.getElem?_eq_none (by omega), List.getElem?_eq_none (by omega)]
def wfS (m N : Nat) (s : List Bd) : Prop := ∀ b ∈ s, wfT m N b.t
theorem binds_row {w : World} {P : Nat → Prop} {m N : Nat} {s : List Bd} {v : Value} (hw : wfS m N s) (h : PRel P w (.sl 10 (s.map encB)) v) : ∃ a c, v = .slice a s.length c ∧ s.length ≤ c ∧ RowK w P 10 (IsB w P m N) a s :=
  pv_rowK (by decide) (fun x _ => encB_len x) (fun x hx cs r => (isB_as (hw x hx)).2 r) h
theorem at_pf {m N : Nat} {s : List Bd} (nm : ByteArray) (hw : wfS m N s) (hk : s.length ≤ 100000000) : PFun Try.prog 103 [.one (.sl 10 (s.map encB)), .one (.raw (.string nm))] (fun X => X = atX (atF s nm)) := by
  intro Q w vs hQ hl hr
  match vs, hl with
  | [v1, v2], _ =>
    have r1 : PRel Q w (.sl 10 (s.map encB)) v1 := hr 0 _ rfl
    have r2 : PRel Q w (.raw (.string nm)) v2 := hr 1 _ rfl
    cases r2
    obtain ⟨a, c, rfl, hc, hR⟩ := binds_row hw r1
    refine (at_calls nm s.length c rfl hR hk).mono ?_
    rintro e w' ⟨hu, hp⟩
    cases hat : atF s nm with
    | none =>
      rw [hat] at hp
      refine ⟨_, atX none, hp, hu, ⟨[zeroTr, .bool false], rfl, rfl, fun j x hj => ?_⟩, rfl⟩
      match j, hj with
      | 0, hj =>
        injection hj with hj
        subst hj
        exact ⟨_, rfl, raws_as [.int .i64 0, .bool false, .slice none 0 0, .bool false, .string ByteArray.empty, .slice none 0 0, .slice none 0 0, .bool false, .slice none 0 0] (by simp [Value.oneCell'])⟩
      | 1, hj =>
        injection hj with hj
        subst hj
        exact PRel.raw rfl
      | j + 2, hj => simp at hj
    | some x =>
      rw [hat] at hp
      obtain ⟨ct, e1, ht⟩ := hp
      have ht' := isT_wf ht
      refine ⟨_, atX (some x), e1, hu, ⟨[.agg ct.toArray, .bool true], rfl, rfl, fun j y hj => ?_⟩, rfl⟩
      match j, hj with
      | 0, hj =>
        injection hj with hj
        subst hj
        have g := (isT_as ht').1 ht
        exact ⟨ct, rfl, g.1, fun j y hj => PRel.map (fun b o v hb hc => ⟨⟨.inl hb, Nat.lt_of_lt_of_le (hQ b hb) hu.size⟩, hu.cell hc (by simp)⟩) (g.2 j y hj)⟩
      | 1, hj =>
        injection hj with hj
        subst hj
        exact PRel.raw rfl
      | j + 2, hj => simp at hj
theorem many_pf {n m N : Nat} {s : List Bd} {t : Dat} (pl : Bool) (hw : wfS m N s) (hk : s.length ≤ 100000000) (ht : wfD n t) (hs : szN n t ≤ 100000) : PFun Try.prog 104 [.one (.sl 10 (s.map encB)), .agg (enc t), .one (.raw (.bool pl))] (fun X => X = .a (.one (.sl 1 ((manyN n s t pl).map encS)))) := by
  intro Q w vs hQ hl hr
  match vs, hl with
  | [v1, v2, v3], _ =>
    have r1 : PRel Q w (.sl 10 (s.map encB)) v1 := hr 0 _ rfl
    have r3 : PRel Q w (.raw (.bool pl)) v3 := hr 2 _ rfl
    obtain ⟨cs, rfl, hd⟩ := pa_isD ht (hr 1 _ rfl)
    cases r3
    obtain ⟨a, c, rfl, hc, hR⟩ := binds_row hw r1
    refine (many_calls n t cs w Q Q Q m N a s s.length c pl hd hR rfl hk hs).mono ?_
    rintro e w' ⟨⟨a', c', e1, hR', hc'⟩, hu⟩
    refine ⟨_, _, e1, hu, ?_, rfl⟩
    exact rowK_pv (R := IsS) (fun x _ => rfl) (fun x _ cs r => isS_as.1 r) (RowK.map hR' (by decide) (fun b hb hq => ⟨.inr hq, hb⟩) (fun _ _ _ _ hc => hc) (fun _ _ h => h)) hc'
/-! ### fail and symbol -/
def stC (st : St) : List PV := [.raw (.int .i64 st.left), .raw (.int .i64 st.e)]
theorem fail_rf {st : St} (e1 : Int) : RFun Try.prog 78 93 (stC st) [.one (.raw (.int .i64 e1))] (fun X cs' => X = .a (.agg zeroDC) ∧ cs' = stC (st.fail e1)) := by
  refine RFun.of_calls fun Q w F us vs hQ hB hc hl hr => ?_
  have e := as_raws (vs := [.int .i64 st.left, .int .i64 st.e]) hc
  subst e
  match vs, hl with
  | [v], _ =>
    have r : PRel Q w (.raw (.int .i64 e1)) v := hr 0 _ rfl
    cases r
    refine (fail_calls e1 hB).mono ?_
    rintro e w' ⟨rfl, hB', hu⟩
    refine ⟨_, .a (.agg zeroDC), _, stC (st.fail e1), rfl, hu, hB', ?_, ⟨_, rfl, raws_as [.int .i64 0, .bool false, .slice none 0 0, .bool false, .string ByteArray.empty, .slice none 0 0, .slice none 0 0] (by simp [Value.oneCell'])⟩, rfl, rfl⟩
    have e2 : ([.int .i64 st.left, .int .i64 (if st.e = 0 then e1 else st.e)] : List Value) = [.int .i64 (st.fail e1).left, .int .i64 (st.fail e1).e] := by
      unfold St.fail
      split <;> rfl
    rw [e2]
    exact raws_as _ (by simp [Value.oneCell'])
theorem symbol_rf {n m N : Nat} {s : List Bd} {t : Dat} {st : St} (hw : wfS m N s) (hk : s.length ≤ 100000000) (ht : wfD n t) (hl : -1000000000 ≤ st.left ∧ st.left ≤ 1000000000) :
    RFun Try.prog 80 93 (stC st) [.agg (enc t), .one (.sl 10 (s.map encB))] (fun X cs' => X = .a (.agg (enc (symF m s t st).1)) ∧ cs' = stC (symF m s t st).2 ∧ wfD (m + n) (symF m s t st).1) := by
  refine RFun.of_calls fun Q w F us vs hQ hB hc hlen hr => ?_
  have e := as_raws (vs := [.int .i64 st.left, .int .i64 st.e]) hc
  subst e
  match vs, hlen with
  | [v1, v2], _ =>
    obtain ⟨cs, rfl, hd⟩ := pa_isD ht (hr 0 _ rfl)
    have r2 : PRel Q w (.sl 10 (s.map encB)) v2 := hr 1 _ rfl
    obtain ⟨a, c, rfl, hc', hR⟩ := binds_row hw r2
    refine (symbol_calls (k := s.length) (c := c) hB hd (fun b hb => (hQ b hb).2) hR rfl hk hl).mono ?_
    rintro e w' ⟨⟨cs', e1, hD⟩, hB', hu⟩
    exact ⟨_, .a (.agg (enc (symF m s t st).1)), _, stC (symF m s t st).2, e1, hu, hB', raws_as _ (by simp [Value.oneCell']), isD_pa (hD.mono fun b hb hq => ⟨hq, hb⟩), rfl, rfl, isD_wf hD⟩
end Go.Proofs.Ythmpaepdbjldfaa

/-
  What arguments read as, told by trees.
-/
namespace Go.Proofs.Ythmpaepdbjldfaa
set_option linter.unusedVariables false
set_option linter.unusedSimpArgs false
open Go.RowKit Go.Shelf
set_option linter.unusedSimpArgs false

theorem sl_open {α : Type} [Inhabited α] {P : Program} {w : World} {m : Nat} {v : Value} {t e : TypeId} {K : Nat} (f : α → List PV) (Q : α → Prop) (ht : P.underlying t = some (.slice e)) (hk : P.cellsOf e = K) (hK : 0 < K) (ih : ∀ k cs, k < m → RdS P w k e cs → ∃ x, CellsAs w (Old w) (f x) cs ∧ Q x) (h : RdS P w m t [v]) :
    ∃ xs : List α, PRel (Old w) w (.sl K (xs.map f)) v ∧ (∀ x ∈ xs, Q x) ∧ xs.length * P.bytesOf e ≤ 140737488351232 := by
  rcases h.slice ht (by omega) with q | ⟨a', len, cap, k, hm, q, h2, h3, h5, h4⟩
  · injection q with q _
    subst q
    exact ⟨[], PRel.nil K, (fun _ hx => absurd hx (by simp)), by simp⟩
  · injection q with q _
    subst q
    rw [hk] at h4
    have hx : ∀ i, i < len → ∃ x : α, ∃ b o cs, a' = ⟨b, o, none⟩ ∧ cs.length = K ∧ (∀ j, j < K → w.cell? ⟨b, o + i * K + j, none⟩ = cs[j]?) ∧ CellsAs w (Old w) (f x) cs ∧ Q x := by
      intro i hi
      obtain ⟨b, o, cs, e1, hl, hc, hr⟩ := h4 i (by omega)
      obtain ⟨x, h6, h7⟩ := ih k cs (by omega) hr
      exact ⟨x, b, o, cs, e1, hl, hc, h6, h7⟩
    obtain ⟨g, hg⟩ := Deep.choose_lt hx
    have hgets : ∀ i x, ((List.range len).map g)[i]? = some x → i < len ∧ x = g i := by
      intro i x hi
      simp only [List.getElem?_map, Option.map_eq_some_iff] at hi
      obtain ⟨y, hy, rfl⟩ := hi
      obtain ⟨h1, h2⟩ := List.getElem?_eq_some_iff.1 hy
      simp at h1 h2
      subst h2
      exact ⟨h1, rfl⟩
    have hel : ∀ i e', (((List.range len).map g).map f)[i]? = some e' → i < len ∧ e' = f (g i) := by
      intro i e' hi
      rw [List.getElem?_map, Option.map_eq_some_iff] at hi
      obtain ⟨x, hx', rfl⟩ := hi
      obtain ⟨h1, h2⟩ := hgets i x hx'
      exact ⟨h1, by rw [h2]⟩
    refine ⟨(List.range len).map g, ?_, fun x hx' => ?_, ?_⟩
    · have hlen : len = (((List.range len).map g).map f).length := by simp
      obtain ⟨cv, hcv⟩ := Deep.choose_lt (p := fun i (cs : List Value) => ∃ b o, a' = ⟨b, o, none⟩ ∧ cs.length = K ∧ (∀ j, j < K → w.cell? ⟨b, o + i * K + j, none⟩ = cs[j]?) ∧ CellsAs w (Old w) (f (g i)) cs) (n := len) (fun i hi => by
        obtain ⟨b, o, cs, e1, hl, hc, h6, _⟩ := hg i hi
        exact ⟨cs, b, o, e1, hl, hc, h6⟩)
      conv => arg 4; arg 2; rw [hlen]
      refine PRel.sl (fun i j => (cv i).getD j undef) (fun i e' hi => ?_) (fun i e' j x hi hj => ?_) (fun i e' j x hi hj => ?_) (by simp; omega)
      · obtain ⟨h1, rfl⟩ := hel i e' hi
        obtain ⟨b, o, e1, hl, hc, h6⟩ := hcv i h1
        rw [← h6.1, hl]
      · obtain ⟨h1, rfl⟩ := hel i e' hi
        obtain ⟨b, o, e1, hl, hc, h6⟩ := hcv i h1
        have hjl := (List.getElem?_eq_some_iff.1 hj).1
        rw [← h6.1, hl] at hjl
        have hcell := hc j hjl
        rw [List.getElem?_eq_getElem (by omega)] at hcell
        refine ⟨b, o, by rw [e1], ?_, ?_⟩
        · exact World.block_lt_of_cell? w _ hcell
        · rw [← Nat.add_assoc, hcell, List.getD_eq_getElem?_getD, List.getElem?_eq_getElem (by omega)]
          rfl
      · obtain ⟨h1, rfl⟩ := hel i e' hi
        obtain ⟨b, o, e1, hl, hc, h6⟩ := hcv i h1
        exact h6.2 j x hj
    · obtain ⟨i, hi, rfl⟩ := List.getElem_of_mem hx'
      obtain ⟨h1, h2⟩ := hgets i _ (List.getElem?_eq_getElem hi)
      rw [h2]
      obtain ⟨b, o, cs, e1, hl, hc, h6, h7⟩ := hg i h1
      exact h7
    · rw [List.length_map, List.length_range]
      exact Nat.le_trans (Nat.mul_le_mul_right _ h2) h5
theorem str_open {P : Program} {w : World} {n : Nat} {t : TypeId} {cs : List Value} (ht : P.underlying t = some .string) (h : RdS P w n t cs) : ∃ s : ByteArray, CellsAs w (Old w) (encS s) cs ∧ s.size ≤ 140737488351232 := by
  obtain ⟨s, rfl, hs⟩ := h.str ht
  exact ⟨s, isS_as.1 rfl, hs⟩
theorem ArgS.str {P : Program} {w : World} {t : TypeId} {v : Value} (h : ArgS P w t v) (ht : P.underlying t = some .string) : ∃ s : ByteArray, v = .string s ∧ s.size ≤ 140737488351232 := by
  obtain ⟨n, hr, base, hok⟩ := h
  obtain ⟨s, e, hs⟩ := hr.str ht
  obtain ⟨s', rfl⟩ := WideShapes.okWide_string ht hok
  have e' : [Value.string s'] = [.string s] := e
  injection e' with e'
  injection e' with e'
  subst e'
  exact ⟨s', rfl, hs⟩
/-- A law that is told by trees. -/
theorem law_of {P : Program} {f : FuncId} {args : List PA} (h : PFun P f args (fun X => X = .a (.one (.raw (.bool true))))) {w : World} {vs : List Value} (hl : vs.length = args.length) (hr : ∀ (j : Nat) (x : PA), args[j]? = some x → PARel (Old w) w x (vs.getD j undef)) : Calls P f vs.toArray w fun e w' => e = .returned (.bool true) ∧ Upd [] w w' := by
  refine (h (Old w) w vs (fun _ h => h) hl hr).mono ?_
  rintro e w' ⟨v, X, rfl, hu, hX, rfl⟩
  have hX' : PRel _ w' (.raw (.bool true)) v := hX
  cases hX'
  exact ⟨rfl, hu⟩
end Go.Proofs.Ythmpaepdbjldfaa

/-
  Templates: what filling costs (plain).
-/
namespace Go.Proofs.Ythmpaepdbjldfaa
set_option linter.unusedVariables false
set_option linter.unusedSimpArgs false
open Go.RowKit Go.Shelf

theorem szN_more {m : Nat} {d : Dat} (h : szN m d ≤ 1000000) : ∀ k, szN (m + k) d = szN m d
  | 0 => rfl
  | k + 1 => by
    rw [← Nat.add_assoc, szN_up (m + k) d (by rw [szN_more h k]; exact h), szN_more h k]
def St.ok (st : St) : Prop := (st.e = 0 → -5000 ≤ st.left) ∧ -500000 ≤ st.left ∧ st.left ≤ 5000
/-- What a fill of n levels may cost. -/
structure Cost (n : Nat) (z : Nat) (st st' : St) : Prop where
  sz : (z : Int) ≤ st.left - st'.left
  e0 : st'.e = 0 → -5000 ≤ st'.left
  lo : min st.left (-5000) - 1 - n ≤ st'.left
  er : st.e ≠ 0 → st'.left = st.left - 1
theorem fail_e {st : St} {e : Int} (h : e ≠ 0) : (st.fail e).e ≠ 0 ∧ (st.fail e).left = st.left := by
  unfold St.fail
  split
  · exact ⟨h, rfl⟩
  · exact ⟨‹_›, rfl⟩
/-- What a row costs. -/
structure CostL (n : Nat) (z : Nat) (st st' : St) : Prop where
  sz : (z : Int) ≤ st.left - st'.left
  e0 : st'.e = 0 → -5000 ≤ st'.left
  lo : st.e = 0 → -5000 - 1 - (n : Int) ≤ st'.left
  same : st.e ≠ 0 → st' = st
theorem CostL.refl (n : Nat) {st : St} (h : st.e = 0 → -5000 ≤ st.left) : CostL n 0 st st :=
  ⟨by simp, h, fun q => by have := h q; omega, fun _ => rfl⟩
theorem CostL.trans {n z z' : Nat} {a b c : St} (h : CostL n z a b) (g : CostL n z' b c) : CostL n (z + z') a c := by
  refine ⟨by have := h.sz; have := g.sz; omega, g.e0, fun q => ?_, fun q => ?_⟩
  · by_cases hb : b.e = 0
    · exact g.lo hb
    · rw [g.same hb]
      exact h.lo q
  · have := h.same q
    subst this
    exact g.same q
theorem wfT_up {m : Nat} : ∀ {n : Nat} {t : Tr}, wfT m n t → wfT m (n + 1) t
  | 0, _, h => h.elim
  | n + 1, t, h => ⟨h.1, h.2.1, fun x hx => wfT_up (h.2.2 x hx)⟩
theorem atF_mem {s : List Bd} {q : ByteArray} {x : Tr} (h : atF s q = some x) : ∃ b ∈ s, b.t = x := by
  unfold atF at h
  simp only [Option.map_eq_some_iff] at h
  obtain ⟨b, hb, rfl⟩ := h
  exact ⟨b, List.mem_of_find?_eq_some hb, rfl⟩
theorem kids_all {s : List Bd} {names : List ByteArray} {c : Nat} (h : kidsN s names = some c) : ∀ q ∈ names, ((atF s q).getD default).kids.length = c := by
  cases names with
  | nil => cases h
  | cons nm r =>
    simp only [kidsN] at h
    split at h
    · rename_i hr
      injection h with h
      intro q hq
      rcases List.mem_cons.1 hq with rfl | hq
      · exact h
      · have := (List.all_eq_true.1 hr) q hq
        simp only [decide_eq_true_eq] at this
        omega
    · cases h
theorem inner_wf {m N : Nat} {s : List Bd} {names : List ByteArray} {c i : Nat} (hw : wfS m N s) (h : kidsN s names = some c) (hi : i < c) : wfS m N (inner s names i ++ s) := by
  intro b hb
  rcases List.mem_append.1 hb with hb | hb
  · obtain ⟨q, hq, rfl⟩ := List.mem_map.1 hb
    have hl := kids_all h q hq
    cases ha : atF s q with
    | none =>
      rw [ha] at hl
      have e : (Option.getD (none : Option Tr) default).kids.length = 0 := rfl
      omega
    | some x =>
      rw [ha] at hl
      obtain ⟨b', hb', e⟩ := atF_mem ha
      have hx := hw b' hb'
      rw [e] at hx
      cases N with
      | zero => exact hx.elim
      | succ N =>
        have hl' : x.kids.length = c := hl
        show wfT m (N + 1) (x.kids.getD i default)
        rw [List.getD_eq_getElem?_getD, List.getElem?_eq_getElem (by omega)]
        exact wfT_up (hx.2.2 _ (List.getElem_mem _))
  · exact hw b hb
theorem rowF_cost {n m N : Nat} {F : Dat → Nat} {f : List Bd → St → Dat × St} {nm : List Bd → List ByteArray} (hf : ∀ s st, wfS m N s → st.e = 0 → -5000 ≤ st.left → st.left ≤ 5000 → Cost n (F (f s st).1) st (f s st).2) : ∀ (k : Nat) (s : List Bd) (st : St), wfS m N s → st.left ≤ 5000 → (st.e = 0 → -5000 ≤ st.left) → CostL n (szL F (rowF f nm k s st).1) st (rowF f nm k s st).2
  | 0, s, st, hw, h5, h => by
    unfold rowF
    by_cases he : st.e ≠ 0
    · rw [if_pos he]
      exact CostL.refl n h
    · rw [if_neg he]
      have he' : st.e = 0 := by simpa using he
      have := hf s st hw he' (h he') h5
      have hl := h he'
      have h1 := this.lo
      exact ⟨by simp only [szL]; have := this.sz; omega, this.e0, fun _ => by show _ ≤ (f s st).2.left; omega, fun q => absurd he' q⟩
  | k + 1, s, st, hw, h5, h => by
    unfold rowF
    by_cases he : st.e ≠ 0
    · rw [if_pos he]
      exact CostL.refl n h
    · rw [if_neg he]
      have he' : st.e = 0 := by simpa using he
      have hl := h he'
      cases hkn : kidsN s (nm s) with
      | none =>
        have hfl := fail_e (st := st) (e := 5) (by decide)
        exact ⟨by simp [szL, hfl.2], fun q => absurd q hfl.1, fun _ => by show _ ≤ (st.fail 5).left; rw [hfl.2]; omega, fun q => absurd he' q⟩
      | some c =>
        have key : ∀ (is : List Nat) (a : List Dat × St), (∀ i ∈ is, i < c) → CostL n (szL F a.1) st a.2 → CostL n (szL F (is.foldl (fun a i => (a.1 ++ (rowF f nm k (inner s (nm s) i ++ s) a.2).1, (rowF f nm k (inner s (nm s) i ++ s) a.2).2)) a).1) st (is.foldl (fun a i => (a.1 ++ (rowF f nm k (inner s (nm s) i ++ s) a.2).1, (rowF f nm k (inner s (nm s) i ++ s) a.2).2)) a).2 := by
          intro is
          induction is with
          | nil => intro a _ ha; exact ha
          | cons i is ih =>
            intro a hi ha
            rw [List.foldl_cons]
            refine ih _ (fun j hj => hi j (by simp [hj])) ?_
            have := rowF_cost (nm := nm) hf k (inner s (nm s) i ++ s) a.2 (inner_wf hw hkn (hi i (by simp))) (by have := ha.sz; omega) ha.e0
            rw [szL_append]
            exact ha.trans this
        exact key (List.range c) ([], st) (fun i hi => List.mem_range.1 hi) (CostL.refl n h)
theorem itemsF_cost {n : Nat} {F : Dat → Nat} {g : Dat → Nat → St → List Dat × St} {pl : Bool} : ∀ (m : Nat) (xs : List Dat) (st : St), (∀ x ∈ xs, ∀ k st, st.left ≤ 5000 → (st.e = 0 → -5000 ≤ st.left) → CostL n (szL F (g x k st).1) st (g x k st).2) → st.left ≤ 5000 → (st.e = 0 → -5000 ≤ st.left) → CostL n (szL F (itemsF g pl m xs st).1) st (itemsF g pl m xs st).2
  | 0, xs, st, _, _, h => CostL.refl n h
  | m + 1, [], st, _, _, h => CostL.refl n h
  | m + 1, x :: xs, st, hg, h5, h => by
    unfold itemsF
    by_cases he : st.e ≠ 0
    · rw [if_pos he]
      exact CostL.refl n h
    · rw [if_neg he]
      have h1 := hg x (by simp) (dotsRun pl xs) st h5 h
      have h2 := itemsF_cost (g := g) (pl := pl) m (xs.drop (dotsRun pl xs)) (g x (dotsRun pl xs) st).2 (fun y hy => hg y (by simp [List.mem_of_mem_drop hy])) (by have := h1.sz; omega) h1.e0
      simp only [szL_append]
      exact h1.trans h2
theorem szN_atom {n : Nat} {t : Dat} (h1 : t.items = []) (h2 : t.tail = []) : szN (n + 1) t = 1 := by
  rw [szN, h1, h2]
  rfl
theorem fillN_cost {m N : Nat} : ∀ (n : Nat) (t : Dat) (s : List Bd) (pl : Bool) (st : St), n ≤ 100000 → goodN n t = true → wfS m N s → st.left ≤ 5000 → (st.e = 0 → -5000 ≤ st.left) → -500000 ≤ st.left → Cost n (szN (m + n) (fillN m n t s pl st).1) st (fillN m n t s pl st).2
  | 0, _, _, _, _, _, h, _, _, _, _ => by simp [goodN] at h
  | n + 1, t, s, pl, st, hn, hg, hw, h5, h, hlow => by
    obtain ⟨st', hst'⟩ : ∃ st', st' = (if (⟨st.left - 1, st.e⟩ : St).left < 0 then (⟨st.left - 1, st.e⟩ : St).fail 12 else ⟨st.left - 1, st.e⟩) := ⟨_, rfl⟩
    have hleft : st'.left = st.left - 1 := by
      rw [hst']
      split
      · exact (fail_e (by decide)).2
      · rfl
    have hz : st'.e = 0 → st.e = 0 ∧ 0 ≤ st.left - 1 := fun q => by
      rw [hst'] at q
      split at q
      · exact absurd q (fail_e (by decide)).1
      · exact ⟨q, by simpa using ‹¬ (⟨st.left - 1, st.e⟩ : St).left < 0›⟩
    have hsz0 : szN (m + (n + 1)) zeroD = 1 := szN_atom rfl rfl
    have one : ∀ (d : Dat) (st2 : St), szN (m + (n + 1)) d = 1 → st2.left = st'.left → (st2.e = 0 → st'.e = 0) → Cost (n + 1) (szN (m + (n + 1)) d) st st2 := fun d st2 q1 q2 q3 =>
      ⟨by rw [q1, q2, hleft]; omega, fun q => by have := hz (q3 q); omega, by rw [q2, hleft]; omega, fun _ => by rw [q2, hleft]⟩
    unfold fillN
    simp only []
    rw [← hst']
    by_cases he : st'.e ≠ 0
    · rw [if_pos he]
      exact one _ _ hsz0 rfl (fun q => q)
    · rw [if_neg he]
      have he' : st'.e = 0 := by simpa using he
      obtain ⟨he0, hpos⟩ := hz he'
      by_cases hd : (!pl && isF t dotsB) = true
      · rw [if_pos hd]
        have := fail_e (st := st') (e := 5) (by decide)
        exact one _ _ hsz0 this.2 (fun q => absurd q this.1)
      · rw [if_neg hd]
        by_cases h3 : t.kind = 3
        · rw [if_pos h3]
          obtain ⟨hi, ht⟩ := good_atom hg (by omega)
          cases ha : atF s t.s with
          | none => exact one _ _ (szN_atom hi ht) rfl (fun q => q)
          | some x =>
            obtain ⟨b, hb, hbx⟩ := atF_mem ha
            have hx := hw b hb
            rw [hbx] at hx
            have hx5 : szN m x.d ≤ 5000 := by
              cases N with
              | zero => exact hx.elim
              | succ N => exact hx.1.2.1
            have hx1 : 1 ≤ szN m x.d := by cases m <;> (simp only [szN]; omega)
            have e1 : szN (m + (n + 1)) x.d = szN m x.d := szN_more (by omega) _
            show Cost (n + 1) (szN (m + (n + 1)) x.d) st ⟨st'.left - ((szN m x.d : Int) - 1), _⟩
            rw [e1]
            exact ⟨by show _ ≤ st.left - (st'.left - ((szN m x.d : Int) - 1)); omega, fun _ => by show _ ≤ st'.left - ((szN m x.d : Int) - 1); omega, by show _ ≤ st'.left - ((szN m x.d : Int) - 1); omega, fun q => absurd he0 q⟩
        · rw [if_neg h3]
          by_cases hk : t.kind ≠ 5
          · rw [if_pos hk]
            obtain ⟨hi, ht⟩ := good_atom hg hk
            exact one _ _ (szN_atom hi ht) rfl (fun q => q)
          · rw [if_neg hk]
            have hk' : t.kind = 5 := by simpa using hk
            obtain ⟨_, hsub⟩ := good_list hg hk'
            by_cases hesc : (!pl && escF t) = true
            · rw [if_pos hesc]
              have hlen : t.items.length = 2 := by
                simp only [Bool.and_eq_true, escF, decide_eq_true_eq] at hesc
                exact hesc.2.2.1
              have hg1 : goodN n (t.items.getD 1 default) = true := hsub _ (List.mem_append_left _ (by rw [List.getD_eq_getElem?_getD, List.getElem?_eq_getElem (by omega)]; exact List.getElem_mem _))
              have ih := fillN_cost (m := m) (N := N) n (t.items.getD 1 default) s true st' (by omega) hg1 hw (by omega) (fun _ => by omega) (by omega)
              have hb := ih.sz
              have hlo := ih.lo
              have e1 : szN (m + (n + 1)) (fillN m n (t.items.getD 1 default) s true st').1 = szN (m + n) (fillN m n (t.items.getD 1 default) s true st').1 := by
                rw [← Nat.add_assoc]
                exact szN_up _ _ (by omega)
              rw [e1]
              exact ⟨by omega, ih.e0, by omega, fun q => absurd he0 q⟩
            · rw [if_neg hesc]
              have hI := itemsF_cost (n := n) (F := szN (m + n)) (g := fun x k st => rowF (fun s st => fillN m n x s pl st) (fun s => manyN n s x pl) k s st) (pl := pl) t.items.length t.items st' (fun x hx k st2 h2 h3 =>
                rowF_cost (m := m) (N := N) (fun s st hw q1 q2 q3 => fillN_cost (m := m) (N := N) n x s pl st (by omega) (hsub x (List.mem_append_left _ hx)) hw q3 (fun _ => q2) (by omega)) k s st2 hw h2 h3) (by omega) (fun _ => by omega)
              generalize itemsF (fun x k st => rowF (fun s st => fillN m n x s pl st) (fun s => manyN n s x pl) k s st) pl t.items.length t.items st' = r at hI ⊢
              have hsz := hI.sz
              have hlo := hI.lo he'
              by_cases ht : t.tail = []
              · rw [if_pos ht]
                have e1 : szN (m + (n + 1)) (mkL r.1 []) = 1 + szL (szN (m + n)) r.1 := by
                  rw [← Nat.add_assoc, szN]
                  rfl
                show Cost (n + 1) (szN (m + (n + 1)) (mkL r.1 [])) st r.2
                rw [e1]
                exact ⟨by omega, hI.e0, by omega, fun q => absurd he0 q⟩
              · rw [if_neg ht]
                have hg1 : goodN n (t.tail.getD 0 default) = true := hsub _ (List.mem_append_right _ (by rw [List.getD_eq_getElem?_getD, List.getElem?_eq_getElem (List.length_pos_iff.2 ht)]; exact List.getElem_mem _))
                have ih := fillN_cost (m := m) (N := N) n (t.tail.getD 0 default) s pl r.2 (by omega) hg1 hw (by omega) hI.e0 (by omega)
                generalize fillN m n (t.tail.getD 0 default) s pl r.2 = y at ih ⊢
                have i1 := ih.sz
                have i2 := ih.lo
                have i3 := ih.er
                have i4 := hI.e0
                have lo2 : -5000 - 2 - (n : Int) ≤ y.2.left := by
                  by_cases hr : r.2.e = 0
                  · have := i4 hr
                    omega
                  · have := i3 hr
                    omega
                have e1 : szN (m + n + 1) (mkL r.1 [y.1]) = 1 + szL (szN (m + n)) r.1 + szN (m + n) y.1 := by
                  rw [szN]
                  rfl
                have hle := normD_sz (m + n + 1) (mkL r.1 [y.1]) (by omega)
                show Cost (n + 1) (szN (m + n + 1) (normD (m + n + 1) (mkL r.1 [y.1]))) st y.2
                exact ⟨by omega, ih.e0, by omega, fun q => absurd he0 q⟩
end Go.Proofs.Ythmpaepdbjldfaa

/-
  Templates: fill's loop (plain).
-/
namespace Go.Proofs.Ythmpaepdbjldfaa
set_option linter.unusedVariables false
set_option linter.unusedSimpArgs false
open Go.RowKit Go.Shelf
set_option linter.unusedSimpArgs false

structure FillPre (m N n : Nat) (t : Dat) (s : List Bd) (st : St) : Prop where
  n1 : n ≤ 1000
  wt : wfD n t
  gt : goodN n t = true
  zt : szN n t ≤ 5000
  ws : wfS m N s
  ls : s.length + 5000 * szN n t ≤ 50000000
  e0 : st.e = 0 → -5000 ≤ st.left
  lo : -500000 ≤ st.left
  hi : st.left ≤ 5000
  m1 : m ≤ 5000
def FillSaid (n : Nat) : Prop := ∀ (m N : Nat) (t : Dat) (s : List Bd) (pl : Bool) (st : St), FillPre m N n t s st → RFun Try.prog 52 93 (stC st) [.agg (enc t), .one (.sl 10 (s.map encB)), .one (.raw (.bool pl))] (fun X cs' => X = .a (.agg (enc (fillN m n t s pl st).1)) ∧ cs' = stC (fillN m n t s pl st).2 ∧ wfD (m + n) (fillN m n t s pl st).1)
theorem is_pf {d : Dat} (s : ByteArray) : PFun Try.prog 79 [.agg (enc d), .one (.raw (.string s))] (fun X => X = .a (.one (.raw (.bool (isF d s))))) := by
  refine PFun.enter Try.func79 rfl _ Try.ntmps79 (by simp) ?_
  have F := enc_eq
  have y := And.intro ty_3 (And.intro ty_4 (And.intro ty_9 (And.intro ty_14 (And.intro ty_27 (And.intro ty_24 (And.intro ty_25 (And.intro ty_22 (And.intro ty_60 (ty_12)))))))))
  repeat' with_reducible first | (refine L.nil ?_; try dsimp only [thenK, blockK]) | refine C.ops _ (by simp only [qz]; first | done | rfl) ?_ | refine C.last _ (by simp only [qz]; first | done | rfl) ?_ | refine L.take (by simp only [qz]; first | done | rfl) (fun i e => by cases e; first | done | (simp only [qq, F, Nat.reduceLT]; first | done | fail)) (by simp only [q0, y, F, Nat.reduceLT, Nat.reduceAdd, Nat.reduceEqDiff, Nat.reduceLeDiff, Nat.reduceBNe, Int.reduceToNat, reduceIte, reduceCtorEq]; first | done | fail) ?_ | refine L.pass (by simp only [qz]; first | done | rfl) (fun i e => by cases e; first | done | (simp only [qq, F, Nat.reduceLT]; first | done | fail)) (by simp only [q0, y, F, Nat.reduceLT, Nat.reduceAdd, Nat.reduceEqDiff, Nat.reduceLeDiff, Nat.reduceBNe, Int.reduceToNat, reduceIte, reduceCtorEq]; first | done | fail) ?_ | refine L.pickT (by simp only [qq, F, Nat.reduceLT]; first | done | fail) (by simp only [q0, y, F, Nat.reduceLT, Nat.reduceAdd, Nat.reduceEqDiff, Nat.reduceLeDiff, Nat.reduceBNe, Int.reduceToNat, reduceIte, reduceCtorEq]; first | done | fail) (by simp only [q0, y, F, Nat.reduceLT, Nat.reduceAdd, Nat.reduceEqDiff, Nat.reduceLeDiff, Nat.reduceBNe, Int.reduceToNat, reduceIte, reduceCtorEq]; first | done | rfl) ?_ | refine L.pickF (by simp only [qq, F, Nat.reduceLT]; first | done | fail) (by simp only [q0, y, F, Nat.reduceLT, Nat.reduceAdd, Nat.reduceEqDiff, Nat.reduceLeDiff, Nat.reduceBNe, Int.reduceToNat, reduceIte, reduceCtorEq]; first | done | fail) (by simp only [q0, y, F, Nat.reduceLT, Nat.reduceAdd, Nat.reduceEqDiff, Nat.reduceLeDiff, Nat.reduceBNe, Int.reduceToNat, reduceIte, reduceCtorEq]; first | done | rfl) ?_ | refine L.box (by simp only [qq, F, Nat.reduceLT]; first | done | fail) (by simp only [q0, y, F, Nat.reduceLT, Nat.reduceAdd, Nat.reduceEqDiff, Nat.reduceLeDiff, Nat.reduceBNe, Int.reduceToNat, reduceIte, reduceCtorEq]; first | done | rfl) (by simp only [q0, y, F, Nat.reduceLT, Nat.reduceAdd, Nat.reduceEqDiff, Nat.reduceLeDiff, Nat.reduceBNe, Int.reduceToNat, reduceIte, reduceCtorEq]; first | done | fail) ?_ | refine L.quiet (by simp only [qq, F, Nat.reduceLT]; first | done | fail) (by simp only [q0, y, F, Nat.reduceLT, Nat.reduceAdd, Nat.reduceEqDiff, Nat.reduceLeDiff, Nat.reduceBNe, Int.reduceToNat, reduceIte, reduceCtorEq]; first | done | rfl) (by first | trivial | omega) ?_ | refine CodeT.seq ?_ | refine CodeT.block ?_ | (refine L.split (by simp only [qz]; first | done | rfl) (by simp only [q0, y, F, Nat.reduceLT, Nat.reduceAdd, Nat.reduceEqDiff, Nat.reduceLeDiff, Nat.reduceBNe, Int.reduceToNat, reduceIte, reduceCtorEq]; first | done | rfl) (fun h => ?_) (fun h => ?_)) | (refine L.pickS (by simp only [q0, y, F, Nat.reduceLT, Nat.reduceAdd, Nat.reduceEqDiff, Nat.reduceLeDiff, Nat.reduceBNe, Int.reduceToNat, reduceIte, reduceCtorEq]; first | done | rfl) (fun h => ?_) (fun h => ?_))
  all_goals
    refine CodeT.ret ⟨_, ?_, rfl⟩
    simp only [Try.results79, resT, resL, resV, q0, y, F, Nat.reduceLT, Nat.reduceAdd, Nat.reduceEqDiff, Nat.reduceLeDiff, Nat.reduceBNe, Int.reduceToNat, reduceIte, reduceCtorEq]
    simp_all [isF]
theorem zeroD_le : PA.le (.agg zeroDC) (.agg (enc zeroD)) := by
  rw [enc_eq]
  exact .agg (.cons (.refl _) (.cons (.refl _) (.cons (.nil 1) (.cons (.refl _) (.cons (.refl _) (.cons (.nil 7) (.cons (.nil 7) .nil)))))))
theorem zeroD_wf (k : Nat) : wfD (k + 1) zeroD := by
  simp [wfD, zeroD, Dat.kind, Dat.limbs, Dat.s, Dat.items, Dat.tail]
theorem enc_mkL (is ts : List Dat) : enc (mkL is ts) = [.raw (.int .i64 5), .raw (.bool false), .sl 1 [], .raw (.bool false), .raw (.string ByteArray.empty), .sl 7 (is.map enc), .sl 7 (ts.map enc)] := by
  rw [enc_eq]
  rfl
theorem dpL_lv {f : Dat → Nat} {k : Nat} (h : ∀ d, f d ≤ k) : ∀ l, dpL f l ≤ k
  | [] => Nat.zero_le _
  | x :: l => by
    have := h x
    have := dpL_lv h l
    simp only [dpL]
    omega
theorem dpN_lv : ∀ (n : Nat) (d : Dat), dpN n d ≤ n
  | 0, _ => Nat.le_refl 0
  | n + 1, d => by
    have h1 := dpL_lv (dpN_lv n) d.items
    have h2 := dpL_lv (dpN_lv n) d.tail
    simp only [dpN]
    omega
theorem getD_enc {xs : List Dat} {i : Nat} (h : i < xs.length) : (xs.map enc).getD i [] = enc (xs.getD i default) := by
  simp [List.getD_eq_getElem?_getD, h]
theorem FillPre.sub {m N n : Nat} {t x : Dat} {s : List Bd} {st : St} (hm1 : m ≤ 5000) (hn : n + 1 ≤ 1000) (hw : wfD (n + 1) t) (hg : goodN (n + 1) t = true) (hz : szN (n + 1) t ≤ 5000) (hs : wfS m N s) (hl : s.length + 5000 * szN (n + 1) t ≤ 50000000) (hk : t.kind = 5) (hx : x ∈ t.items ∨ x ∈ t.tail) (e0 : st.e = 0 → -5000 ≤ st.left) (lo : -500000 ≤ st.left) (hi : st.left ≤ 5000) : FillPre m N n x s st := by
  obtain ⟨_, _, _, _, _, _, wi, wt⟩ := hw
  have hsz : szN (n + 1) t = 1 + szL (szN n) t.items + szL (szN n) t.tail := rfl
  have hxs : szN n x ≤ szN (n + 1) t := by
    rcases hx with hx | hx
    · have := szL_mem (f := szN n) hx
      omega
    · have := szL_mem (f := szN n) hx
      omega
  exact ⟨by omega, by rcases hx with hx | hx; exact wi x hx; exact wt x hx, (good_list hg hk).2 x (by rcases hx with hx | hx <;> simp [hx]), by omega, hs, by omega, e0, lo, hi, hm1⟩
structure RowPre (m N n : Nat) (k : Nat) (x : Dat) (s : List Bd) (st : St) : Prop where
  n1 : n ≤ 1000
  wt : wfD n x
  gt : goodN n x = true
  zt : szN n x + k ≤ 5000
  ws : wfS m N s
  ls : s.length + 5000 * (szN n x + k) ≤ 50000000
  e0 : st.e = 0 → -5000 ≤ st.left
  lo : -500000 ≤ st.left
  hi : st.left ≤ 5000
  m1 : m ≤ 5000
def FRowSaid (n : Nat) : Prop := ∀ (m N k : Nat) (x : Dat) (s : List Bd) (pl : Bool) (st : St) (r : List Dat × St), RowPre m N n k x s st → r = rowF (fun s st => fillN m n x s pl st) (fun s => manyN n s x pl) k s st → RFun Try.prog 82 93 (stC st) [.agg (enc x), .one (.sl 10 (s.map encB)), .one (.raw (.int .i64 k)), .one (.raw (.bool pl))] (fun X cs' => X = .a (.one (.sl 7 (r.1.map enc))) ∧ cs' = stC r.2 ∧ ∀ y ∈ r.1, wfD (m + n) y)
/-- A loop's state of fill. -/
def stI (s : List Bd) (pl : Bool) (t : Dat) (st2 : St) (v : Nat) (acc : List Dat) (more : List (Nat × TX)) : TS :=
  tsL ([(0, ptX 0), (2, one (.sl 10 (s.map encB))), (3, bX pl), (5, ptX 1), (8, ptX 2), (9, ptX 3)] ++ more) [(0, .cells 93 (cP (stC st2))), (1, .cells 27 (cP (enc t))), (2, .cells 27 (cP zeroDC)), (3, .cells 27 [.c (.p (.raw (.int .i64 5))), .c (.p (.raw (.bool false))), .c (.p (.raw (.slice none 0 0))), .c (.p (.raw (.bool false))), .c (.p (.raw (.string ByteArray.empty))), .os 0 v, .c (.p (.raw (.slice none 0 0)))])] [(0, .tok 27 7 v (acc.map enc))] 4 1 142
abbrev gF (m n : Nat) (s : List Bd) (pl : Bool) (x : Dat) (k : Nat) (st : St) : List Dat × St := rowF (fun s st => fillN m n x s pl st) (fun s => manyN n s x pl) k s st
structure LP (m n : Nat) (s : List Bd) (pl : Bool) (t : Dat) (st1 : St) (i f : Nat) (acc : List Dat) (st2 : St) : Prop where
  hi : i ≤ t.items.length
  hf : t.items.length - i ≤ f
  hr : itemsF (gF m n s pl) pl t.items.length t.items st1 = (acc ++ (itemsF (gF m n s pl) pl f (t.items.drop i) st2).1, (itemsF (gF m n s pl) pl f (t.items.drop i) st2).2)
  hc : CostL n (szL (szN (m + n)) acc) st1 st2
  hw : ∀ x ∈ acc, wfD (m + n) x
structure LF (m n : Nat) (s : List Bd) (pl : Bool) (t : Dat) (st1 : St) (acc : List Dat) (st2 : St) : Prop where
  hr : itemsF (gF m n s pl) pl t.items.length t.items st1 = (acc, st2)
  hc : CostL n (szL (szN (m + n)) acc) st1 st2
  hw : ∀ x ∈ acc, wfD (m + n) x
theorem LP.stop {m n : Nat} {s : List Bd} {pl : Bool} {t : Dat} {st1 : St} {i f : Nat} {acc : List Dat} {st2 : St} (h : LP m n s pl t st1 i f acc st2) (hx : t.items.length ≤ i ∨ st2.e ≠ 0) : LF m n s pl t st1 acc st2 := by
  refine ⟨?_, h.hc, h.hw⟩
  have e : itemsF (gF m n s pl) pl f (t.items.drop i) st2 = ([], st2) := by
    cases hd : t.items.drop i with
    | nil => cases f <;> rfl
    | cons x xs =>
      have hlt : i < t.items.length := by
        rcases Nat.lt_or_ge i t.items.length with q | q
        · exact q
        · rw [List.drop_eq_nil_of_le q] at hd
          cases hd
      rcases hx with q | q
      · omega
      · have hf := h.hf
        cases f with
        | zero => omega
        | succ f =>
          unfold itemsF
          rw [if_pos q]
  rw [h.hr, e]
  simp
theorem LP.next {m n : Nat} {s : List Bd} {pl : Bool} {t : Dat} {st1 : St} {i f : Nat} {acc : List Dat} {st2 : St} (h : LP m n s pl t st1 i f acc st2) (hi : i < t.items.length) (he : st2.e = 0) {a : List Dat × St} (ha : a = gF m n s pl (t.items.getD i default) (dotsRun pl (t.items.drop (i + 1))) st2) (hc : CostL n (szL (szN (m + n)) a.1) st2 a.2) (hw : ∀ x ∈ a.1, wfD (m + n) x) (hd : dotsRun pl (t.items.drop (i + 1)) ≤ t.items.length - (i + 1)) :
    LP m n s pl t st1 (i + (dotsRun pl (t.items.drop (i + 1)) + 1)) (f - 1) (acc ++ a.1) a.2 := by
  have hf := h.hf
  refine ⟨by omega, by omega, ?_, ?_, fun x hx => ?_⟩
  · obtain ⟨f', rfl⟩ : ∃ f', f = f' + 1 := ⟨f - 1, by omega⟩
    have e : t.items.drop i = t.items.getD i default :: t.items.drop (i + 1) := by
      rw [List.drop_eq_getElem_cons hi]
      simp [List.getD_eq_getElem?_getD, hi]
    have hr := h.hr
    rw [e] at hr
    generalize itemsF (gF m n s pl) pl t.items.length t.items st1 = R at hr ⊢
    unfold itemsF at hr
    rw [if_neg (by simpa using he)] at hr
    simp only [] at hr
    rw [← ha, List.drop_drop] at hr
    rw [hr, Nat.add_sub_cancel, List.append_assoc, show i + 1 + dotsRun pl (t.items.drop (i + 1)) = i + (dotsRun pl (t.items.drop (i + 1)) + 1) by omega]
  · rw [szL_append]
    exact h.hc.trans hc
  · rcases List.mem_append.1 hx with hx | hx
    · exact h.hw x hx
    · exact hw x hx
theorem dots_run (pl : Bool) : ∀ (xs : List Dat) (j : Nat), j ≤ dotsRun pl xs → (!pl && (decide (j < xs.length) && isF (xs.getD j default) dotsB)) = decide (j < dotsRun pl xs)
  | [], j, h => by
    have : j = 0 := by simpa [dotsRun] using h
    subst this
    simp [dotsRun]
  | x :: xs, 0, _ => by
    unfold dotsRun
    by_cases h : (!pl && isF x dotsB) = true
    · rw [if_pos h]
      simpa using h
    · rw [if_neg h]
      simpa using h
  | x :: xs, j + 1, h => by
    unfold dotsRun at h ⊢
    by_cases hc : (!pl && isF x dotsB) = true
    · rw [if_pos hc] at h ⊢
      have := dots_run pl xs j (by omega)
      simpa using this
    · rw [if_neg hc] at h
      omega
theorem dots_len (pl : Bool) : ∀ xs : List Dat, dotsRun pl xs ≤ xs.length
  | [] => Nat.le_refl 0
  | x :: xs => by
    unfold dotsRun
    have := dots_len pl xs
    split
    · simp; omega
    · simp
end Go.Proofs.Ythmpaepdbjldfaa

/-
  The laws' helpers of match (06): sym, num, list.
-/
namespace Go.Proofs.Ythmpaepdbjldfaa
set_option linter.unusedVariables false
set_option linter.unusedSimpArgs false
open Go.RowKit Go.Shelf
set_option linter.unusedSimpArgs false

def symD (s : ByteArray) : Dat := .mk 3 false [] false s [] []
def numF (n : Int) : Dat := .mk 1 false [n] false ByteArray.empty [] []
theorem enc_symD (s : ByteArray) : enc (symD s) = [.raw (.int .i64 3), .raw (.bool false), .sl 1 [], .raw (.bool false), .raw (.string s), .sl 7 [], .sl 7 []] := by rw [enc_eq]; rfl
theorem enc_numF (n : Int) : enc (numF n) = [.raw (.int .i64 1), .raw (.bool false), .sl 1 [[.raw (.int .u32 n)]], .raw (.bool false), .raw (.string ByteArray.empty), .sl 7 [], .sl 7 []] := by rw [enc_eq]; rfl
theorem lsym_pf (s : ByteArray) : PFun Try.prog 31 [.one (.raw (.string s))] (fun X => X = .a (.agg (enc (symD s)))) := by
  refine PFun.le (R := fun X => PX.le X (.a (.agg (enc (symD s))))) ?_ (fun X hX => ⟨_, hX, rfl⟩)
  refine PFun.enter Try.func31 rfl _ Try.ntmps31 (by simp) ?_
  have F := ql
  have y := And.intro ty_2 (And.intro ty_3 (And.intro ty_5 (And.intro ty_9 (And.intro ty_27 (And.intro ty_24 (And.intro ty_4 (And.intro ty_25 (And.intro ty_22 (ty_60)))))))))
  repeat' with_reducible first | (refine L.nil ?_; try dsimp only [thenK, blockK]) | refine G.ops ?_ | refine G.last ?_ | refine G.alloc ?_ | refine G.store ?_ | refine G.build ?_ | refine G.quiet ?_ | refine CodeT.seq ?_ | refine CodeT.block ?_ | fail
  refine CodeT.ret ⟨.a (.agg [.raw (.int .i64 3), .raw (.bool false), .raw (.slice none 0 0), .raw (.bool false), .raw (.string s), .raw (.slice none 0 0), .raw (.slice none 0 0)]), ?_, ?_⟩
  · simp only [Try.results31, resT, resL, resV, q0, y, F, Nat.reduceLT, Nat.reduceAdd, Nat.reduceEqDiff, Nat.reduceLeDiff, Nat.reduceBNe, Int.reduceToNat, reduceIte, reduceCtorEq]
  · rw [enc_symD]
    exact .a (.agg (.cons (.refl _) (.cons (.refl _) (.cons (.nil 1) (.cons (.refl _) (.cons (.refl _) (.cons (.nil 7) (.cons (.nil 7) .nil))))))))
theorem lnum_pf (n : Int) : PFun Try.prog 30 [.one (.raw (.int .u32 n))] (fun X => X = .a (.agg (enc (numF n)))) := by
  refine PFun.le (R := fun X => PX.le X (.a (.agg (enc (numF n))))) ?_ (fun X hX => ⟨_, hX, rfl⟩)
  refine PFun.enter Try.func30 rfl _ Try.ntmps30 (by simp) ?_
  have F := ql
  have y := And.intro ty_1 (And.intro ty_2 (And.intro ty_3 (And.intro ty_4 (And.intro ty_5 (And.intro ty_7 (And.intro ty_22 (And.intro ty_24 (And.intro ty_27 (And.intro ty_60 (And.intro ty_9 (And.intro ty_25 (ty_6))))))))))))
  repeat' with_reducible first | (refine L.nil ?_; try dsimp only [thenK, blockK]) | refine G.ops ?_ | refine G.last ?_ | refine G.alloc ?_ | refine G.store ?_ | refine G.build ?_ | refine G.quiet ?_ | refine CodeT.seq ?_ | refine CodeT.block ?_ | refine G.listed ?_ | fail
  refine CodeT.ret ⟨.a (.agg [.raw (.int .i64 1), .raw (.bool false), .sl 1 [[.raw (.int .u32 n)]], .raw (.bool false), .raw (.string ByteArray.empty), .raw (.slice none 0 0), .raw (.slice none 0 0)]), ?_, ?_⟩
  · simp only [Try.results30, resT, resL, resV, q0, y, F, Nat.reduceLT, Nat.reduceAdd, Nat.reduceEqDiff, Nat.reduceLeDiff, Nat.reduceBNe, Int.reduceToNat, reduceIte, reduceCtorEq]
  · rw [enc_numF]
    exact .a (.agg (.cons (.refl _) (.cons (.refl _) (.cons (.refl _) (.cons (.refl _) (.cons (.refl _) (.cons (.nil 7) (.cons (.nil 7) .nil))))))))
theorem llist_pf (is : List Dat) : PFun Try.prog 29 [.one (.sl 7 (is.map enc))] (fun X => X = .a (.agg (enc (mkL is [])))) := by
  refine PFun.le (R := fun X => PX.le X (.a (.agg (enc (mkL is []))))) ?_ (fun X hX => ⟨_, hX, rfl⟩)
  refine PFun.enter Try.func29 rfl _ Try.ntmps29 (by simp) ?_
  have F := ql
  have y := And.intro ty_2 (And.intro ty_3 (And.intro ty_4 (And.intro ty_5 (And.intro ty_25 (And.intro ty_27 (And.intro ty_24 (And.intro ty_9 (And.intro ty_22 (ty_60)))))))))
  repeat' with_reducible first | (refine L.nil ?_; try dsimp only [thenK, blockK]) | refine G.ops ?_ | refine G.last ?_ | refine G.alloc ?_ | refine G.store ?_ | refine G.build ?_ | refine G.quiet ?_ | refine CodeT.seq ?_ | refine CodeT.block ?_ | fail
  refine CodeT.ret ⟨.a (.agg [.raw (.int .i64 5), .raw (.bool false), .raw (.slice none 0 0), .raw (.bool false), .raw (.string ByteArray.empty), .sl 7 (is.map enc), .raw (.slice none 0 0)]), ?_, ?_⟩
  · simp only [Try.results29, resT, resL, resV, q0, y, F, Nat.reduceLT, Nat.reduceAdd, Nat.reduceEqDiff, Nat.reduceLeDiff, Nat.reduceBNe, Int.reduceToNat, reduceIte, reduceCtorEq]
  · rw [enc_mkL]
    exact .a (.agg (.cons (.refl _) (.cons (.refl _) (.cons (.nil 1) (.cons (.refl _) (.cons (.refl _) (.cons (.refl _) (.cons (.nil 7) .nil))))))))
end Go.Proofs.Ythmpaepdbjldfaa

/-
  Literals, told by trees.
-/
namespace Go.Proofs.Ythmpaepdbjldfaa
set_option linter.unusedVariables false
set_option linter.unusedSimpArgs false
open Go.RowKit Go.Shelf
set_option linter.unusedSimpArgs false

def encLk (l : Lk) : List PV := [.raw (.string l.name), .sl 1 (l.all.map encS)]
theorem isLk_as {w : World} {P : Nat → Prop} {l : Lk} {cs : List Value} (hl : l.all.length ≤ 35184372088832) : IsLk w P cs l ↔ CellsAs w P (encLk l) cs := by
  unfold encLk
  rw [two_as]
  constructor
  · rintro ⟨a, c, rfl, h1, h2, _⟩
    exact ⟨_, _, rfl, .raw rfl, rowK_pv (R := IsS) (fun x _ => rfl) (fun x _ cs r => isS_as.1 r) h1 h2⟩
  · rintro ⟨u, v, rfl, r1, r2⟩
    cases r1
    obtain ⟨a, c, rfl, q1, q2⟩ := pv_rowK (k := 1) (f := encS) (R := IsS) (by decide) (fun x _ => rfl) (fun x _ cs r => isS_as.2 r) r2
    exact ⟨a, c, rfl, q2, q1, hl⟩
def wfL (ls : List Lk) : Prop := ls.length ≤ 1000000 ∧ ∀ l ∈ ls, l.all.length ≤ 35184372088832
theorem likes_row {w : World} {P : Nat → Prop} {ls : List Lk} {v : Value} (hw : wfL ls) (h : PRel P w (.sl 2 (ls.map encLk)) v) : ∃ a c, v = .slice a ls.length c ∧ ls.length ≤ c ∧ Likes w P a ls :=
  pv_rowK (k := 2) (f := encLk) (R := IsLk w P) (by decide) (fun x _ => rfl) (fun x hx cs r => (isLk_as (hw.2 x hx)).2 r) h
end Go.Proofs.Ythmpaepdbjldfaa

/-
  match.Match, told by trees.
-/
namespace Go.Proofs.Ythmpaepdbjldfaa
set_option linter.unusedVariables false
set_option linter.unusedSimpArgs false
open Go.RowKit Go.Shelf

def matchX : Option (List Bd) → PX
  | none => .tup [.one (.raw (.slice none 0 0)), .one (.raw (.bool false))]
  | some bs => .tup [.one (.sl 10 (bs.map encB)), .one (.raw (.bool true))]
theorem Match_pf {ls : List Lk} {m : Nat} {p d : Dat} (hp : wfD m p) (hd : wfD m d) (hL : wfL ls) (hsp : szN m p ≤ 5000) (hsd : szN m d ≤ 5000) (hdd : dpN m d ≤ 200) : PFun Try.prog 19 [.agg (enc p), .agg (enc d), .one (.sl 2 (ls.map encLk))] (fun X => X = matchX (matchM ls m p d) ∧ ∀ bs, matchM ls m p d = some bs → wfS m m bs) := by
  intro Q w vs hQ hl hr
  match vs, hl with
  | [v1, v2, v3], _ =>
    obtain ⟨cp, rfl, ip⟩ := pa_isD hp (hr 0 _ rfl)
    obtain ⟨cd, rfl, id'⟩ := pa_isD hd (hr 1 _ rfl)
    have r3 : PRel Q w (.sl 2 (ls.map encLk)) v3 := hr 2 _ rfl
    obtain ⟨a, c, rfl, hc, hR⟩ := likes_row hL r3
    refine (Match_calls ls.length c ip id' hR rfl hL.1 hsp hsd hdd).mono ?_
    rintro e w' ⟨hu, hpost⟩
    cases hm : matchM ls m p d with
    | none =>
      rw [hm] at hpost
      refine ⟨_, matchX none, hpost, hu, ⟨[.slice none 0 0, .bool false], rfl, rfl, fun j x hj => ?_⟩, rfl, fun bs q => by cases q⟩
      match j, hj with
      | 0, hj => injection hj with hj; subst hj; exact PRel.raw rfl
      | 1, hj => injection hj with hj; subst hj; exact PRel.raw rfl
      | j + 2, hj => simp at hj
    | some bs =>
      rw [hm] at hpost
      obtain ⟨a', c', e1, hrow, hcc⟩ := hpost
      have hwf : wfS m m bs := fun b hb => by
        obtain ⟨i, hi, rfl⟩ := List.getElem_of_mem hb
        obtain ⟨_, _, cs', _, _, _, ct, _, r⟩ := hrow i hi
        rw [List.getD_eq_getElem?_getD, List.getElem?_eq_getElem hi] at r
        exact isT_wf r
      have hrow' : RowK w' (fun b => (Q b ∨ w.heap.size ≤ b) ∧ b < w'.heap.size) 10 (IsB w' (fun b => (Q b ∨ w.heap.size ≤ b) ∧ b < w'.heap.size) m m) a' bs :=
        RowK.map hrow (by decide) (fun b hb hq => ⟨.inr hq, hb⟩) (fun _ _ _ _ hc => hc) (fun _ _ hb => hb.mono fun b hb hq => ⟨.inr hq, hb⟩)
      refine ⟨_, matchX (some bs), e1, hu, ⟨[.slice a' bs.length c', .bool true], rfl, rfl, fun j x hj => ?_⟩, rfl, fun bs' q => by injection q with q; subst q; exact hwf⟩
      match j, hj with
      | 0, hj =>
        injection hj with hj
        subst hj
        exact rowK_pv (fun x _ => encB_len x) (fun x hx cs r => (isB_as (hwf x hx)).1 r) hrow' hcc
      | 1, hj => injection hj with hj; subst hj; exact PRel.raw rfl
      | j + 2, hj => simp at hj
theorem names_pf {n : Nat} {d : Dat} {ls : List Lk} (hw : wfD n d) (hL : wfL ls) (hs : szN n d ≤ 100000) : PFun Try.prog 32 [.agg (enc d), .one (.sl 2 (ls.map encLk))] (fun X => X = .a (.one (.sl 1 ((namesM ls n d).map encS)))) := by
  intro Q w vs hQ hl hr
  match vs, hl with
  | [v1, v2], _ =>
    obtain ⟨cs, rfl, hd⟩ := pa_isD hw (hr 0 _ rfl)
    have r2 : PRel Q w (.sl 2 (ls.map encLk)) v2 := hr 1 _ rfl
    obtain ⟨a, c, rfl, hc, hR⟩ := likes_row hL r2
    refine (Names_calls ls.length c hd hR rfl hL.1 hs).mono ?_
    rintro e w' ⟨⟨a', c', e1, hrow, hcc⟩, hu⟩
    have hrow' : RowK w' (fun b => (Q b ∨ w.heap.size ≤ b) ∧ b < w'.heap.size) 1 IsS a' (namesM ls n d) :=
      RowK.map hrow (by decide) (fun b hb hq => ⟨.inr hq, hb⟩) (fun _ _ _ _ hc => hc) (fun _ _ hb => hb)
    exact ⟨_, .a (.one (.sl 1 ((namesM ls n d).map encS))), e1, hu, rowK_pv (fun x _ => rfl) (fun x _ cs r => isS_as.1 r) hrow' hcc, rfl⟩
end Go.Proofs.Ythmpaepdbjldfaa

/-
  The document's match (06), told by trees.
-/
namespace Go.Proofs.Ythmpaepdbjldfaa
set_option linter.unusedVariables false
set_option linter.unusedSimpArgs false
open Go.RowKit Go.Shelf
set_option linter.unusedSimpArgs false

end Go.Proofs.Ythmpaepdbjldfaa
