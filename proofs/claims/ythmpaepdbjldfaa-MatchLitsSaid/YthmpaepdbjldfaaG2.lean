/-
  Texts of this claim, merged: RowK, TA, TB, TC. Lemmas and contracts; no conditions of our own.
-/
import Derived.Test.YthmpaepdbjldfaaG1
import Derived.Maps.AppendAt
import Derived.Deep.OwnRows
import Derived.Deep.Slices

/-
  Rows of things of k cells each, read and grown: small lemmas over any program.
-/
namespace Go.Proofs.Ythmpaepdbjldfaa
set_option linter.unusedVariables false
set_option linter.unusedSimpArgs false
open Go.RowKit

/-- k cells from here on. -/
def AtK (w : World) (k b o : Nat) (cs : List Value) : Prop := cs.length = k ∧ ∀ j, j < k → w.cell? ⟨b, o + j, none⟩ = cs[j]?
/-- A row of things of k cells each, each as R says, in blocks that P lets in. -/
def RowK {α : Type} [Inhabited α] (w : World) (P : Nat → Prop) (k : Nat) (R : List Value → α → Prop) (a : Option Addr) (xs : List α) : Prop :=
  ∀ i, i < xs.length → ∃ b o cs, a = some ⟨b, o, none⟩ ∧ P b ∧ AtK w k b (o + i * k) cs ∧ R cs (xs.getD i default)
/-- A row of one's own of such things. -/
def OwnK {α : Type} [Inhabited α] (base : Nat) (w : World) (T : TypeId) (k : Nat) (R : List Value → α → Prop) (v : Value) (xs : List α) : Prop :=
  ∃ css : List (List Value), css.length = xs.length ∧ (∀ i, i < xs.length → R (css.getD i []) (xs.getD i default)) ∧ (∀ cs ∈ css, cs.length = k ∧ ∀ u ∈ cs, u.oneCell' = true) ∧ w.ownsRow base T k v xs.length css.flatten

theorem AtK.upd {w w' : World} {k b o : Nat} {cs : List Value} {S : List Nat} (h : AtK w k b o cs) (hu : Upd S w w') (hS : b ∉ S) : AtK w' k b o cs := by
  refine ⟨h.1, fun j hj => ?_⟩
  have hc := h.2 j hj
  rw [List.getElem?_eq_getElem (by rw [h.1]; exact hj)] at hc ⊢
  exact hu.cell hc hS
theorem AtK.lt {w : World} {k b o : Nat} {cs : List Value} (h : AtK w k b o cs) (hk : 0 < k) : b < w.heap.size := by
  have hc := h.2 0 hk
  rw [List.getElem?_eq_getElem (by rw [h.1]; omega)] at hc
  exact World.block_lt_of_cell? w _ hc
theorem AtK.cell {w : World} {k b o : Nat} {cs : List Value} (h : AtK w k b o cs) {j : Nat} {v : Value} (hv : cs[j]? = some v) : w.cell? ⟨b, o + j, none⟩ = some v := by
  rw [← hv]
  exact h.2 j (by rw [← h.1]; exact (List.getElem?_eq_some_iff.1 hv).1)
theorem AtK.cell0 {w : World} {k b o : Nat} {cs : List Value} (h : AtK w k b o cs) {v : Value} (hv : cs[0]? = some v) : w.cell? ⟨b, o, none⟩ = some v := h.cell hv
section
variable {α : Type} [Inhabited α]
theorem RowK.nil (w : World) (P : Nat → Prop) (k : Nat) (R : List Value → α → Prop) (a : Option Addr) : RowK w P k R a ([] : List α) := fun i hi => absurd hi (by simp)
theorem RowK.map {w w' : World} {P Q : Nat → Prop} {k : Nat} {R R' : List Value → α → Prop} {a : Option Addr} {xs : List α} (h : RowK w P k R a xs) (hk : 0 < k) (hP : ∀ b, b < w.heap.size → P b → Q b)
    (hc : ∀ b o v, P b → w.cell? ⟨b, o, none⟩ = some v → w'.cell? ⟨b, o, none⟩ = some v) (hR : ∀ cs x, R cs x → R' cs x) : RowK w' Q k R' a xs := by
  intro i hi
  obtain ⟨b, o, cs, e, hp, ha, hr⟩ := h i hi
  refine ⟨b, o, cs, e, hP b (ha.lt hk) hp, ⟨ha.1, fun j hj => ?_⟩, hR _ _ hr⟩
  have h' := ha.2 j hj
  rw [List.getElem?_eq_getElem (by rw [ha.1]; exact hj)] at h' ⊢
  exact hc _ _ _ hp h'
theorem RowK.upd {w w' : World} {P : Nat → Prop} {k : Nat} {R R' : List Value → α → Prop} {a : Option Addr} {xs : List α} {S : List Nat} (h : RowK w P k R a xs) (hk : 0 < k) (hu : Upd S w w') (hS : ∀ b, P b → b ∉ S) (hR : ∀ cs x, R cs x → R' cs x) : RowK w' P k R' a xs :=
  h.map hk (fun _ _ hp => hp) (fun b _ _ hp hc => hu.cell hc (hS b hp)) hR
theorem RowK.atSome {w : World} {P : Nat → Prop} {k : Nat} {R : List Value → α → Prop} {a : Option Addr} {xs : List α} (h : RowK w P k R a xs) (hl : 0 < xs.length) : ∃ b o, a = some ⟨b, o, none⟩ := by
  obtain ⟨b, o, _, e, _⟩ := h 0 hl
  exact ⟨b, o, e⟩
/-- From the i-th on. -/
theorem RowK.drop {w : World} {P : Nat → Prop} {k : Nat} {R : List Value → α → Prop} {b o : Nat} {xs : List α} (h : RowK w P k R (some ⟨b, o, none⟩) xs) (i : Nat) : RowK w P k R (some ⟨b, o + i * k, none⟩) (xs.drop i) := by
  intro j hj
  rw [List.length_drop] at hj
  obtain ⟨b', o', cs, e, hp, ha, hr⟩ := h (i + j) (by omega)
  injection e with e
  injection e with e1 e2
  subst e1; subst e2
  refine ⟨b, o + i * k, cs, rfl, hp, ?_, ?_⟩
  · rwa [Nat.add_assoc, ← Nat.add_mul]
  · simpa [List.getD_eq_getElem?_getD] using hr
/-- The first ones. -/
theorem RowK.take {w : World} {P : Nat → Prop} {k : Nat} {R : List Value → α → Prop} {a : Option Addr} {xs : List α} (h : RowK w P k R a xs) (i : Nat) : RowK w P k R a (xs.take i) := by
  intro j hj
  rw [List.length_take] at hj
  obtain ⟨b', o', cs, e, hp, ha, hr⟩ := h j (by omega)
  refine ⟨b', o', cs, e, hp, ha, ?_⟩
  have : (xs.take i).getD j default = xs.getD j default := by
    rw [List.getD_eq_getElem?_getD, List.getElem?_take, if_pos (by omega), ← List.getD_eq_getElem?_getD]
  rwa [this]
theorem flatten_getK {k : Nat} : ∀ {css : List (List Value)} (_ : ∀ cs ∈ css, cs.length = k) {i j : Nat}, i < css.length → j < k → css.flatten[i * k + j]? = (css.getD i [])[j]?
  | [], _, i, j, hi, _ => by simp at hi
  | c :: css, h, i, j, hi, hj => by
    have hc := h c (by simp)
    cases i with
    | zero => simp [List.getElem?_append, hc, hj]
    | succ i =>
      have := flatten_getK (css := css) (fun cs hcs => h cs (by simp [hcs])) (i := i) (j := j) (by simpa using hi) hj
      rw [List.flatten_cons, List.getElem?_append_right (by rw [hc, Nat.add_mul]; omega), hc, show (i + 1) * k + j - k = i * k + j by rw [Nat.add_mul]; omega, this]
      simp
theorem OwnK.nil (base : Nat) (w : World) (T : TypeId) (k : Nat) (R : List Value → α → Prop) : OwnK base w T k R (.slice none 0 0) ([] : List α) :=
  ⟨[], rfl, fun i hi => absurd hi (by simp), by simp, World.ownsRow_nil _ _ _ _⟩
theorem OwnK.upd {base : Nat} {w w' : World} {T : TypeId} {k : Nat} {R R' : List Value → α → Prop} {v : Value} {xs : List α} (h : OwnK base w T k R v xs) {S : List Nat} (hu : Upd S w w') (hS : ∀ g, v.ownBlock = some g → g ∉ S) (hR : ∀ cs x, R cs x → R' cs x) : OwnK base w' T k R' v xs := by
  obtain ⟨css, h1, h2, h3, h4⟩ := h
  exact ⟨css, h1, fun i hi => hR _ _ (h2 i hi), h3, own_upd h4 hu hS⟩
theorem OwnK.mono {base : Nat} {w : World} {T : TypeId} {k : Nat} {R R' : List Value → α → Prop} {v : Value} {xs : List α} (h : OwnK base w T k R v xs) (hR : ∀ cs x, R cs x → R' cs x) : OwnK base w T k R' v xs :=
  h.upd (Upd.refl [] w) (by simp) hR
theorem OwnK.lt {base : Nat} {w : World} {T : TypeId} {k : Nat} {R : List Value → α → Prop} {v : Value} {xs : List α} (h : OwnK base w T k R v xs) {g : Nat} (hg : v.ownBlock = Option.some g) : base ≤ g ∧ g < w.heap.size := by
  obtain ⟨css, _, _, _, h4⟩ := h
  exact h4.lt g hg
theorem OwnK.slice {base : Nat} {w : World} {T : TypeId} {k : Nat} {R : List Value → α → Prop} {v : Value} {xs : List α} (h : OwnK base w T k R v xs) : ∃ a c, v = .slice a xs.length c ∧ xs.length ≤ c := by
  obtain ⟨css, _, _, _, h4⟩ := h
  rcases h4.2 with ⟨rfl, h0⟩ | ⟨g, c, _, rfl, hb, _, hcap, _⟩
  · exact ⟨none, 0, by rw [h0], by omega⟩
  · exact ⟨_, c, rfl, hcap⟩
/-- The row that it is. -/
theorem OwnK.row {base : Nat} {w : World} {T : TypeId} {k : Nat} {R : List Value → α → Prop} {v : Value} {xs : List α} (h : OwnK base w T k R v xs) : ∃ a c, v = .slice a xs.length c ∧ RowK w (fun b => base ≤ b ∧ v.ownBlock = Option.some b) k R a xs ∧ xs.length ≤ c := by
  obtain ⟨css, h1, h2, h3, h4⟩ := h
  have h4' := h4
  rcases h4.2 with ⟨rfl, h0⟩ | ⟨g, c, _, rfl, hb, _, hcap, _⟩
  · exact ⟨none, 0, by rw [h0], fun i hi => absurd hi (by omega), by omega⟩
  · refine ⟨_, c, rfl, fun i hi => ⟨g, 0, css.getD i [], rfl, ⟨hb, rfl⟩, ⟨?_, fun j hj => ?_⟩, h2 i hi⟩, hcap⟩
    · have : css.getD i [] ∈ css := by
        rw [List.getD_eq_getElem?_getD, List.getElem?_eq_getElem (by omega)]
        exact List.getElem_mem _
      exact (h3 _ this).1
    · have hi' : i < css.length := by omega
      have hfl := flatten_getK (fun cs hc => (h3 cs hc).1) hi' hj
      have hmem : css.getD i [] ∈ css := by
        rw [List.getD_eq_getElem?_getD, List.getElem?_eq_getElem hi']
        exact List.getElem_mem _
      have hlj : j < (css.getD i []).length := by rw [(h3 _ hmem).1]; exact hj
      rw [List.getElem?_eq_getElem hlj] at hfl ⊢
      have := h4'.cells (g := g) rfl (i * k + j) _ hfl
      rwa [show (⟨g, 0, none⟩ : Addr).add (i * k + j) = ⟨g, 0 + i * k + j, none⟩ by unfold Addr.add; split <;> simp_all] at this
omit [Inhabited α] in
theorem getD_app {l l' : List α} {i : Nat} {d : α} : (l ++ l').getD i d = if i < l.length then l.getD i d else l'.getD (i - l.length) d := by
  rw [List.getD_eq_getElem?_getD, List.getElem?_append]
  split <;> rw [List.getD_eq_getElem?_getD]
/-- Some more, behind an append. -/
theorem OwnK.adds {base : Nat} {w : World} {T : TypeId} {k : Nat} {R : List Value → α → Prop} {v : Value} {xs ys : List α} {css ns : List (List Value)}
    (h1 : css.length = xs.length) (h2 : ∀ i, i < xs.length → R (css.getD i []) (xs.getD i default)) (h3 : ∀ cs ∈ css, cs.length = k ∧ ∀ u ∈ cs, u.oneCell' = true)
    (k1 : ns.length = ys.length) (k2 : ∀ i, i < ys.length → R (ns.getD i []) (ys.getD i default)) (k3 : ∀ cs ∈ ns, cs.length = k ∧ ∀ u ∈ cs, u.oneCell' = true)
    (hO : w.ownsRow base T k v (xs.length + ys.length) (css.flatten ++ ns.flatten)) : OwnK base w T k R v (xs ++ ys) := by
  refine ⟨css ++ ns, by simp [h1, k1], fun i hi => ?_, fun cs hc => ?_, by simpa using hO⟩
  · rw [List.length_append] at hi
    rw [getD_app, getD_app, h1]
    split
    · exact h2 i ‹_›
    · exact k2 _ (by omega)
  · rcases List.mem_append.1 hc with h | h
    · exact h3 cs h
    · exact k3 cs h
/-- The cells of a row, laid out. -/
theorem RowK.cells {w : World} {P : Nat → Prop} {k : Nat} {R : List Value → α → Prop} {b o : Nat} {xs : List α} (h : RowK w P k R (Option.some ⟨b, o, none⟩) xs) : ∃ css : List (List Value), css.length = xs.length ∧ (∀ i, i < xs.length → R (css.getD i []) (xs.getD i default)) ∧ (∀ cs ∈ css, cs.length = k) ∧
    ∀ j u, css.flatten[j]? = Option.some u → w.cell? ⟨b, o + j, none⟩ = Option.some u := by
  have hx : ∀ i, i < xs.length → ∃ cs : List Value, AtK w k b (o + i * k) cs ∧ R cs (xs.getD i default) := by
    intro i hi
    obtain ⟨b', o', cs, e, hp, ha, hr⟩ := h i hi
    injection e with e
    injection e with e1 e2
    subst e1; subst e2
    exact ⟨cs, ha, hr⟩
  obtain ⟨f, hf⟩ := Deep.choose_lt hx
  have hlen : ∀ cs ∈ (List.range xs.length).map f, cs.length = k := by
    intro cs hc
    obtain ⟨i, hi, rfl⟩ := List.mem_map.1 hc
    exact (hf i (by simpa using hi)).1.1
  refine ⟨(List.range xs.length).map f, by simp, fun i hi => ?_, hlen, fun j u hj => ?_⟩
  · have : ((List.range xs.length).map f).getD i [] = f i := by simp [List.getD_eq_getElem?_getD, hi]
    rw [this]
    exact (hf i hi).2
  · have hjl := (List.getElem?_eq_some_iff.1 hj).1
    have hfl : ((List.range xs.length).map f).flatten.length = xs.length * k := by
      rw [List.length_flatten]
      have : (List.map List.length ((List.range xs.length).map f)) = List.replicate xs.length k := by
        apply List.eq_replicate_iff.2
        refine ⟨by simp, fun n hn => ?_⟩
        obtain ⟨cs, hc, rfl⟩ := List.mem_map.1 hn
        exact hlen cs hc
      rw [this, List.sum_replicate_nat]
    have hk : 0 < k := by
      rcases Nat.eq_zero_or_pos k with h | h
      · subst h
        omega
      · exact h
    have hdm : j = j / k * k + j % k := by
      have := Nat.div_add_mod j k
      rw [Nat.mul_comm] at this
      omega
    have hq : j / k < xs.length := by
      rw [Nat.div_lt_iff_lt_mul hk]
      omega
    have hr : j % k < k := Nat.mod_lt _ hk
    have e := flatten_getK hlen (i := j / k) (j := j % k) (by simpa using hq) hr
    rw [← hdm] at e
    have e2 : ((List.range xs.length).map f).getD (j / k) [] = f (j / k) := by simp [List.getD_eq_getElem?_getD, hq]
    rw [hj, e2] at e
    have := (hf _ hq).1.2 _ hr
    rw [← e] at this
    rw [show o + j = o + j / k * k + j % k by omega]
    exact this
end

/-- A run of append onto a row of one's own. -/
theorem run_apps {P : Program} {w : World} (t ty : TypeId) (base : Nat) (e : TypeId) (z : Value) (size bytes : Nat) (ht : P.underlying t = some (.slice e)) (hinfo : (P.info? e).map (fun i => (i.zero, i.size, i.bytes)) = some (some z, size, bytes))
    (hzs : z.cells.size = size) (hsz : 0 < size) {α : Type} [Inhabited α] {R : List Value → α → Prop} {v : Value} {xs ys : List α} (hown : OwnK base w e size R v xs) {ap : Option Addr} {c : Nat} {P2 : Nat → Prop} (hrow : RowK w P2 size R ap ys)
    (hone : ∀ cs y, R cs y → ∀ u ∈ cs, u.oneCell' = true) (hn : xs.length + ys.length ≤ 100000000) (hbytes : bytes ≤ 1000) (hbase : base ≤ w.heap.size) :
    ∃ a' c' w', (Builtin.append_ #[t, t] ty #[v, .slice ap ys.length c]).run P w = .ok (.slice a' (xs.length + ys.length) c') w' ∧ OwnK base w' e size R (.slice a' (xs.length + ys.length) c') (xs ++ ys) ∧ Upd v.ownBlock.toList w w' ∧
      ((Value.slice a' (xs.length + ys.length) c').ownBlock = v.ownBlock ∨ (Value.slice a' (xs.length + ys.length) c').ownBlock = some w.heap.size) := by
  obtain ⟨i, hi, hz0, hz1, hz2⟩ := info_parts hinfo
  cases ap with
  | none =>
    have hy0 : ys = [] := by
      rcases ys with _ | ⟨y, ys⟩
      · rfl
      · obtain ⟨b, o, e⟩ := hrow.atSome (by simp)
        cases e
    subst hy0
    obtain ⟨css, h1, h2, h3, h4⟩ := hown
    have hr : (Builtin.append_ #[t, t] ty #[v, .slice none 0 c]).run P w = .ok v w := by
      rcases h4.2 with ⟨rfl, _⟩ | ⟨g, cap, cur, rfl, _, _, hnc, _⟩
      · simp [Builtin.append_, run_underlying ht, sizeOf, typeInfo, hi, Builtin.lenOf, Builtin.firstCells]
      · simp [Builtin.append_, run_underlying ht, sizeOf, typeInfo, hi, Builtin.lenOf, Builtin.firstCells, hnc, storeCells]
    obtain ⟨a', c', ev, _⟩ := OwnK.slice ⟨css, h1, h2, h3, h4⟩
    refine ⟨a', c', w, ?_, ?_, Upd.refl _ _, .inl ?_⟩
    · rw [show ([] : List α).length = 0 from rfl, hr, ev]
      rfl
    · rw [← show v = .slice a' (xs.length + ([] : List α).length) c' from ev]
      rw [List.append_nil]
      exact ⟨css, h1, h2, h3, h4⟩
    · rw [ev]
      rfl
  | some ad =>
    have hns : ∃ ns : List (List Value), ns.length = ys.length ∧ (∀ i, i < ys.length → R (ns.getD i []) (ys.getD i default)) ∧ (∀ cs ∈ ns, cs.length = size) ∧ ∀ j u, ns.flatten[j]? = some u → w.cell? (ad.add j) = some u := by
      by_cases hy : ys.length = 0
      · exact ⟨[], by simp [hy], fun i hi => absurd hi (by omega), by simp, fun j u h => by simp at h⟩
      · obtain ⟨b, o, e⟩ := hrow.atSome (by omega)
        injection e with e
        subst e
        obtain ⟨ns, k1, k2, k3, k4⟩ := hrow.cells
        refine ⟨ns, k1, k2, k3, fun j u hj => ?_⟩
        have : (⟨b, o, none⟩ : Addr).add j = ⟨b, o + j, none⟩ := by unfold Addr.add; split <;> simp_all
        rw [this]
        exact k4 j u hj
    obtain ⟨ns, k1, k2, k3, k4⟩ := hns
    obtain ⟨css, h1, h2, h3, h4⟩ := hown
    have hml : ∀ l : List (List Value), (∀ cs ∈ l, cs.length = size) → l.flatten.length = l.length * size := by
      intro l
      induction l with
      | nil => intro _; simp
      | cons a l ih => intro h; rw [List.flatten_cons, List.length_append, ih (fun cs hc => h cs (by simp [hc])), h a (by simp), List.length_cons, Nat.add_mul]; omega
    have hns1 : ∀ cs ∈ ns, ∀ u ∈ cs, u.oneCell' = true := by
      intro cs hc
      obtain ⟨k, hk, rfl⟩ := List.getElem_of_mem hc
      have := k2 k (by omega)
      rw [List.getD_eq_getElem?_getD, List.getElem?_eq_getElem hk] at this
      exact hone _ _ this
    have hb2 : (xs.length + ys.length) * bytes ≤ 100000000 * 1000 := Nat.mul_le_mul hn hbytes
    obtain ⟨v', w', hr, q2, q3, _, q5⟩ := run_append_own_at (P := P) w base t ty e i z size bytes ht hi hz0 hz1 hz2 hzs hsz v xs.length css.flatten h4 ad ys.length c ns.flatten (by rw [hml ns k3, k1])
      k4 (fun u hu => by
        obtain ⟨cs, hc, hu⟩ := List.mem_flatten.1 hu
        exact hns1 cs hc u hu) (by unfold maxLen; omega) (by omega) hbase
    have hO : OwnK base w' e size R v' (xs ++ ys) := OwnK.adds h1 h2 h3 k1 k2 (fun cs hc => ⟨k3 cs hc, hns1 cs hc⟩) q2
    obtain ⟨a', c', e', _⟩ := hO.slice
    rw [List.length_append] at e'
    subst e'
    exact ⟨a', c', w', hr, hO, Upd.of_grown q3 (fun k hk => by simp [hk]), q5⟩
/-- Some more, at the operation. -/
theorem wpList_appk {P : Program} {w : World} {ops : Array Oper} {rest : List Oper} {o : Oper} {a : Act} {Q : Exit → Act → World → Prop} (hgd : o.guard = none) (s x : Operand) (t : TypeId)
    (ho : o.op = .call { callee := .builtin .append, args := #[s, x], argTypes := #[t, t] })
    (base : Nat) (e : TypeId) (z : Value) (size bytes : Nat) (ht : P.underlying t = some (.slice e)) (hinfo : (P.info? e).map (fun i => (i.zero, i.size, i.bytes)) = some (some z, size, bytes))
    (hzs : z.cells.size = size) (hsz : 0 < size) {α : Type} [Inhabited α] {R : List Value → α → Prop} {v : Value} {xs ys : List α} (hs : a.eval s = v) (hown : OwnK base w e size R v xs) {ap : Option Addr} {m c : Nat} (hx : a.eval x = .slice ap m c) (hm : ys.length = m) {P2 : Nat → Prop} (hrow : RowK w P2 size R ap ys)
    (hone : ∀ cs y, R cs y → ∀ u ∈ cs, u.oneCell' = true) (hn : xs.length + m ≤ 100000000) (hbytes : bytes ≤ 1000) (hbase : base ≤ w.heap.size)
    (h : ∀ q a' c' w', q = xs.length + m → OwnK base w' e size R (.slice a' q c') (xs ++ ys) → Upd v.ownBlock.toList w w' →
      ((Value.slice a' q c').ownBlock = v.ownBlock ∨ (Value.slice a' q c').ownBlock = some w.heap.size) → wpList P ops Q rest (a.put o.dst (.slice a' q c')) w') :
    wpList P ops Q (o :: rest) a w := by
  subst hm
  refine wpList_plain hgd fun K hK => ?_
  obtain ⟨a', c', w', hr, h2, h3, h4⟩ := run_apps t o.type base e z size bytes ht hinfo hzs hsz hown (c := c) hrow hone hn hbytes hbase
  unfold Oper.wp execOp
  simp only [ho, resolve, invoke, builtin, Sem.run_bind, Sem.run_pure, Result.andThen_ok, List.map_toArray, List.map_cons, List.map_nil, hs, hx, hr]
  exact hK _ _ (h _ a' c' w' rfl h2 h3 h4)
/-- A new block with one thing in it is a row. -/
theorem RowK.one {α : Type} [Inhabited α] {w : World} {P : Nat → Prop} {b k : Nat} {cs : List Value} {t : TypeId} {R : List Value → α → Prop} {x : α} (hB : Blk w b cs t) (hP : P b) (hl : cs.length = k) (hR : R cs x) : RowK w P k R (some ⟨b, 0, none⟩) [x] := by
  intro i hi
  have hi0 : i = 0 := by simpa using hi
  subst hi0
  refine ⟨b, 0, cs, rfl, hP, ⟨hl, fun j _ => ?_⟩, hR⟩
  rw [show 0 + 0 * k + j = j by omega, hB.cell]
theorem OwnK.one {α : Type} [Inhabited α] {w : World} {base k : Nat} {cs : List Value} {t : TypeId} {R : List Value → α → Prop} {x : α} (hb : base ≤ w.heap.size) (hl : cs.length = k) (h1 : ∀ u ∈ cs, u.oneCell' = true) (hR : R cs x) : OwnK base (w.alloc (.cells cs.toArray t)) t k R (.slice (some ⟨w.heap.size, 0, none⟩) 1 1) [x] := by
  refine ⟨[cs], rfl, fun i hi => ?_, fun c hc => ?_, ?_⟩
  · have hi0 : i = 0 := by simpa using hi
    subst hi0
    exact hR
  · rw [List.mem_singleton.1 hc]
    exact ⟨hl, h1⟩
  · have := World.ownsRow_lit (e := t) (size := k) w cs.toArray 1 hb (by decide) (by simp [hl])
    simpa using this

theorem take_nextK {α : Type} [Inhabited α] {l : List α} {j : Nat} (h : j < l.length) : l.take (j + 1) = l.take j ++ [l.getD j default] := by
  rw [List.take_succ_eq_append_getElem h, List.getD_eq_getElem?_getD, List.getElem?_eq_getElem h]
  rfl
/-! ### Strings -/
theorem str_inj {a b : ByteArray} (h : a.toList = b.toList) : a = b := by
  have h2 : a.data.toList = b.data.toList := by rwa [ByteArray.toList_eq, ByteArray.toList_eq] at h
  cases a
  cases b
  simpa using h2
theorem str_eq (a b : ByteArray) : (a.toList == b.toList) = decide (a = b) := by
  by_cases h : a = b
  · subst h
    simp
  · have : ¬ a.toList = b.toList := fun e => h (str_inj e)
    simp [h, this]
def IsS (cs : List Value) (s : ByteArray) : Prop := cs = [.string s]
theorem IsS.one {cs : List Value} {s : ByteArray} (h : IsS cs s) : ∀ u ∈ cs, u.oneCell' = true := by
  rw [h]
  intro u hu
  rw [List.mem_singleton.1 hu]
  rfl
theorem RowK.str {w : World} {P : Nat → Prop} {a : Option Addr} {ss : List ByteArray} (h : RowK w P 1 IsS a ss) {i : Nat} (hi : i < ss.length) : ∃ b o, a = some ⟨b, o, none⟩ ∧ w.cell? ⟨b, o + i, none⟩ = some (.string (ss.getD i default)) := by
  obtain ⟨b, o, cs, e, hp, ha, hr⟩ := h i hi
  rw [Nat.mul_one] at ha
  exact ⟨b, o, e, ha.cell0 (by rw [hr]; rfl)⟩
end Go.Proofs.Ythmpaepdbjldfaa

/-
  States told by trees: values without addresses, what a call's own memory holds, and what may change.
-/
namespace Go.Proofs.Ythmpaepdbjldfaa
set_option linter.unusedVariables false
set_option linter.unusedSimpArgs false
open Go.RowKit

/-- A value of one cell whose memory stays: itself, a pointer to cells, a slice of elements of k cells, a function with what it captured. -/
inductive PV where
  | raw (v : Value)
  | ip (cs : List PV)
  | sl (k : Nat) (es : List (List PV))
  | fn (f : FuncId) (caps : List PV)
instance : Inhabited PV := ⟨.raw undef⟩
/-- These are so related to a value in a world, in blocks that P lets in. -/
inductive PRel (P : Nat → Prop) (w : World) : PV → Value → Prop where
  | raw {v : Value} (h : v.oneCell' = true) : PRel P w (.raw v) v
  | ip {cs : List PV} {b o : Nat} (vs : Nat → Value) (h : ∀ (j : Nat) (x : PV), cs[j]? = some x → P b ∧ w.cell? ⟨b, o + j, none⟩ = some (vs j)) (r : ∀ (j : Nat) (x : PV), cs[j]? = some x → PRel P w x (vs j)) : PRel P w (.ip cs) (.pointer (some ⟨b, o, none⟩))
  | sl {k : Nat} {es : List (List PV)} {a : Option Addr} {c : Nat} (vs : Nat → Nat → Value) (hk : ∀ (i : Nat) (e : List PV), es[i]? = some e → e.length = k)
      (h : ∀ (i : Nat) (e : List PV) (j : Nat) (x : PV), es[i]? = some e → e[j]? = some x → ∃ b o, a = some ⟨b, o, none⟩ ∧ P b ∧ w.cell? ⟨b, o + (i * k + j), none⟩ = some (vs i j))
      (r : ∀ (i : Nat) (e : List PV) (j : Nat) (x : PV), es[i]? = some e → e[j]? = some x → PRel P w x (vs i j)) (hc : es.length ≤ c) : PRel P w (.sl k es) (.slice a es.length c)
  | fn {f : FuncId} {caps : List PV} (cv : List Value) (hl : cv.length = caps.length) (r : ∀ (j : Nat) (x : PV), caps[j]? = some x → PRel P w x (cv.getD j undef)) : PRel P w (.fn f caps) (.func (.func f) #[] cv.toArray)
theorem PRel.map {P Q : Nat → Prop} {w w' : World} (h : ∀ b o v, P b → w.cell? ⟨b, o, none⟩ = some v → Q b ∧ w'.cell? ⟨b, o, none⟩ = some v) {x : PV} {v : Value} (r : PRel P w x v) : PRel Q w' x v := by
  induction r with
  | raw h1 => exact .raw h1
  | ip vs h1 _ ih => exact .ip vs (fun j x hj => h _ _ _ (h1 j x hj).1 (h1 j x hj).2) ih
  | sl vs hk h1 _ hc ih =>
    refine .sl vs hk (fun i e j x hi hj => ?_) ih hc
    obtain ⟨b, o, e1, e2, e3⟩ := h1 i e j x hi hj
    obtain ⟨q1, q2⟩ := h _ _ _ e2 e3
    exact ⟨b, o, e1, q1, q2⟩
  | fn cv hl _ ih => exact .fn cv hl ih
theorem PRel.one {P : Nat → Prop} {w : World} {x : PV} {v : Value} (r : PRel P w x v) : v.oneCell' = true := by
  cases r <;> first | assumption | rfl
/-- What a closure may have: what stays, or where a cell of one's own, or a map of one's own, is. -/
inductive CV where
  | p (x : PV)
  | ptr (l o : Nat)
  | mp (l : Nat)
instance : Inhabited CV := ⟨.p default⟩
/-- A value of one cell: such, a slice of one's own that may grow (t) in its n-th form, a pointer to a cell of it, or a closure. -/
inductive TV where
  | c (x : CV)
  | os (t n : Nat)
  | tp (t n i j : Nat)
  | fn (f : FuncId) (caps : List CV)
instance : Inhabited TV := ⟨.c default⟩
/-- Memory of one's own: cells. -/
inductive LB where
  | hole
  | dead
  | cells (T : TypeId) (cs : List TV)
/-- A slice of one's own: its element's type and cells, its form, its elements. -/
inductive TK where
  | hole
  | dead
  | tok (T : TypeId) (k n : Nat) (es : List (List PV))
structure Env where
  ρ : Nat → Nat
  tv : Nat → Value
  lh : Nat → LB
  tk : Nat → TK
  no : Nat → Prop
def upd {α : Type} (f : Nat → α) (i : Nat) (x : α) : Nat → α := fun j => if j = i then x else f j
@[simp] theorem upd_same {α : Type} (f : Nat → α) (i : Nat) (x : α) : upd f i x i = x := by simp [upd]
theorem upd_ne {α : Type} (f : Nat → α) {i j : Nat} (x : α) (h : j ≠ i) : upd f i x j = f j := by simp [upd, h]
def Env.live (E : Env) (l : Nat) : Prop := E.lh l ≠ .hole ∧ E.lh l ≠ .dead
def Env.grows (E : Env) (t : Nat) : Prop := E.tk t ≠ .hole ∧ E.tk t ≠ .dead
/-- Blocks that stay. -/
def Env.imm (E : Env) (w : World) (b : Nat) : Prop := b < w.heap.size ∧ ¬ E.no b ∧ (∀ l, E.live l → E.ρ l ≠ b) ∧ ∀ t, E.grows t → (E.tv t).ownBlock ≠ some b
def CVRel (E : Env) (w : World) : CV → Value → Prop
  | .p x, v => PRel (E.imm w) w x v
  | .ptr l o, v => v.oneCell' = true ∧ E.lh l ≠ .hole ∧ (E.live l → v = .pointer (some ⟨E.ρ l, o, none⟩))
  | .mp l, v => v.oneCell' = true ∧ E.lh l ≠ .hole ∧ (E.live l → v = .map (some (E.ρ l)))
def VRel (E : Env) (w : World) : TV → Value → Prop
  | .c x, v => CVRel E w x v
  | .os t n, v => v.oneCell' = true ∧ E.tk t ≠ .hole ∧ ∀ T k m es, E.tk t = .tok T k m es → n ≤ m ∧ (n = m → v = E.tv t)
  | .tp t n i j, v => v.oneCell' = true ∧ E.tk t ≠ .hole ∧ ∀ T k m es, E.tk t = .tok T k m es → n ≤ m ∧ (n = m → ∃ b, (E.tv t).ownBlock = some b ∧ v = .pointer (some ⟨b, i * k + j, none⟩))
  | .fn f caps, v => ∃ cv : List Value, v = .func (.func f) #[] cv.toArray ∧ cv.length = caps.length ∧ ∀ (j : Nat) (x : CV), caps[j]? = some x → CVRel E w x (cv.getD j undef)
theorem CVRel.one {E : Env} {w : World} {x : CV} {v : Value} (r : CVRel E w x v) : v.oneCell' = true := by
  cases x with
  | p x => exact PRel.one r
  | ptr l o => exact r.1
  | mp l => exact r.1
theorem VRel.one {E : Env} {w : World} {x : TV} {v : Value} (r : VRel E w x v) : v.oneCell' = true := by
  cases x with
  | c x => exact CVRel.one r
  | os t n => exact r.1
  | tp t n i j => exact r.1
  | fn f caps => obtain ⟨cv, rfl, _⟩ := r; rfl
def CRel (E : Env) (w : World) (cs : List TV) (vs : List Value) : Prop := vs.length = cs.length ∧ ∀ (j : Nat) (x : TV), cs[j]? = some x → VRel E w x (vs.getD j undef)
/-- Elements of k cells, laid out. -/
def Rows (P : Nat → Prop) (w : World) (k : Nat) (es : List (List PV)) (xs : List Value) : Prop :=
  ∀ (i : Nat) (e : List PV), es[i]? = some e → e.length = k ∧ ∀ (j : Nat) (x : PV), e[j]? = some x → ∃ v, xs[i * k + j]? = some v ∧ PRel P w x v
/-- The memory is as the environment says. -/
structure HRel (E : Env) (w : World) : Prop where
  nob : ∀ b, E.no b → b < w.heap.size
  loc : ∀ l T cs, E.lh l = .cells T cs → ∃ vs, Blk w (E.ρ l) vs T ∧ CRel E w cs vs
  nol : ∀ l, E.live l → ¬ E.no (E.ρ l) ∧ E.ρ l < w.heap.size
  inj : ∀ l l', E.live l → E.live l' → E.ρ l = E.ρ l' → l = l'
  tok : ∀ t T k n es, E.tk t = .tok T k n es → ∃ xs, w.ownsRow 0 T k (E.tv t) es.length xs ∧ Rows (E.imm w) w k es xs
  not : ∀ t b, E.grows t → (E.tv t).ownBlock = some b → ¬ E.no b ∧ b < w.heap.size ∧ (∀ l, E.live l → E.ρ l ≠ b) ∧ ∀ t', E.grows t' → (E.tv t').ownBlock = some b → t' = t
/-- What may have changed. -/
structure Ext (E E' : Env) (w w' : World) : Prop where
  os : w'.os = w.os
  tape : w'.tape = w.tape
  output : w'.output = w.output
  size : w.heap.size ≤ w'.heap.size
  no : E'.no = E.no
  loc : ∀ l, (E.lh l ≠ .hole → E'.lh l ≠ .hole) ∧ (E.lh l = .dead → E'.lh l = .dead) ∧ (E.live l → E'.live l → E'.ρ l = E.ρ l)
  tok : ∀ t, (E.tk t ≠ .hole → E'.tk t ≠ .hole) ∧ (E.tk t = .dead → E'.tk t = .dead) ∧
    ∀ T k n es, E.tk t = .tok T k n es → ∀ T' k' n' es', E'.tk t = .tok T' k' n' es' → k' = k ∧ (n < n' ∨ (n' = n ∧ E'.tv t = E.tv t))
  imm : ∀ b, E.imm w b → E'.imm w' b ∧ ∀ o v, w.cell? ⟨b, o, none⟩ = some v → w'.cell? ⟨b, o, none⟩ = some v
  out : ∀ b, b < w.heap.size → (E.no b ∨ ((∀ l, E.live l → E.ρ l ≠ b) ∧ ∀ t, E.grows t → (E.tv t).ownBlock ≠ some b)) → w'.heap[b]? = w.heap[b]?
theorem Ext.refl (E : Env) (w : World) : Ext E E w w :=
  ⟨rfl, rfl, rfl, Nat.le_refl _, rfl, fun _ => ⟨id, id, fun _ _ => rfl⟩, fun t => ⟨id, id, fun T k n es h T' k' n' es' h' => by
    rw [h] at h'
    injection h' with e1 e2 e3 e4
    exact ⟨e2.symm, .inr ⟨e3.symm, rfl⟩⟩⟩, fun b h => ⟨h, fun _ _ h => h⟩, fun _ _ _ => rfl⟩
theorem live_cases {E : Env} {l : Nat} (h : E.lh l ≠ .hole) : E.lh l = .dead ∨ E.live l := by
  by_cases h2 : E.lh l = .dead
  · exact .inl h2
  · exact .inr ⟨h, h2⟩
theorem Ext.trans {E E' E'' : Env} {w w' w'' : World} (h : Ext E E' w w') (g : Ext E' E'' w' w'') : Ext E E'' w w'' := by
  refine ⟨g.os.trans h.os, g.tape.trans h.tape, g.output.trans h.output, Nat.le_trans h.size g.size, g.no.trans h.no, fun l => ?_, fun t => ?_, fun b hb => ?_, fun b hb ho => ?_⟩
  · obtain ⟨a1, a2, a3⟩ := h.loc l
    obtain ⟨b1, b2, b3⟩ := g.loc l
    refine ⟨fun x => b1 (a1 x), fun x => b2 (a2 x), fun x y => ?_⟩
    rcases live_cases (a1 x.1) with z | z
    · exact absurd (b2 z) y.2
    · exact (b3 z y).trans (a3 x z)
  · obtain ⟨a1, a2, a3⟩ := h.tok t
    obtain ⟨b1, b2, b3⟩ := g.tok t
    refine ⟨fun x => b1 (a1 x), fun x => b2 (a2 x), fun T k n es e T' k' n' es' e' => ?_⟩
    cases hm : E'.tk t with
    | hole => exact absurd hm (a1 (by rw [e]; simp))
    | dead => rw [b2 hm] at e'; cases e'
    | tok T1 k1 n1 es1 =>
      obtain ⟨z1, q1⟩ := a3 _ _ _ _ e _ _ _ _ hm
      obtain ⟨z2, q2⟩ := b3 _ _ _ _ hm _ _ _ _ e'
      refine ⟨z2.trans z1, ?_⟩
      rcases q1 with q1 | ⟨q1, q1'⟩
      · rcases q2 with q2 | ⟨q2, q2'⟩
        · exact .inl (by omega)
        · exact .inl (by omega)
      · rcases q2 with q2 | ⟨q2, q2'⟩
        · exact .inl (by omega)
        · exact .inr ⟨by omega, q2'.trans q1'⟩
  · obtain ⟨a1, a2⟩ := h.imm b hb
    obtain ⟨b1, b2⟩ := g.imm b a1
    exact ⟨b1, fun o v hv => b2 o v (a2 o v hv)⟩
  · have h1 := h.out b hb ho
    rw [← h1]
    refine g.out b (Nat.lt_of_lt_of_le hb h.size) ?_
    rcases ho with ho | ⟨o1, o2⟩
    · exact .inl (by rw [h.no]; exact ho)
    · by_cases hn : E.no b
      · exact .inl (by rw [h.no]; exact hn)
      · have := (h.imm b ⟨hb, hn, o1, o2⟩).1
        exact .inr ⟨this.2.2.1, this.2.2.2⟩
theorem CVRel.ext {E E' : Env} {w w' : World} (h : Ext E E' w w') {x : CV} {v : Value} (r : CVRel E w x v) : CVRel E' w' x v := by
  cases x with
  | p x => exact PRel.map (fun b o v hb hc => ⟨(h.imm b hb).1, (h.imm b hb).2 o v hc⟩) r
  | ptr l o =>
    obtain ⟨r1, r2, r3⟩ := r
    obtain ⟨a1, a2, a3⟩ := h.loc l
    refine ⟨r1, a1 r2, fun hl => ?_⟩
    rcases live_cases r2 with z | z
    · exact absurd (a2 z) hl.2
    · rw [a3 z hl]
      exact r3 z
  | mp l =>
    obtain ⟨r1, r2, r3⟩ := r
    obtain ⟨a1, a2, a3⟩ := h.loc l
    refine ⟨r1, a1 r2, fun hl => ?_⟩
    rcases live_cases r2 with z | z
    · exact absurd (a2 z) hl.2
    · rw [a3 z hl]
      exact r3 z
theorem VRel.ext {E E' : Env} {w w' : World} (h : Ext E E' w w') {x : TV} {v : Value} (r : VRel E w x v) : VRel E' w' x v := by
  cases x with
  | c x => exact CVRel.ext h r
  | os t n =>
    obtain ⟨r1, r2, r3⟩ := r
    obtain ⟨a1, a2, a3⟩ := h.tok t
    refine ⟨r1, a1 r2, fun T k m es e => ?_⟩
    cases hm : E.tk t with
    | hole => exact absurd hm r2
    | dead => rw [a2 hm] at e; cases e
    | tok T1 k1 n1 es1 =>
      obtain ⟨g1, g2⟩ := r3 _ _ _ _ hm
      rcases (a3 _ _ _ _ hm _ _ _ _ e).2 with q | ⟨q, q'⟩
      · exact ⟨by omega, fun e => by omega⟩
      · exact ⟨by omega, fun e => by rw [q']; exact g2 (by omega)⟩
  | tp t n i j =>
    obtain ⟨r1, r2, r3⟩ := r
    obtain ⟨a1, a2, a3⟩ := h.tok t
    refine ⟨r1, a1 r2, fun T k m es e => ?_⟩
    cases hm : E.tk t with
    | hole => exact absurd hm r2
    | dead => rw [a2 hm] at e; cases e
    | tok T1 k1 n1 es1 =>
      obtain ⟨g1, g2⟩ := r3 _ _ _ _ hm
      obtain ⟨z, q⟩ := a3 _ _ _ _ hm _ _ _ _ e
      rcases q with q | ⟨q, q'⟩
      · exact ⟨by omega, fun e => by omega⟩
      · exact ⟨by omega, fun e => by rw [q', z]; exact g2 (by omega)⟩
  | fn f caps =>
    obtain ⟨cv, e, hl, r⟩ := r
    exact ⟨cv, e, hl, fun j x hj => CVRel.ext h (r j x hj)⟩
theorem CRel.ext {E E' : Env} {w w' : World} (h : Ext E E' w w') {cs : List TV} {vs : List Value} (r : CRel E w cs vs) : CRel E' w' cs vs :=
  ⟨r.1, fun j x hj => VRel.ext h (r.2 j x hj)⟩
theorem Rows.ext {E E' : Env} {w w' : World} (h : Ext E E' w w') {k : Nat} {es : List (List PV)} {xs : List Value} (r : Rows (E.imm w) w k es xs) : Rows (E'.imm w') w' k es xs := by
  intro i e hi
  obtain ⟨h1, h2⟩ := r i e hi
  refine ⟨h1, fun j x hj => ?_⟩
  obtain ⟨v, e1, e2⟩ := h2 j x hj
  exact ⟨v, e1, PRel.map (fun b o v hb hc => ⟨(h.imm b hb).1, (h.imm b hb).2 o v hc⟩) e2⟩
/-! ### Slots -/
inductive TA where
  | one (x : TV)
  | agg (cs : List TV)
inductive TX where
  | und
  | a (x : TA)
  | tup (xs : List TA)
def ARel (E : Env) (w : World) : TA → Value → Prop
  | .one x, v => VRel E w x v
  | .agg cs, v => ∃ vs : List Value, v = .agg vs.toArray ∧ CRel E w cs vs
def XRel (E : Env) (w : World) : TX → Value → Prop
  | .und, _ => True
  | .a x, v => ARel E w x v
  | .tup xs, v => ∃ vs : List Value, v = .tuple vs.toArray ∧ vs.length = xs.length ∧ ∀ (j : Nat) (x : TA), xs[j]? = some x → ARel E w x (vs.getD j undef)
theorem ARel.ext {E E' : Env} {w w' : World} (h : Ext E E' w w') {x : TA} {v : Value} (r : ARel E w x v) : ARel E' w' x v := by
  cases x with
  | one x => exact VRel.ext h r
  | agg cs =>
    obtain ⟨vs, e, r⟩ := r
    exact ⟨vs, e, CRel.ext h r⟩
theorem XRel.ext {E E' : Env} {w w' : World} (h : Ext E E' w w') {x : TX} {v : Value} (r : XRel E w x v) : XRel E' w' x v := by
  cases x with
  | und => trivial
  | a x => exact ARel.ext h r
  | tup xs =>
    obtain ⟨vs, e, hl, r⟩ := r
    exact ⟨vs, e, hl, fun j x hj => ARel.ext h (r j x hj)⟩
structure TS where
  tm : Nat → TX
  lh : Nat → LB
  tk : Nat → TK
  nl : Nat
  nt : Nat
  sz : Nat
def SRel (E : Env) (w : World) (a : Act) (S : TS) : Prop := E.lh = S.lh ∧ E.tk = S.tk ∧ HRel E w ∧ a.defers = [] ∧ a.tmps.size = S.sz ∧ ∀ t, XRel E w (S.tm t) (a.tmps.getD t undef)
def putT (tm : Nat → TX) : Option Nat → TX → Nat → TX
  | some d, x => upd tm d x
  | none, _ => tm
theorem getD_put {a : Act} {d t : Nat} {v : Value} : (a.put (some d) v).tmps.getD t undef = if t = d ∧ d < a.tmps.size then v else a.tmps.getD t undef := by
  simp only [Act.put, Array.getD_eq_getD_getElem?, Array.getElem?_setIfInBounds]
  by_cases h : d = t
  · subst h
    by_cases h2 : d < a.tmps.size
    · simp [h2]
    · simp [h2, Array.getElem?_eq_none (Nat.le_of_not_lt h2)]
  · rw [if_neg h, if_neg (by omega)]
/-- Behind a step: the slot has the value, all else stays. -/
theorem SRel.put {E E' : Env} {w w' : World} {a : Act} {S : TS} (h : SRel E w a S) (hx : Ext E E' w w') (hH : HRel E' w') {d : Option Nat} {x : TX} {v : Value} (hv : XRel E' w' x v) {S' : TS} (h1 : E'.lh = S'.lh) (h2 : E'.tk = S'.tk) (h3 : S'.sz = S.sz) (h4 : S'.tm = putT S.tm d x) (h5 : ∀ i, d = some i → i < S.sz) : SRel E' w' (a.put d v) S' := by
  obtain ⟨_, _, _, g4, g5, g6⟩ := h
  refine ⟨h1, h2, hH, ?_, ?_, fun t => ?_⟩
  · cases d <;> simpa [Act.put] using g4
  · cases d <;> simp [Act.put, g5, h3]
  · rw [h4]
    cases d with
    | none => exact XRel.ext hx (g6 t)
    | some d =>
      rw [getD_put]
      have := h5 d rfl
      by_cases ht : t = d
      · subst ht
        rw [if_pos ⟨rfl, by omega⟩]
        show XRel E' w' (upd S.tm t x t) _
        rw [upd_same]
        exact hv
      · rw [if_neg (by omega)]
        show XRel E' w' (upd S.tm d x t) _
        rw [upd_ne _ _ ht]
        exact XRel.ext hx (g6 t)
end Go.Proofs.Ythmpaepdbjldfaa

/-
  States told by trees: what an operation does to the environment.
-/
namespace Go.Proofs.Ythmpaepdbjldfaa
set_option linter.unusedVariables false
set_option linter.unusedSimpArgs false
open Go.RowKit

def OwnB (E : Env) (b : Nat) : Prop := (∃ l, E.live l ∧ E.ρ l = b) ∨ ∃ t, E.grows t ∧ (E.tv t).ownBlock = some b
theorem ext_of_upd {E E' : Env} {w w' : World} {S : List Nat} (h : HRel E w) (hu : Upd S w w') (hS : ∀ b, b ∈ S → OwnB E b) (hno : E'.no = E.no)
    (loc : ∀ l, (E.lh l ≠ .hole → E'.lh l ≠ .hole) ∧ (E.lh l = .dead → E'.lh l = .dead) ∧ (E.live l → E'.live l → E'.ρ l = E.ρ l))
    (tok : ∀ t, (E.tk t ≠ .hole → E'.tk t ≠ .hole) ∧ (E.tk t = .dead → E'.tk t = .dead) ∧ ∀ T k n es, E.tk t = .tok T k n es → ∀ T' k' n' es', E'.tk t = .tok T' k' n' es' → k' = k ∧ (n < n' ∨ (n' = n ∧ E'.tv t = E.tv t)))
    (imm : ∀ b, E.imm w b → E'.imm w' b) : Ext E E' w w' := by
  have hn : ∀ b, (∀ l, E.live l → E.ρ l ≠ b) → (∀ t, E.grows t → (E.tv t).ownBlock ≠ some b) → b ∉ S := by
    intro b h1 h2 hb
    rcases hS b hb with ⟨l, x, y⟩ | ⟨t, x, y⟩
    · exact h1 l x y
    · exact h2 t x y
  refine ⟨hu.os, hu.tape, hu.output, hu.size, hno, loc, tok, fun b hb => ⟨imm b hb, fun o v hc => hu.cell hc (hn b hb.2.2.1 hb.2.2.2)⟩, fun b hb ho => ?_⟩
  refine hu.block b hb ?_
  rcases ho with ho | ⟨o1, o2⟩
  · intro hb2
    rcases hS b hb2 with ⟨l, x, y⟩ | ⟨t, x, y⟩
    · exact (h.nol l x).1 (y ▸ ho)
    · exact (h.not t b x y).1 ho
  · exact hn b o1 o2
theorem tokrefl {E E' : Env} {t : Nat} (h1 : E'.tk t = E.tk t) (h2 : E'.tv t = E.tv t) : (E.tk t ≠ .hole → E'.tk t ≠ .hole) ∧ (E.tk t = .dead → E'.tk t = .dead) ∧ ∀ T k n es, E.tk t = .tok T k n es → ∀ T' k' n' es', E'.tk t = .tok T' k' n' es' → k' = k ∧ (n < n' ∨ (n' = n ∧ E'.tv t = E.tv t)) := by
  rw [h1]
  refine ⟨id, id, fun T k n es e T' k' n' es' e' => ?_⟩
  rw [e] at e'
  injection e' with _ e2 e3 _
  exact ⟨e2.symm, .inr ⟨e3.symm, h2⟩⟩
theorem locrefl {E E' : Env} {l : Nat} (h1 : E'.lh l = E.lh l) (h2 : E'.ρ l = E.ρ l) : (E.lh l ≠ .hole → E'.lh l ≠ .hole) ∧ (E.lh l = .dead → E'.lh l = .dead) ∧ (E.live l → E'.live l → E'.ρ l = E.ρ l) := by
  rw [h1]
  exact ⟨id, id, fun _ _ => h2⟩
/-- Worlds with one memory. -/
theorem same_heap {E : Env} {w w' : World} (h : HRel E w) (h1 : w'.heap = w.heap) (h2 : w'.os = w.os) (h3 : w'.tape = w.tape) (h4 : w'.output = w.output) : Ext E E w w' ∧ HRel E w' := by
  have hu : Upd [] w w' := ⟨h2, h3, h4, by rw [h1]; exact Nat.le_refl _, fun k _ _ => by rw [h1]⟩
  have hx : Ext E E w w' := ext_of_upd h hu (by simp) rfl (fun l => locrefl rfl rfl) (fun t => tokrefl rfl rfl) (fun b hb => by unfold Env.imm at *; rw [h1]; exact hb)
  refine ⟨hx, fun b hb => by rw [h1]; exact h.nob b hb, fun l T cs e => ?_, fun l hl => by rw [h1]; exact h.nol l hl, h.inj, fun t T k n es e => ?_, fun t b ht hb => by rw [h1]; exact h.not t b ht hb⟩
  · obtain ⟨vs, a, b⟩ := h.loc l T cs e
    exact ⟨vs, hu.blk a (by simp), CRel.ext hx b⟩
  · obtain ⟨xs, a, b⟩ := h.tok t T k n es e
    exact ⟨xs, own_upd0 a hu, Rows.ext hx b⟩
/-- New cells. -/
theorem new_local {E : Env} {w : World} (h : HRel E w) {l : Nat} (hl : E.lh l = .hole) {T : TypeId} {cs : List TV} {vs : List Value} (hc : CRel E w cs vs) :
    Ext E { E with lh := upd E.lh l (.cells T cs), ρ := upd E.ρ l w.heap.size } w (w.alloc (.cells vs.toArray T)) ∧ HRel { E with lh := upd E.lh l (.cells T cs), ρ := upd E.ρ l w.heap.size } (w.alloc (.cells vs.toArray T)) := by
  have hu : Upd [] w (w.alloc (.cells vs.toArray T)) := (Upd.refl [] w).alloc _
  have hlive : ∀ j, j ≠ l → (Env.live { E with lh := upd E.lh l (.cells T cs), ρ := upd E.ρ l w.heap.size } j ↔ E.live j) := fun j hj => by unfold Env.live; simp only [upd_ne _ _ hj]
  have hnl : ¬ E.live l := fun x => x.1 hl
  have hx : Ext E { E with lh := upd E.lh l (.cells T cs), ρ := upd E.ρ l w.heap.size } w (w.alloc (.cells vs.toArray T)) := by
    refine ext_of_upd h hu (by simp) rfl (fun j => ?_) (fun t => tokrefl rfl rfl) (fun b hb => ?_)
    · by_cases hj : j = l
      · subst hj
        exact ⟨fun _ => by simp, fun x => absurd (hl.symm.trans x) (by simp), fun x => absurd x hnl⟩
      · exact locrefl (upd_ne _ _ hj) (upd_ne _ _ hj)
    · refine ⟨by simp; have := hb.1; omega, hb.2.1, fun j hj => ?_, hb.2.2.2⟩
      by_cases hjl : j = l
      · subst hjl
        simp only [upd_same]
        have := hb.1
        omega
      · simp only [upd_ne _ _ hjl]
        exact hb.2.2.1 j ((hlive j hjl).1 hj)
  refine ⟨hx, fun b hb => by have := h.nob b hb; simp; omega, fun j T' cs' e => ?_, fun j hj => ?_, fun j j' h1 h2 e => ?_, fun t T k n es e => ?_, fun t b ht hb => ?_⟩
  · by_cases hj : j = l
    · subst hj
      simp only [upd_same] at e ⊢
      injection e with e1 e2
      subst e1; subst e2
      exact ⟨vs, Blk.new w vs T, CRel.ext hx hc⟩
    · simp only [upd_ne _ _ hj] at e ⊢
      obtain ⟨us, a, b⟩ := h.loc j T' cs' e
      exact ⟨us, a.alloc _, CRel.ext hx b⟩
  · by_cases hjl : j = l
    · subst hjl
      simp only [upd_same, World.size_alloc]
      exact ⟨fun hn => by have := h.nob _ hn; omega, by omega⟩
    · simp only [upd_ne _ _ hjl, World.size_alloc]
      have := h.nol j ((hlive j hjl).1 hj)
      exact ⟨this.1, by omega⟩
  · by_cases h1l : j = l
    · by_cases h2l : j' = l
      · omega
      · subst h1l
        simp only [upd_same, upd_ne _ _ h2l] at e
        have := (h.nol j' ((hlive j' h2l).1 h2)).2
        omega
    · by_cases h2l : j' = l
      · subst h2l
        simp only [upd_same, upd_ne _ _ h1l] at e
        have := (h.nol j ((hlive j h1l).1 h1)).2
        omega
      · simp only [upd_ne _ _ h1l, upd_ne _ _ h2l] at e
        exact h.inj j j' ((hlive j h1l).1 h1) ((hlive j' h2l).1 h2) e
  · obtain ⟨xs, a, b⟩ := h.tok t T k n es e
    exact ⟨xs, a.alloc _, Rows.ext hx b⟩
  · obtain ⟨g1, g2, g3, g4⟩ := h.not t b ht hb
    refine ⟨g1, by simp; omega, fun j hj => ?_, g4⟩
    by_cases hjl : j = l
    · subst hjl
      simp only [upd_same]
      omega
    · simp only [upd_ne _ _ hjl]
      exact g3 j ((hlive j hjl).1 hj)
/-- Cells of one's own are others. -/
theorem set_local {E : Env} {w w' : World} (h : HRel E w) {l : Nat} {T : TypeId} {cs cs' : List TV} (hl : E.lh l = .cells T cs) {vs' : List Value} (hu : Upd [E.ρ l] w w') (hb : Blk w' (E.ρ l) vs' T) (hsz : w'.heap.size = w.heap.size) (hc : CRel E w cs' vs') :
    Ext E { E with lh := upd E.lh l (.cells T cs') } w w' ∧ HRel { E with lh := upd E.lh l (.cells T cs') } w' := by
  have hlv : E.live l := ⟨by rw [hl]; simp, by rw [hl]; simp⟩
  have hlive : ∀ j, Env.live { E with lh := upd E.lh l (.cells T cs') } j ↔ E.live j := fun j => by
    by_cases hj : j = l
    · subst hj
      exact ⟨fun _ => hlv, fun _ => ⟨by simp, by simp⟩⟩
    · unfold Env.live
      simp only [upd_ne _ _ hj]
  have hx : Ext E { E with lh := upd E.lh l (.cells T cs') } w w' := by
    refine ext_of_upd h hu (fun b hb => .inl ⟨l, hlv, (List.mem_singleton.1 hb).symm⟩) rfl (fun j => ?_) (fun t => tokrefl rfl rfl) (fun b hb => ?_)
    · by_cases hj : j = l
      · subst hj
        exact ⟨fun _ => by simp, fun x => absurd x hlv.2, fun _ _ => rfl⟩
      · exact locrefl (upd_ne _ _ hj) rfl
    · exact ⟨by rw [hsz]; exact hb.1, hb.2.1, fun j hj => hb.2.2.1 j ((hlive j).1 hj), hb.2.2.2⟩
  refine ⟨hx, fun b hb => by have := h.nob b hb; rw [hsz]; exact this, fun j T' cs'' e => ?_, fun j hj => ?_, fun j j' h1 h2 e => h.inj j j' ((hlive j).1 h1) ((hlive j').1 h2) e, fun t T k n es e => ?_, fun t b ht hb => ?_⟩
  · by_cases hj : j = l
    · subst hj
      simp only [upd_same] at e
      injection e with e1 e2
      subst e1; subst e2
      exact ⟨vs', hb, CRel.ext hx hc⟩
    · simp only [upd_ne _ _ hj] at e
      obtain ⟨us, a, b⟩ := h.loc j T' cs'' e
      refine ⟨us, hu.blk a (fun x => hj ?_), CRel.ext hx b⟩
      have hjv : E.live j := ⟨by rw [e]; simp, by rw [e]; simp⟩
      exact h.inj j l hjv hlv (List.mem_singleton.1 x)
  · have := h.nol j ((hlive j).1 hj)
    exact ⟨this.1, by rw [hsz]; exact this.2⟩
  · obtain ⟨xs, a, b⟩ := h.tok t T k n es e
    refine ⟨xs, own_upd a hu (fun g hg hm => ?_), Rows.ext hx b⟩
    have ht : E.grows t := ⟨by rw [show E.tk t = _ from e]; simp, by rw [show E.tk t = _ from e]; simp⟩
    exact (h.not t g ht hg).2.2.1 l hlv (List.mem_singleton.1 hm).symm
  · obtain ⟨g1, g2, g3, g4⟩ := h.not t b ht hb
    exact ⟨g1, by rw [hsz]; exact g2, fun j hj => g3 j ((hlive j).1 hj), g4⟩
/-- A slice of one's own, new (or in its next form). -/
theorem put_tok {E : Env} {w w' : World} (h : HRel E w) {t : Nat} {T : TypeId} {k n : Nat} {es : List (List PV)} {v : Value} {xs : List Value}
    (hold : E.tk t = .hole ∨ ∃ T' k' m es', E.tk t = .tok T' k' m es' ∧ k = k' ∧ (m < n ∨ (n = m ∧ v = E.tv t)))
    {S : List Nat} (hS : ∀ b, b ∈ S → E.grows t ∧ (E.tv t).ownBlock = some b) (hu : Upd S w w') (hv : w'.ownsRow 0 T k v es.length xs)
    (hb : ∀ b, v.ownBlock = some b → (E.grows t ∧ (E.tv t).ownBlock = some b) ∨ w.heap.size ≤ b) (hr : ∀ P', (∀ b, E.imm w b → P' b) → Rows P' w' k es xs) :
    Ext E { E with tk := upd E.tk t (.tok T k n es), tv := upd E.tv t v } w w' ∧ HRel { E with tk := upd E.tk t (.tok T k n es), tv := upd E.tv t v } w' := by
  have hg : ∀ j, j ≠ t → (Env.grows { E with tk := upd E.tk t (.tok T k n es), tv := upd E.tv t v } j ↔ E.grows j) := fun j hj => by unfold Env.grows; simp only [upd_ne _ _ hj]
  have hvl : ∀ b, v.ownBlock = some b → b < w'.heap.size := fun b hb => (hv.lt b hb).2
  have himm : ∀ b, E.imm w b → Env.imm { E with tk := upd E.tk t (.tok T k n es), tv := upd E.tv t v } w' b := by
    intro b hb'
    refine ⟨Nat.lt_of_lt_of_le hb'.1 hu.size, hb'.2.1, hb'.2.2.1, fun j hj => ?_⟩
    by_cases hjt : j = t
    · subst hjt
      simp only [upd_same]
      intro hvb
      rcases hb b hvb with ⟨q1, q2⟩ | q
      · exact hb'.2.2.2 j q1 q2
      · have := hb'.1
        omega
    · simp only [upd_ne _ _ hjt]
      exact hb'.2.2.2 j ((hg j hjt).1 hj)
  have hx : Ext E { E with tk := upd E.tk t (.tok T k n es), tv := upd E.tv t v } w w' := by
    refine ext_of_upd h hu (fun b hb => .inr ⟨t, hS b hb⟩) rfl (fun l => locrefl rfl rfl) (fun j => ?_) himm
    by_cases hj : j = t
    · subst hj
      simp only [upd_same]
      rcases hold with e | ⟨T', k', m, es', e, ek, e2⟩
      · exact ⟨fun x => absurd e x, fun x => absurd (e.symm.trans x) (by simp), fun _ _ _ _ x => absurd (e.symm.trans x) (by simp)⟩
      · refine ⟨fun _ => by simp, fun x => absurd (e.symm.trans x) (by simp), fun T1 k1 n1 es1 x T2 k2 n2 es2 y => ?_⟩
        rw [e] at x
        injection x with _ x2 x3 _
        injection y with _ y2 y3 _
        refine ⟨by omega, ?_⟩
        rcases e2 with e2 | ⟨e2, e3⟩
        · exact .inl (by omega)
        · exact .inr ⟨by omega, e3⟩
    · exact tokrefl (upd_ne _ _ hj) (upd_ne _ _ hj)
  refine ⟨hx, fun b hb => Nat.lt_of_lt_of_le (h.nob b hb) hu.size, fun l T' cs e => ?_, fun l hl => ?_, h.inj, fun j T' k' n' es' e => ?_, fun j b hj hjb => ?_⟩
  · obtain ⟨us, a, b⟩ := h.loc l T' cs e
    refine ⟨us, hu.blk a (fun hm => ?_), CRel.ext hx b⟩
    obtain ⟨q1, q2⟩ := hS _ hm
    exact (h.not t _ q1 q2).2.2.1 l ⟨by rw [show E.lh l = _ from e]; simp, by rw [show E.lh l = _ from e]; simp⟩ rfl
  · have := h.nol l hl
    exact ⟨this.1, Nat.lt_of_lt_of_le this.2 hu.size⟩
  · by_cases hj : j = t
    · subst hj
      simp only [upd_same] at e ⊢
      injection e with e1 e2 e3 e4
      subst e1; subst e2; subst e4
      exact ⟨xs, hv, hr _ himm⟩
    · simp only [upd_ne _ _ hj] at e ⊢
      obtain ⟨us, a, b⟩ := h.tok j T' k' n' es' e
      refine ⟨us, own_upd a hu (fun g hg' hm => ?_), Rows.ext hx b⟩
      obtain ⟨q1, q2⟩ := hS _ hm
      exact hj ((h.not t g q1 q2).2.2.2 j ⟨by rw [e]; simp, by rw [e]; simp⟩ hg')
  · by_cases hjt : j = t
    · subst hjt
      simp only [upd_same] at hjb
      rcases hb b hjb with ⟨q1, q2⟩ | q
      · obtain ⟨g1, g2, g3, g4⟩ := h.not j b q1 q2
        refine ⟨g1, hvl b hjb, g3, fun j' hj' hb' => ?_⟩
        by_cases hjj : j' = j
        · exact hjj
        · simp only [upd_ne _ _ hjj] at hb'
          exact g4 j' ((hg j' hjj).1 hj') hb'
      · refine ⟨fun hn => by have := h.nob b hn; omega, hvl b hjb, fun l hl e => by have := (h.nol l hl).2; have e' : E.ρ l = b := e; omega, fun j' hj' hb' => ?_⟩
        by_cases hjj : j' = j
        · exact hjj
        · simp only [upd_ne _ _ hjj] at hb'
          have := (h.not j' b ((hg j' hjj).1 hj') hb').2.1
          omega
    · simp only [upd_ne _ _ hjt] at hjb
      have hj1 := (hg j hjt).1 hj
      obtain ⟨g1, g2, g3, g4⟩ := h.not j b hj1 hjb
      refine ⟨g1, Nat.lt_of_lt_of_le g2 hu.size, g3, fun j' hj' hb' => ?_⟩
      by_cases hjj : j' = t
      · subst hjj
        simp only [upd_same] at hb'
        rcases hb b hb' with ⟨q1, q2⟩ | q
        · exact absurd (g4 j' q1 q2) (fun x => hjt x.symm)
        · omega
      · simp only [upd_ne _ _ hjj] at hb'
        exact g4 j' ((hg j' hjj).1 hj') hb'
/-- A slice of one's own is left as it is. -/
theorem freeze_tok {E : Env} {w : World} (h : HRel E w) {t : Nat} {T : TypeId} {k n : Nat} {es : List (List PV)} (ht : E.tk t = .tok T k n es) :
    Ext E { E with tk := upd E.tk t .dead } w w ∧ HRel { E with tk := upd E.tk t .dead } w ∧ ∀ v, VRel E w (.os t n) v → PRel (Env.imm { E with tk := upd E.tk t .dead } w) w (.sl k es) v := by
  have hgt : E.grows t := ⟨by rw [ht]; simp, by rw [ht]; simp⟩
  have hg : ∀ j, Env.grows { E with tk := upd E.tk t .dead } j → j ≠ t ∧ E.grows j := fun j hj => by
    by_cases hjt : j = t
    · subst hjt
      exact absurd (by simp) hj.2
    · refine ⟨hjt, ?_⟩
      unfold Env.grows at hj ⊢
      simpa only [upd_ne _ _ hjt] using hj
  have himm : ∀ b, E.imm w b → Env.imm { E with tk := upd E.tk t .dead } w b := fun b hb => ⟨hb.1, hb.2.1, hb.2.2.1, fun j hj => hb.2.2.2 j (hg j hj).2⟩
  have hx : Ext E { E with tk := upd E.tk t .dead } w w := by
    refine ext_of_upd h (Upd.refl [] w) (by simp) rfl (fun l => locrefl rfl rfl) (fun j => ?_) himm
    by_cases hj : j = t
    · subst hj
      simp only [upd_same]
      exact ⟨fun _ => by simp, fun _ => trivial, fun _ _ _ _ _ _ _ _ _ x => by cases x⟩
    · exact tokrefl (upd_ne _ _ hj) rfl
  refine ⟨hx, ⟨h.nob, fun l T' cs e => ?_, h.nol, h.inj, fun j T' k' n' es' e => ?_, fun j b hj hjb => ?_⟩, fun v hv => ?_⟩
  · obtain ⟨us, a, b⟩ := h.loc l T' cs e
    exact ⟨us, a, CRel.ext hx b⟩
  · by_cases hj : j = t
    · subst hj
      simp only [upd_same] at e
      cases e
    · simp only [upd_ne _ _ hj] at e
      obtain ⟨us, a, b⟩ := h.tok j T' k' n' es' e
      exact ⟨us, a, Rows.ext hx b⟩
  · obtain ⟨q1, q2⟩ := hg j hj
    obtain ⟨g1, g2, g3, g4⟩ := h.not j b q2 hjb
    exact ⟨g1, g2, g3, fun j' hj' hb' => g4 j' (hg j' hj').2 hb'⟩
  · obtain ⟨xs, ⟨hl, hO⟩, hR⟩ := h.tok t T k n es ht
    have ev : v = E.tv t := (hv.2.2 _ _ _ _ ht).2 rfl
    subst ev
    rcases hO with ⟨e, e0⟩ | ⟨g, cap, cur, e, _, hblk, hcap, _, hcur, htake⟩
    · rw [e]
      have := PRel.sl (P := Env.imm { E with tk := upd E.tk t .dead } w) (w := w) (k := k) (es := es) (a := none) (c := 0) (fun _ _ => undef) (fun i e hi => by have := (List.getElem?_eq_some_iff.1 hi).1; omega) (fun i e j x hi => by have := (List.getElem?_eq_some_iff.1 hi).1; omega) (fun i e j x hi => by have := (List.getElem?_eq_some_iff.1 hi).1; omega) (by omega)
      rwa [e0] at this
    · rw [e]
      have hb : (E.tv t).ownBlock = some g := by rw [e]; rfl
      obtain ⟨g1, g2, g3, g4⟩ := h.not t g hgt hb
      have hgi : Env.imm { E with tk := upd E.tk t .dead } w g := ⟨g2, g1, g3, fun j hj hjb => (hg j hj).1 (g4 j (hg j hj).2 hjb)⟩
      refine PRel.sl (fun i j => xs.getD (i * k + j) undef) (fun i e hi => (hR i e hi).1) (fun i e j x hi hj => ?_) (fun i e j x hi hj => ?_) hcap
      · obtain ⟨v, q1, q2⟩ := (hR i e hi).2 j x hj
        refine ⟨g, 0, rfl, hgi, ?_⟩
        have : w.cell? ⟨g, 0 + (i * k + j), none⟩ = cur[i * k + j]? := by simp [World.cell?, hblk]
        rw [this, List.getD_eq_getElem?_getD, q1]
        rw [← htake, List.getElem?_take] at q1
        split at q1
        · simpa using q1
        · cases q1
      · obtain ⟨v, q1, q2⟩ := (hR i e hi).2 j x hj
        rw [List.getD_eq_getElem?_getD, q1]
        exact PRel.map (fun b o v hb hc => ⟨himm b hb, hc⟩) q2
end Go.Proofs.Ythmpaepdbjldfaa

/-
  States told by trees: operands, types, loads and stores.
-/
namespace Go.Proofs.Ythmpaepdbjldfaa
set_option linter.unusedVariables false
set_option linter.unusedSimpArgs false
open Go.RowKit

/-! ### Types, short -/
inductive TD where
  | int (k : IntKind)
  | bool
  | str
  | slice (e : TypeId)
  | ptr (e : TypeId)
  | struct (fs : List (Nat × TypeId))
  | array (n : Nat) (e : TypeId)
  | map (k e : TypeId)
  | func
  | other
structure TI where
  ok : Bool
  n : Nat
  ag : Bool
  zero : List Value
  bytes : Nat
  d : TD
def tdOf : Option TypeDesc → TD
  | some (.int k) => .int k
  | some .bool => .bool
  | some .string => .str
  | some (.slice e) => .slice e
  | some (.pointer e) => .ptr e
  | some (.struct fs) => .struct (fs.toList.map fun f => (f.offset, f.type))
  | some (.array n e) => .array n e
  | some (.map k e) => .map k e
  | some (.func ..) => .func
  | _ => .other
/-- What the program says of a type. -/
def tyOf (P : Program) (t : TypeId) : TI := ⟨(P.info? t).isSome && ((P.info? t).bind (·.zero)).isSome && (P.underlying t).isSome && ((((P.info? t).bind (·.zero)).map fun v => v.cells.toList).getD []).all (·.oneCell') && ((((P.info? t).bind (·.zero)).map fun v => v.cells.toList).getD []).length == ((P.info? t).map (·.size)).getD 0 && ((match P.underlying t with | some (.struct _) | some (.array _ _) => true | _ => false) || ((P.info? t).map (·.size)).getD 0 == 1), ((P.info? t).map (·.size)).getD 0, (match P.underlying t with | some (.struct _) | some (.array _ _) => true | _ => false),
  (((P.info? t).bind (·.zero)).map fun v => v.cells.toList).getD [], ((P.info? t).map (·.bytes)).getD 0, tdOf (P.underlying t)⟩

/-! ### Operands -/
abbrev one (x : PV) : TX := .a (.one (.c (.p x)))
def constX : Value → TX
  | .agg cs => if cs.toList.all (·.oneCell') then .a (.agg (cs.toList.map fun v => .c (.p (.raw v)))) else .und
  | .tuple _ => .und
  | v => one (.raw v)
def TS.ev (S : TS) : Operand → TX
  | .tmp t => if t < S.sz then S.tm t else .und
  | .const v => constX v
  | .global g => one (.raw (.pointer (some ⟨g, 0, none⟩)))
  | .func f => one (.fn f [])
theorem one_rel {E : Env} {w : World} {v : Value} (h : v.oneCell' = true) : XRel E w (one (.raw v)) v := PRel.raw h
theorem constX_rel (E : Env) (w : World) (v : Value) : XRel E w (constX v) v := by
  cases v with
  | agg cs =>
    show XRel E w (if cs.toList.all (·.oneCell') then .a (.agg (cs.toList.map fun v => .c (.p (.raw v)))) else .und) _
    by_cases h : cs.toList.all (·.oneCell') = true
    · rw [if_pos h]
      refine ⟨cs.toList, by simp, by simp, fun j x hj => ?_⟩
      simp only [List.getElem?_map, Option.map_eq_some_iff] at hj
      obtain ⟨u, hu, rfl⟩ := hj
      rw [List.getD_eq_getElem?_getD, hu]
      exact PRel.raw ((List.all_eq_true.1 h) u (List.mem_of_getElem? hu))
    · rw [if_neg h]
      trivial
  | tuple _ => trivial
  | _ => exact PRel.raw rfl
theorem SRel.ev {E : Env} {w : World} {a : Act} {S : TS} (h : SRel E w a S) (x : Operand) : XRel E w (S.ev x) (a.eval x) := by
  cases x with
  | tmp t =>
    show XRel E w (if t < S.sz then S.tm t else .und) _
    split
    · exact h.2.2.2.2.2 t
    · trivial
  | const v => exact constX_rel E w v
  | global g => exact one_rel rfl
  | func f => exact PRel.fn [] rfl (fun j x hj => by simp at hj)
def TS.put (S : TS) (d : Option Nat) (x : TX) : TS := { S with tm := putT S.tm d x }
/-- Behind an operation that only tells a value. -/
theorem SRel.quiet {E : Env} {w : World} {a : Act} {S : TS} (h : SRel E w a S) {d : Option Nat} (hd : ∀ i, d = some i → i < S.sz) {x : TX} {v : Value} (hv : XRel E w x v) : SRel E w (a.put d v) (S.put d x) :=
  h.put (Ext.refl E w) h.2.2.1 hv h.1 h.2.1 rfl rfl hd
theorem SRel.cell {E : Env} {w : World} {a : Act} {S : TS} (h : SRel E w a S) {x : Operand} {y : TV} (e : S.ev x = .a (.one y)) : VRel E w y (a.eval x) := by
  have := h.ev x
  rw [e] at this
  exact this
theorem SRel.raw {E : Env} {w : World} {a : Act} {S : TS} (h : SRel E w a S) {x : Operand} {v : Value} (e : S.ev x = one (.raw v)) : a.eval x = v := by
  have := h.cell e
  cases this
  rfl
/-- The cells that a value has. -/
def TX.cells : TX → Option (List TV)
  | .a (.one x) => some [x]
  | .a (.agg cs) => some cs
  | _ => none
theorem SRel.cells {E : Env} {w : World} {a : Act} {S : TS} (h : SRel E w a S) {x : Operand} {cs : List TV} (e : (S.ev x).cells = some cs) : CRel E w cs (a.eval x).cells.toList := by
  have hx := h.ev x
  revert e hx
  cases S.ev x with
  | und => intro e; cases e
  | tup _ => intro e; cases e
  | a y =>
    cases y with
    | one y =>
      intro e hx
      injection e with e
      subst e
      have h1 := VRel.one hx
      have : (a.eval x).cells = #[a.eval x] := by cases hv : a.eval x <;> rw [hv] at h1 <;> first | rfl | cases h1
      rw [this]
      refine ⟨rfl, fun j z hj => ?_⟩
      rcases j with _ | j
      · injection hj with hj
        subst hj
        exact hx
      · simp at hj
    | agg cs' =>
      intro e hx
      injection e with e
      subst e
      obtain ⟨vs, e, hc⟩ := hx
      rw [e]
      simpa [Value.cells] using hc
theorem CRel.one {E : Env} {w : World} {cs : List TV} {vs : List Value} (h : CRel E w cs vs) : ∀ v ∈ vs, v.oneCell' = true := by
  intro v hv
  obtain ⟨j, hj, rfl⟩ := List.getElem_of_mem hv
  have hj' : j < cs.length := by rw [← h.1]; exact hj
  have := h.2 j cs[j] (List.getElem?_eq_getElem hj')
  rw [List.getD_eq_getElem?_getD, List.getElem?_eq_getElem hj] at this
  exact VRel.one this
/-! ### Where a pointer leads -/
/-- n cells from there on. -/
def TS.at? (S : TS) (n : Nat) : TX → Option (List TV)
  | .a (.one (.c (.ptr l o))) => match S.lh l with
    | .cells _ cs => if o + n ≤ cs.length then some ((cs.drop o).take n) else none
    | _ => none
  | .a (.one (.c (.p (.ip cs)))) => if n ≤ cs.length then some ((cs.take n).map fun x => .c (.p x)) else none
  | .a (.one (.tp t m i j)) => match S.tk t with
    | .tok _ _ m' es => if m = m' then (match es[i]? with
      | some e => if j + n ≤ e.length then some (((e.drop j).take n).map fun x => .c (.p x)) else none
      | none => none) else none
    | _ => none
  | _ => none
/-- The cells lie there. -/
theorem SRel.at {E : Env} {w : World} {a : Act} {S : TS} (h : SRel E w a S) {x : Operand} {n : Nat} {cs : List TV} (e : S.at? n (S.ev x) = some cs) :
    ∃ b o vs, a.eval x = .pointer (some ⟨b, o, none⟩) ∧ cs.length = n ∧ CRel E w cs vs ∧ ∀ j v, vs[j]? = some v → w.cell? ⟨b, o + j, none⟩ = some v := by
  obtain ⟨hlh, htk, hH, _, _, _⟩ := h
  have hx := SRel.ev ⟨hlh, htk, hH, ‹_›, ‹_›, ‹_›⟩ x
  generalize S.ev x = X at e hx
  match X, e, hx with
  | .a (.one (.c (.ptr l o))), e, hx =>
    simp only [TS.at?] at e
    cases hl : S.lh l with
    | hole => rw [hl] at e; cases e
    | dead => rw [hl] at e; cases e
    | cells T cs0 =>
      rw [hl] at e
      simp only at e
      split at e
      · rename_i hle
        injection e with e
        have hl' : E.lh l = .cells T cs0 := by rw [hlh]; exact hl
        obtain ⟨vs, hB, hc⟩ := hH.loc l T cs0 hl'
        have hv := hx.2.2 ⟨by rw [hl']; simp, by rw [hl']; simp⟩
        refine ⟨E.ρ l, o, (vs.drop o).take n, hv, by rw [← e]; simp; omega, ⟨by rw [← e]; simp [hc.1], fun j y hj => ?_⟩, fun j v hj => ?_⟩
        · rw [← e, List.getElem?_take] at hj
          split at hj
          · rename_i hjn
            rw [List.getElem?_drop] at hj
            have := hc.2 _ _ hj
            rwa [List.getD_eq_getElem?_getD, List.getElem?_take, if_pos hjn, List.getElem?_drop, ← List.getD_eq_getElem?_getD]
          · cases hj
        · rw [List.getElem?_take] at hj
          split at hj
          · rw [List.getElem?_drop] at hj
            exact hB.cell_some hj
          · cases hj
      · cases e
  | .a (.one (.c (.p (.ip cs0)))), e, hx =>
    simp only [TS.at?] at e
    split at e
    · rename_i hle
      injection e with e
      have hx' : PRel (E.imm w) w (.ip cs0) (a.eval x) := hx
      generalize a.eval x = v at hx'
      cases hx' with
      | ip vs h1 h2 =>
        rename_i b o
        refine ⟨b, o, (List.range n).map vs, rfl, by rw [← e]; simp; omega, ⟨by rw [← e]; simp; omega, fun j y hj => ?_⟩, fun j v hj => ?_⟩
        · rw [← e, List.getElem?_map, List.getElem?_take] at hj
          split at hj
          · rename_i hjn
            simp only [Option.map_eq_some_iff] at hj
            obtain ⟨z, hz, rfl⟩ := hj
            have := h2 j z hz
            rw [show ((List.range n).map vs).getD j undef = vs j by simp [List.getD_eq_getElem?_getD, hjn]]
            exact this
          · cases hj
        · have hjn : j < n := by simpa using (List.getElem?_eq_some_iff.1 hj).1
          have e2 : v = vs j := by
            rw [List.getElem?_map, List.getElem?_range hjn] at hj
            simpa using hj.symm
          rw [e2]
          have hjc : j < cs0.length := by omega
          exact (h1 j cs0[j] (List.getElem?_eq_getElem hjc)).2
    · cases e
  | .a (.one (.tp t m i0 j0)), e, hx =>
    simp only [TS.at?] at e
    cases ht : S.tk t with
    | hole => rw [ht] at e; cases e
    | dead => rw [ht] at e; cases e
    | tok T k m' es =>
      rw [ht] at e
      simp only at e
      split at e
      · rename_i hm
        split at e
        · rename_i el hel
          split at e
          · rename_i hle
            injection e with e
            have ht' : E.tk t = .tok T k m' es := by rw [htk]; exact ht
            obtain ⟨xs, hO, hR⟩ := hH.tok t T k m' es ht'
            obtain ⟨b, hb, hv⟩ := (hx.2.2 _ _ _ _ ht').2 hm
            obtain ⟨hk, hRe⟩ := hR i0 el hel
            have hxl : i0 * k + j0 + n ≤ xs.length := by
              rw [hO.1]
              have h1 := (List.getElem?_eq_some_iff.1 hel).1
              have h2 : (i0 + 1) * k ≤ es.length * k := Nat.mul_le_mul_right k h1
              rw [Nat.add_mul] at h2
              omega
            refine ⟨b, i0 * k + j0, (xs.drop (i0 * k + j0)).take n, hv, by rw [← e]; simp; omega, ⟨by rw [← e]; simp; omega, fun j y hj => ?_⟩, fun j v hj => ?_⟩
            · rw [← e, List.getElem?_map, List.getElem?_take] at hj
              split at hj
              · rename_i hjn
                rw [List.getElem?_drop] at hj
                simp only [Option.map_eq_some_iff] at hj
                obtain ⟨z, hz, rfl⟩ := hj
                obtain ⟨v, q1, q2⟩ := hRe _ z hz
                rw [List.getD_eq_getElem?_getD, List.getElem?_take, if_pos hjn, List.getElem?_drop, show i0 * k + j0 + j = i0 * k + (j0 + j) by omega, q1]
                exact q2
              · cases hj
            · rw [List.getElem?_take] at hj
              split at hj
              · rw [List.getElem?_drop] at hj
                have := hO.cells hb (i0 * k + j0 + j) v hj
                rwa [show (⟨b, 0, none⟩ : Addr).add (i0 * k + j0 + j) = ⟨b, i0 * k + j0 + j, none⟩ by unfold Addr.add; split <;> simp_all] at this
              · cases hj
          · cases e
        · cases e
      · cases e
/-! ### Load -/
theorem tyOf_ok {P : Program} {t : TypeId} (h : (tyOf P t).ok = true) : (∃ i z, P.info? t = some i ∧ i.zero = some z ∧ (tyOf P t).n = i.size ∧ (tyOf P t).zero = z.cells.toList ∧ (tyOf P t).bytes = i.bytes ∧ (tyOf P t).zero.all (·.oneCell') = true ∧ (tyOf P t).zero.length = (tyOf P t).n) ∧ (∃ d, P.underlying t = some d ∧ (tyOf P t).d = tdOf (some d)) ∧ ((tyOf P t).ag = false → (tyOf P t).n = 1) := by
  simp only [tyOf, Bool.and_eq_true, Bool.or_eq_true, beq_iff_eq] at h
  obtain ⟨⟨⟨⟨⟨h1, h2⟩, h3⟩, h5⟩, h6⟩, h4⟩ := h
  obtain ⟨i, hi⟩ := Option.isSome_iff_exists.1 h1
  obtain ⟨d, hd⟩ := Option.isSome_iff_exists.1 h3
  rw [hi] at h2
  obtain ⟨z, hz⟩ := Option.isSome_iff_exists.1 h2
  refine ⟨⟨i, z, hi, hz, by simp [tyOf, hi], ?_, by simp [tyOf, hi], h5, h6⟩, ⟨d, hd, by simp [tyOf, hd]⟩, fun hg => ?_⟩
  · simp only [tyOf, hi, Option.bind_some]
    simp only [Option.bind_some] at hz
    rw [hz]
    rfl
  · rcases h4 with h4 | h4
    · simp only [tyOf] at hg
      rw [hg] at h4
      cases h4
    · exact h4
theorem run_load_t {P : Program} {w : World} {t : TypeId} {b o : Nat} {vs : List Value} (hn : vs.length = (tyOf P t).n) (hok : (tyOf P t).ok = true)
    (hc : ∀ j v, vs[j]? = some v → w.cell? ⟨b, o + j, none⟩ = some v) :
    (Instr.loadAt t (.pointer (some ⟨b, o, none⟩))).run P w = .ok (if (tyOf P t).ag then .agg vs.toArray else vs.getD 0 undef) w := by
  obtain ⟨⟨i, z, hi, hz, hsz, _, _, _, _⟩, ⟨d, hd, _⟩, hag⟩ := tyOf_ok hok
  have hadd : ∀ j, (⟨b, o, none⟩ : Addr).add j = ⟨b, o + j, none⟩ := fun j => by unfold Addr.add; split <;> simp_all
  have hl : (loadCells ⟨b, o, none⟩ vs.length).run P w = .ok vs.toArray w := run_loadCells_list (P := P) w ⟨b, o, none⟩ vs (fun j v hv => by rw [hadd]; exact hc j v hv)
  have hia : (isAgg t).run P w = .ok (tyOf P t).ag w := by
    unfold isAgg tyOf
    rw [Sem.run_bind, run_underlying hd]
    simp only [hd]
    cases d <;> rfl
  unfold Instr.loadAt Instr.sureAddr loadVar
  simp only [Sem.run_bind, Sem.run_pure, Result.andThen_ok, hia, Sem.run_ite]
  cases hg : (tyOf P t).ag with
  | true =>
    have hs : (sizeOf t).run P w = .ok i.size w := by simp [sizeOf, typeInfo, hi]
    simp [hs, ← hsz, ← hn, hl]
  | false =>
    have : vs.length = 1 := by rw [hn, hag hg]
    match vs, this with
    | [v], _ =>
      have := hc 0 v rfl
      simp at this
      simp [this]
end Go.Proofs.Ythmpaepdbjldfaa
