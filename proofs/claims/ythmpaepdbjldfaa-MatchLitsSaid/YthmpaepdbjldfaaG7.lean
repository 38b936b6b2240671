/-
  Texts of this claim, merged: TJ, TK. Lemmas and contracts; no conditions of our own.
-/
import Derived.Test.YthmpaepdbjldfaaG6
import Derived.Orders

/-
  States told by trees: regions that draw their order.
-/
namespace Go.Proofs.Ythmpaepdbjldfaa
set_option linter.unusedVariables false
set_option linter.unusedSimpArgs false
open Go.RowKit Go.Shelf

/-- What an operation reads and writes, and what it tells. -/
structure Fp where
  x : TX
  rl : List Nat
  wl : List (Nat × LB)
  rt : List Nat
  wt : List (Nat × TK)
  a : Nat
  b : Nat
def upds {α : Type} (f : Nat → α) : List (Nat × α) → Nat → α
  | [] => f
  | p :: ps => upds (upd f p.1 p.2) ps
theorem upds_other {α : Type} {i : Nat} : ∀ (ps : List (Nat × α)) (f : Nat → α), i ∉ ps.map (·.1) → upds f ps i = f i
  | [], _, _ => rfl
  | p :: ps, f, h => by
    simp only [List.map_cons, List.mem_cons, not_or] at h
    rw [upds, upds_other ps _ h.2, upd_ne _ _ h.1]
theorem upds_in {α : Type} {i : Nat} : ∀ (ps : List (Nat × α)) (f g : Nat → α), i ∈ ps.map (·.1) → upds f ps i = upds g ps i
  | [], _, _, h => by cases h
  | p :: ps, f, g, h => by
    rw [upds, upds]
    by_cases hi : i ∈ ps.map (·.1)
    · exact upds_in ps _ _ hi
    · have e : i = p.1 := by
        simp only [List.map_cons, List.mem_cons] at h
        exact h.resolve_right hi
      rw [upds_other ps _ hi, upds_other ps _ hi, e, upd_same, upd_same]
theorem upds_comm {α : Type} (f : Nat → α) (ps qs : List (Nat × α)) (h : ∀ i, i ∈ ps.map (·.1) → i ∉ qs.map (·.1)) : upds (upds f ps) qs = upds (upds f qs) ps := by
  funext i
  by_cases h1 : i ∈ ps.map (·.1)
  · rw [upds_other qs _ (h i h1), upds_in ps f (upds f qs) h1]
  · by_cases h2 : i ∈ qs.map (·.1)
    · rw [upds_other ps _ h1, upds_in qs (upds f ps) f h2]
    · rw [upds_other qs _ h2, upds_other ps _ h1, upds_other ps _ h1, upds_other qs _ h2]
def Fp.apply (p : Fp) (d : Option Nat) (S : TS) : TS := { S with tm := putT S.tm d p.x, lh := upds S.lh p.wl, tk := upds S.tk p.wt, nl := max S.nl p.a, nt := max S.nt p.b }
/-- The slots that an operation looks at. -/
def looks (ds : List (Option Tmp)) (o : Oper) : List Nat := (o.op.operands.toList.filterMap fun | .tmp t => some t | _ => none) ++ (match o.guard with | some (j, _) => ((ds[j]?).bind id).toList | none => [])
structure Agree (ds : List (Option Tmp)) (o : Oper) (p : Fp) (S S' : TS) : Prop where
  sz : S'.sz = S.sz
  tm : ∀ t, t ∈ looks ds o → S'.tm t = S.tm t
  lh : ∀ l, l ∈ p.rl ∨ l ∈ p.wl.map (·.1) → S'.lh l = S.lh l
  tk : ∀ t, t ∈ p.rt ∨ t ∈ p.wt.map (·.1) → S'.tk t = S.tk t
def StepT (P : Program) (ds : List (Option Tmp)) (o : Oper) (S : TS) (K : TS → Prop) : Prop := match o.guard with
  | none => OpT P o S K
  | some (j, want) => ∃ e b, ds[j]? = some (some e) ∧ e < S.sz ∧ (S.tm e).gv = some b ∧ (b = some want → OpT P o S K) ∧ (b ≠ some want → K (S.put o.dst (.tup [])))
/-- An operation does so, wherever the state is as this one where it looks. -/
def Does (P : Program) (ds : List (Option Tmp)) (o : Oper) (S : TS) (p : Fp) : Prop := DstOk o S ∧ ∀ S', Agree ds o p S S' → ∀ K : TS → Prop, K (p.apply o.dst S') → StepT P ds o S' K
theorem Agree.symm {ds : List (Option Tmp)} {o : Oper} {p : Fp} {S S' : TS} (h : Agree ds o p S S') : Agree ds o p S' S := ⟨h.sz.symm, fun t ht => (h.tm t ht).symm, fun l hl => (h.lh l hl).symm, fun t ht => (h.tk t ht).symm⟩
theorem Agree.trans {ds : List (Option Tmp)} {o : Oper} {p : Fp} {S S' S'' : TS} (h : Agree ds o p S S') (g : Agree ds o p S' S'') : Agree ds o p S S'' := ⟨g.sz.trans h.sz, fun t ht => (g.tm t ht).trans (h.tm t ht), fun l hl => (g.lh l hl).trans (h.lh l hl), fun t ht => (g.tk t ht).trans (h.tk t ht)⟩
theorem Does.agree {P : Program} {ds : List (Option Tmp)} {o : Oper} {p : Fp} {S S' : TS} (h : Does P ds o S p) (g : Agree ds o p S S') : Does P ds o S' p :=
  ⟨fun i hi => by rw [g.sz]; exact h.1 i hi, fun S'' g' => h.2 S'' (g.trans g')⟩
/-- Neither looks at what the other writes. -/
structure Indep (ds : List (Option Tmp)) (o : Oper) (p : Fp) (o' : Oper) (p' : Fp) : Prop where
  d1 : ∀ d, o.dst = some d → d ∉ looks ds o' ∧ o'.dst ≠ some d
  d2 : ∀ d, o'.dst = some d → d ∉ looks ds o
  l1 : ∀ l, l ∈ p.wl.map (·.1) → l ∉ p'.rl ∧ l ∉ p'.wl.map (·.1)
  l2 : ∀ l, l ∈ p'.wl.map (·.1) → l ∉ p.rl
  t1 : ∀ l, l ∈ p.wt.map (·.1) → l ∉ p'.rt ∧ l ∉ p'.wt.map (·.1)
  t2 : ∀ l, l ∈ p'.wt.map (·.1) → l ∉ p.rt
theorem putT_other {f : Nat → TX} {d : Option Nat} {x : TX} {t : Nat} (h : d ≠ some t) : putT f d x t = f t := by
  cases d with
  | none => rfl
  | some d =>
    show upd f d x t = f t
    exact upd_ne _ _ (fun e => h (by rw [e]))
theorem putT_comm {f : Nat → TX} {d e : Option Nat} {x y : TX} (h : ∀ i, d = some i → e ≠ some i) : putT (putT f d x) e y = putT (putT f e y) d x := by
  funext t
  by_cases h1 : d = some t
  · have h2 := h t h1
    rw [putT_other h2, h1]
    show upd f t x t = upd _ t x t
    rw [upd_same, upd_same]
  · rw [putT_other (f := putT f e y) h1]
    by_cases h2 : e = some t
    · rw [h2]
      show upd _ t y t = upd _ t y t
      rw [upd_same, upd_same]
    · rw [putT_other h2, putT_other h1, putT_other h2]
theorem apply_agree {ds : List (Option Tmp)} {o o' : Oper} {p p' : Fp} {S : TS} (h : Indep ds o p o' p') : Agree ds o' p' S (p.apply o.dst S) := by
  refine ⟨rfl, fun t ht => putT_other (fun e => (h.d1 t e).1 ht), fun l hl => upds_other _ _ (fun e => ?_), fun l hl => upds_other _ _ (fun e => ?_)⟩
  · rcases hl with hl | hl
    · exact (h.l1 l e).1 hl
    · exact (h.l1 l e).2 hl
  · rcases hl with hl | hl
    · exact (h.t1 l e).1 hl
    · exact (h.t1 l e).2 hl
theorem Indep.symm {ds : List (Option Tmp)} {o o' : Oper} {p p' : Fp} (h : Indep ds o p o' p') : Indep ds o' p' o p :=
  ⟨fun d hd => ⟨h.d2 d hd, fun e => (h.d1 d e).2 hd⟩, fun d hd => (h.d1 d hd).1, fun l hl => ⟨h.l2 l hl, fun e => (h.l1 l e).2 hl⟩, fun l hl => (h.l1 l hl).1, fun l hl => ⟨h.t2 l hl, fun e => (h.t1 l e).2 hl⟩, fun l hl => (h.t1 l hl).1⟩
theorem apply_comm {ds : List (Option Tmp)} {o o' : Oper} {p p' : Fp} {S : TS} (h : Indep ds o p o' p') : p'.apply o'.dst (p.apply o.dst S) = p.apply o.dst (p'.apply o'.dst S) := by
  unfold Fp.apply
  simp only [TS.mk.injEq]
  exact ⟨putT_comm (fun i hi => (h.d1 i hi).2), upds_comm _ _ _ (fun i hi => (h.l1 i hi).2), upds_comm _ _ _ (fun i hi => (h.t1 i hi).2), by omega, by omega, trivial⟩
def ChainI (P : Program) (ds : List (Option Tmp)) (ops : Array Oper) (fps : List Fp) : List Nat → TS → TS → Prop
  | [], S, S' => S = S'
  | i :: l, S, S' => ∃ o p, ops[i]? = some o ∧ fps[i]? = some p ∧ Does P ds o S p ∧ ChainI P ds ops fps l (p.apply o.dst S) S'
theorem ChainI.bubble {P : Program} {ds : List (Option Tmp)} {ops : Array Oper} {fps : List Fp} {i : Nat} {o : Oper} {p : Fp} (ho : ops[i]? = some o) (hp : fps[i]? = some p) : ∀ (A B : List Nat) (S S' : TS), (∀ j o' p', j ∈ A → ops[j]? = some o' → fps[j]? = some p' → Indep ds o' p' o p) → ChainI P ds ops fps (A ++ i :: B) S S' → ChainI P ds ops fps (i :: (A ++ B)) S S'
  | [], _, _, _, _, h => h
  | j :: A, B, S, S', hi, h => by
    obtain ⟨o', p', e1, e2, hd, hr⟩ := h
    have ih := ChainI.bubble ho hp A B _ S' (fun k o'' p'' hk => hi k o'' p'' (by simp [hk])) hr
    obtain ⟨o2, p2, e3, e4, hd2, hr2⟩ := ih
    rw [ho] at e3
    rw [hp] at e4
    injection e3 with e3
    injection e4 with e4
    subst e3; subst e4
    have hx := hi j o' p' (by simp) e1 e2
    refine ⟨o, p, ho, hp, hd2.agree (apply_agree hx).symm, o', p', e1, e2, hd.agree (apply_agree hx.symm), ?_⟩
    rw [← apply_comm hx]
    exact hr2
/-- The operations that must lie ahead of one. -/
def ancOk (ops : Array Oper) (anc : List (List Nat)) : Bool :=
  (List.range ops.size).all fun i => match ops[i]? with
    | none => false
    | some o => (o.after.toList.all fun e => !Region.binds .any e || decide (e.on < i)) && (anc.getD i []).all fun j => o.after.toList.any fun e => Region.binds .any e && (e.on == j || (anc.getD e.on []).contains j)
def PairsOk (ds : List (Option Tmp)) (ops : Array Oper) (fps : List Fp) (anc : List (List Nat)) : Prop :=
  ∀ i j o p o' p', j < i → ops[i]? = some o → fps[i]? = some p → ops[j]? = some o' → fps[j]? = some p' → j ∈ anc.getD i [] ∨ Indep ds o' p' o p
theorem ready_iff {ops : Array Oper} {listed : Array Bool} {i : Nat} (hs : listed.size = ops.size) : i ∈ Region.ready .any ops listed ↔ i < ops.size ∧ listed.getD i true = false ∧ ∃ o, ops[i]? = some o ∧ ∀ e ∈ o.after.toList, Region.binds .any e = true → listed.getD e.on false = true := by
  unfold Region.ready
  simp only [List.mem_filter, List.mem_range, Bool.and_eq_true, Bool.not_eq_true']
  constructor
  · rintro ⟨h1, h2, h3⟩
    refine ⟨h1, h2, ops[i], by simp [h1], fun e he hb => ?_⟩
    simp only [Array.getElem?_eq_getElem h1, Option.map_some, Option.getD_some] at h3
    have := (Array.all_eq_true_iff_forall_mem.1 h3) e (by simpa using he)
    simpa [hb] using this
  · rintro ⟨h1, h2, o, ho, h3⟩
    refine ⟨h1, h2, ?_⟩
    rw [ho]
    simp only [Option.map_some, Option.getD_some]
    refine Array.all_eq_true_iff_forall_mem.2 fun e he => ?_
    by_cases hb : Region.binds .any e = true
    · simp [h3 e (by simpa using he) hb]
    · simp [hb]
def rest (n : Nat) (listed : Array Bool) : List Nat := (List.range n).filter fun i => !listed.getD i true
theorem rest_set {n : Nat} {listed : Array Bool} {i : Nat} (hs : listed.size = n) (hi : i < n) (A B : List Nat) (h : rest n listed = A ++ i :: B) : rest n (listed.setIfInBounds i true) = A ++ B := by
  have e : ∀ j, j < n → (!(listed.setIfInBounds i true).getD j true) = (!listed.getD j true && decide (j ≠ i)) := by
    intro j hj
    rw [Array.getD_eq_getD_getElem?, Array.getD_eq_getD_getElem?, Array.getElem?_setIfInBounds]
    by_cases hij : i = j
    · subst hij
      simp [hs, hi]
    · rw [if_neg hij]
      simp [show j ≠ i from fun e => hij e.symm]
  have e2 : rest n (listed.setIfInBounds i true) = (rest n listed).filter fun j => decide (j ≠ i) := by
    unfold rest
    rw [List.filter_filter]
    apply List.filter_congr
    intro j hj
    rw [e j (by simpa using hj), Bool.and_comm]
  have hnd : (A ++ i :: B).Nodup := by
    rw [← h]
    exact List.Pairwise.filter _ List.nodup_range
  rw [e2, h, List.filter_append, List.filter_cons]
  simp only [ne_eq, not_true_eq_false, decide_false, Bool.false_eq_true, if_false]
  have hA : ∀ j ∈ A, j ≠ i := fun j hj e => by
    subst e
    exact (List.nodup_append.1 hnd).2.2 j hj j (by simp) rfl
  have hB : ∀ j ∈ B, j ≠ i := fun j hj e => by
    subst e
    exact (List.nodup_cons.1 (List.nodup_append.1 hnd).2.1).1 hj
  rw [List.filter_eq_self.2 (fun j hj => by simpa using hA j hj), List.filter_eq_self.2 (fun j hj => by simpa using hB j hj)]
theorem any_order {P : Program} {ds : List (Option Tmp)} {ops : Array Oper} {fps : List Fp} {anc : List (List Nat)} (hds : ops.toList.map (·.dst) = ds) (ha : ancOk ops anc = true) (hpo : PairsOk ds ops fps anc) {Sn : TS} {Q : Exit → Act → World → Prop} : ∀ (fuel : Nat) (listed : Array Bool) (E : Env) (w : World) (a : Act) (S : TS), listed.size = ops.size → (rest ops.size listed).length = fuel →
    (∀ i, i < ops.size → listed.getD i true = true → ∀ j ∈ anc.getD i [], listed.getD j false = true) → SRel E w a S → ChainI P ds ops fps (rest ops.size listed) S Sn →
    (∀ E' w' a', SRel E' w' a' Sn → Ext E E' w w' → Q .normal a' w') → wpAny P .any ops Q fuel listed a w := by
  intro fuel
  have hanc : ∀ i o, ops[i]? = some o → (∀ e ∈ o.after.toList, Region.binds .any e = true → e.on < i) ∧ ∀ j ∈ anc.getD i [], ∃ e ∈ o.after.toList, Region.binds .any e = true ∧ (e.on = j ∨ j ∈ anc.getD e.on []) := by
    intro i o ho
    have hi := (Array.getElem?_eq_some_iff.1 ho).1
    have := (List.all_eq_true.1 ha) i (by simpa using hi)
    rw [ho] at this
    simp only [Bool.and_eq_true] at this
    refine ⟨fun e he hb => ?_, fun j hj => ?_⟩
    · have := (List.all_eq_true.1 this.1) e he
      simpa [hb] using this
    · have := (List.all_eq_true.1 this.2) j hj
      obtain ⟨e, he, h2⟩ := List.any_eq_true.1 this
      simp only [Bool.and_eq_true, Bool.or_eq_true, beq_iff_eq] at h2
      refine ⟨e, he, h2.1, h2.2.imp id (fun q => by simpa using q)⟩
  have mem_rest : ∀ (listed : Array Bool) i, i ∈ rest ops.size listed ↔ i < ops.size ∧ listed.getD i true = false := fun listed i => by
    unfold rest
    simp
  induction fuel with
  | zero =>
    intro listed E w a S hsz hf hcl hs hch hQ
    have hnil : rest ops.size listed = [] := List.eq_nil_of_length_eq_zero hf
    refine ⟨?_, ?_⟩
    · rw [List.eq_nil_iff_forall_not_mem]
      intro i hi
      obtain ⟨h1, h2, _⟩ := (ready_iff hsz).1 hi
      have := (mem_rest listed i).2 ⟨h1, h2⟩
      rw [hnil] at this
      cases this
    · rw [hnil] at hch
      have : S = Sn := hch
      subst this
      exact hQ E w a hs (Ext.refl E w)
  | succ fuel ih =>
    intro listed E w a S hsz hf hcl hs hch hQ
    refine ⟨fun hr => ?_, fun i hi => ?_⟩
    · exfalso
      cases hrest : rest ops.size listed with
      | nil => rw [hrest] at hf; cases hf
      | cons i0 R =>
        have hm := (mem_rest listed i0).1 (by rw [hrest]; simp)
        have hmin : ∀ j, j < i0 → listed.getD j true = true := by
          intro j hj
          cases hb : listed.getD j true with
          | true => rfl
          | false =>
            exfalso
            have hjm := (mem_rest listed j).2 ⟨by omega, hb⟩
            rw [hrest] at hjm
            have hsorted : (rest ops.size listed).Pairwise (· < ·) := List.Pairwise.filter _ List.pairwise_lt_range
            rw [hrest] at hsorted
            rcases List.mem_cons.1 hjm with e | e
            · omega
            · have := (List.pairwise_cons.1 hsorted).1 j e
              omega
        have : i0 ∈ Region.ready .any ops listed := (ready_iff hsz).2 ⟨hm.1, hm.2, ops[i0]'hm.1, by simp [hm.1], fun e he hb => by
          have hlt := (hanc i0 _ (by simp [hm.1])).1 e he hb
          have := hmin e.on hlt
          rw [Array.getD_eq_getD_getElem?] at this ⊢
          have hin : e.on < listed.size := by rw [hsz]; omega
          rw [Array.getElem?_eq_getElem hin] at this ⊢
          simpa using this⟩
        rw [hr] at this
        cases this
    · obtain ⟨h1, h2, o, ho, h3⟩ := (ready_iff hsz).1 hi
      have hmem := (mem_rest listed i).2 ⟨h1, h2⟩
      obtain ⟨A, B, hAB⟩ := List.append_of_mem hmem
      have hlistedD : ∀ j, listed.getD j false = true → j < ops.size ∧ listed.getD j true = true := fun j hj => by
        rw [Array.getD_eq_getD_getElem?] at hj ⊢
        rcases Nat.lt_or_ge j listed.size with q | q
        · rw [Array.getElem?_eq_getElem q] at hj ⊢
          exact ⟨by omega, by simpa using hj⟩
        · rw [Array.getElem?_eq_none q] at hj
          cases hj
      -- what must lie ahead is listed
      have hlisted : ∀ j ∈ anc.getD i [], listed.getD j false = true := by
        intro j hj
        obtain ⟨e, he, hb, hj2⟩ := (hanc i o ho).2 j hj
        have := h3 e he hb
        rcases hj2 with rfl | hj2
        · exact this
        · obtain ⟨g1, g2⟩ := hlistedD _ this
          exact hcl e.on g1 g2 j hj2
      have hfp : ∃ p, fps[i]? = some p := by
        have : ∀ (l : List Nat) S S', ChainI P ds ops fps l S S' → ∀ k ∈ l, ∃ p, fps[k]? = some p := by
          intro l
          induction l with
          | nil => intro _ _ _ k hk; cases hk
          | cons x l ihl =>
            intro S S' h k hk
            obtain ⟨o, p, _, e2, _, hr⟩ := h
            rcases List.mem_cons.1 hk with rfl | hk
            · exact ⟨p, e2⟩
            · exact ihl _ _ hr k hk
        exact this _ _ _ hch i hmem
      obtain ⟨p, hp⟩ := hfp
      have hsorted : (rest ops.size listed).Pairwise (· < ·) := List.Pairwise.filter _ List.pairwise_lt_range
      rw [hAB] at hsorted
      have hb := ChainI.bubble ho hp A B S Sn (fun j o' p' hj e1 e2 => by
        have hlt : j < i := (List.pairwise_append.1 hsorted).2.2 j hj i (by simp)
        rcases hpo i j o p o' p' hlt ho hp e1 e2 with q | q
        · have q1 := hlisted j q
          have q2 := (mem_rest listed j).1 (by rw [hAB]; simp [hj])
          have := (hlistedD j q1).2
          rw [q2.2] at this
          cases this
        · exact q) (by rw [← hAB]; exact hch)
      obtain ⟨o2, p2, e3, e4, hd, hr⟩ := hb
      rw [ho] at e3
      rw [hp] at e4
      injection e3 with e3
      injection e4 with e4
      subst e3; subst e4
      have hrs := rest_set hsz h1 A B hAB
      have next : ∀ E' w' a' S', SRel E' w' a' S' → Ext E E' w w' → S' = p.apply o.dst S → wpAny P .any ops Q fuel (listed.setIfInBounds i true) a' w' := by
        intro E' w' a' S' hs' hx e
        subst e
        refine ih _ E' w' a' _ (by simpa using hsz) (by rw [hrs]; rw [hAB] at hf; simp at hf ⊢; omega) (fun k hk hkl j hj => ?_) hs' (by rw [hrs]; exact hr) (fun E'' w'' a'' q1 q2 => hQ E'' w'' a'' q1 (hx.trans q2))
        have hset : ∀ j, listed.getD j false = true → (listed.setIfInBounds i true).getD j false = true := fun j hj => by
          rw [Array.getD_eq_getD_getElem?] at hj ⊢
          rw [Array.getElem?_setIfInBounds]
          by_cases hij : i = j
          · subst hij
            simp [hsz, h1]
          · rw [if_neg hij]
            exact hj
        by_cases hki : k = i
        · subst hki
          exact hset j (hlisted j hj)
        · refine hset j (hcl k hk ?_ j hj)
          rw [Array.getD_eq_getD_getElem?, Array.getElem?_setIfInBounds, if_neg (fun e => hki e.symm)] at hkl
          rwa [Array.getD_eq_getD_getElem?]
      have hst := hd.2 S ⟨rfl, fun _ _ => rfl, fun _ _ => rfl, fun _ _ => rfl⟩ (fun S' => S' = p.apply o.dst S) rfl
      unfold wpOp
      rw [ho]
      simp only
      unfold StepT at hst
      split at hst
      · rename_i hg
        have hw : Region.wanted o (yielded ops a.tmps) = true := by unfold Region.wanted; rw [hg]
        rw [if_pos hw]
        exact .inl (hst E w a hs _ Q next)
      · rename_i j want hg
        obtain ⟨e, b, hj, hlt, htm, g1, g2⟩ := hst
        have hy : yielded ops a.tmps j = b := by
          refine yield_gv hs (d := e) ?_ hlt htm
          rw [← hds, List.getElem?_map] at hj
          simp only [Option.map_eq_some_iff] at hj
          obtain ⟨o', ho', q⟩ := hj
          rw [Array.getElem?_toList] at ho'
          rw [ho']
          exact q
        by_cases hbw : b = some want
        · have hw : Region.wanted o (yielded ops a.tmps) = true := by unfold Region.wanted; rw [hg]; simp [hy, hbw]
          rw [if_pos hw]
          exact .inl (g1 hbw E w a hs _ Q next)
        · have hw : ¬ Region.wanted o (yielded ops a.tmps) = true := by unfold Region.wanted; rw [hg]; simp [hy, hbw]
          rw [if_neg hw]
          exact next E w _ _ (hs.quiet hd.1 (x := .tup []) undone) (Ext.refl E w) (g2 hbw)
/-- A region that draws its order: told in the order of the text. -/
theorem CodeT.any {P : Program} {B : Base} {S Sn : TS} {K : Exit → TS → Prop} {i : Nat} {l : List Oper} {fps : List Fp} {anc : List (List Nat)} (hm : P.follows .mixedOrders = true) (ds : List (Option Tmp)) (hds : l.map (·.dst) = ds) (ha : ancOk l.toArray anc = true) (hpo : PairsOk ds l.toArray fps anc) (hch : ChainI P ds l.toArray fps (List.range l.length) S Sn) (hk : K .normal Sn) : CodeT P B (.region i l.toArray true) S K := by
  intro E0 w0 h1 h2 E w a hx hs
  obtain ⟨hs1, hx1⟩ := hs.drew
  refine wp_region_any hm ?_
  have hr0 : rest l.toArray.size (Array.replicate l.toArray.size false) = List.range l.length := by
    unfold rest
    rw [List.filter_eq_self.2]
    · simp
    · intro j hj
      have : j < l.length := by simpa using hj
      simp [Array.getD_eq_getD_getElem?, Array.getElem?_replicate, this]
  refine any_order (by simpa using hds) ha hpo (Sn := Sn) _ _ E _ a S (by simp) (by rw [hr0]; simp) (fun k hk hkl => ?_) hs1 (by rw [hr0]; exact hch) (fun E' w' a' q1 q2 => ⟨E', Sn, q1, (hx.trans hx1).trans q2, hk⟩)
  have : k < l.length := by simpa using hk
  simp [Array.getD_eq_getD_getElem?, Array.getElem?_replicate, this] at hkl
end Go.Proofs.Ythmpaepdbjldfaa

/-
  States told by trees: the operations of a region that draws its order, one by one.
-/
namespace Go.Proofs.Ythmpaepdbjldfaa
set_option linter.unusedVariables false
set_option linter.unusedSimpArgs false
open Go.RowKit Go.Shelf

def TX.lids : TX → List Nat
  | .a (.one (.c (.ptr l _))) => [l]
  | _ => []
def TX.toks : TX → List Nat
  | .a (.one (.os t _)) => [t]
  | .a (.one (.tp t _ _ _)) => [t]
  | _ => []
def lidsOf (S : TS) (op : Op) : List Nat := op.operands.toList.flatMap fun x => (S.ev x).lids
def toksOf (S : TS) (op : Op) : List Nat := op.operands.toList.flatMap fun x => (S.ev x).toks
section
variable {S S' : TS}
theorem at?_congr {n : Nat} {X : TX} (h1 : ∀ l ∈ X.lids, S'.lh l = S.lh l) (h2 : ∀ t ∈ X.toks, S'.tk t = S.tk t) : S'.at? n X = S.at? n X := by
  match X with
  | .a (.one (.c (.ptr l o))) => simp only [TS.at?, h1 l (by simp [TX.lids])]
  | .a (.one (.tp t m i j)) => simp only [TS.at?, h2 t (by simp [TX.toks])]
  | .a (.one (.c (.p x))) => cases x <;> rfl
  | .a (.one (.c (.mp l))) => rfl
  | .a (.one (.os t m)) => rfl
  | .a (.one (.fn f c)) => rfl
  | .a (.agg cs) => rfl
  | .und => rfl
  | .tup xs => rfl
theorem off_congr {n : Nat} {X : TX} (h1 : ∀ l ∈ X.lids, S'.lh l = S.lh l) (h2 : ∀ t ∈ X.toks, S'.tk t = S.tk t) : S'.off n X = S.off n X := by
  match X with
  | .a (.one (.c (.ptr l o))) => simp only [TS.off, h1 l (by simp [TX.lids])]
  | .a (.one (.tp t m i j)) => simp only [TS.off, h2 t (by simp [TX.toks])]
  | .a (.one (.c (.p x))) => cases x <;> rfl
  | .a (.one (.c (.mp l))) => rfl
  | .a (.one (.os t m)) => rfl
  | .a (.one (.fn f c)) => rfl
  | .a (.agg cs) => rfl
  | .und => rfl
  | .tup xs => rfl
theorem len_congr {X : TX} (h2 : ∀ t ∈ X.toks, S'.tk t = S.tk t) : S'.len? X = S.len? X := by
  match X with
  | .a (.one (.os t m)) => simp only [TS.len?, h2 t (by simp [TX.toks])]
  | .a (.one (.c (.p x))) => cases x <;> rfl
  | .a (.one (.c (.ptr l o))) => rfl
  | .a (.one (.c (.mp l))) => rfl
  | .a (.one (.tp t m i j)) => rfl
  | .a (.one (.fn f c)) => rfl
  | .a (.agg cs) => rfl
  | .und => rfl
  | .tup xs => rfl
theorem els_congr {X : TX} (h2 : ∀ t ∈ X.toks, S'.tk t = S.tk t) : S'.els X = S.els X := by
  match X with
  | .a (.one (.os t m)) => simp only [TS.els, h2 t (by simp [TX.toks])]
  | .a (.one (.c (.p x))) => cases x <;> simp only [TS.els]
  | .a (.one (.c (.ptr l o))) => rfl
  | .a (.one (.c (.mp l))) => rfl
  | .a (.one (.tp t m i j)) => rfl
  | .a (.one (.fn f c)) => rfl
  | .a (.agg cs) => rfl
  | .und => rfl
  | .tup xs => rfl
end
theorem ev_agree {ds : List (Option Tmp)} {o : Oper} {p : Fp} {S S' : TS} (h : Agree ds o p S S') {x : Operand} (hx : x ∈ o.op.operands) : S'.ev x = S.ev x := by
  cases x with
  | tmp t =>
    show (if t < S'.sz then S'.tm t else .und) = if t < S.sz then S.tm t else .und
    rw [h.sz, h.tm t]
    unfold looks
    exact List.mem_append_left _ (List.mem_filterMap.2 ⟨.tmp t, by simpa using hx, rfl⟩)
  | _ => rfl
theorem lid_agree {ds : List (Option Tmp)} {o : Oper} {p : Fp} {S S' : TS} (h : Agree ds o p S S') (hl : p.rl = lidsOf S o.op) {x : Operand} (hx : x ∈ o.op.operands) : ∀ l ∈ (S.ev x).lids, S'.lh l = S.lh l := fun l hl' => h.lh l (.inl (by rw [hl]; exact List.mem_flatMap.2 ⟨x, by simpa using hx, hl'⟩))
theorem tok_agree {ds : List (Option Tmp)} {o : Oper} {p : Fp} {S S' : TS} (h : Agree ds o p S S') (hl : p.rt = toksOf S o.op) {x : Operand} (hx : x ∈ o.op.operands) : ∀ t ∈ (S.ev x).toks, S'.tk t = S.tk t := fun l hl' => h.tk l (.inl (by rw [hl]; exact List.mem_flatMap.2 ⟨x, by simpa using hx, hl'⟩))
theorem qv_congr {P : Program} {ds : List (Option Tmp)} {o : Oper} {p : Fp} {S S' : TS} (h : Agree ds o p S S') (hl : p.rl = lidsOf S o.op) (ht : p.rt = toksOf S o.op) : qv P S' o.op = qv P S o.op := by
  have e := fun x hx => ev_agree h (x := x) hx
  have l := fun x hx => lid_agree h hl (x := x) hx
  have t := fun x hx => tok_agree h ht (x := x) hx
  obtain ⟨d, op, ty, pos, after, g⟩ := o
  cases op with
  | move x => simp only [qv, e x (by simp [Op.operands])]
  | assign x => simp only [qv, e x (by simp [Op.operands])]
  | load u x => simp only [qv, e x (by simp [Op.operands]), at?_congr (l x (by simp [Op.operands])) (t x (by simp [Op.operands]))]
  | unOp op u x => cases op <;> simp only [qv, e x (by simp [Op.operands])]
  | binOp op u x y v => simp only [qv, e x (by simp [Op.operands]), e y (by simp [Op.operands])]
  | convert a b x => simp only [qv, e x (by simp [Op.operands])]
  | fieldAddr s x f =>
    have := fun n => off_congr (n := n) (l x (by simp [Op.operands])) (t x (by simp [Op.operands]))
    simp only [qv, e x (by simp [Op.operands]), this]
  | field s x f => simp only [qv, e x (by simp [Op.operands])]
  | indexAddr u x i =>
    have e1 := e x (by simp [Op.operands])
    have h1 := fun n => off_congr (n := n) (l x (by simp [Op.operands])) (t x (by simp [Op.operands]))
    have h2 := t x (by simp [Op.operands])
    simp only [qv, e1, e i (by simp [Op.operands]), h1]
    generalize S.ev x = X at *
    match X with
    | .a (.one (.os t m)) => simp only [h2 t (by simp [TX.toks])]
    | .a (.one (.c (.p x))) => cases x <;> simp only []
    | .a (.one (.c (.ptr l o))) => rfl
    | .a (.one (.c (.mp l))) => rfl
    | .a (.one (.tp t m i j)) => rfl
    | .a (.one (.fn f c)) => rfl
    | .a (.agg cs) => rfl
    | .und => rfl
    | .tup xs => rfl
  | index u x i => simp only [qv, e x (by simp [Op.operands]), e i (by simp [Op.operands])]
  | extract x i => simp only [qv, e x (by simp [Op.operands])]
  | slice u x lo hi mx =>
    have ho : ∀ z : Option Operand, (∀ y, z = some y → y ∈ (Op.slice u x lo hi mx).operands) → optI S' z = optI S z := fun z hz => by
      cases z with
      | none => rfl
      | some y => simp only [optI, e y (hz y rfl)]
    simp only [qv, e x (by simp [Op.operands]), ho lo (fun y hy => by simp [Op.operands, hy]), ho hi (fun y hy => by simp [Op.operands, hy]), ho mx (fun y hy => by simp [Op.operands, hy])]
  | nilCheck x => simp only [qv, e x (by simp [Op.operands]), off_congr (l x (by simp [Op.operands])) (t x (by simp [Op.operands]))]
  | call c =>
    obtain ⟨callee, args, ats⟩ := c
    simp only [qv, lenV]
    have ha : ∀ x ∈ args.toList, x ∈ (Op.call ⟨callee, args, ats⟩).operands := fun x hx => by simp [Op.operands, Call.operands]; exact .inr (by simpa using hx)
    generalize hal : args.toList = al at ha
    generalize ats.toList = atl
    cases callee with
    | builtin b =>
      cases b with
      | len =>
        match al, atl with
        | [x], [u] => simp only [e x (ha x (by simp)), len_congr (t x (ha x (by simp)))]
        | [], _ => rfl
        | [_], [] => rfl
        | [_], _ :: _ :: _ => rfl
        | _ :: _ :: _, _ => rfl
      | _ => rfl
    | _ => rfl
  | _ => rfl
section
variable {P : Program} {ds : List (Option Tmp)} {d : Tmp} {ty : TypeId} {pos : String} {after : Array Edge} {S : TS}
theorem D.quiet {op : Op} (hd : d < S.sz) {X : TX} {pre : Prop} (he : qv P S op = some (X, pre)) (hp : pre) {rl rt : List Nat} (hl : lidsOf S op = rl) (ht : toksOf S op = rt) : Does P ds ⟨some d, op, ty, pos, after, none⟩ S ⟨X, rl, [], rt, [], 0, 0⟩ := by
  refine ⟨dst_ok hd, fun S' h K hk => ?_⟩
  subst hl; subst ht
  exact OpT.quiet (o := ⟨some d, op, ty, pos, after, none⟩) (dst_ok (by rw [h.sz]; exact hd)) (by rw [← he]; exact qv_congr h rfl rfl) hp (by simpa [Fp.apply, upds, TS.put] using hk)
theorem D.box {t : TypeId} {x : Operand} (hd : d < S.sz) {cs : List TV} (hc : (S.ev x).cells = some cs) {n : Nat} (hl : S.lh n = .hole) {rl rt : List Nat} (hrl : lidsOf S (.box t x) = rl) (hrt : toksOf S (.box t x) = rt) : Does P ds ⟨some d, .box t x, ty, pos, after, none⟩ S ⟨.a (.one (.c (.ptr n 0))), rl, [(n, .cells t cs)], rt, [], n + 1, 0⟩ := by
  refine ⟨dst_ok hd, fun S' h K hk => ?_⟩
  have hl' : S'.lh n = .hole := by rw [h.lh n (.inr (by simp))]; exact hl
  have he : (S'.ev x).cells = some cs := by rw [ev_agree h (x := x) (by simp [Op.operands])]; exact hc
  intro E w a hs next Q hn
  obtain ⟨hx, hH⟩ := new_local hs.2.2.1 (l := n) (by rw [hs.1]; exact hl') (T := t) (hs.cells he)
  unfold Oper.wp execOp
  have e : (Instr.box t (a.eval x)).run P w = .ok (.pointer (some ⟨w.heap.size, 0, none⟩)) (w.alloc (.cells (a.eval x).cells.toList.toArray t)) := by
    simp [Instr.box, newVar, newRow]
  simp only [Sem.run_bind, e, Result.andThen_ok, Sem.run_pure, Oper.upon_value]
  refine hn _ _ _ (Fp.apply _ _ S') ?_ hx hk
  refine hs.put hx hH (x := .a (.one (.c (.ptr n 0)))) ⟨rfl, by simp, fun _ => by simp⟩ ?_ hs.2.1 rfl rfl (dst_ok (by rw [h.sz]; exact hd))
  show upd E.lh n _ = upds S'.lh [(n, _)]
  rw [hs.1]
  rfl
theorem D.alloc {t : TypeId} (hd : d < S.sz) (hok : (tyOf P t).ok = true) {n : Nat} (hl : S.lh n = .hole) : Does P ds ⟨some d, .alloc t, ty, pos, after, none⟩ S ⟨.a (.one (.c (.ptr n 0))), [], [(n, .cells t ((tyOf P t).zero.map fun v => .c (.p (.raw v))))], [], [], n + 1, 0⟩ := by
  refine ⟨dst_ok hd, fun S' h K hk => ?_⟩
  have hl' : S'.lh n = .hole := by rw [h.lh n (.inr (by simp))]; exact hl
  intro E w a hs next Q hn
  obtain ⟨⟨i, z, hi, hz, hsz, hzz, _, hone, _⟩, _⟩ := tyOf_ok hok
  obtain ⟨hx, hH⟩ := new_local hs.2.2.1 (l := n) (by rw [hs.1]; exact hl') (T := t) (cs := (tyOf P t).zero.map fun v => .c (.p (.raw v))) (vs := (tyOf P t).zero) ⟨by simp, fun j x hj => by
    simp only [List.getElem?_map, Option.map_eq_some_iff] at hj
    obtain ⟨u, hu, rfl⟩ := hj
    rw [List.getD_eq_getElem?_getD, hu]
    exact PRel.raw ((List.all_eq_true.1 hone) u (List.mem_of_getElem? hu))⟩
  unfold Oper.wp execOp
  have e : (Instr.alloc t true (.tuple #[])).run P w = .ok (.pointer (some ⟨w.heap.size, 0, none⟩)) (w.alloc (.cells (tyOf P t).zero.toArray t)) := by
    simp [Instr.alloc, zeroValue, typeInfo, hi, hz, newVar, newRow, hzz]
  simp only [Sem.run_bind, e, Result.andThen_ok, Sem.run_pure, Oper.upon_value]
  refine hn _ _ _ (Fp.apply _ _ S') ?_ hx hk
  refine hs.put hx hH (x := .a (.one (.c (.ptr n 0)))) ⟨rfl, by simp, fun _ => by simp⟩ ?_ hs.2.1 rfl rfl (dst_ok (by rw [h.sz]; exact hd))
  show upd E.lh n _ = upds S'.lh [(n, _)]
  rw [hs.1]
  rfl
theorem D.store {t : TypeId} {x y : Operand} (hok : (tyOf P t).ok = true) {p off : Nat} (hx : S.ev x = .a (.one (.c (.ptr p off)))) {T : TypeId} {cs us : List TV} (hl : S.lh p = .cells T cs) (hc : (S.ev y).cells = some us) (hn : us.length = (tyOf P t).n) (hle : off + us.length ≤ cs.length) {rl rt : List Nat} (hrl : lidsOf S (.store t x y) = rl) (hrt : toksOf S (.store t x y) = rt) :
    Does P ds ⟨none, .store t x y, ty, pos, after, none⟩ S ⟨.und, rl, [(p, .cells T (overT cs off us))], rt, [], 0, 0⟩ := by
  refine ⟨dst_ok0, fun S' h K hk => ?_⟩
  have e1 := ev_agree h (x := x) (by simp [Op.operands])
  have e2 := ev_agree h (x := y) (by simp [Op.operands])
  exact OpT.store (o := ⟨none, .store t x y, ty, pos, after, none⟩) dst_ok0 rfl hok (by rw [e1]; exact hx) (by rw [h.lh p (.inr (by simp))]; exact hl) (by rw [e2]; exact hc) hn hle (by simpa [Fp.apply, upds, TS.setL, putT] using hk)
theorem D.append {s x : Operand} {t el : TypeId} (hd : d < S.sz) (ht : (tyOf P t).d = .slice el) (hok : (tyOf P el).ok = true) (hnz : (tyOf P el).n ≠ 0) (hby : (tyOf P el).bytes ≤ 1000) {τ m k : Nat} {es ys : List (List PV)} (hs : S.ev s = .a (.one (.os τ m))) (hτ : S.tk τ = .tok el k m es) (hk : k = (tyOf P el).n)
    (hx : S.els (S.ev x) = some (k, ys)) (hn : es.length + ys.length ≤ 100000000) {rl rt : List Nat} (hrl : lidsOf S (.call ⟨.builtin .append, #[s, x], #[t, t]⟩) = rl) (hrt : toksOf S (.call ⟨.builtin .append, #[s, x], #[t, t]⟩) = rt) :
    Does P ds ⟨some d, .call ⟨.builtin .append, #[s, x], #[t, t]⟩, ty, pos, after, none⟩ S ⟨.a (.one (.os τ (m + 1))), rl, [], rt, [(τ, .tok el k (m + 1) (es ++ ys))], 0, 0⟩ := by
  refine ⟨dst_ok hd, fun S' h K hk' => ?_⟩
  have e1 := ev_agree h (x := s) (by simp [Op.operands, Call.operands])
  have e2 := ev_agree h (x := x) (by simp [Op.operands, Call.operands])
  have e3 := els_congr (S := S) (S' := S') (X := S.ev x) (tok_agree h hrt.symm (x := x) (by simp [Op.operands, Call.operands]))
  exact OpT.append (o := ⟨some d, .call ⟨.builtin .append, #[s, x], #[t, t]⟩, ty, pos, after, none⟩) (dst_ok (by rw [h.sz]; exact hd)) rfl ht hok hnz hby (by rw [e1]; exact hs) (by rw [h.tk τ (.inr (by simp))]; exact hτ) hk (by rw [e2, e3]; exact hx) hn (by simpa [Fp.apply, upds, TS.setT] using hk')
theorem D.listed {t el : TypeId} {n : Nat} {parts : List (Nat × Operand)} (hd : d < S.sz) (ht : (tyOf P t).d = .slice el) (hok : (tyOf P el).ok = true) (hnz : (tyOf P el).n ≠ 0) {es : List (List PV)} (hp : partsT S (tyOf P el).n parts = some es)
    (hix : parts.map (·.1) = List.range n) (hn : n ≤ 10000) (hn0 : 0 < n) (hsm : (tyOf P el).n ≤ 1000) : Does P ds ⟨some d, .buildSlice t n parts.toArray, ty, pos, after, none⟩ S ⟨one (.sl (tyOf P el).n es), [], [], [], [], 0, 0⟩ := by
  refine ⟨dst_ok hd, fun S' h K hk => ?_⟩
  have hpt : ∀ (ps : List (Nat × Operand)), (∀ q ∈ ps, q.2 ∈ (Op.buildSlice t n parts.toArray).operands) → partsT S' (tyOf P el).n ps = partsT S (tyOf P el).n ps := by
    intro ps
    induction ps with
    | nil => intro _; rfl
    | cons q ps ih =>
      intro hq
      obtain ⟨i, x⟩ := q
      simp only [partsT, ev_agree h (x := x) (hq (i, x) (by simp)), ih (fun q hq' => hq q (by simp [hq']))]
  have := hpt parts (fun q hq => by simp [Op.operands]; exact ⟨q.1, hq⟩)
  exact OpT.listed (o := ⟨some d, .buildSlice t n parts.toArray, ty, pos, after, none⟩) (dst_ok (by rw [h.sz]; exact hd)) rfl ht hok hnz (by rw [this]; exact hp) hix hn hn0 hsm (by simpa [Fp.apply, upds, TS.put] using hk)
/-- A function that only reads. -/
theorem D.pcall {f : FuncId} {us : List Operand} {ats : Array TypeId} {args : List PA} {R : PX → Prop} {X0 : PX} (hd : d < S.sz) (he : Enters P f) (h : PFun P f args R) (hX : ∀ X, R X → X = X0) (hargs : us.map S.ev = args.map PA.tx) :
    Does P ds ⟨some d, .call ⟨.value (.func f), us.toArray, ats⟩, ty, pos, after, none⟩ S ⟨X0.tx, [], [], [], [], 0, 0⟩ := by
  refine ⟨dst_ok hd, fun S' g K hk => ?_⟩
  have e : us.map S'.ev = us.map S.ev := List.map_congr_left fun x hx => ev_agree g (x := x) (by simp [Op.operands, Call.operands, hx])
  refine OpT.call (o := ⟨some d, .call ⟨.value (.func f), us.toArray, ats⟩, ty, pos, after, none⟩) (dst_ok (by rw [g.sz]; exact hd)) rfl rfl rfl he (CallsT.pure h (by simp [e, hargs]) fun X hR => ?_)
  rw [hX X hR]
  simpa [Fp.apply, upds, TS.put] using hk
/-- What a truth guards: done, or not. -/
theorem D.guard {d : Option Tmp} {op : Op} {j : Nat} {want : Bool} {e : Nat} {p : Fp} (hj : ds[j]? = some (some e)) (hb : (S.ev (.tmp e)).val? = some (.bool want)) (h : Does P ds ⟨d, op, ty, pos, after, none⟩ S p) : Does P ds ⟨d, op, ty, pos, after, some (j, want)⟩ S p := by
  refine ⟨h.1, fun S' g K hk => ?_⟩
  have hlt : e < S.sz := by
    rcases Nat.lt_or_ge e S.sz with q | q
    · exact q
    · have : S.ev (.tmp e) = .und := by
        show (if e < S.sz then S.tm e else .und) = _
        rw [if_neg (Nat.not_lt.2 q)]
      rw [this] at hb
      cases hb
  have htm : S.tm e = one (.raw (.bool want)) := by
    have := val?_eq hb
    have e2 : S.ev (.tmp e) = S.tm e := by
      show (if e < S.sz then S.tm e else .und) = _
      rw [if_pos hlt]
    rwa [e2] at this
  have hle : e ∈ looks ds ⟨d, op, ty, pos, after, some (j, want)⟩ := by
    unfold looks
    refine List.mem_append_right _ ?_
    simp [hj]
  refine ⟨e, some want, hj, by rw [g.sz]; exact hlt, by rw [g.tm e hle, htm]; rfl, fun _ => ?_, fun q => absurd rfl q⟩
  exact h.2 S' ⟨g.sz, fun t ht => g.tm t (by unfold looks at *; simp at ht ⊢; exact .inl ht), g.lh, g.tk⟩ K hk
theorem D.skip {d : Option Tmp} {op : Op} {j : Nat} {want : Bool} {e : Nat} (hd : ∀ i, d = some i → i < S.sz) (hj : ds[j]? = some (some e)) (hb : (S.ev (.tmp e)).val? = some (.bool !want)) : Does P ds ⟨d, op, ty, pos, after, some (j, want)⟩ S ⟨.tup [], [], [], [], [], 0, 0⟩ := by
  refine ⟨hd, fun S' g K hk => ?_⟩
  have hlt : e < S.sz := by
    rcases Nat.lt_or_ge e S.sz with q | q
    · exact q
    · have : S.ev (.tmp e) = .und := by
        show (if e < S.sz then S.tm e else .und) = _
        rw [if_neg (Nat.not_lt.2 q)]
      rw [this] at hb
      cases hb
  have htm : S.tm e = one (.raw (.bool !want)) := by
    have := val?_eq hb
    have e2 : S.ev (.tmp e) = S.tm e := by
      show (if e < S.sz then S.tm e else .und) = _
      rw [if_pos hlt]
    rwa [e2] at this
  have hle : e ∈ looks ds ⟨d, op, ty, pos, after, some (j, want)⟩ := by
    unfold looks
    refine List.mem_append_right _ ?_
    simp [hj]
  exact ⟨e, some !want, hj, by rw [g.sz]; exact hlt, by rw [g.tm e hle, htm]; rfl, fun q => absurd q (by cases want <;> simp), fun _ => by simpa [Fp.apply, upds, TS.put] using hk⟩
theorem D.skipU {d : Option Tmp} {op : Op} {j : Nat} {want : Bool} {e : Nat} (hd : ∀ i, d = some i → i < S.sz) (hj : ds[j]? = some (some e)) (hb : S.ev (.tmp e) = .tup []) : Does P ds ⟨d, op, ty, pos, after, some (j, want)⟩ S ⟨.tup [], [], [], [], [], 0, 0⟩ := by
  refine ⟨hd, fun S' g K hk => ?_⟩
  have hlt : e < S.sz := by
    rcases Nat.lt_or_ge e S.sz with q | q
    · exact q
    · have : S.ev (.tmp e) = .und := by
        show (if e < S.sz then S.tm e else .und) = _
        rw [if_neg (Nat.not_lt.2 q)]
      rw [this] at hb
      cases hb
  have htm : S.tm e = .tup [] := by
    have := hb
    have e2 : S.ev (.tmp e) = S.tm e := by
      show (if e < S.sz then S.tm e else .und) = _
      rw [if_pos hlt]
    rwa [e2] at this
  have hle : e ∈ looks ds ⟨d, op, ty, pos, after, some (j, want)⟩ := by
    unfold looks
    refine List.mem_append_right _ ?_
    simp [hj]
  exact ⟨e, none, hj, by rw [g.sz]; exact hlt, by rw [g.tm e hle, htm]; rfl, (fun q => by cases q), fun _ => by simpa [Fp.apply, upds, TS.put] using hk⟩
theorem D.pick {c x y : Operand} (hd : d < S.sz) {t : Bool} (hc : (S.ev c).val? = some (.bool t)) {X : TX} (hX : (if t then S.ev x else S.ev y) = X) : Does P ds ⟨some d, .pick c x y, ty, pos, after, none⟩ S ⟨X, [], [], [], [], 0, 0⟩ := by
  refine ⟨dst_ok hd, fun S' g K hk => ?_⟩
  have e1 := ev_agree g (x := c) (by simp [Op.operands])
  have e2 := ev_agree g (x := x) (by simp [Op.operands])
  have e3 := ev_agree g (x := y) (by simp [Op.operands])
  refine OpT.pick (o := ⟨some d, .pick c x y, ty, pos, after, none⟩) (dst_ok (by rw [g.sz]; exact hd)) rfl (t := t) (by rw [e1]; exact hc) (fun q => ?_) (fun q => ?_)
  · subst q
    rw [e2, show S.ev x = X from hX]
    simpa [Fp.apply, upds, TS.put] using hk
  · subst q
    rw [e3, show S.ev y = X from hX]
    simpa [Fp.apply, upds, TS.put] using hk
end
/-! ### The chain -/
def ChainL (P : Program) (ds : List (Option Tmp)) : List Oper → List Fp → TS → TS → Prop
  | [], [], S, S' => S = S'
  | o :: l, p :: ps, S, S' => Does P ds o S p ∧ ChainL P ds l ps (p.apply o.dst S) S'
  | _, _, _, _ => False
theorem ChainL.toI {P : Program} {ds : List (Option Tmp)} {ops : Array Oper} {fps : List Fp} : ∀ (l : List Oper) (ps : List Fp) (k : Nat) (S S' : TS), ops.toList.drop k = l → fps.drop k = ps → ChainL P ds l ps S S' → ChainI P ds ops fps (List.range' k l.length) S S'
  | [], [], _, _, _, _, _, h => h
  | [], _ :: _, _, _, _, _, _, h => h.elim
  | _ :: _, [], _, _, _, _, _, h => h.elim
  | o :: l, p :: ps, k, S, S', h1, h2, h => by
    obtain ⟨g1, g2⟩ := drop_cons h1
    obtain ⟨g3, g4⟩ := drop_cons h2
    rw [List.length_cons, List.range'_succ]
    exact ⟨o, p, by simpa using g1, g3, h.1, ChainL.toI l ps (k + 1) _ S' g2 g4 h.2⟩
def indepB (ds : List (Option Tmp)) (o : Oper) (p : Fp) (o' : Oper) (p' : Fp) : Bool :=
  (match o.dst with | some d => !(looks ds o').contains d && !(o'.dst == some d) | none => true) &&
  (match o'.dst with | some d => !(looks ds o).contains d | none => true) &&
  ((p.wl.map (·.1)).all fun l => !p'.rl.contains l && !(p'.wl.map (·.1)).contains l) && ((p'.wl.map (·.1)).all fun l => !p.rl.contains l) &&
  ((p.wt.map (·.1)).all fun l => !p'.rt.contains l && !(p'.wt.map (·.1)).contains l) && ((p'.wt.map (·.1)).all fun l => !p.rt.contains l)
theorem indepB_ok {ds : List (Option Tmp)} {o o' : Oper} {p p' : Fp} (h : indepB ds o p o' p' = true) : Indep ds o p o' p' := by
  unfold indepB at h
  simp only [Bool.and_eq_true] at h
  obtain ⟨⟨⟨⟨⟨h1, h2⟩, h3⟩, h4⟩, h5⟩, h6⟩ := h
  refine ⟨fun d hd => ?_, fun d hd => ?_, fun l hl => ?_, fun l hl => ?_, fun l hl => ?_, fun l hl => ?_⟩
  · rw [hd] at h1
    simpa using h1
  · rw [hd] at h2
    simpa using h2
  · have := (List.all_eq_true.1 h3) l hl
    simpa using this
  · have := (List.all_eq_true.1 h4) l hl
    simpa using this
  · have := (List.all_eq_true.1 h5) l hl
    simpa using this
  · have := (List.all_eq_true.1 h6) l hl
    simpa using this
/-- Who must lie ahead, reckoned. -/
def ancs (ops : List Oper) : List (List Nat) := ops.foldl (fun acc o => acc ++ [(o.after.toList.flatMap fun e => if Region.binds .any e then e.on :: acc.getD e.on [] else []).eraseDups]) []
def pairsB (ds : List (Option Tmp)) (l : List Oper) (fps : List Fp) (anc : List (List Nat)) : Bool :=
  ((l.zip fps).zip (List.range l.length)).all fun x => (((l.zip fps).take x.2).zip (List.range x.2)).all fun y => (anc.getD x.2 []).contains y.2 || indepB ds y.1.1 y.1.2 x.1.1 x.1.2
theorem pairsB_ok {ds : List (Option Tmp)} {l : List Oper} {fps : List Fp} {anc : List (List Nat)} (h : pairsB ds l fps anc = true) : PairsOk ds l.toArray fps anc := by
  intro i j o p o' p' hji ho hp ho' hp'
  have ho1 : l[i]? = some o := by simpa using ho
  have ho2 : l[j]? = some o' := by simpa using ho'
  have hil := (List.getElem?_eq_some_iff.1 ho1).1
  have hz : ∀ k (a : Oper) (b : Fp), l[k]? = some a → fps[k]? = some b → (l.zip fps)[k]? = some (a, b) := fun k a b q1 q2 => by
    rw [List.getElem?_zip_eq_some]
    exact ⟨q1, q2⟩
  have m1 : ((o, p), i) ∈ (l.zip fps).zip (List.range l.length) := by
    refine List.mem_of_getElem? (i := i) ?_
    rw [List.getElem?_zip_eq_some]
    exact ⟨hz i o p ho1 hp, by rw [List.getElem?_range hil]⟩
  have h1 := (List.all_eq_true.1 h) _ m1
  have m2 : ((o', p'), j) ∈ ((l.zip fps).take i).zip (List.range i) := by
    refine List.mem_of_getElem? (i := j) ?_
    rw [List.getElem?_zip_eq_some]
    exact ⟨by rw [List.getElem?_take, if_pos hji]; exact hz j o' p' ho2 hp', by rw [List.getElem?_range hji]⟩
  have h2 := (List.all_eq_true.1 h1) _ m2
  simp only [Bool.or_eq_true] at h2
  rcases h2 with h2 | h2
  · exact .inl (by simpa using h2)
  · exact .inr (indepB_ok h2)
/-- A region that draws its order, told in the order of the text; the code goes on. -/
theorem C.any {P : Program} {B : Base} {S Sn : TS} {K : Exit → TS → Prop} {i : Nat} {l : List Oper} {y : Code} (hm : P.follows .mixedOrders = true) (ds : List (Option Tmp)) (hds : l.map (·.dst) = ds) {fps : List Fp} (hch : ChainL P ds l fps S Sn) (ha : ancOk l.toArray (ancs l) = true) (hpo : pairsB ds l fps (ancs l) = true) (hk : CodeT P B y Sn K) : CodeT P B (.seq (.region i l.toArray true) y) S K :=
  CodeT.seq (CodeT.any hm ds hds ha (pairsB_ok hpo) (by have := ChainL.toI (ops := l.toArray) l fps 0 S Sn rfl rfl hch; rwa [← List.range_eq_range'] at this) hk)
theorem C.anyLast {P : Program} {B : Base} {S Sn : TS} {K : Exit → TS → Prop} {i : Nat} {l : List Oper} (hm : P.follows .mixedOrders = true) (ds : List (Option Tmp)) (hds : l.map (·.dst) = ds) {fps : List Fp} (hch : ChainL P ds l fps S Sn) (ha : ancOk l.toArray (ancs l) = true) (hpo : pairsB ds l fps (ancs l) = true) (hk : K .normal Sn) : CodeT P B (.region i l.toArray true) S K :=
  CodeT.any hm ds hds ha (pairsB_ok hpo) (by have := ChainL.toI (ops := l.toArray) l fps 0 S Sn rfl rfl hch; rwa [← List.range_eq_range'] at this) hk
end Go.Proofs.Ythmpaepdbjldfaa
