/-
  Texts of this claim, merged: TF, TG. Lemmas and contracts; no conditions of our own.
-/
import Derived.Test.YthmpaepdbjldfaaG4
import Derived.Shelf.Abstract

/-
  States told by trees: calls, operations one behind the other, regions.
-/
namespace Go.Proofs.Ythmpaepdbjldfaa
set_option linter.unusedVariables false
set_option linter.unusedSimpArgs false
open Go.RowKit Go.Shelf

/-! ### Calls -/
/-- A call in a state: what it answers, and the state behind it. -/
def CallsT (P : Program) (f : FuncId) (xs : List TX) (S : TS) (K : TX → TS → Prop) : Prop :=
  ∀ E w (vs : List Value), E.lh = S.lh → E.tk = S.tk → HRel E w → vs.length = xs.length → (∀ (j : Nat) (x : TX), xs[j]? = some x → XRel E w x (vs.getD j undef)) →
    Calls P f vs.toArray w fun e w' => ∃ v E' S' X, e = .returned v ∧ Ext E E' w w' ∧ HRel E' w' ∧ E'.lh = S'.lh ∧ E'.tk = S'.tk ∧ S'.tm = S.tm ∧ S'.sz = S.sz ∧ XRel E' w' X v ∧ K X S'
def CV.tx (x : CV) : TX := .a (.one (.c x))
/-- What a called value is: the function, and what it captured. -/
def TX.callee : TX → Option (FuncId × List TX)
  | .a (.one (.fn f caps)) => some (f, caps.map CV.tx)
  | .a (.one (.c (.p (.fn f caps)))) => some (f, caps.map fun x => one x)
  | _ => none
theorem callee_rel {E : Env} {w : World} {X : TX} {v : Value} (hv : XRel E w X v) {f : FuncId} {cs : List TX} (e : X.callee = some (f, cs)) : ∃ us : List Value, v = .func (.func f) #[] us.toArray ∧ us.length = cs.length ∧ ∀ (j : Nat) (x : TX), cs[j]? = some x → XRel E w x (us.getD j undef) := by
  unfold TX.callee at e
  split at e
  · injection e with e
    injection e with e1 e2
    subst e1; subst e2
    obtain ⟨cv, q1, q2, q3⟩ := hv
    refine ⟨cv, q1, by simp [q2], fun j x hj => ?_⟩
    simp only [List.getElem?_map, Option.map_eq_some_iff] at hj
    obtain ⟨y, hy, rfl⟩ := hj
    exact q3 j y hy
  · rename_i f' caps
    injection e with e
    injection e with e1 e2
    subst e1; subst e2
    have hv' : PRel (E.imm w) w (.fn f' caps) v := hv
    cases hv' with
    | fn cv hl r =>
      refine ⟨cv, rfl, by simp [hl], fun j x hj => ?_⟩
      simp only [List.getElem?_map, Option.map_eq_some_iff] at hj
      obtain ⟨y, hy, rfl⟩ := hj
      exact r j y hy
  · cases e
theorem OpT.call {P : Program} {o : Oper} {S : TS} {K : TS → Prop} (hd : DstOk o S) {c : Call} (ho : o.op = .call c) {fx : Operand} (hc : c.callee = .value fx) {f : FuncId} {cs : List TX} (hf : (S.ev fx).callee = some (f, cs)) (he : Enters P f)
    (hK : CallsT P f (c.args.toList.map S.ev ++ cs) S (fun X S' => K (S'.put o.dst X))) : OpT P o S K := by
  intro E w a hs next Q hn
  obtain ⟨us, e1, e2, e3⟩ := callee_rel (hs.ev fx) hf
  have hargs : (c.args.map a.eval ++ us.toArray) = (c.args.toList.map a.eval ++ us).toArray := by simp
  have hcall := hK E w (c.args.toList.map a.eval ++ us) hs.1 hs.2.1 hs.2.2.1 (by simp [e2]) (fun j x hj => by
    rw [List.getElem?_append] at hj
    simp only [List.length_map] at hj
    split at hj
    · rename_i hlt
      simp only [List.getElem?_map, Option.map_eq_some_iff] at hj
      obtain ⟨y, hy, rfl⟩ := hj
      rw [List.getD_eq_getElem?_getD, List.getElem?_append_left (by simpa using hlt), List.getElem?_map, hy]
      exact hs.ev y
    · rename_i hlt
      have := e3 _ x hj
      rw [List.getD_eq_getElem?_getD] at this
      rwa [List.getD_eq_getElem?_getD, List.getElem?_append_right (by simpa using hlt), List.length_map])
  unfold Oper.wp execOp
  simp only [ho, resolve, hc, e1, Deferred.ofValue, Sem.run_bind, Sem.run_pure, Result.andThen_ok, invoke, Array.empty_append, hargs, he _ w, Oper.upon_enter]
  refine hcall.mono ?_
  rintro e w' ⟨v, E', S', X, rfl, hx, hH, q1, q2, q3, q4, q5, q6⟩
  refine hn E' w' _ _ ?_ hx q6
  refine hs.put hx hH q5 (S' := S'.put o.dst X) q1 q2 q4 ?_ hd
  show putT S'.tm o.dst X = putT S.tm o.dst X
  rw [q3]
/-! ### One behind the other -/
def OpsT (P : Program) (ops : Array Oper) (l : List Nat) (S : TS) (K : TS → Prop) : Prop :=
  ∀ E w a, SRel E w a S → ∀ (Q : Exit → Act → World → Prop), (∀ E' w' a' S', SRel E' w' a' S' → Ext E E' w w' → K S' → Q .normal a' w') → wpOps P ops Q l a w
theorem OpsT.nil {P : Program} {ops : Array Oper} {S : TS} {K : TS → Prop} (h : K S) : OpsT P ops [] S K := fun E w _ hs _ hn => hn E w _ S hs (Ext.refl E w) h
theorem OpsT.cons {P : Program} {ops : Array Oper} {i : Nat} {l : List Nat} {S : TS} {K : TS → Prop} {o : Oper} (ho : ops[i]? = some o) (hg : o.guard = none) (h : OpT P o S (fun S' => OpsT P ops l S' K)) : OpsT P ops (i :: l) S K := by
  intro E w a hs Q hn
  have hw : Region.wanted o (yielded ops a.tmps) = true := by unfold Region.wanted; rw [hg]
  simp only [wpOps, ho, hw, if_true]
  exact .inl (h E w a hs _ Q (fun E' w' a' S' hs' hx hk => hk E' w' a' hs' Q (fun E'' w'' a'' S'' hs'' hx' hk' => hn E'' w'' a'' S'' hs'' (hx.trans hx') hk')))
/-- What a guard's slot tells: a truth, or that it was not done. -/
def TX.gv : TX → Option (Option Bool)
  | .a (.one (.c (.p (.raw (.bool b))))) => some (some b)
  | .tup [] => some none
  | _ => none
theorem gv_cases {X : TX} {b : Option Bool} (h : X.gv = some b) : (∃ c, b = some c ∧ X = one (.raw (.bool c))) ∨ (b = none ∧ X = .tup []) := by
  unfold TX.gv at h
  split at h
  · injection h with h
    exact .inl ⟨_, h.symm, rfl⟩
  · injection h with h
    exact .inr ⟨h.symm, rfl⟩
  · cases h
theorem undone {E : Env} {w : World} : XRel E w (.tup []) undef := ⟨[], rfl, rfl, fun j x hj => by simp at hj⟩
theorem yield_gv {ops : Array Oper} {E : Env} {w : World} {a : Act} {S : TS} (hs : SRel E w a S) {j d : Nat} (hj : (ops[j]?).bind (·.dst) = some d) (hds : d < S.sz) {b : Option Bool} (hb : (S.tm d).gv = some b) : yielded ops a.tmps j = b := by
  have hlt : d < a.tmps.size := by rw [hs.2.2.2.2.1]; exact hds
  unfold yielded
  rw [hj]
  simp only [Option.bind_some, Array.getElem?_eq_getElem hlt]
  have hx := hs.2.2.2.2.2 d
  rw [Array.getD_eq_getD_getElem?, Array.getElem?_eq_getElem hlt] at hx
  simp only [Option.getD_some] at hx
  generalize a.tmps[d] = v at hx ⊢
  rcases gv_cases hb with ⟨c, rfl, e⟩ | ⟨rfl, e⟩
  · rw [e] at hx
    have hx : PRel (E.imm w) w (.raw (.bool c)) v := hx
    cases hx
    rfl
  · rw [e] at hx
    obtain ⟨vs, rfl, hl, _⟩ := hx
    rfl
theorem OpsT.guard {P : Program} {ops : Array Oper} {i : Nat} {l : List Nat} {S : TS} {K : TS → Prop} {o : Oper} (ho : ops[i]? = some o) (hd : DstOk o S) {j : Nat} {want : Bool} (hg : o.guard = some (j, want)) {d : Nat} (hj : (ops[j]?).bind (·.dst) = some d) (hds : d < S.sz) {b : Option Bool} (hb : (S.tm d).gv = some b)
    (h1 : b = some want → OpT P o S (fun S' => OpsT P ops l S' K)) (h2 : b ≠ some want → OpsT P ops l (S.put o.dst (.tup [])) K) : OpsT P ops (i :: l) S K := by
  intro E w a hs Q hn
  have hy := yield_gv hs hj hds hb
  by_cases hbw : b = some want
  · have hw : Region.wanted o (yielded ops a.tmps) = true := by unfold Region.wanted; rw [hg]; simp [hy, hbw]
    simp only [wpOps, ho, hw, if_true]
    exact .inl (h1 hbw E w a hs _ Q (fun E' w' a' S' hs' hx hk => hk E' w' a' hs' Q (fun E'' w'' a'' S'' hs'' hx' hk' => hn E'' w'' a'' S'' hs'' (hx.trans hx') hk')))
  · have hw : Region.wanted o (yielded ops a.tmps) = false := by unfold Region.wanted; rw [hg]; simp [hy, hbw]
    simp only [wpOps, ho, hw, Bool.false_eq_true, if_false]
    exact h2 hbw E w _ (hs.quiet hd (x := .tup []) undone) Q hn
/-! ### Code -/
/-- What is live when a function begins. -/
structure Base where
  lh : Nat → LB
  tk : Nat → TK
def CodeT (P : Program) (B : Base) (c : Code) (S : TS) (K : Exit → TS → Prop) : Prop :=
  ∀ E0 w0, E0.lh = B.lh → E0.tk = B.tk → ∀ E w a, Ext E0 E w0 w → SRel E w a S → c.wp P (fun e a' w' => ∃ E' S', SRel E' w' a' S' ∧ Ext E0 E' w0 w' ∧ K e S') a w
variable {P : Program} {B : Base} {S : TS} {K : Exit → TS → Prop}
theorem CodeT.skip (h : K .normal S) : CodeT P B .skip S K := fun _ _ _ _ E _ _ hx hs => wp_skip ⟨E, S, hs, hx, h⟩
theorem CodeT.ret (h : K .ret S) : CodeT P B .ret S K := fun _ _ _ _ E _ _ hx hs => wp_ret ⟨E, S, hs, hx, h⟩
theorem CodeT.exit {i : Nat} (h : K (.exit i) S) : CodeT P B (.exit i) S K := fun _ _ _ _ E _ _ hx hs => wp_exit ⟨E, S, hs, hx, h⟩
def thenK (y : TS → Prop) (K : Exit → TS → Prop) : Exit → TS → Prop
  | .normal, S => y S
  | e, S => K e S
theorem CodeT.seq {x y : Code} (h : CodeT P B x S (thenK (fun S' => CodeT P B y S' K) K)) : CodeT P B (.seq x y) S K := by
  intro E0 w0 h1 h2 E w a hx hs
  refine wp_seq (wp_mono (h E0 w0 h1 h2 E w a hx hs) ?_)
  rintro e a' w' ⟨E', S', hs', hx', hk⟩
  cases e with
  | normal => exact hk E0 w0 h1 h2 E' w' a' hx' hs'
  | _ => exact ⟨E', S', hs', hx', hk⟩
theorem CodeT.cond {c : Operand} {x y : Code} {b : Bool} (hc : (S.ev c).val? = some (.bool b)) (h1 : b = true → CodeT P B x S K) (h2 : b = false → CodeT P B y S K) : CodeT P B (.cond c x y) S K := by
  intro E0 w0 g1 g2 E w a hx hs
  refine wp_cond_split (hs.val hc).1 (fun hb => h1 hb E0 w0 g1 g2 E w a hx hs) (fun hb => h2 hb E0 w0 g1 g2 E w a hx hs)
def blockK (i : Nat) (K : Exit → TS → Prop) : Exit → TS → Prop
  | .exit j, S => if j = i then K .normal S else K (.exit j) S
  | e, S => K e S
theorem CodeT.block {i : Nat} {c : Code} (h : CodeT P B c S (blockK i K)) : CodeT P B (.block i c) S K := by
  intro E0 w0 h1 h2 E w a hx hs
  refine wp_block (wp_mono (h E0 w0 h1 h2 E w a hx hs) ?_)
  rintro e a' w' ⟨E', S', hs', hx', hk⟩
  cases e with
  | exit j =>
    simp only [blockK] at hk
    simp only [Exit.inBlock]
    split
    · rename_i hj
      rw [if_pos hj] at hk
      exact ⟨E', S', hs', hx', hk⟩
    · rename_i hj
      rw [if_neg hj] at hk
      exact ⟨E', S', hs', hx', hk⟩
  | _ => exact ⟨E', S', hs', hx', hk⟩
theorem CodeT.region {i : Nat} {ops : Array Oper} (h : OpsT P ops (List.range ops.size) S (K .normal)) : CodeT P B (.region i ops false) S K := by
  intro E0 w0 h1 h2 E w a hx hs
  exact wp_region (h E w a hs _ (fun E' w' a' S' hs' hx' hk => ⟨E', S', hs', hx.trans hx', hk⟩))
theorem SRel.drew {E : Env} {w : World} {a : Act} (h : SRel E w a S) : SRel E { w with drawn := w.drawn + 1 } a S ∧ Ext E E w { w with drawn := w.drawn + 1 } := by
  obtain ⟨hx, hH⟩ := same_heap h.2.2.1 (w' := { w with drawn := w.drawn + 1 }) rfl rfl rfl rfl
  exact ⟨⟨h.1, h.2.1, hH, h.2.2.2.1, h.2.2.2.2.1, fun t => XRel.ext hx (h.2.2.2.2.2 t)⟩, hx⟩
theorem CodeT.drawn {i : Nat} {ops : Array Oper} (h : ∀ t, OpsT P ops (Region.schedule (P.follows .mixedOrders) ops t) S (K .normal)) : CodeT P B (.region i ops true) S K := by
  intro E0 w0 h1 h2 E w a hx hs
  obtain ⟨hs1, hx1⟩ := hs.drew
  exact wp_region_draw (fun t => h t E _ a hs1 _ (fun E' w' a' S' hs' hx' hk => ⟨E', S', hs', (hx.trans hx1).trans hx', hk⟩))
/-! ### A slice of one's own stays from now on -/
def TV.frz (t n k : Nat) (es : List (List PV)) : TV → TV
  | .os t' n' => if t' = t ∧ n' = n then .c (.p (.sl k es)) else .os t' n'
  | x => x
def TA.frz (t n k : Nat) (es : List (List PV)) : TA → TA
  | .one x => .one (x.frz t n k es)
  | .agg cs => .agg (cs.map (TV.frz t n k es))
def TX.frz (t n k : Nat) (es : List (List PV)) : TX → TX
  | .und => .und
  | .a x => .a (x.frz t n k es)
  | .tup xs => .tup (xs.map (TA.frz t n k es))
def LB.frz (t n k : Nat) (es : List (List PV)) : LB → LB
  | .cells T cs => .cells T (cs.map (TV.frz t n k es))
  | b => b
def TS.frz (S : TS) (t n k : Nat) (es : List (List PV)) : TS := { S with tm := fun i => (S.tm i).frz t n k es, lh := fun l => (S.lh l).frz t n k es, tk := upd S.tk t .dead }
theorem frz_hole {t n k : Nat} {es : List (List PV)} {b : LB} : (b.frz t n k es = .hole ↔ b = .hole) ∧ (b.frz t n k es = .dead ↔ b = .dead) := by
  cases b <;> simp [LB.frz]
theorem SRel.freeze {E : Env} {w : World} {a : Act} (h : SRel E w a S) {t : Nat} {T : TypeId} {k n : Nat} {es : List (List PV)} (ht : S.tk t = .tok T k n es) : ∃ E', SRel E' w a (S.frz t n k es) ∧ Ext E E' w w := by
  have ht' : E.tk t = .tok T k n es := by rw [h.2.1]; exact ht
  obtain ⟨hx, hH, hf⟩ := freeze_tok h.2.2.1 ht'
  -- the same, its cells told anew
  have hlive : ∀ l, Env.live { E with tk := upd E.tk t .dead, lh := fun l => (E.lh l).frz t n k es } l ↔ E.live l := fun l => by
    unfold Env.live
    simp only [ne_eq, frz_hole.1, frz_hole.2]
  have himm : ∀ b, Env.imm { E with tk := upd E.tk t .dead, lh := fun l => (E.lh l).frz t n k es } w b ↔ Env.imm { E with tk := upd E.tk t .dead } w b := fun b => by
    unfold Env.imm
    exact ⟨fun ⟨q1, q2, q3, q4⟩ => ⟨q1, q2, fun l hl => q3 l ((hlive l).2 hl), q4⟩, fun ⟨q1, q2, q3, q4⟩ => ⟨q1, q2, fun l hl => q3 l ((hlive l).1 hl), q4⟩⟩
  have hx2 : Ext { E with tk := upd E.tk t .dead } { E with tk := upd E.tk t .dead, lh := fun l => (E.lh l).frz t n k es } w w := by
    refine ext_of_upd hH (Upd.refl [] w) (by simp) rfl (fun l => ⟨fun q => ?_, fun q => ?_, fun _ _ => rfl⟩) (fun t => tokrefl rfl rfl) (fun b hb => (himm b).2 hb)
    · simpa only [ne_eq, frz_hole.1] using q
    · exact frz_hole.2.2 q
  have hv : ∀ (x : TV) v, VRel E w x v → VRel { E with tk := upd E.tk t .dead, lh := fun l => (E.lh l).frz t n k es } w (x.frz t n k es) v := by
    intro x v r
    have r2 := VRel.ext hx2 (VRel.ext hx r)
    cases x with
    | os t' n' =>
      simp only [TV.frz]
      split
      · rename_i hc
        obtain ⟨rfl, rfl⟩ := hc
        exact PRel.map (fun b o v hb hc => ⟨(himm b).2 hb, hc⟩) (hf v r)
      · exact r2
    | _ => exact r2
  have hcr : ∀ cs vs, CRel E w cs vs → CRel { E with tk := upd E.tk t .dead, lh := fun l => (E.lh l).frz t n k es } w (cs.map (TV.frz t n k es)) vs := by
    intro cs vs r
    refine ⟨by simp [r.1], fun j x hj => ?_⟩
    simp only [List.getElem?_map, Option.map_eq_some_iff] at hj
    obtain ⟨y, hy, rfl⟩ := hj
    exact hv _ _ (r.2 j y hy)
  have har : ∀ (x : TA) v, ARel E w x v → ARel { E with tk := upd E.tk t .dead, lh := fun l => (E.lh l).frz t n k es } w (x.frz t n k es) v := by
    intro x v r
    cases x with
    | one x => exact hv _ _ r
    | agg cs =>
      obtain ⟨vs, e, r⟩ := r
      exact ⟨vs, e, hcr _ _ r⟩
  refine ⟨{ E with tk := upd E.tk t .dead, lh := fun l => (E.lh l).frz t n k es }, ⟨?_, ?_, ?_, h.2.2.2.1, h.2.2.2.2.1, fun i => ?_⟩, hx.trans hx2⟩
  · show (fun l => (E.lh l).frz t n k es) = fun l => (S.lh l).frz t n k es
    rw [h.1]
  · show upd E.tk t .dead = upd S.tk t .dead
    rw [h.2.1]
  · refine ⟨hH.nob, fun l T' cs e => ?_, fun l hl => hH.nol l ((hlive l).1 hl), fun l l' q1 q2 e => hH.inj l l' ((hlive l).1 q1) ((hlive l').1 q2) e, fun t' T' k' n' es' e => ?_, fun t' b q1 q2 => ?_⟩
    · simp only at e
      cases hl : E.lh l with
      | hole => rw [hl] at e; cases e
      | dead => rw [hl] at e; cases e
      | cells T1 cs1 =>
        rw [hl] at e
        injection e with e1 e2
        subst e1; subst e2
        obtain ⟨vs, q1, q2⟩ := h.2.2.1.loc l T1 cs1 hl
        exact ⟨vs, q1, hcr _ _ q2⟩
    · obtain ⟨xs, q1, q2⟩ := hH.tok t' T' k' n' es' e
      exact ⟨xs, q1, Rows.ext hx2 q2⟩
    · obtain ⟨g1, g2, g3, g4⟩ := hH.not t' b q1 q2
      exact ⟨g1, g2, fun l hl => g3 l ((hlive l).1 hl), g4⟩
  · have := h.2.2.2.2.2 i
    show XRel _ w ((S.tm i).frz t n k es) _
    generalize S.tm i = X at this
    cases X with
    | und => trivial
    | a x => exact har _ _ this
    | tup xs =>
      obtain ⟨vs, e, hl, r⟩ := this
      refine ⟨vs, e, by simp [hl], fun j x hj => ?_⟩
      simp only [List.getElem?_map, Option.map_eq_some_iff] at hj
      obtain ⟨y, hy, rfl⟩ := hj
      exact har _ _ (r j y hy)
theorem CodeT.frz {c : Code} {t : Nat} {T : TypeId} {k n : Nat} {es : List (List PV)} (ht : S.tk t = .tok T k n es) (h : CodeT P B c (S.frz t n k es) K) : CodeT P B c S K := by
  intro E0 w0 h1 h2 E w a hx hs
  obtain ⟨E', hs', hx'⟩ := hs.freeze ht
  exact h E0 w0 h1 h2 E' w a (hx.trans hx') hs'
theorem OpsT.frz {ops : Array Oper} {l : List Nat} {K : TS → Prop} {t : Nat} {T : TypeId} {k n : Nat} {es : List (List PV)} (ht : S.tk t = .tok T k n es) (h : OpsT P ops l (S.frz t n k es) K) : OpsT P ops l S K := by
  intro E w a hs Q hn
  obtain ⟨E', hs', hx'⟩ := hs.freeze ht
  exact h E' w a hs' Q (fun E'' w'' a'' S'' q1 q2 q3 => hn E'' w'' a'' S'' q1 (hx'.trans q2) q3)
/-! ### Less is known -/
def CVOk (S : TS) : CV → Prop
  | .p _ => True
  | .ptr l _ => S.lh l ≠ .hole
  | .mp l => S.lh l ≠ .hole
def TVOk (S : TS) : TV → Prop
  | .c x => CVOk S x
  | .os t _ => S.tk t ≠ .hole
  | .tp t _ _ _ => S.tk t ≠ .hole
  | .fn _ caps => ∀ x ∈ caps, CVOk S x
def TAOk (S : TS) : TA → Prop
  | .one x => TVOk S x
  | .agg cs => ∀ x ∈ cs, TVOk S x
def TXOk (S : TS) : TX → Prop
  | .und => True
  | .a x => TAOk S x
  | .tup xs => ∀ x ∈ xs, TAOk S x
/-- All that it speaks of is there. -/
structure Closed (S : TS) : Prop where
  tm : ∀ t, TXOk S (S.tm t)
  lh : ∀ l T cs, S.lh l = .cells T cs → ∀ x ∈ cs, TVOk S x
structure Weak (B : Base) (S S2 : TS) : Prop where
  sz : S2.sz = S.sz
  tm : ∀ t, S2.tm t = .und ∨ S2.tm t = S.tm t
  lh : ∀ l, S2.lh l = S.lh l ∨ (S2.lh l = .hole ∧ B.lh l = .hole)
  tk : ∀ t, S2.tk t = S.tk t ∨ (S2.tk t = .hole ∧ B.tk t = .hole)
  ok : Closed S2
theorem Weak.rel {B : Base} {S S2 : TS} (hw : Weak B S S2) {E0 E : Env} {w0 w : World} {a : Act} (h1 : E0.lh = B.lh) (h2 : E0.tk = B.tk) (hx : Ext E0 E w0 w) (hs : SRel E w a S) : ∃ E', SRel E' w a S2 ∧ Ext E0 E' w0 w ∧ ∀ b, E.imm w b → E'.imm w b := by
  obtain ⟨q1, q2, hH, q4, q5, q6⟩ := hs
  obtain ⟨E', hE'⟩ : ∃ E' : Env, E' = { E with lh := S2.lh, tk := S2.tk } := ⟨_, rfl⟩
  have elh : E'.lh = S2.lh := by rw [hE']
  have etk : E'.tk = S2.tk := by rw [hE']
  have eρ : E'.ρ = E.ρ := by rw [hE']
  have etv : E'.tv = E.tv := by rw [hE']
  have eno : E'.no = E.no := by rw [hE']
  clear hE'
  have hlh : ∀ l, S2.lh l ≠ .hole → E.lh l = S2.lh l := fun l hl => by
    rcases hw.lh l with e | ⟨e, _⟩
    · rw [q1, e]
    · exact absurd e hl
  have htk : ∀ t, S2.tk t ≠ .hole → E.tk t = S2.tk t := fun t hl => by
    rcases hw.tk t with e | ⟨e, _⟩
    · rw [q2, e]
    · exact absurd e hl
  have hlive : ∀ l, E'.live l → E.live l := fun l hl => by
    unfold Env.live at *
    rw [elh] at hl
    rw [hlh l hl.1]
    exact hl
  have hgr : ∀ t, E'.grows t → E.grows t := fun t ht => by
    unfold Env.grows at *
    rw [etk] at ht
    rw [htk t ht.1]
    exact ht
  have himm : ∀ b, E.imm w b → E'.imm w b := fun b hb => ⟨hb.1, by rw [eno]; exact hb.2.1, fun l hl => by rw [eρ]; exact hb.2.2.1 l (hlive l hl), fun t ht => by rw [etv]; exact hb.2.2.2 t (hgr t ht)⟩
  have hcv : ∀ (x : CV) v, CVOk S2 x → CVRel E w x v → CVRel E' w x v := by
    intro x v ho r
    cases x with
    | p x => exact PRel.map (fun b o v hb hc => ⟨himm b hb, hc⟩) r
    | ptr l o => exact ⟨r.1, by rw [elh]; exact ho, fun hl => by rw [eρ]; exact r.2.2 (hlive l hl)⟩
    | mp l => exact ⟨r.1, by rw [elh]; exact ho, fun hl => by rw [eρ]; exact r.2.2 (hlive l hl)⟩
  have htv : ∀ (x : TV) v, TVOk S2 x → VRel E w x v → VRel E' w x v := by
    intro x v ho r
    cases x with
    | c x => exact hcv x v ho r
    | os t n => exact ⟨r.1, by rw [etk]; exact ho, fun T k m es e => by rw [etv]; rw [etk] at e; exact r.2.2 T k m es (by rw [htk t ho]; exact e)⟩
    | tp t n i j => exact ⟨r.1, by rw [etk]; exact ho, fun T k m es e => by rw [etv]; rw [etk] at e; exact r.2.2 T k m es (by rw [htk t ho]; exact e)⟩
    | fn f caps =>
      obtain ⟨cv, e, hl, r⟩ := r
      exact ⟨cv, e, hl, fun j x hj => hcv x _ (ho x (List.mem_of_getElem? hj)) (r j x hj)⟩
  have hcr : ∀ cs vs, (∀ x ∈ cs, TVOk S2 x) → CRel E w cs vs → CRel E' w cs vs := fun cs vs ho r => ⟨r.1, fun j x hj => htv x _ (ho x (List.mem_of_getElem? hj)) (r.2 j x hj)⟩
  have har : ∀ (x : TA) v, TAOk S2 x → ARel E w x v → ARel E' w x v := by
    intro x v ho r
    cases x with
    | one x => exact htv x v ho r
    | agg cs =>
      obtain ⟨vs, e, r⟩ := r
      exact ⟨vs, e, hcr _ _ ho r⟩
  refine ⟨E', ⟨elh, etk, ⟨fun b hb => hH.nob b (by rw [← eno]; exact hb), fun l T cs e => ?_, fun l hl => by rw [eno, eρ]; exact hH.nol l (hlive l hl), fun l l' g1 g2 e => hH.inj l l' (hlive l g1) (hlive l' g2) (by rw [← eρ]; exact e), fun t T k n es e => ?_, fun t b g1 g2 => ?_⟩, q4, by rw [q5, hw.sz], fun t => ?_⟩, ?_, himm⟩
  · rw [elh] at e
    obtain ⟨vs, g1, g2⟩ := hH.loc l T cs (by rw [hlh l (by rw [e]; simp)]; exact e)
    exact ⟨vs, by rw [eρ]; exact g1, hcr cs vs (hw.ok.lh l T cs e) g2⟩
  · rw [etk] at e
    obtain ⟨xs, g1, g2⟩ := hH.tok t T k n es (by rw [htk t (by rw [e]; simp)]; exact e)
    refine ⟨xs, by rw [etv]; exact g1, fun i e hi => ?_⟩
    obtain ⟨r1, r2⟩ := g2 i e hi
    refine ⟨r1, fun j x hj => ?_⟩
    obtain ⟨v, r3, r4⟩ := r2 j x hj
    exact ⟨v, r3, PRel.map (fun b o v hb hc => ⟨himm b hb, hc⟩) r4⟩
  · rw [etv] at g2
    obtain ⟨r1, r2, r3, r4⟩ := hH.not t b (hgr t g1) g2
    exact ⟨by rw [eno]; exact r1, r2, fun l hl => by rw [eρ]; exact r3 l (hlive l hl), fun t' g1' g2' => r4 t' (hgr t' g1') (by rw [← etv]; exact g2')⟩
  · rcases hw.tm t with e | e
    · rw [e]
      trivial
    · have hok := hw.ok.tm t
      rw [e] at hok ⊢
      have := q6 t
      generalize S.tm t = X at *
      cases X with
      | und => trivial
      | a x => exact har x _ hok this
      | tup xs =>
        obtain ⟨vs, e1, hl, r⟩ := this
        exact ⟨vs, e1, hl, fun j x hj => har x _ (hok x (List.mem_of_getElem? hj)) (r j x hj)⟩
  · refine ⟨hx.os, hx.tape, hx.output, hx.size, by rw [eno]; exact hx.no, fun l => ?_, fun t => ?_, fun b hb => ⟨himm b (hx.imm b hb).1, (hx.imm b hb).2⟩, hx.out⟩
    · obtain ⟨g1, g2, g3⟩ := hx.loc l
      rw [elh, eρ]
      rcases hw.lh l with e | ⟨e, e2⟩
      · rw [e, ← q1]
        refine ⟨g1, g2, fun r1 r2 => g3 r1 (hlive l r2)⟩
      · rw [← h1] at e2
        exact ⟨fun r => absurd e2 r, fun r => absurd (e2.symm.trans r) (by simp), fun r => absurd e2 r.1⟩
    · obtain ⟨g1, g2, g3⟩ := hx.tok t
      rw [etk, etv]
      rcases hw.tk t with e | ⟨e, e2⟩
      · rw [e, ← q2]
        exact ⟨g1, g2, g3⟩
      · rw [← h2] at e2
        exact ⟨fun r => absurd e2 r, fun r => absurd (e2.symm.trans r) (by simp), fun _ _ _ _ r => absurd (e2.symm.trans r) (by simp)⟩
theorem CodeT.weak {c : Code} {S2 : TS} (hw : Weak B S S2) (h : CodeT P B c S2 K) : CodeT P B c S K := by
  intro E0 w0 h1 h2 E w a hx hs
  obtain ⟨E', hs', hx', _⟩ := hw.rel h1 h2 hx hs
  exact h E0 w0 h1 h2 E' w a hx' hs'
/-- A loop whose rounds begin in states I i. -/
theorem CodeT.loop {ι : Type} (I : ι → TS) (μ : ι → Nat) {c : Code} (i0 : ι) (h0 : Weak B S (I i0)) (hr : ∀ i, CodeT P B c (I i) (thenK (fun S' => ∃ j, μ j < μ i ∧ Weak B S' (I j)) K)) : CodeT P B (.loop c) S K := by
  intro E0 w0 h1 h2 E w a hx hs
  obtain ⟨E', hs', hx', _⟩ := h0.rel h1 h2 hx hs
  -- the measure stands in no slot: a loop per number
  have key : ∀ n i, μ i = n → ∀ E w a, Ext E0 E w0 w → SRel E w a (I i) → ∀ (b : Frame) (k : List Item) (cs : List Frame), ∃ e a' w', (∃ E' S', SRel E' w' a' S' ∧ Ext E0 E' w0 w' ∧ K e S') ∧ Arrives P (lone (b.at a (.code c :: .inLoop c :: k)) cs w) b k cs e a' w' := by
    intro n
    induction n using Nat.strongRecOn with
    | _ n ih =>
      intro i hi E w a hx hs b k cs
      obtain ⟨e, a1, w1, ⟨E1, S1, s1, x1, hk⟩, harr⟩ := hr i E0 w0 h1 h2 E w a hx hs b (.inLoop c :: k) cs
      cases e with
      | normal =>
        obtain ⟨j, hj, hwk⟩ := hk
        obtain ⟨E2, s2, x2, _⟩ := hwk.rel h1 h2 x1 s1
        obtain ⟨e2, a2, w2, q, harr2⟩ := ih (μ j) (hi ▸ hj) j rfl E2 w1 a1 x2 s2 b k cs
        exact ⟨e2, a2, w2, q, .of_steps (Steps.trans harr (.one step_inLoop)) harr2⟩
      | exit id => exact ⟨_, a1, w1, ⟨E1, S1, s1, x1, hk⟩, .pass (x := .inLoop c) rfl (fun _ _ => .inl (by simp)) harr⟩
      | goto l => exact ⟨_, a1, w1, ⟨E1, S1, s1, x1, hk⟩, .pass (x := .inLoop c) rfl (fun _ _ => .inl (by simp)) harr⟩
      | ret => exact ⟨_, a1, w1, ⟨E1, S1, s1, x1, hk⟩, .pass (x := .inLoop c) rfl (fun _ _ => .inl (by simp)) harr⟩
      | panic ch => exact ⟨_, a1, w1, ⟨E1, S1, s1, x1, hk⟩, .pass (x := .inLoop c) rfl (fun _ _ => .inl (by simp)) harr⟩
      | outgrown => exact ⟨_, a1, w1, ⟨E1, S1, s1, x1, hk⟩, .pass (x := .inLoop c) rfl (fun _ _ => .inl (by simp)) harr⟩
  intro b k cs
  obtain ⟨e, a', w', q, harr⟩ := key _ i0 rfl E' w a hx' hs' b k cs
  exact ⟨e, a', w', q, .of_steps (.one step_loop) harr⟩
end Go.Proofs.Ythmpaepdbjldfaa

/-
  States told by trees: functions.
-/
namespace Go.Proofs.Ythmpaepdbjldfaa
set_option linter.unusedVariables false
set_option linter.unusedSimpArgs false
open Go.RowKit Go.Shelf

inductive PA where
  | one (x : PV)
  | agg (cs : List PV)
inductive PX where
  | a (x : PA)
  | tup (xs : List PA)
def PA.ta : PA → TA
  | .one x => .one (.c (.p x))
  | .agg cs => .agg (cs.map fun x => .c (.p x))
def PA.tx (x : PA) : TX := .a x.ta
def PX.tx : PX → TX
  | .a x => .a x.ta
  | .tup xs => .tup (xs.map PA.ta)
def PARel (Q : Nat → Prop) (w : World) : PA → Value → Prop
  | .one x, v => PRel Q w x v
  | .agg cs, v => ∃ vs : List Value, v = .agg vs.toArray ∧ vs.length = cs.length ∧ ∀ (j : Nat) (x : PV), cs[j]? = some x → PRel Q w x (vs.getD j undef)
def PXRel (Q : Nat → Prop) (w : World) : PX → Value → Prop
  | .a x, v => PARel Q w x v
  | .tup xs, v => ∃ vs : List Value, v = .tuple vs.toArray ∧ vs.length = xs.length ∧ ∀ (j : Nat) (x : PA), xs[j]? = some x → PARel Q w x (vs.getD j undef)
theorem PARel.map {Q R : Nat → Prop} {w w' : World} (h : ∀ b o v, Q b → w.cell? ⟨b, o, none⟩ = some v → R b ∧ w'.cell? ⟨b, o, none⟩ = some v) {x : PA} {v : Value} (r : PARel Q w x v) : PARel R w' x v := by
  cases x with
  | one x => exact PRel.map h r
  | agg cs =>
    obtain ⟨vs, e, hl, r⟩ := r
    exact ⟨vs, e, hl, fun j x hj => PRel.map h (r j x hj)⟩
theorem PXRel.map {Q R : Nat → Prop} {w w' : World} (h : ∀ b o v, Q b → w.cell? ⟨b, o, none⟩ = some v → R b ∧ w'.cell? ⟨b, o, none⟩ = some v) {x : PX} {v : Value} (r : PXRel Q w x v) : PXRel R w' x v := by
  cases x with
  | a x => exact PARel.map h r
  | tup xs =>
    obtain ⟨vs, e, hl, r⟩ := r
    exact ⟨vs, e, hl, fun j x hj => PARel.map h (r j x hj)⟩
theorem ta_rel {E : Env} {w : World} {x : PA} {v : Value} : ARel E w x.ta v ↔ PARel (E.imm w) w x v := by
  cases x with
  | one x => exact Iff.rfl
  | agg cs =>
    constructor
    · rintro ⟨vs, e, hl, r⟩
      exact ⟨vs, e, by simpa using hl, fun j x hj => r j (.c (.p x)) (by simp [hj])⟩
    · rintro ⟨vs, e, hl, r⟩
      refine ⟨vs, e, by simpa using hl, fun j y hj => ?_⟩
      simp only [List.getElem?_map, Option.map_eq_some_iff] at hj
      obtain ⟨x, hx, rfl⟩ := hj
      exact r j x hx
theorem tx_rel {E : Env} {w : World} {x : PX} {v : Value} : XRel E w x.tx v ↔ PXRel (E.imm w) w x v := by
  cases x with
  | a x => exact ta_rel
  | tup xs =>
    constructor
    · rintro ⟨vs, e, hl, r⟩
      exact ⟨vs, e, by simpa using hl, fun j x hj => ta_rel.1 (r j x.ta (by simp [hj]))⟩
    · rintro ⟨vs, e, hl, r⟩
      refine ⟨vs, e, by simpa using hl, fun j y hj => ?_⟩
      simp only [List.getElem?_map, Option.map_eq_some_iff] at hj
      obtain ⟨x, hx, rfl⟩ := hj
      exact ta_rel.2 (r j x hx)
/-- A function that only reads: for these arguments it answers as R says, and changes no memory that was there. -/
def PFun (P : Program) (f : FuncId) (args : List PA) (R : PX → Prop) : Prop :=
  ∀ (Q : Nat → Prop) w (vs : List Value), (∀ b, Q b → b < w.heap.size) → vs.length = args.length → (∀ (j : Nat) (x : PA), args[j]? = some x → PARel Q w x (vs.getD j undef)) →
    Calls P f vs.toArray w fun e w' => ∃ v X, e = .returned v ∧ Upd [] w w' ∧ PXRel (fun b => (Q b ∨ w.heap.size ≤ b) ∧ b < w'.heap.size) w' X v ∧ R X
theorem hrel_upd {E : Env} {w w' : World} (h : HRel E w) (hu : Upd [] w w') : Ext E E w w' ∧ HRel E w' ∧ ∀ b, (E.imm w b ∨ w.heap.size ≤ b) ∧ b < w'.heap.size → E.imm w' b := by
  have himm : ∀ b, (E.imm w b ∨ w.heap.size ≤ b) ∧ b < w'.heap.size → E.imm w' b := by
    rintro b ⟨hb | hb, hlt⟩
    · exact ⟨hlt, hb.2⟩
    · exact ⟨hlt, fun q => by have := h.nob _ q; omega, fun l hl e => by have := (h.nol l hl).2; omega, fun t ht q => by have := (h.not t _ ht q).2.1; omega⟩
  have hx : Ext E E w w' := ext_of_upd h hu (by simp) rfl (fun l => locrefl rfl rfl) (fun t => tokrefl rfl rfl) (fun b hb => himm b ⟨.inl hb, Nat.lt_of_lt_of_le hb.1 hu.size⟩)
  refine ⟨hx, ⟨fun b hb => Nat.lt_of_lt_of_le (h.nob b hb) hu.size, fun l T cs e => ?_, fun l hl => ?_, h.inj, fun t T k m es e => ?_, fun t b ht hb => ?_⟩, himm⟩
  · obtain ⟨vs, q1, q2⟩ := h.loc l T cs e
    exact ⟨vs, hu.blk q1 (by simp), CRel.ext hx q2⟩
  · have := h.nol l hl
    exact ⟨this.1, Nat.lt_of_lt_of_le this.2 hu.size⟩
  · obtain ⟨ys, q1, q2⟩ := h.tok t T k m es e
    exact ⟨ys, own_upd0 q1 hu, Rows.ext hx q2⟩
  · obtain ⟨g1, g2, g3⟩ := h.not t b ht hb
    exact ⟨g1, Nat.lt_of_lt_of_le g2 hu.size, g3⟩
theorem CallsT.pure {P : Program} {f : FuncId} {args : List PA} {R : PX → Prop} {S : TS} {K : TX → TS → Prop} (h : PFun P f args R) {xs : List TX} (hxs : xs = args.map PA.tx) (hk : ∀ X, R X → K X.tx S) : CallsT P f xs S K := by
  intro E w vs h1 h2 hH hl hr
  subst hxs
  refine (h (E.imm w) w vs (fun b hb => hb.1) (by simpa using hl) (fun j x hj => ta_rel.1 (hr j x.tx (by simp [hj])))).mono ?_
  rintro e w' ⟨v, X, rfl, hu, hX, hR⟩
  obtain ⟨hx, hH', himm⟩ := hrel_upd hH hu
  exact ⟨v, E, S, X.tx, rfl, hx, hH', h1, h2, rfl, rfl, tx_rel.2 (PXRel.map (fun b o v hb hc => ⟨himm b hb, hc⟩) hX), hk X hR⟩
/-! ### Slices of one's own, lent -/
def TS.borV (S : TS) : TV → Option PV
  | .c (.p x) => some x
  | .os t m => match S.tk t with
    | .tok _ k m' es => if m = m' then some (.sl k es) else none
    | _ => none
  | _ => none
def TS.borL (S : TS) : List TV → Option (List PV)
  | [] => some []
  | x :: xs => match S.borV x, S.borL xs with
    | some y, some ys => some (y :: ys)
    | _, _ => none
def TS.bor (S : TS) : TX → Option PA
  | .a (.one x) => (S.borV x).map .one
  | .a (.agg cs) => (S.borL cs).map .agg
  | _ => none
def Env.lent (E : Env) (w : World) (b : Nat) : Prop := b < w.heap.size ∧ ¬ E.no b ∧ ∀ l, E.live l → E.ρ l ≠ b
/-! ### Where a function begins and ends -/
def resV (P : Program) (S : TS) : ResultVar → Option TA
  | .tmp t => if t < S.sz then (match S.tm t with | .a x => some x | _ => none) else none
  | .cell a t => if a < S.sz ∧ (tyOf P t).ok = true then (S.at? (tyOf P t).n (S.tm a)).bind fun cs => if (tyOf P t).ag then some (.agg cs) else (cs[0]?).map .one else none
def resL (P : Program) (S : TS) : List ResultVar → Option (List TA)
  | [] => some []
  | r :: rs => match resV P S r, resL P S rs with
    | some x, some xs => some (x :: xs)
    | _, _ => none
def resT (P : Program) (S : TS) (rs : List ResultVar) : Option TX := match resL P S rs with
  | some [x] => some (.a x)
  | some xs => some (.tup xs)
  | none => none
def resRun (tmps : Array Value) : ResultVar → Sem Value
  | .tmp t => pure (tmps.getD t undef)
  | .cell a t => do loadVar t (← asAddr (tmps.getD a undef))
theorem resV_rel {P : Program} {E : Env} {w : World} {a : Act} {S : TS} (h : SRel E w a S) {r : ResultVar} {x : TA} (e : resV P S r = some x) : ∃ v, (resRun a.tmps r).run P w = .ok v w ∧ ARel E w x v := by
  cases r with
  | tmp t =>
    simp only [resV] at e
    split at e
    · have := h.2.2.2.2.2 t
      split at e
      · rename_i y hy
        injection e with e
        subst e
        rw [hy] at this
        exact ⟨_, rfl, this⟩
      · cases e
    · cases e
  | cell p t =>
    simp only [resV] at e
    split at e
    · rename_i hc
      simp only [Option.bind_eq_some_iff] at e
      obtain ⟨cs, hcs, e⟩ := e
      have hcs' : S.at? (tyOf P t).n (S.ev (.tmp p)) = some cs := by
        show S.at? _ (if p < S.sz then S.tm p else .und) = _
        rw [if_pos hc.1]
        exact hcs
      obtain ⟨b, o, vs, hv, hl, hcr, hcell⟩ := h.at hcs'
      have hr := run_load_t (P := P) (w := w) (t := t) (b := b) (o := o) (vs := vs) (by rw [hcr.1, hl]) hc.2 hcell
      have hv' : a.tmps.getD p undef = .pointer (some ⟨b, o, none⟩) := hv
      unfold Instr.loadAt Instr.sureAddr at hr
      simp only [Sem.run_bind, Sem.run_pure, Result.andThen_ok] at hr
      refine ⟨_, by simp only [resRun, hv', asAddr, Sem.run_bind, Sem.run_pure, Result.andThen_ok]; exact hr, ?_⟩
      split at e
      · rename_i hg
        injection e with e
        subst e
        rw [if_pos hg]
        exact ⟨vs, rfl, hcr⟩
      · rename_i hg
        rw [if_neg hg]
        simp only [Option.map_eq_some_iff] at e
        obtain ⟨c, hc0, rfl⟩ := e
        exact hcr.2 0 c hc0
    · cases e
theorem resL_rel {P : Program} {E : Env} {w : World} {a : Act} {S : TS} (h : SRel E w a S) : ∀ {rs : List ResultVar} {xs : List TA}, resL P S rs = some xs → ∃ vs : List Value, (rs.mapM (resRun a.tmps)).run P w = .ok vs w ∧ vs.length = xs.length ∧ ∀ (j : Nat) (x : TA), xs[j]? = some x → ARel E w x (vs.getD j undef)
  | [], xs, e => by
    injection e with e
    subst e
    exact ⟨[], rfl, rfl, fun j x hj => by simp at hj⟩
  | r :: rs, xs, e => by
    unfold resL at e
    split at e
    · rename_i x xs' e1 e2
      injection e with e
      subst e
      obtain ⟨v, hv, hr⟩ := resV_rel h e1
      obtain ⟨vs, hvs, hl, hrs⟩ := resL_rel h e2
      refine ⟨v :: vs, by simp [List.mapM_cons, hv, hvs], by simp [hl], fun j y hj => ?_⟩
      cases j with
      | zero =>
        injection hj with hj
        subst hj
        exact hr
      | succ j => exact hrs j y (by simpa using hj)
    · cases e
theorem results_rel {P : Program} {E : Env} {w : World} {a : Act} {S : TS} (h : SRel E w a S) {fn : Func} {X : TX} (e : resT P S fn.results.toList = some X) : ∃ v, (results fn a.tmps).run P w = .ok v w ∧ XRel E w X v := by
  unfold resT at e
  have hm : results fn a.tmps = (do let vs ← fn.results.toList.mapM (resRun a.tmps); pure (if h : vs.toArray.size = 1 then vs.toArray[0] else .tuple vs.toArray)) := by
    have e1 : fn.results = fn.results.toList.toArray := by simp
    unfold results
    conv => lhs; rw [e1]
    rw [List.mapM_toArray]
    simp only [map_eq_pure_bind, bind_assoc, pure_bind]
    rfl
  rw [hm]
  split at e
  · rename_i x hx
    injection e with e
    subst e
    obtain ⟨vs, hvs, hl, hr⟩ := resL_rel h hx
    match vs, hl with
    | [v], _ => exact ⟨v, by simp [hvs], hr 0 x rfl⟩
  · rename_i xs hne hx
    injection e with e
    subst e
    obtain ⟨vs, hvs, hl, hr⟩ := resL_rel h hx
    refine ⟨.tuple vs.toArray, ?_, vs, rfl, hl, hr⟩
    have : ¬ vs.length = 1 := by
      intro h1
      rw [hl] at h1
      match xs, h1 with
      | [x], _ => exact hne x rfl
    simp [hvs, this]
  · cases e
/-- Where a function that only reads begins. -/
def start (args : List PA) (n : Nat) : TS := ⟨fun t => ((args.map PA.tx)[t]?).getD .und, fun _ => .hole, fun _ => .hole, 0, 0, n⟩
def noBase : Base := ⟨fun _ => .hole, fun _ => .hole⟩
def endK (P : Program) (fn : Func) (R : PX → Prop) : Exit → TS → Prop
  | .ret, S | .normal, S => ∃ X : PX, resT P S fn.results.toList = some X.tx ∧ R X
  | _, _ => False
theorem PFun.of_code {P : Program} {f : FuncId} {fn : Func} {c : Code} {args : List PA} {R : PX → Prop} (hf : P.funcs[f]? = some fn) (hb : fn.body = some c) (hn : args.length ≤ fn.ntmps) (h : CodeT P noBase c (start args fn.ntmps) (endK P fn R)) : PFun P f args R := by
  intro Q w vs hQ hl hr
  let E0 : Env := ⟨id, fun _ => undef, fun _ => .hole, fun _ => .hole, fun b => b < w.heap.size ∧ ¬ Q b⟩
  have hnl : ∀ l, ¬ E0.live l := fun l hl => hl.1 rfl
  have hnt : ∀ t, ¬ E0.grows t := fun t ht => ht.1 rfl
  have himm : ∀ b, Q b → E0.imm w b := fun b hb => ⟨hQ b hb, fun q => q.2 hb, fun l hl => absurd hl (hnl l), fun t ht => absurd ht (hnt t)⟩
  have hH : HRel E0 w := ⟨fun b hb => hb.1, fun l T cs e => absurd (show LB.hole = LB.cells T cs from e) (by simp), fun l hl => absurd hl (hnl l), fun l _ hl => absurd hl (hnl l), fun t T k n es e => absurd (show TK.hole = TK.tok T k n es from e) (by simp), fun t b ht => absurd ht (hnt t)⟩
  have hs : SRel E0 w { tmps := vs.toArray ++ Array.replicate (fn.ntmps - vs.toArray.size) undef, defers := [] } (start args fn.ntmps) := by
    refine ⟨rfl, rfl, hH, rfl, ?_, fun t => ?_⟩
    · simp only [Array.size_append, Array.size_replicate, List.size_toArray, start]
      omega
    · simp only [start, List.getElem?_map]
      cases ht : args[t]? with
      | none => trivial
      | some x =>
        have htl := (List.getElem?_eq_some_iff.1 ht).1
        have := hr t x ht
        have e : (vs.toArray ++ Array.replicate (fn.ntmps - vs.toArray.size) undef).getD t undef = vs.getD t undef := by
          rw [Array.getD_eq_getD_getElem?, Array.getElem?_append_left (by simp; omega), List.getD_eq_getElem?_getD]
          simp
        rw [e]
        exact ta_rel.2 (PARel.map (fun b o v hb hc => ⟨himm b hb, hc⟩) this)
  refine calls_of_wp hf hb (wp_mono (h E0 w rfl rfl E0 w _ (Ext.refl E0 w) hs) ?_)
  rintro e a' w' ⟨E', S', hs', hx, hk⟩
  have hfin : (∃ X : PX, resT P S' fn.results.toList = some X.tx ∧ R X) → a'.defers = [] ∧ ∃ v, (results fn a'.tmps).run P w' = .ok v w' ∧ ∃ v_1 X, Ending.returned v = Ending.returned v_1 ∧ Upd [] w w' ∧ PXRel (fun b => (Q b ∨ w.heap.size ≤ b) ∧ b < w'.heap.size) w' X v_1 ∧ R X := by
    rintro ⟨X, hX, hR⟩
    obtain ⟨v, hv, hxr⟩ := results_rel hs' hX
    refine ⟨hs'.2.2.2.1, v, hv, v, X, rfl, ⟨hx.os, hx.tape, hx.output, hx.size, fun b hb _ => hx.out b hb (.inr ⟨fun l hl => absurd hl (hnl l), fun t ht => absurd ht (hnt t)⟩)⟩, PXRel.map (fun b o v hb hc => ⟨⟨?_, hb.1⟩, hc⟩) (tx_rel.1 hxr), hR⟩
    have hno := hb.2.1
    rw [hx.no] at hno
    by_cases hlt : b < w.heap.size
    · by_cases hq : Q b
      · exact .inl hq
      · exact absurd ⟨hlt, hq⟩ hno
    · exact .inr (Nat.le_of_not_lt hlt)
  cases e with
  | ret => exact hfin hk
  | normal => exact hfin hk
  | _ => exact hk.elim
/-! ### The operations of a region, as a list -/
def OpsL (P : Program) (ds : List (Option Tmp)) : List Oper → TS → (TS → Prop) → Prop
  | [], S, K => K S
  | o :: l, S, K => match o.guard with
    | none => OpT P o S (fun S' => OpsL P ds l S' K)
    | some (j, want) => ∃ e b, ds[j]? = some (some e) ∧ DstOk o S ∧ (S.ev (.tmp e)).gv = some b ∧ (b = some want → OpT P o S (fun S' => OpsL P ds l S' K)) ∧ (b ≠ some want → OpsL P ds l (S.put o.dst (.tup [])) K)
theorem drop_cons {α : Type} {l r : List α} {k : Nat} {x : α} (h : l.drop k = x :: r) : l[k]? = some x ∧ l.drop (k + 1) = r := by
  refine ⟨?_, ?_⟩
  · have := congrArg (·[0]?) h
    simpa [List.getElem?_drop] using this
  · have := congrArg (List.drop 1) h
    simpa [List.drop_drop, Nat.add_comm] using this
theorem OpT.mono {P : Program} {o : Oper} {S : TS} {K K' : TS → Prop} (h : OpT P o S K) (hk : ∀ S', K S' → K' S') : OpT P o S K' :=
  fun E w a hs next Q hn => h E w a hs next Q (fun E' w' a' S' q1 q2 q3 => hn E' w' a' S' q1 q2 (hk S' q3))
theorem OpsL.run {P : Program} {ops : Array Oper} {K : TS → Prop} : ∀ (l : List Oper) (k : Nat) (S : TS), ops.toList.drop k = l → OpsL P (ops.toList.map (·.dst)) l S K → OpsT P ops (List.range' k l.length) S K
  | [], _, _, _, h => OpsT.nil h
  | o :: l, k, S, hl, h => by
    obtain ⟨h1, h2⟩ := drop_cons hl
    rw [List.length_cons, List.range'_succ]
    have ho : ops[k]? = some o := by simpa using h1
    unfold OpsL at h
    split at h
    · rename_i hg
      exact OpsT.cons ho hg (h.mono fun S' q => OpsL.run l (k + 1) S' h2 q)
    · rename_i j want hg
      obtain ⟨e, b, hj, hdo, hb, g1, g2⟩ := h
      have hlt : e < S.sz := by
        rcases Nat.lt_or_ge e S.sz with q | q
        · exact q
        · have : S.ev (.tmp e) = .und := by
            show (if e < S.sz then S.tm e else .und) = _
            rw [if_neg (Nat.not_lt.2 q)]
          rw [this] at hb
          cases hb
      have htm : (S.tm e).gv = some b := by
        have e2 : S.ev (.tmp e) = S.tm e := by
          show (if e < S.sz then S.tm e else .und) = _
          rw [if_pos hlt]
        rwa [e2] at hb
      refine OpsT.guard ho hdo hg (d := e) ?_ hlt htm (fun q => (g1 q).mono fun S' q => OpsL.run l (k + 1) S' h2 q) (fun q => OpsL.run l (k + 1) _ h2 (g2 q))
      rw [List.getElem?_map] at hj
      simp only [Option.map_eq_some_iff] at hj
      obtain ⟨o', ho', q⟩ := hj
      rw [Array.getElem?_toList] at ho'
      rw [ho']
      exact q
theorem CodeT.ops {P : Program} {B : Base} {S : TS} {K : Exit → TS → Prop} {i : Nat} {l : List Oper} (h : OpsL P (l.map (·.dst)) l S (K .normal)) : CodeT P B (.region i l.toArray false) S K := by
  refine CodeT.region ?_
  have := OpsL.run (ops := l.toArray) l 0 S rfl h
  rw [← List.range_eq_range'] at this
  simpa using this
theorem dst_ok {d : Nat} {S : TS} (h : d < S.sz) : ∀ i, some d = some i → i < S.sz := fun i e => by injection e with e; omega
theorem dst_ok0 {S : TS} : ∀ i, (none : Option Nat) = some i → i < S.sz := fun i e => by cases e
section
variable {P : Program} {ds : List (Option Tmp)} {d : Tmp} {ty : TypeId} {pos : String} {after : Array Edge} {l : List Oper} {S : TS} {K : TS → Prop}
theorem L.guard {d : Option Tmp} {op : Op} {j : Nat} {want : Bool} {e : Nat} {b : Bool} (hj : ds[j]? = some (some e)) (hd : ∀ i, d = some i → i < S.sz) (hb : (S.ev (.tmp e)).val? = some (.bool b)) (h1 : b = want → OpsL P ds (⟨d, op, ty, pos, after, none⟩ :: l) S K) (h2 : b ≠ want → OpsL P ds l (S.put d (.tup [])) K) : OpsL P ds (⟨d, op, ty, pos, after, some (j, want)⟩ :: l) S K :=
  ⟨e, some b, hj, hd, by rw [val?_eq hb]; rfl, fun q => h1 (Option.some.inj q), fun q => h2 fun e => q (by rw [e])⟩
theorem L.passU {d : Option Tmp} {op : Op} {j : Nat} {want : Bool} {e : Nat} (hj : ds[j]? = some (some e)) (hd : ∀ i, d = some i → i < S.sz) (hb : S.ev (.tmp e) = .tup []) (h : OpsL P ds l (S.put d (.tup [])) K) : OpsL P ds (⟨d, op, ty, pos, after, some (j, want)⟩ :: l) S K :=
  ⟨e, none, hj, hd, by rw [hb]; rfl, (fun q => by cases q), fun _ => h⟩
theorem L.quiet {op : Op} (hd : d < S.sz) {X : TX} {pre : Prop} (he : qv P S op = some (X, pre)) (hp : pre) (hk : OpsL P ds l (S.put (some d) X) K) : OpsL P ds (⟨some d, op, ty, pos, after, none⟩ :: l) S K :=
  OpT.quiet (o := ⟨some d, op, ty, pos, after, none⟩) (dst_ok hd) he hp hk
theorem L.pick {c x y : Operand} (hd : d < S.sz) {t : Bool} (hc : (S.ev c).val? = some (.bool t)) (h1 : t = true → OpsL P ds l (S.put (some d) (S.ev x)) K) (h2 : t = false → OpsL P ds l (S.put (some d) (S.ev y)) K) : OpsL P ds (⟨some d, .pick c x y, ty, pos, after, none⟩ :: l) S K :=
  OpT.pick (o := ⟨some d, .pick c x y, ty, pos, after, none⟩) (dst_ok hd) rfl hc h1 h2
theorem L.alloc {t : TypeId} (hd : d < S.sz) (hok : (tyOf P t).ok = true) (hl : S.lh S.nl = .hole) (hk : OpsL P ds l (S.newL (some d) t ((tyOf P t).zero.map fun v => .c (.p (.raw v)))) K) : OpsL P ds (⟨some d, .alloc t, ty, pos, after, none⟩ :: l) S K :=
  OpT.alloc (o := ⟨some d, .alloc t, ty, pos, after, none⟩) (dst_ok hd) rfl hok hl hk
theorem L.box {t : TypeId} {x : Operand} (hd : d < S.sz) {cs : List TV} (hc : (S.ev x).cells = some cs) (hl : S.lh S.nl = .hole) (hk : OpsL P ds l (S.newL (some d) t cs) K) : OpsL P ds (⟨some d, .box t x, ty, pos, after, none⟩ :: l) S K :=
  OpT.box (o := ⟨some d, .box t x, ty, pos, after, none⟩) (dst_ok hd) rfl hc hl hk
theorem L.store {t : TypeId} {x y : Operand} (hok : (tyOf P t).ok = true) {p off : Nat} (hx : S.ev x = .a (.one (.c (.ptr p off)))) {T : TypeId} {cs us : List TV} (hl : S.lh p = .cells T cs) (hc : (S.ev y).cells = some us) (hn : us.length = (tyOf P t).n) (hle : off + us.length ≤ cs.length)
    (hk : OpsL P ds l (S.setL none p T (overT cs off us)) K) : OpsL P ds (⟨none, .store t x y, ty, pos, after, none⟩ :: l) S K :=
  OpT.store (o := ⟨none, .store t x y, ty, pos, after, none⟩) dst_ok0 rfl hok hx hl hc hn hle hk
theorem L.append {s x : Operand} {t el : TypeId} (hd : d < S.sz) (ht : (tyOf P t).d = .slice el) (hok : (tyOf P el).ok = true) (hnz : (tyOf P el).n ≠ 0) (hby : (tyOf P el).bytes ≤ 1000) {τ m k : Nat} {es ys : List (List PV)} (hs : S.ev s = .a (.one (.os τ m))) (hτ : S.tk τ = .tok el k m es) (hk : k = (tyOf P el).n)
    (hx : S.els (S.ev x) = some (k, ys)) (hn : es.length + ys.length ≤ 100000000) (hK : OpsL P ds l (S.setT (some d) (.a (.one (.os τ (m + 1)))) τ (.tok el k (m + 1) (es ++ ys))) K) :
    OpsL P ds (⟨some d, .call ⟨.builtin .append, #[s, x], #[t, t]⟩, ty, pos, after, none⟩ :: l) S K :=
  OpT.append (o := ⟨some d, .call ⟨.builtin .append, #[s, x], #[t, t]⟩, ty, pos, after, none⟩) (dst_ok hd) rfl ht hok hnz hby hs hτ hk hx hn hK
theorem L.listed {t el : TypeId} {n : Nat} {parts : List (Nat × Operand)} (hd : d < S.sz) (ht : (tyOf P t).d = .slice el) (hok : (tyOf P el).ok = true) (hnz : (tyOf P el).n ≠ 0) {es : List (List PV)} (hp : partsT S (tyOf P el).n parts = some es)
    (hix : parts.map (·.1) = List.range n) (hn : n ≤ 10000) (hn0 : 0 < n) (hsm : (tyOf P el).n ≤ 1000) (hK : OpsL P ds l (S.put (some d) (one (.sl (tyOf P el).n es))) K) : OpsL P ds (⟨some d, .buildSlice t n parts.toArray, ty, pos, after, none⟩ :: l) S K :=
  OpT.listed (o := ⟨some d, .buildSlice t n parts.toArray, ty, pos, after, none⟩) (dst_ok hd) rfl ht hok hnz hp hix hn hn0 hsm hK
theorem L.call {fx : Operand} {us : List Operand} {ats : Array TypeId} {f : FuncId} {cs : List TX} (hd : d < S.sz) (hf : (S.ev fx).callee = some (f, cs)) (he : Enters P f)
    (hK : CallsT P f (us.map S.ev ++ cs) S (fun X S' => OpsL P ds l (S'.put (some d) X) K)) : OpsL P ds (⟨some d, .call ⟨.value fx, us.toArray, ats⟩, ty, pos, after, none⟩ :: l) S K :=
  OpT.call (o := ⟨some d, .call ⟨.value fx, us.toArray, ats⟩, ty, pos, after, none⟩) (dst_ok hd) rfl rfl hf he hK
/-- A function that only reads is called. -/
theorem L.pcall {f : FuncId} {us : List Operand} {ats : Array TypeId} {args : List PA} {R : PX → Prop} (hd : d < S.sz) (he : Enters P f) (h : PFun P f args R) (hargs : us.map S.ev = args.map PA.tx) (hk : ∀ X, R X → OpsL P ds l (S.put (some d) X.tx) K) :
    OpsL P ds (⟨some d, .call ⟨.value (.func f), us.toArray, ats⟩, ty, pos, after, none⟩ :: l) S K :=
  L.call hd rfl he (CallsT.pure h (by simpa using hargs) hk)
end
theorem ev_tmp (S : TS) (t : Nat) : S.ev (.tmp t) = if t < S.sz then S.tm t else .und := rfl
theorem ev_const (S : TS) (v : Value) : S.ev (.const v) = constX v := rfl
theorem ev_func (S : TS) (f : FuncId) : S.ev (.func f) = one (.fn f []) := rfl
theorem tm_put (S : TS) (d : Nat) (x : TX) (t : Nat) : (S.put (some d) x).tm t = if t = d then x else S.tm t := rfl
theorem tm_put0 (S : TS) (x : TX) (t : Nat) : (S.put none x).tm t = S.tm t := rfl
theorem lh_put (S : TS) (d : Option Nat) (x : TX) : (S.put d x).lh = S.lh := rfl
theorem tk_put (S : TS) (d : Option Nat) (x : TX) : (S.put d x).tk = S.tk := rfl
theorem nl_put (S : TS) (d : Option Nat) (x : TX) : (S.put d x).nl = S.nl := rfl
theorem nt_put (S : TS) (d : Option Nat) (x : TX) : (S.put d x).nt = S.nt := rfl
theorem sz_put (S : TS) (d : Option Nat) (x : TX) : (S.put d x).sz = S.sz := rfl
theorem tm_newL (S : TS) (d : Nat) (T : TypeId) (cs : List TV) (t : Nat) : (S.newL (some d) T cs).tm t = if t = d then .a (.one (.c (.ptr S.nl 0))) else S.tm t := rfl
theorem lh_newL (S : TS) (d : Option Nat) (T : TypeId) (cs : List TV) (l : Nat) : (S.newL d T cs).lh l = if l = S.nl then .cells T cs else S.lh l := rfl
theorem tk_newL (S : TS) (d : Option Nat) (T : TypeId) (cs : List TV) : (S.newL d T cs).tk = S.tk := rfl
theorem nl_newL (S : TS) (d : Option Nat) (T : TypeId) (cs : List TV) : (S.newL d T cs).nl = S.nl + 1 := rfl
theorem nt_newL (S : TS) (d : Option Nat) (T : TypeId) (cs : List TV) : (S.newL d T cs).nt = S.nt := rfl
theorem sz_newL (S : TS) (d : Option Nat) (T : TypeId) (cs : List TV) : (S.newL d T cs).sz = S.sz := rfl
theorem tm_setL (S : TS) (l : Nat) (T : TypeId) (cs : List TV) (t : Nat) : (S.setL none l T cs).tm t = S.tm t := rfl
theorem lh_setL (S : TS) (d : Option Nat) (l : Nat) (T : TypeId) (cs : List TV) (j : Nat) : (S.setL d l T cs).lh j = if j = l then .cells T cs else S.lh j := rfl
theorem tk_setL (S : TS) (d : Option Nat) (l : Nat) (T : TypeId) (cs : List TV) : (S.setL d l T cs).tk = S.tk := rfl
theorem nl_setL (S : TS) (d : Option Nat) (l : Nat) (T : TypeId) (cs : List TV) : (S.setL d l T cs).nl = S.nl := rfl
theorem nt_setL (S : TS) (d : Option Nat) (l : Nat) (T : TypeId) (cs : List TV) : (S.setL d l T cs).nt = S.nt := rfl
theorem sz_setL (S : TS) (d : Option Nat) (l : Nat) (T : TypeId) (cs : List TV) : (S.setL d l T cs).sz = S.sz := rfl
theorem tm_setT (S : TS) (d : Nat) (X : TX) (τ : Nat) (k : TK) (t : Nat) : (S.setT (some d) X τ k).tm t = if t = d then X else S.tm t := rfl
theorem lh_setT (S : TS) (d : Option Nat) (X : TX) (τ : Nat) (k : TK) : (S.setT d X τ k).lh = S.lh := rfl
theorem tk_setT (S : TS) (d : Option Nat) (X : TX) (τ : Nat) (k : TK) (t : Nat) : (S.setT d X τ k).tk t = if t = τ then k else S.tk t := rfl
theorem nl_setT (S : TS) (d : Option Nat) (X : TX) (τ : Nat) (k : TK) : (S.setT d X τ k).nl = S.nl := rfl
theorem nt_setT (S : TS) (d : Option Nat) (X : TX) (τ : Nat) (k : TK) : (S.setT d X τ k).nt = S.nt := rfl
theorem sz_setT (S : TS) (d : Option Nat) (X : TX) (τ : Nat) (k : TK) : (S.setT d X τ k).sz = S.sz := rfl
theorem tm_newT (S : TS) (d : Nat) (T : TypeId) (k : Nat) (es : List (List PV)) (t : Nat) : (S.newT (some d) T k es).tm t = if t = d then .a (.one (.os S.nt 0)) else S.tm t := rfl
theorem lh_newT (S : TS) (d : Option Nat) (T : TypeId) (k : Nat) (es : List (List PV)) : (S.newT d T k es).lh = S.lh := rfl
theorem tk_newT (S : TS) (d : Option Nat) (T : TypeId) (k : Nat) (es : List (List PV)) (t : Nat) : (S.newT d T k es).tk t = if t = S.nt then .tok T k 0 es else S.tk t := rfl
theorem nl_newT (S : TS) (d : Option Nat) (T : TypeId) (k : Nat) (es : List (List PV)) : (S.newT d T k es).nl = S.nl := rfl
theorem nt_newT (S : TS) (d : Option Nat) (T : TypeId) (k : Nat) (es : List (List PV)) : (S.newT d T k es).nt = S.nt + 1 := rfl
theorem sz_newT (S : TS) (d : Option Nat) (T : TypeId) (k : Nat) (es : List (List PV)) : (S.newT d T k es).sz = S.sz := rfl
theorem L.nil {P : Program} {ds : List (Option Tmp)} {S : TS} {K : TS → Prop} (h : K S) : OpsL P ds [] S K := h
theorem C.ops {P : Program} {B : Base} {S : TS} {K : Exit → TS → Prop} {i : Nat} {l : List Oper} {y : Code} (ds : List (Option Tmp)) (hd : l.map (·.dst) = ds) (h : OpsL P ds l S (fun S' => CodeT P B y S' K)) : CodeT P B (.seq (.region i l.toArray false) y) S K := by
  subst hd
  exact CodeT.seq (CodeT.ops h)
theorem C.last {P : Program} {B : Base} {S : TS} {K : Exit → TS → Prop} {i : Nat} {l : List Oper} (ds : List (Option Tmp)) (hd : l.map (·.dst) = ds) (h : OpsL P ds l S (fun S' => K .normal S')) : CodeT P B (.region i l.toArray false) S K := by
  subst hd
  exact CodeT.ops h
/-- An if, behind which the code goes on. -/
theorem C.if {P : Program} {B : Base} {S : TS} {K : Exit → TS → Prop} {c : Operand} {x y z : Code} {b : Bool} (hc : (S.ev c).val? = some (.bool b)) (h1 : b = true → CodeT P B x S (thenK (fun S' => CodeT P B z S' K) K)) (h2 : b = false → CodeT P B y S (thenK (fun S' => CodeT P B z S' K) K)) : CodeT P B (.seq (.cond c x y) z) S K :=
  CodeT.seq (CodeT.cond hc h1 h2)
theorem tm_start (args : List PA) (n t : Nat) : (start args n).tm t = ((args.map PA.tx)[t]?).getD .und := rfl
theorem lh_start (args : List PA) (n l : Nat) : (start args n).lh l = .hole := rfl
theorem tk_start (args : List PA) (n t : Nat) : (start args n).tk t = .hole := rfl
theorem nl_start (args : List PA) (n : Nat) : (start args n).nl = 0 := rfl
theorem nt_start (args : List PA) (n : Nat) : (start args n).nt = 0 := rfl
theorem sz_start (args : List PA) (n : Nat) : (start args n).sz = n := rfl
theorem PFun.enter {P : Program} {f : FuncId} {fn : Func} {c : Code} {args : List PA} {R : PX → Prop} (hf : P.funcs[f]? = some fn) (hb : fn.body = some c) (m : Nat) (hm : fn.ntmps = m) (hn : args.length ≤ m) (h : CodeT P noBase c (start args m) (endK P fn R)) : PFun P f args R := by
  subst hm
  exact PFun.of_code hf hb hn h
end Go.Proofs.Ythmpaepdbjldfaa
