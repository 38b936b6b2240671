/-
  Texts of this claim, merged: TN, TU, TV, TS. Lemmas and contracts; no conditions of our own.
-/
import Derived.Test.YthmpaepdbjldfaaG8
import Derived.Test.YthmpaepdbjldfaaG11

/-
  States told by trees: what a walk reckons with, in bundles.
-/
namespace Go.Proofs.Ythmpaepdbjldfaa
set_option linter.unusedVariables false
set_option linter.unusedSimpArgs false
open Go.RowKit Go.Shelf

theorem qq : (type_of% @ev_tmp) ∧ (type_of% @ev_const) ∧ (type_of% @ev_func) ∧ (type_of% @tm_put) ∧ (type_of% @tm_put0) ∧ (type_of% @lh_put) ∧ (type_of% @tk_put) ∧ (type_of% @nl_put) ∧ (type_of% @nt_put) ∧ (type_of% @sz_put) ∧ (type_of% @tm_newL) ∧ (type_of% @lh_newL) ∧ (type_of% @tk_newL) ∧ (type_of% @nl_newL) ∧ (type_of% @nt_newL) ∧ (type_of% @sz_newL) ∧ (type_of% @tm_setL) ∧ (type_of% @lh_setL) ∧ (type_of% @tk_setL) ∧ (type_of% @nl_setL) ∧ (type_of% @nt_setL) ∧ (type_of% @sz_setL) ∧ (type_of% @tm_setT) ∧ (type_of% @lh_setT) ∧ (type_of% @tk_setT) ∧ (type_of% @nl_setT) ∧ (type_of% @nt_setT) ∧ (type_of% @sz_setT) ∧ (type_of% @tm_newT) ∧ (type_of% @lh_newT) ∧ (type_of% @tk_newT) ∧ (type_of% @nl_newT) ∧ (type_of% @nt_newT) ∧ (type_of% @sz_newT) ∧ (type_of% @tm_start) ∧ (type_of% @lh_start) ∧ (type_of% @tk_start) ∧ (type_of% @nl_start) ∧ (type_of% @nt_start) ∧ (type_of% @sz_start) ∧ (type_of% @tm_startM) ∧ (type_of% @lh_startM) ∧ (type_of% @tk_startM) ∧ (type_of% @nl_startM) ∧ (type_of% @nt_startM) ∧ (type_of% @sz_startM) ∧ (type_of% @tm_ap) ∧ (type_of% @tm_ap0) ∧ (type_of% @sz_ap) ∧ (type_of% @lh_ap0) ∧ (type_of% @lh_ap1) ∧ (type_of% @tk_ap0) ∧ (type_of% @tk_ap1) ∧ (type_of% @nl_ap) ∧ (type_of% @nl_ap1) ∧ (type_of% @nt_ap) ∧ (type_of% @nt_ap1) ∧ (type_of% @tm_ad) ∧ (type_of% @lh_ad) ∧ (type_of% @tk_ad) ∧ (type_of% @nl_ad) ∧ (type_of% @nt_ad) ∧ (type_of% @sz_ad) ∧ (type_of% @tm_adT) ∧ (type_of% @lh_adT) ∧ (type_of% @tk_adT) ∧ (type_of% @nl_adT) ∧ (type_of% @nt_adT) ∧ (type_of% @sz_adT) :=
  ⟨@ev_tmp, @ev_const, @ev_func, @tm_put, @tm_put0, @lh_put, @tk_put, @nl_put, @nt_put, @sz_put, @tm_newL, @lh_newL, @tk_newL, @nl_newL, @nt_newL, @sz_newL, @tm_setL, @lh_setL, @tk_setL, @nl_setL, @nt_setL, @sz_setL, @tm_setT, @lh_setT, @tk_setT, @nl_setT, @nt_setT, @sz_setT, @tm_newT, @lh_newT, @tk_newT, @nl_newT, @nt_newT, @sz_newT, @tm_start, @lh_start, @tk_start, @nl_start, @nt_start, @sz_start, @tm_startM, @lh_startM, @tk_startM, @nl_startM, @nt_startM, @sz_startM, @tm_ap, @tm_ap0, @sz_ap, @lh_ap0, @lh_ap1, @tk_ap0, @tk_ap1, @nl_ap, @nl_ap1, @nt_ap, @nt_ap1, @tm_ad, @lh_ad, @tk_ad, @nl_ad, @nt_ad, @sz_ad, @tm_adT, @lh_adT, @tk_adT, @nl_adT, @nt_adT, @sz_adT⟩
theorem qz : (type_of% @PA.tx.eq_1) ∧ (type_of% @PA.ta.eq_1) ∧ (type_of% @PA.ta.eq_2) ∧ (type_of% @PX.tx.eq_1) ∧ (type_of% @PX.tx.eq_2) ∧ (type_of% @Nat.zero_add) ∧ (type_of% @Option.bind_some.{0, 0}) ∧ (type_of% @Option.bind_none.{0, 0}) ∧ (type_of% @Option.map_some.{0, 0}) ∧ (type_of% @Option.map_none.{0, 0}) ∧ (type_of% @List.map_cons.{0, 0}) ∧ (type_of% @List.map_nil.{0, 0}) ∧ (type_of% @List.getElem?_cons_zero.{0}) ∧ (type_of% @List.getElem?_cons_succ.{0}) ∧ (type_of% @List.getElem?_nil.{0}) ∧ (type_of% @List.length_cons.{0}) ∧ (type_of% @List.length_nil.{0}) ∧ (type_of% @List.take_succ_cons.{0}) ∧ (type_of% @List.take_zero.{0}) ∧ (type_of% @List.drop_succ_cons.{0}) ∧ (type_of% @List.drop_zero.{0}) ∧ (type_of% @List.take_nil.{0}) ∧ (type_of% @List.drop_nil.{0}) ∧ (type_of% @List.nil_append.{0}) ∧ (type_of% @List.cons_append.{0}) ∧ (type_of% @List.append_nil.{0}) ∧ (type_of% @Option.getD_some.{0}) ∧ (type_of% @Option.getD_none.{0}) ∧ (type_of% @Bool.and_true) ∧ (type_of% @Bool.true_and) ∧ (type_of% @Bool.not_true) ∧ (type_of% @Bool.not_false) ∧ (type_of% @Nat.le_refl) ∧ (type_of% @Option.isSome_some.{0}) ∧ (type_of% @Option.isSome_none.{0}) ∧ (type_of% @List.set_cons_zero.{0}) ∧ (type_of% @List.set_cons_succ.{0}) ∧ (type_of% @List.length_map.{0, 0}) ∧ (type_of% @upd_same) ∧ (type_of% @and_self) ∧ (type_of% @true_and) ∧ (type_of% @and_true) :=
  ⟨@PA.tx.eq_1, @PA.ta.eq_1, @PA.ta.eq_2, @PX.tx.eq_1, @PX.tx.eq_2, @Nat.zero_add, @Option.bind_some, @Option.bind_none, @Option.map_some, @Option.map_none, @List.map_cons, @List.map_nil, @List.getElem?_cons_zero, @List.getElem?_cons_succ, @List.getElem?_nil, @List.length_cons, @List.length_nil, @List.take_succ_cons, @List.take_zero, @List.drop_succ_cons, @List.drop_zero, @List.take_nil, @List.drop_nil, @List.nil_append, @List.cons_append, @List.append_nil, @Option.getD_some, @Option.getD_none, @Bool.and_true, @Bool.true_and, @Bool.not_true, @Bool.not_false, @Nat.le_refl, @Option.isSome_some, @Option.isSome_none, @List.set_cons_zero, @List.set_cons_succ, @List.length_map, @upd_same, @and_self, @true_and, @and_true⟩
theorem qe : (type_of% @qv.eq_def) ∧ (type_of% @binV.eq_def) ∧ (type_of% @intV.eq_def) ∧ (type_of% @strV.eq_def) ∧ (type_of% @TX.val?.eq_def) ∧ (type_of% @TX.int?.eq_def) ∧ (type_of% @TX.cells.eq_def) ∧ (type_of% @sliceS.eq_def) ∧ (type_of% @sliceL.eq_def) ∧ (type_of% @optI.eq_def) ∧ (type_of% @lenV.eq_def) ∧ (type_of% @TS.off.eq_def) ∧ (type_of% @TS.at?.eq_def) ∧ (type_of% @TS.len?.eq_def) ∧ (type_of% @nilLen.eq_def) ∧ (type_of% @TS.els.eq_def) ∧ (type_of% @constX.eq_def) ∧ (type_of% @TV.pv?.eq_def) ∧ (type_of% @TS.bor.eq_def) ∧ (type_of% @TS.borV.eq_def) ∧ (type_of% @overT.eq_def) ∧ (type_of% @partT.eq_def) ∧ (type_of% @pvs?.eq_1) ∧ (type_of% @pvs?.eq_2) ∧ (type_of% @partsT.eq_1) ∧ (type_of% @partsT.eq_2) ∧ (type_of% @TS.borL.eq_1) ∧ (type_of% @TS.borL.eq_2) ∧ (type_of% @encD.eq_1) ∧ (type_of% @encD.eq_2) ∧ (type_of% @partsB.eq_1) ∧ (type_of% @partsB.eq_2) ∧ (type_of% @builtT.eq_1) ∧ (type_of% @builtT.eq_2) ∧ (type_of% @fieldsT.eq_1) ∧ (type_of% @fieldsT.eq_2) := ⟨@qv.eq_def, @binV.eq_def, @intV.eq_def, @strV.eq_def, @TX.val?.eq_def, @TX.int?.eq_def, @TX.cells.eq_def, @sliceS.eq_def, @sliceL.eq_def, @optI.eq_def, @lenV.eq_def, @TS.off.eq_def, @TS.at?.eq_def, @TS.len?.eq_def, @nilLen.eq_def, @TS.els.eq_def, @constX.eq_def, @TV.pv?.eq_def, @TS.bor.eq_def, @TS.borV.eq_def, @overT.eq_def, @partT.eq_def, @pvs?.eq_1, @pvs?.eq_2, @partsT.eq_1, @partsT.eq_2, @TS.borL.eq_1, @TS.borL.eq_2, @encD.eq_1, @encD.eq_2, @partsB.eq_1, @partsB.eq_2, @builtT.eq_1, @builtT.eq_2, @fieldsT.eq_1, @fieldsT.eq_2⟩
theorem q0 : (type_of% @qq) ∧ (type_of% @qz) ∧ (type_of% @qe) ∧ (type_of% @Bool.false_eq_true) := ⟨@qq, @qz, @qe, @Bool.false_eq_true⟩
section
variable {P : Program} {ds : List (Option Tmp)} {d : Tmp} {ty : TypeId} {pos : String} {after : Array Edge} {l : List Oper} {S : TS} {K : TS → Prop}
theorem L.alloc2 {t : TypeId} (hd : d < S.sz) (hok : (tyOf P t).ok = true) (hl : S.lh S.nl = .hole) {cs : List TV} (hc : ((tyOf P t).zero.map fun v => TV.c (.p (.raw v))) = cs) (hk : OpsL P ds l (S.newL (some d) t cs) K) : OpsL P ds (⟨some d, .alloc t, ty, pos, after, none⟩ :: l) S K := by
  subst hc
  exact L.alloc hd hok hl hk
theorem L.store2 {t : TypeId} {x y : Operand} (hok : (tyOf P t).ok = true) {p off : Nat} (hx : S.ev x = .a (.one (.c (.ptr p off)))) {T : TypeId} {cs us : List TV} (hl : S.lh p = .cells T cs) (hc : (S.ev y).cells = some us) (hn : us.length = (tyOf P t).n) (hle : off + us.length ≤ cs.length) {rs : List TV} (hr : overT cs off us = rs)
    (hk : OpsL P ds l (S.setL none p T rs) K) : OpsL P ds (⟨none, .store t x y, ty, pos, after, none⟩ :: l) S K := by
  subst hr
  exact L.store hok hx hl hc hn hle hk
end
end Go.Proofs.Ythmpaepdbjldfaa

/-
  States told by trees: states that are listed, for loops.
-/
namespace Go.Proofs.Ythmpaepdbjldfaa
set_option linter.unusedVariables false
set_option linter.unusedSimpArgs false
open Go.RowKit Go.Shelf

def look {α : Type} (d : α) : List (Nat × α) → Nat → α
  | [], _ => d
  | p :: r, t => if t = p.1 then p.2 else look d r t
theorem look_cases {α : Type} (d : α) (t : Nat) : ∀ l : List (Nat × α), (∃ p ∈ l, p.1 = t ∧ look d l t = p.2) ∨ ((∀ p ∈ l, p.1 ≠ t) ∧ look d l t = d)
  | [] => .inr ⟨by simp, rfl⟩
  | p :: r => by
    by_cases h : t = p.1
    · exact .inl ⟨p, by simp, h.symm, by simp [look, h]⟩
    · rcases look_cases d t r with ⟨q, h1, h2, h3⟩ | ⟨h1, h2⟩
      · exact .inl ⟨q, by simp [h1], h2, by simp [look, h, h3]⟩
      · refine .inr ⟨fun q hq => ?_, by simp [look, h, h2]⟩
        rcases List.mem_cons.1 hq with rfl | hq
        · exact fun e => h e.symm
        · exact h1 q hq
/-- A state, listed. -/
def tsL (ss : List (Nat × TX)) (ls : List (Nat × LB)) (ts : List (Nat × TK)) (nl nt sz : Nat) : TS := ⟨look .und ss, look .hole ls, look .hole ts, nl, nt, sz⟩
theorem tm_L (ss : List (Nat × TX)) (ls : List (Nat × LB)) (ts : List (Nat × TK)) (nl nt sz t : Nat) : (tsL ss ls ts nl nt sz).tm t = look .und ss t := rfl
theorem lh_L (ss : List (Nat × TX)) (ls : List (Nat × LB)) (ts : List (Nat × TK)) (nl nt sz t : Nat) : (tsL ss ls ts nl nt sz).lh t = look .hole ls t := rfl
theorem tk_L (ss : List (Nat × TX)) (ls : List (Nat × LB)) (ts : List (Nat × TK)) (nl nt sz t : Nat) : (tsL ss ls ts nl nt sz).tk t = look .hole ts t := rfl
theorem nl_L (ss : List (Nat × TX)) (ls : List (Nat × LB)) (ts : List (Nat × TK)) (nl nt sz : Nat) : (tsL ss ls ts nl nt sz).nl = nl := rfl
theorem nt_L (ss : List (Nat × TX)) (ls : List (Nat × LB)) (ts : List (Nat × TK)) (nl nt sz : Nat) : (tsL ss ls ts nl nt sz).nt = nt := rfl
theorem sz_L (ss : List (Nat × TX)) (ls : List (Nat × LB)) (ts : List (Nat × TK)) (nl nt sz : Nat) : (tsL ss ls ts nl nt sz).sz = sz := rfl
def LBOk (S : TS) : LB → Prop
  | .cells _ cs => ∀ x ∈ cs, TVOk S x
  | _ => True
theorem Weak.ofL {B : Base} {S : TS} {ss : List (Nat × TX)} {ls : List (Nat × LB)} {ts : List (Nat × TK)} {nl nt sz : Nat} (hsz : S.sz = sz) (h1 : ∀ p ∈ ss, S.tm p.1 = p.2) (h2 : ∀ p ∈ ls, S.lh p.1 = p.2) (h3 : ∀ p ∈ ts, S.tk p.1 = p.2)
    (b2 : ∀ l, (∀ p ∈ ls, p.1 ≠ l) → B.lh l = .hole) (b3 : ∀ t, (∀ p ∈ ts, p.1 ≠ t) → B.tk t = .hole) (o1 : ∀ p ∈ ss, TXOk (tsL ss ls ts nl nt sz) p.2) (o2 : ∀ p ∈ ls, LBOk (tsL ss ls ts nl nt sz) p.2) : Weak B S (tsL ss ls ts nl nt sz) := by
  refine ⟨hsz.symm, fun t => ?_, fun l => ?_, fun t => ?_, ⟨fun t => ?_, fun l T cs e => ?_⟩⟩
  · rcases look_cases (TX.und) t ss with ⟨p, hp, e1, e2⟩ | ⟨_, e2⟩
    · exact .inr (by rw [tm_L, e2, ← h1 p hp, e1])
    · exact .inl (by rw [tm_L, e2])
  · rcases look_cases (LB.hole) l ls with ⟨p, hp, e1, e2⟩ | ⟨e1, e2⟩
    · exact .inl (by rw [lh_L, e2, ← h2 p hp, e1])
    · exact .inr ⟨by rw [lh_L, e2], b2 l e1⟩
  · rcases look_cases (TK.hole) t ts with ⟨p, hp, e1, e2⟩ | ⟨e1, e2⟩
    · exact .inl (by rw [tk_L, e2, ← h3 p hp, e1])
    · exact .inr ⟨by rw [tk_L, e2], b3 t e1⟩
  · rcases look_cases (TX.und) t ss with ⟨p, hp, e1, e2⟩ | ⟨_, e2⟩
    · rw [tm_L, e2]
      exact o1 p hp
    · rw [tm_L, e2]
      trivial
  · rcases look_cases (LB.hole) l ls with ⟨p, hp, e1, e2⟩ | ⟨_, e2⟩
    · rw [lh_L, e2] at e
      have := o2 p hp
      rw [e] at this
      exact this
    · rw [lh_L, e2] at e
      cases e
theorem raws_ok {S : TS} (cs : List PV) : ∀ x ∈ cs.map (fun y => TV.c (.p y)), TVOk S x := fun x hx => by
  obtain ⟨y, _, rfl⟩ := List.mem_map.1 hx
  trivial
theorem ql : (type_of% @tm_L) ∧ (type_of% @lh_L) ∧ (type_of% @tk_L) ∧ (type_of% @nl_L) ∧ (type_of% @nt_L) ∧ (type_of% @sz_L) ∧ (type_of% @look.eq_1) ∧ (type_of% @look.eq_2) := ⟨@tm_L, @lh_L, @tk_L, @nl_L, @nt_L, @sz_L, @look.eq_1, @look.eq_2⟩
end Go.Proofs.Ythmpaepdbjldfaa

/-
  States told by trees: where a function with a receiver begins and ends.
-/
namespace Go.Proofs.Ythmpaepdbjldfaa
set_option linter.unusedVariables false
set_option linter.unusedSimpArgs false
open Go.RowKit Go.Shelf

def endR (P : Program) (fn : Func) (T : TypeId) (R : PX → List PV → Prop) : Exit → TS → Prop
  | .ret, S | .normal, S => ∃ (X Y : PX) (cs' : List PV), resT P S fn.results.toList = some X.tx ∧ PX.le X Y ∧ S.lh 0 = .cells T (cs'.map fun x => .c (.p x)) ∧ R Y cs'
  | _, _ => False
theorem RFun.enter {P : Program} {f : FuncId} {fn : Func} {c : Code} {T : TypeId} {cs : List PV} {args : List PA} {R : PX → List PV → Prop} (hf : P.funcs[f]? = some fn) (hb : fn.body = some c) (m : Nat) (hm : fn.ntmps = m) (hn : args.length + 1 ≤ m)
    (h : CodeT P ⟨lone T cs, fun _ => .hole⟩ c (startM (.a (.one (.c (.ptr 0 0))) :: args.map PA.tx) (lone T cs) (fun _ => .hole) m 1 0) (endR P fn T R)) : RFun P f T cs args R := by
  have hM : MFun P f (.a (.one (.c (.ptr 0 0))) :: args.map PA.tx) (lone T cs) (fun _ => .hole) (fun X lh tk => ∃ Y cs', PX.le X Y ∧ lh = lone T cs' ∧ tk = (fun _ => .hole) ∧ R Y cs') := by
    refine MFun.of_code hf hb m hm (by simpa using hn) 1 0 (?_ : CodeT P ⟨lone T cs, fun _ => .hole⟩ c _ _)
    intro E0 w0 h1 h2 E w a hx hs
    refine wp_mono (h E0 w0 h1 h2 E w a hx hs) ?_
    rintro e a' w' ⟨E', S', hs', hx', hk⟩
    refine ⟨E', S', hs', hx', ?_⟩
    have hfin : (∃ (X Y : PX) (cs' : List PV), resT P S' fn.results.toList = some X.tx ∧ PX.le X Y ∧ S'.lh 0 = .cells T (cs'.map fun x => .c (.p x)) ∧ R Y cs') → ∃ (X : PX) (S2 : TS), Weak ⟨lone T cs, fun _ => .hole⟩ S' S2 ∧ resT P S' fn.results.toList = some X.tx ∧ ∃ Y cs', PX.le X Y ∧ S2.lh = lone T cs' ∧ S2.tk = (fun _ => .hole) ∧ R Y cs' := by
      rintro ⟨X, Y, cs', q1, q2, q3, q4⟩
      refine ⟨X, tsL [] [(0, .cells T (cs'.map fun x => .c (.p x)))] [] 0 0 S'.sz, Weak.ofL rfl (by simp) (by simpa using q3) (by simp) (fun l hl => ?_) (fun _ _ => rfl) (by simp) ?_, q1, Y, cs', q2, ?_, rfl, q4⟩
      · have := hl _ (List.mem_singleton.2 rfl)
        exact if_neg (fun e => this e.symm)
      · intro p hp
        rw [List.mem_singleton.1 hp]
        exact raws_ok cs'
      · funext l
        show look LB.hole [(0, _)] l = _
        by_cases h0 : l = 0
        · subst h0
          rfl
        · simp [look, lone, h0]
    cases e with
    | ret => exact hfin hk
    | normal => exact hfin hk
    | _ => exact hk.elim
  intro E w vs h1 h2 hH hl hr
  refine (hM E w vs h1 h2 hH hl hr).mono ?_
  rintro e w' ⟨v, E', X, e1, hx, hH', hX, Y, cs', q1, q2, q3, q4⟩
  exact ⟨v, E', Y, e1, hx, hH', PXRel.le q1 hX, cs', q2, q3, q4⟩
theorem lone_off {T : TypeId} {cs : List PV} {x : LB} {r : List (Nat × LB)} {l : Nat} (h : ∀ p ∈ (0, x) :: r, p.1 ≠ l) : lone T cs l = .hole :=
  if_neg fun e => h (0, x) (by simp) e.symm
theorem CodeT.mono {P : Program} {B : Base} {c : Code} {S : TS} {K K' : Exit → TS → Prop} (h : CodeT P B c S K) (hk : ∀ e S', K e S' → K' e S') : CodeT P B c S K' := by
  intro E0 w0 h1 h2 E w a hx hs
  refine wp_mono (h E0 w0 h1 h2 E w a hx hs) ?_
  rintro e a' w' ⟨E', S', q1, q2, q3⟩
  exact ⟨E', S', q1, q2, hk e S' q3⟩
/-- Ways meet. -/
theorem C.mid {P : Program} {B : Base} {x y : Code} {S : TS} {K : Exit → TS → Prop} (I : TS) (hx : CodeT P B x S (thenK (fun S' => Weak B S' I) K)) (hy : CodeT P B y I K) : CodeT P B (.seq x y) S K := by
  refine CodeT.seq (hx.mono fun e S' q => ?_)
  cases e with
  | normal => exact CodeT.weak q hy
  | _ => exact q
theorem OpsL.mono {P : Program} {ds : List (Option Tmp)} {K K' : TS → Prop} (hk : ∀ S', K S' → K' S') : ∀ (l : List Oper) (S : TS), OpsL P ds l S K → OpsL P ds l S K'
  | [], S, h => hk S h
  | o :: l, S, h => by
    cases hg : o.guard with
    | none =>
      simp only [OpsL, hg] at h ⊢
      exact h.mono fun S' q => OpsL.mono hk l S' q
    | some g =>
      obtain ⟨j, want⟩ := g
      simp only [OpsL, hg] at h ⊢
      obtain ⟨e, b, h1, h2, h3, h4, h5⟩ := h
      exact ⟨e, b, h1, h2, h3, fun q => (h4 q).mono fun S' q' => OpsL.mono hk l S' q', fun q => OpsL.mono hk l _ (h5 q)⟩
theorem L.mid {P : Program} {ds : List (Option Tmp)} {B : Base} {l : List Oper} {y : Code} {S : TS} {K : Exit → TS → Prop} (I : TS) (hx : OpsL P ds l S (fun S' => Weak B S' I)) (hy : CodeT P B y I K) : OpsL P ds l S (fun S' => CodeT P B y S' K) :=
  OpsL.mono (fun _ q => CodeT.weak q hy) l S hx
theorem C.midE {P : Program} {B : Base} {x y : Code} {S : TS} {K : Exit → TS → Prop} {ι : Type} (J : ι → TS) (hx : CodeT P B x S (thenK (fun S' => ∃ j, Weak B S' (J j)) K)) (hy : ∀ j, CodeT P B y (J j) K) : CodeT P B (.seq x y) S K := by
  refine CodeT.seq (hx.mono fun e S' q => ?_)
  cases e with
  | normal =>
    obtain ⟨j, q⟩ := q
    exact CodeT.weak q (hy j)
  | _ => exact q
/-- A chain that goes on so. -/
def ExC (P : Program) (ds : List (Option Tmp)) (l : List Oper) (S : TS) (Q : List Fp → TS → Prop) : Prop := ∃ ps Sn, ChainL P ds l ps S Sn ∧ Q ps Sn
theorem E.cons {P : Program} {ds : List (Option Tmp)} {o : Oper} {l : List Oper} {S : TS} {Q : List Fp → TS → Prop} {p : Fp} (h : Does P ds o S p) (k : ExC P ds l (p.apply o.dst S) (fun ps Sn => Q (p :: ps) Sn)) : ExC P ds (o :: l) S Q := by
  obtain ⟨ps, Sn, h1, h2⟩ := k
  exact ⟨p :: ps, Sn, ⟨h, h1⟩, h2⟩
theorem E.nil {P : Program} {ds : List (Option Tmp)} {S : TS} {Q : List Fp → TS → Prop} (h : Q [] S) : ExC P ds [] S Q := ⟨[], S, rfl, h⟩
theorem C.anyE {P : Program} {B : Base} {S : TS} {K : Exit → TS → Prop} {i : Nat} {l : List Oper} {y : Code} (hm : P.follows .mixedOrders = true) (ds : List (Option Tmp)) (hds : l.map (·.dst) = ds) (ha : ancOk l.toArray (ancs l) = true) (h : ExC P ds l S (fun fps Sn => pairsB ds l fps (ancs l) = true ∧ CodeT P B y Sn K)) : CodeT P B (.seq (.region i l.toArray true) y) S K := by
  obtain ⟨fps, Sn, h1, h2, h3⟩ := h
  exact C.any hm ds hds h1 ha h2 h3
theorem C.anyLastE {P : Program} {B : Base} {S : TS} {K : Exit → TS → Prop} {i : Nat} {l : List Oper} (hm : P.follows .mixedOrders = true) (ds : List (Option Tmp)) (hds : l.map (·.dst) = ds) (ha : ancOk l.toArray (ancs l) = true) (h : ExC P ds l S (fun fps Sn => pairsB ds l fps (ancs l) = true ∧ K .normal Sn)) : CodeT P B (.region i l.toArray true) S K := by
  obtain ⟨fps, Sn, h1, h2, h3⟩ := h
  exact C.anyLast hm ds hds h1 ha h2 h3
theorem tm_frz (S : TS) (t n k : Nat) (es : List (List PV)) (i : Nat) : (S.frz t n k es).tm i = (S.tm i).frz t n k es := rfl
theorem lh_frz (S : TS) (t n k : Nat) (es : List (List PV)) (i : Nat) : (S.frz t n k es).lh i = (S.lh i).frz t n k es := rfl
theorem tk_frz (S : TS) (t n k : Nat) (es : List (List PV)) (i : Nat) : (S.frz t n k es).tk i = if i = t then .dead else S.tk i := rfl
theorem sz_frz (S : TS) (t n k : Nat) (es : List (List PV)) : (S.frz t n k es).sz = S.sz := rfl
theorem qf : (type_of% @tm_frz) ∧ (type_of% @lh_frz) ∧ (type_of% @tk_frz) ∧ (type_of% @sz_frz) ∧ (type_of% @TX.frz.eq_def) ∧ (type_of% @TA.frz.eq_def) ∧ (type_of% @TV.frz.eq_def) ∧ (type_of% @LB.frz.eq_def) := ⟨@tm_frz, @lh_frz, @tk_frz, @sz_frz, @TX.frz.eq_def, @TA.frz.eq_def, @TV.frz.eq_def, @LB.frz.eq_def⟩
abbrev ptX (l : Nat) : TX := .a (.one (.c (.ptr l 0)))
abbrev bX (b : Bool) : TX := one (.raw (.bool b))
abbrev iX (i : Int) : TX := one (.raw (.int .i64 i))
abbrev cP (xs : List PV) : List TV := xs.map fun x => .c (.p x)
theorem lone0 (T : TypeId) (cs : List PV) : lone T cs 0 = .cells T (cs.map fun x => .c (.p x)) := rfl
theorem lone1 (T : TypeId) (cs : List PV) (n : Nat) : lone T cs (n + 1) = .hole := rfl
theorem qr : (type_of% @ql) ∧ (type_of% @lone0) ∧ (type_of% @lone1) := ⟨@ql, @lone0, @lone1⟩
end Go.Proofs.Ythmpaepdbjldfaa

/-
  States told by trees: what is appended stays as it then is.
-/
namespace Go.Proofs.Ythmpaepdbjldfaa
set_option linter.unusedVariables false
set_option linter.unusedSimpArgs false
open Go.RowKit Go.Shelf

theorem OpT.append_frz {P : Program} {o : Oper} {S : TS} {K : TS → Prop} (hd : DstOk o S) {s x : Operand} {t el : TypeId} (ho : o.op = .call { callee := .builtin .append, args := #[s, x], argTypes := #[t, t] })
    (ht : (tyOf P t).d = .slice el) (hok : (tyOf P el).ok = true) (hnz : (tyOf P el).n ≠ 0) (hby : (tyOf P el).bytes ≤ 1000) {τ m k : Nat} {es ys : List (List PV)} (hs : S.ev s = .a (.one (.os τ m))) (hτ : S.tk τ = .tok el k m es) (hk : k = (tyOf P el).n)
    (hx : S.els (S.ev x) = some (k, ys)) (hn : es.length + ys.length ≤ 100000000) (hK : K (S.setT o.dst (one (.sl k (es ++ ys))) τ .dead)) : OpT P o S K := by
  intro E w a hs0 next Q hn'
  refine OpT.append (K := fun S' => S' = S.setT o.dst (.a (.one (.os τ (m + 1)))) τ (.tok el k (m + 1) (es ++ ys))) hd ho ht hok hnz hby hs hτ hk hx hn rfl E w a hs0 next Q ?_
  rintro E' w' a' S' ⟨h1, h2, h3, h4, h5, h6⟩ hX rfl
  have htk : E'.tk τ = .tok el k (m + 1) (es ++ ys) := by rw [h2]; exact upd_same _ _ _
  obtain ⟨hxf, hHf, hf⟩ := freeze_tok h3 htk
  refine hn' { E' with tk := upd E'.tk τ .dead } w' a' (S.setT o.dst (one (.sl k (es ++ ys))) τ .dead) ⟨h1, ?_, hHf, h4, h5, fun i => ?_⟩ (hX.trans hxf) hK
  · show upd E'.tk τ _ = upd S.tk τ _
    rw [h2]
    funext j
    show (if j = τ then _ else upd S.tk τ _ j) = if j = τ then _ else S.tk j
    by_cases hj : j = τ
    · rw [if_pos hj, if_pos hj]
    · rw [if_neg hj, if_neg hj, upd_ne _ _ hj]
  · have h := h6 i
    show XRel _ _ (putT S.tm o.dst _ i) _
    have h' : XRel E' w' (putT S.tm o.dst (.a (.one (.os τ (m + 1)))) i) (a'.tmps.getD i undef) := h
    cases hd' : o.dst with
    | none =>
      rw [hd'] at h'
      exact XRel.ext hxf h'
    | some d =>
      rw [hd'] at h'
      by_cases hi : i = d
      · subst hi
        have e1 : ∀ X, putT S.tm (some i) X i = X := fun X => upd_same _ _ _
        rw [e1] at h' ⊢
        exact hf _ h'
      · have e1 : ∀ X, putT S.tm (some d) X i = S.tm i := fun X => upd_ne _ _ hi
        rw [e1] at h' ⊢
        exact XRel.ext hxf h'
section
variable {P : Program} {ds : List (Option Tmp)} {d : Tmp} {ty : TypeId} {pos : String} {after : Array Edge} {l : List Oper} {S : TS} {K : TS → Prop}
theorem L.appendF {s x : Operand} {t el : TypeId} (hd : d < S.sz) (ht : (tyOf P t).d = .slice el) (hok : (tyOf P el).ok = true) (hnz : (tyOf P el).n ≠ 0) (hby : (tyOf P el).bytes ≤ 1000) {τ m k : Nat} {es ys : List (List PV)} (hs : S.ev s = .a (.one (.os τ m))) (hτ : S.tk τ = .tok el k m es) (hk : k = (tyOf P el).n)
    (hx : S.els (S.ev x) = some (k, ys)) (hn : es.length + ys.length ≤ 100000000) (hK : OpsL P ds l (S.setT (some d) (one (.sl k (es ++ ys))) τ .dead) K) : OpsL P ds (⟨some d, .call ⟨.builtin .append, #[s, x], #[t, t]⟩, ty, pos, after, none⟩ :: l) S K :=
  OpT.append_frz (o := ⟨some d, .call ⟨.builtin .append, #[s, x], #[t, t]⟩, ty, pos, after, none⟩) (dst_ok hd) rfl ht hok hnz hby hs hτ hk hx hn hK
theorem D.appendF {s x : Operand} {t el : TypeId} (hd : d < S.sz) (ht : (tyOf P t).d = .slice el) (hok : (tyOf P el).ok = true) (hnz : (tyOf P el).n ≠ 0) (hby : (tyOf P el).bytes ≤ 1000) {τ m k : Nat} {es ys : List (List PV)} (hs : S.ev s = .a (.one (.os τ m))) (hτ : S.tk τ = .tok el k m es) (hk : k = (tyOf P el).n)
    (hx : S.els (S.ev x) = some (k, ys)) (hn : es.length + ys.length ≤ 100000000) {rl rt : List Nat} (hrl : lidsOf S (.call ⟨.builtin .append, #[s, x], #[t, t]⟩) = rl) (hrt : toksOf S (.call ⟨.builtin .append, #[s, x], #[t, t]⟩) = rt) :
    Does P ds ⟨some d, .call ⟨.builtin .append, #[s, x], #[t, t]⟩, ty, pos, after, none⟩ S ⟨one (.sl k (es ++ ys)), rl, [], rt, [(τ, .dead)], 0, 0⟩ := by
  refine ⟨dst_ok hd, fun S' h K hk' => ?_⟩
  have e1 := ev_agree h (x := s) (by simp [Op.operands, Call.operands])
  have e2 := ev_agree h (x := x) (by simp [Op.operands, Call.operands])
  have e3 := els_congr (S := S) (S' := S') (X := S.ev x) (tok_agree h hrt.symm (x := x) (by simp [Op.operands, Call.operands]))
  exact OpT.append_frz (o := ⟨some d, .call ⟨.builtin .append, #[s, x], #[t, t]⟩, ty, pos, after, none⟩) (dst_ok (by rw [h.sz]; exact hd)) rfl ht hok hnz hby (by rw [e1]; exact hs) (by rw [h.tk τ (.inr (by simp))]; exact hτ) hk (by rw [e2, e3]; exact hx) hn (by simpa [Fp.apply, upds, TS.setT] using hk')
end
end Go.Proofs.Ythmpaepdbjldfaa
