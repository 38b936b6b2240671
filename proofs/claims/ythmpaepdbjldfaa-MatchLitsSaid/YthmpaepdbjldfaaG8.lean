/-
  Texts of this claim, merged: TL, TM. Lemmas and contracts; no conditions of our own.
-/
import Derived.Test.YthmpaepdbjldfaaG7
import Derived.Laws.Tables

/-
  States told by trees: rules that a walk can use by itself.
-/
namespace Go.Proofs.Ythmpaepdbjldfaa
set_option linter.unusedVariables false
set_option linter.unusedSimpArgs false
open Go.RowKit Go.Shelf

theorem put_lit {S : TS} {e : Nat} {b : Bool} (hb : (S.ev (.tmp e)).val? = some (.bool b)) : S.put (some e) (one (.raw (.bool b))) = S := by
  have h1 := val?_eq hb
  have h2 : S.tm e = one (.raw (.bool b)) := by
    have : S.ev (.tmp e) = if e < S.sz then S.tm e else .und := rfl
    rw [this] at h1
    split at h1
    · exact h1
    · cases h1
  have h3 : upd S.tm e (one (.raw (.bool b))) = S.tm := by
    funext j
    unfold upd
    split
    · subst j
      exact h2.symm
    · rfl
  show ({ S with tm := upd S.tm e (one (.raw (.bool b))) } : TS) = S
  rw [h3]
section
variable {P : Program} {ds : List (Option Tmp)} {d : Tmp} {ty : TypeId} {pos : String} {after : Array Edge} {l : List Oper} {S : TS} {K : TS → Prop}
theorem L.split {d : Option Tmp} {op : Op} {j : Nat} {want : Bool} {e : Nat} {b : Bool} (hj : ds[j]? = some (some e)) (hb : (S.ev (.tmp e)).val? = some (.bool b)) (h1 : b = true → OpsL P ds (⟨d, op, ty, pos, after, some (j, want)⟩ :: l) (S.put (some e) (one (.raw (.bool true)))) K)
    (h2 : b = false → OpsL P ds (⟨d, op, ty, pos, after, some (j, want)⟩ :: l) (S.put (some e) (one (.raw (.bool false)))) K) : OpsL P ds (⟨d, op, ty, pos, after, some (j, want)⟩ :: l) S K := by
  cases b with
  | true =>
    have := h1 rfl
    rwa [put_lit hb] at this
  | false =>
    have := h2 rfl
    rwa [put_lit hb] at this
theorem L.take {d : Option Tmp} {op : Op} {j : Nat} {want : Bool} {e : Nat} (hj : ds[j]? = some (some e)) (hd : ∀ i, d = some i → i < S.sz) (hb : (S.ev (.tmp e)).val? = some (.bool want)) (h : OpsL P ds (⟨d, op, ty, pos, after, none⟩ :: l) S K) : OpsL P ds (⟨d, op, ty, pos, after, some (j, want)⟩ :: l) S K :=
  L.guard hj hd hb (fun _ => h) (fun q => absurd rfl q)
theorem L.pass {d : Option Tmp} {op : Op} {j : Nat} {want : Bool} {e : Nat} (hj : ds[j]? = some (some e)) (hd : ∀ i, d = some i → i < S.sz) (hb : (S.ev (.tmp e)).val? = some (.bool !want)) (h : OpsL P ds l (S.put d (.tup [])) K) : OpsL P ds (⟨d, op, ty, pos, after, some (j, want)⟩ :: l) S K :=
  L.guard hj hd hb (fun q => absurd q (by cases want <;> simp)) (fun _ => h)
theorem L.pickT {c x y : Operand} (hd : d < S.sz) (hc : (S.ev c).val? = some (.bool true)) {X : TX} (hX : S.ev x = X) (h : OpsL P ds l (S.put (some d) X) K) : OpsL P ds (⟨some d, .pick c x y, ty, pos, after, none⟩ :: l) S K :=
  L.pick hd hc (fun _ => by rw [hX]; exact h) (fun q => by cases q)
theorem L.pickF {c x y : Operand} (hd : d < S.sz) (hc : (S.ev c).val? = some (.bool false)) {X : TX} (hX : S.ev y = X) (h : OpsL P ds l (S.put (some d) X) K) : OpsL P ds (⟨some d, .pick c x y, ty, pos, after, none⟩ :: l) S K :=
  L.pick hd hc (fun q => by cases q) (fun _ => by rw [hX]; exact h)
theorem L.pickS {e : Nat} {x y : Operand} {b : Bool} (hb : (S.ev (.tmp e)).val? = some (.bool b)) (h1 : b = true → OpsL P ds (⟨some d, .pick (.tmp e) x y, ty, pos, after, none⟩ :: l) (S.put (some e) (one (.raw (.bool true)))) K)
    (h2 : b = false → OpsL P ds (⟨some d, .pick (.tmp e) x y, ty, pos, after, none⟩ :: l) (S.put (some e) (one (.raw (.bool false)))) K) : OpsL P ds (⟨some d, .pick (.tmp e) x y, ty, pos, after, none⟩ :: l) S K := by
  cases b with
  | true =>
    have := h1 rfl
    rwa [put_lit hb] at this
  | false =>
    have := h2 rfl
    rwa [put_lit hb] at this
end
section
variable {P : Program} {B : Base} {S : TS} {K : Exit → TS → Prop} {x y z : Code}
theorem C.then {c : Operand} (hc : (S.ev c).val? = some (.bool true)) (h : CodeT P B x S K) : CodeT P B (.cond c x y) S K :=
  CodeT.cond hc (fun _ => h) (fun q => by cases q)
theorem C.else {c : Operand} (hc : (S.ev c).val? = some (.bool false)) (h : CodeT P B y S K) : CodeT P B (.cond c x y) S K :=
  CodeT.cond hc (fun q => by cases q) (fun _ => h)
theorem C.split {e : Nat} {b : Bool} (hb : (S.ev (.tmp e)).val? = some (.bool b)) (h1 : b = true → CodeT P B (.cond (.tmp e) x y) (S.put (some e) (one (.raw (.bool true)))) K) (h2 : b = false → CodeT P B (.cond (.tmp e) x y) (S.put (some e) (one (.raw (.bool false)))) K) : CodeT P B (.cond (.tmp e) x y) S K := by
  cases b with
  | true =>
    have := h1 rfl
    rwa [put_lit hb] at this
  | false =>
    have := h2 rfl
    rwa [put_lit hb] at this
end
/-! ### A struct's literal -/
def partsB (S : TS) : List (Nat × Operand) → Option (List (Nat × List TV))
  | [] => some []
  | (i, x) :: r => match (S.ev x).cells, partsB S r with
    | some cs, some ps => some ((i, cs) :: ps)
    | _, _ => none
/-- Fields laid over the zero. -/
def builtT (fs : List (Nat × Nat)) : List (Nat × List TV) → List TV → Option (List TV)
  | [], zs => some zs
  | (i, cs) :: r, zs => match fs[i]? with
    | some (off, n) => if cs.length = n ∧ off + cs.length ≤ zs.length then builtT fs r (overT zs off cs) else none
    | none => none
def fieldsT (P : Program) (t : TypeId) : List (Nat × TypeId) → Option (List (Nat × Nat))
  | [] => some []
  | (o, u) :: r => if (tyOf P u).ok then (fieldsT P t r).map ((o, (tyOf P u).n) :: ·) else none
theorem fold_over {vs : List Value} : ∀ (k : Nat) (us : List Value) (off : Nat), off + k + us.length ≤ vs.length → ((us.zipIdx k).foldl (fun cs (c, j) => cs.setIfInBounds (off + j) c) vs.toArray) = (overT vs (off + k) us).toArray := by
  intro k us
  induction us generalizing vs k with
  | nil =>
    intro off h
    simp [overT]
  | cons u us ih =>
    intro off h
    simp only [List.length_cons] at h
    simp only [List.zipIdx_cons, List.foldl_cons, List.setIfInBounds_toArray]
    rw [ih (k + 1) off (by simp; omega)]
    congr 1
    refine List.ext_getElem? fun j => ?_
    rw [over_at _ _ _ (by simp; omega), over_at _ _ _ (by simp; omega)]
    simp only [List.getElem?_set, List.length_cons]
    by_cases c1 : j < off + k
    · rw [if_pos (by omega), if_pos c1, if_neg (by omega)]
    · by_cases c2 : j = off + k
      · subst c2
        rw [if_pos (show off + k < off + (k + 1) by omega), if_pos rfl, if_pos (by omega), if_neg (Nat.lt_irrefl _), if_pos (by omega), Nat.sub_self]
        rfl
      · rw [if_neg (by omega), if_neg c1]
        by_cases c3 : j < off + k + (us.length + 1)
        · rw [if_pos (by omega), if_pos c3]
          obtain ⟨m, rfl⟩ : ∃ m, j = off + k + 1 + m := ⟨j - (off + k + 1), by omega⟩
          rw [show off + k + 1 + m - (off + (k + 1)) = m by omega, show off + k + 1 + m - (off + k) = m + 1 by omega]
          rfl
        · rw [if_neg (by omega), if_neg c3, if_neg (by omega)]
theorem fill_rel {E : Env} {w : World} {a : Act} {S : TS} (h : SRel E w a S) {fs : List (Nat × Nat)} : ∀ (parts : List (Nat × Operand)) (ps : List (Nat × List TV)) (zs rs : List TV) (vs : List Value), partsB S parts = some ps → builtT fs ps zs = some rs → CRel E w zs vs →
    ∃ us, Instr.fill (fs.toArray[·]?) vs.toArray (parts.map fun (i, x) => (i, a.eval x)) = some us.toArray ∧ CRel E w rs us
  | [], ps, zs, rs, vs, h1, h2, h3 => by
    injection h1 with h1
    subst h1
    injection h2 with h2
    subst h2
    exact ⟨vs, rfl, h3⟩
  | (i, x) :: r, ps, zs, rs, vs, h1, h2, h3 => by
    unfold partsB at h1
    split at h1
    · rename_i cs ps' e1 e2
      injection h1 with h1
      subst h1
      unfold builtT at h2
      split at h2
      · rename_i off n e3
        split at h2
        · rename_i hc
          have hx := h.cells e1
          have hl : (a.eval x).cells.size = n := by have := hx.1; simp at this; omega
          obtain ⟨us, q1, q2⟩ := fill_rel h r ps' (overT zs off cs) rs (overT vs off (a.eval x).cells.toList) e2 h2 (h3.over hx hc.2)
          refine ⟨us, ?_, q2⟩
          have hz := h3.1
          have hfo := fold_over (vs := vs) 0 (a.eval x).cells.toList off (by have := hx.1; omega)
          simp only [List.map_cons, Instr.fill]
          have e3' : fs.toArray[i]? = some (off, n) := by simpa using e3
          simp only [e3']
          rw [if_neg (by simp; have := hx.1; simp at this; omega)]
          have : (a.eval x).cells.zipIdx.foldl (fun cs (c, j) => cs.setIfInBounds (off + j) c) vs.toArray = (overT vs off (a.eval x).cells.toList).toArray := by
            rw [Nat.add_zero] at hfo
            rw [← hfo, ← Array.foldl_toList]
            simp
          rw [this]
          exact q1
        · cases h2
      · cases h2
    · cases h1
theorem fields_rel {P : Program} {t : TypeId} : ∀ {gs : List Field} {fs : List (Nat × Nat)}, fieldsT P t (gs.map fun f => (f.offset, f.type)) = some fs → gs.mapM (fun f => (P.info? f.type).map fun i => (f.offset, i.size)) = some fs
  | [], fs, h => by
    injection h with h
    subst h
    rfl
  | g :: gs, fs, h => by
    simp only [List.map_cons, fieldsT] at h
    split at h
    · rename_i hok
      simp only [Option.map_eq_some_iff] at h
      obtain ⟨r, hr, rfl⟩ := h
      obtain ⟨⟨i, z, hi, _, hn, _⟩, _⟩ := tyOf_ok hok
      simp [List.mapM_cons, hi, fields_rel hr, hn]
    · cases h
theorem OpT.build {P : Program} {o : Oper} {S : TS} {K : TS → Prop} (hd : DstOk o S) {t : TypeId} {parts : List (Nat × Operand)} (ho : o.op = .build t parts.toArray) (hok : (tyOf P t).ok = true) {gs : List (Nat × TypeId)} (hs : (tyOf P t).d = .struct gs) {fs : List (Nat × Nat)} (hf : fieldsT P t gs = some fs)
    {ps : List (Nat × List TV)} (hp : partsB S parts = some ps) {rs : List TV} (hb : builtT fs ps ((tyOf P t).zero.map fun v => .c (.p (.raw v))) = some rs) (hk : K (S.put o.dst (.a (.agg rs)))) : OpT P o S K := by
  intro E w a h next Q hn
  obtain ⟨⟨i, z, hi, hz, hsz, hzz, _, hone, _⟩, ⟨de, hu, hde⟩, _⟩ := tyOf_ok hok
  rw [hs] at hde
  cases de with
  | struct fields =>
    injection hde with hde
    subst hde
    obtain ⟨us, q1, q2⟩ := fill_rel h parts ps _ rs (tyOf P t).zero hp hb ⟨by simp, fun j x hj => by
      simp only [List.getElem?_map, Option.map_eq_some_iff] at hj
      obtain ⟨u, hu, rfl⟩ := hj
      rw [List.getD_eq_getElem?_getD, hu]
      exact PRel.raw ((List.all_eq_true.1 hone) u (List.mem_of_getElem? hu))⟩
    have hbt : P.built t (parts.map fun (i, x) => (i, a.eval x)) = some us.toArray := by
      unfold Program.built
      simp only [hi, hu, hz, fields_rel hf]
      rw [show z.cells = (tyOf P t).zero.toArray by rw [hzz]]
      exact q1
    have e := run_build (P := P) w t (parts.map fun (i, x) => (i, a.eval x)).toArray us.toArray hbt
    unfold Oper.wp execOp
    have e' : (Instr.build t (parts.toArray.map fun (i, x) => (i, a.eval x))).run P w = .ok (.agg us.toArray) w := by
      rw [← e]
      simp
    simp only [ho, Sem.run_bind, e', Result.andThen_ok, Sem.run_pure, Oper.upon_value]
    exact hn E w _ _ (h.quiet hd (x := .a (.agg rs)) ⟨us, rfl, q2⟩) (Ext.refl E w) hk
  | _ => cases hde
theorem L.build {P : Program} {ds : List (Option Tmp)} {d : Tmp} {ty : TypeId} {pos : String} {after : Array Edge} {l : List Oper} {S : TS} {K : TS → Prop} {t : TypeId} {parts : List (Nat × Operand)} (hd : d < S.sz) (hok : (tyOf P t).ok = true) {gs : List (Nat × TypeId)} (hs : (tyOf P t).d = .struct gs) {fs : List (Nat × Nat)} (hf : fieldsT P t gs = some fs)
    {ps : List (Nat × List TV)} (hp : partsB S parts = some ps) {rs : List TV} (hb : builtT fs ps ((tyOf P t).zero.map fun v => .c (.p (.raw v))) = some rs) (hk : OpsL P ds l (S.put (some d) (.a (.agg rs))) K) : OpsL P ds (⟨some d, .build t parts.toArray, ty, pos, after, none⟩ :: l) S K :=
  OpT.build (o := ⟨some d, .build t parts.toArray, ty, pos, after, none⟩) (dst_ok hd) rfl hok hs hf hp hb hk
end Go.Proofs.Ythmpaepdbjldfaa

/-
  States told by trees: nil slices as one's own, weaker trees, functions with a receiver.
-/
namespace Go.Proofs.Ythmpaepdbjldfaa
set_option linter.unusedVariables false
set_option linter.unusedSimpArgs false
open Go.RowKit Go.Shelf

/-! ### A nil slice in a cell of one's own is a slice of one's own -/
def TS.adopt (S : TS) (l : Nat) (T : TypeId) (cs : List TV) (j : Nat) (el : TypeId) (k : Nat) : TS := { S with lh := upd S.lh l (.cells T (cs.set j (.os S.nt 0))), tk := upd S.tk S.nt (.tok el k 0 []), nt := S.nt + 1 }
theorem SRel.adopt {E : Env} {w : World} {a : Act} {S : TS} (h : SRel E w a S) {l : Nat} {T : TypeId} {cs : List TV} (hl : S.lh l = .cells T cs) {j : Nat} (hj : cs[j]? = some (.c (.p (.raw (.slice none 0 0))))) (hn : S.tk S.nt = .hole) (el : TypeId) (k : Nat) :
    ∃ E', SRel E' w a (S.adopt l T cs j el k) ∧ Ext E E' w w := by
  obtain ⟨h1, h2, hH, h4, h5, h6⟩ := h
  have hn' : E.tk S.nt = .hole := by rw [h2]; exact hn
  have hl' : E.lh l = .cells T cs := by rw [h1]; exact hl
  obtain ⟨xs, hv, hm⟩ := of_own (es := []) (OwnK.nil 0 w el k (ERel (E.imm w) w k))
  obtain ⟨hx1, hH1⟩ := put_tok hH (w' := w) (t := S.nt) (n := 0) (.inl hn') (S := []) (by simp) (Upd.refl [] w) hv (fun b hb => by cases hb) (fun P' hP => hm P' (fun x v r => PRel.map (fun b o v hb hc => ⟨hP b hb, hc⟩) r))
  obtain ⟨vs, q1, q2⟩ := hH1.loc l T cs hl'
  have hjl := (List.getElem?_eq_some_iff.1 hj).1
  have hvj : vs.getD j undef = .slice none 0 0 := by
    have := q2.2 j _ hj
    generalize vs.getD j undef = v at this ⊢
    cases this
    rfl
  obtain ⟨hx2, hH2⟩ := set_local hH1 hl' (w' := w) ((Upd.refl [] w).mono (by simp)) q1 rfl (cs' := cs.set j (.os S.nt 0)) ⟨by simp [q2.1], fun i x hi => by
    rw [List.getElem?_set] at hi
    split at hi
    · subst i
      injection hi with hi
      subst hi
      rw [hvj]
      refine ⟨rfl, by simp, fun T1 k1 m1 es1 e => ?_⟩
      simp only [upd_same] at e
      injection e with _ _ e3 _
      exact ⟨by omega, fun _ => by simp⟩
    · exact q2.2 i x hi⟩
  refine ⟨_, ⟨?_, ?_, hH2, h4, h5, fun t => ?_⟩, hx1.trans hx2⟩
  · show upd E.lh l _ = upd S.lh l _
    rw [h1]
  · show upd E.tk S.nt _ = upd S.tk S.nt _
    rw [h2]
  · exact XRel.ext (hx1.trans hx2) (h6 t)
theorem CodeT.adopt {P : Program} {B : Base} {S : TS} {K : Exit → TS → Prop} {c : Code} {l : Nat} {T : TypeId} {cs : List TV} (hl : S.lh l = .cells T cs) (j : Nat) (hj : cs[j]? = some (.c (.p (.raw (.slice none 0 0))))) (hn : S.tk S.nt = .hole) (el : TypeId) (k : Nat) (h : CodeT P B c (S.adopt l T cs j el k) K) : CodeT P B c S K := by
  intro E0 w0 h1 h2 E w a hx hs
  obtain ⟨E', hs', hx'⟩ := hs.adopt hl hj hn el k
  exact h E0 w0 h1 h2 E' w a (hx.trans hx') hs'
/-- In a slot. -/
def TS.adoptT (S : TS) (d : Nat) (el : TypeId) (k : Nat) : TS := { S with tm := upd S.tm d (.a (.one (.os S.nt 0))), tk := upd S.tk S.nt (.tok el k 0 []), nt := S.nt + 1 }
theorem SRel.adoptT {E : Env} {w : World} {a : Act} {S : TS} (h : SRel E w a S) {d : Nat} (hd : S.tm d = one (.raw (.slice none 0 0))) (hn : S.tk S.nt = .hole) (el : TypeId) (k : Nat) :
    ∃ E', SRel E' w a (S.adoptT d el k) ∧ Ext E E' w w := by
  obtain ⟨h1, h2, hH, h4, h5, h6⟩ := h
  have hn' : E.tk S.nt = .hole := by rw [h2]; exact hn
  obtain ⟨xs, hv, hm⟩ := of_own (es := []) (OwnK.nil 0 w el k (ERel (E.imm w) w k))
  obtain ⟨hx1, hH1⟩ := put_tok hH (w' := w) (t := S.nt) (n := 0) (.inl hn') (S := []) (by simp) (Upd.refl [] w) hv (fun b hb => by cases hb) (fun P' hP => hm P' (fun x v r => PRel.map (fun b o v hb hc => ⟨hP b hb, hc⟩) r))
  refine ⟨{ E with tk := upd E.tk S.nt (.tok el k 0 []), tv := upd E.tv S.nt (.slice none 0 0) }, ⟨h1, ?_, hH1, h4, h5, fun t => ?_⟩, hx1⟩
  · show upd E.tk S.nt _ = upd S.tk S.nt _
    rw [h2]
  · show XRel _ _ (upd S.tm d _ t) _
    by_cases ht : t = d
    · subst ht
      rw [upd_same]
      have hv0 : a.tmps.getD t undef = .slice none 0 0 := by
        have := h6 t
        rw [hd] at this
        generalize a.tmps.getD t undef = v at this ⊢
        cases this
        rfl
      rw [hv0]
      refine ⟨rfl, by simp, fun T1 k1 m1 es1 e => ?_⟩
      simp only [upd_same] at e
      injection e with _ _ e3 _
      exact ⟨by omega, fun _ => by simp⟩
    · rw [upd_ne _ _ ht]
      exact XRel.ext hx1 (h6 t)
theorem CodeT.adoptT {P : Program} {B : Base} {S : TS} {K : Exit → TS → Prop} {c : Code} (d : Nat) (hd : S.tm d = one (.raw (.slice none 0 0))) (hn : S.tk S.nt = .hole) (el : TypeId) (k : Nat) (h : CodeT P B c (S.adoptT d el k) K) : CodeT P B c S K := by
  intro E0 w0 h1 h2 E w a hx hs
  obtain ⟨E', hs', hx'⟩ := hs.adoptT hd hn el k
  exact h E0 w0 h1 h2 E' w a (hx.trans hx') hs'
/-! ### Weaker trees -/
inductive PV.le : PV → PV → Prop where
  | refl (x : PV) : PV.le x x
  | nil (k : Nat) : PV.le (.raw (.slice none 0 0)) (.sl k [])
  | sl {k : Nat} {es fs : List (List PV)} (hl : fs.length = es.length) (hk : ∀ (i : Nat) (e f : List PV), es[i]? = some e → fs[i]? = some f → f.length = e.length) (h : ∀ (i : Nat) (e f : List PV), es[i]? = some e → fs[i]? = some f → ∀ (j : Nat) (x y : PV), e[j]? = some x → f[j]? = some y → PV.le x y) : PV.le (.sl k es) (.sl k fs)
theorem PRel.nil {P : Nat → Prop} {w : World} (k : Nat) : PRel P w (.sl k []) (.slice none 0 0) :=
  PRel.sl (P := P) (w := w) (k := k) (es := []) (a := none) (c := 0) (fun _ _ => undef) (fun i e hi => by simp at hi) (fun i e j x hi => by simp at hi) (fun i e j x hi => by simp at hi) (Nat.le_refl 0)
theorem PRel.le {P : Nat → Prop} {w : World} {x y : PV} (h : PV.le x y) : ∀ {v : Value}, PRel P w x v → PRel P w y v := by
  induction h with
  | refl x => exact id
  | nil k =>
    intro v r
    cases r
    exact PRel.nil k
  | @sl k es fs hl hk h ih =>
    intro v r
    cases r with
    | sl vs g1 g2 g3 hc =>
      rename_i a c
      have hget : ∀ (i : Nat) (f : List PV), fs[i]? = some f → ∃ e, es[i]? = some e ∧ f.length = e.length := fun i f hi => by
        have hil := (List.getElem?_eq_some_iff.1 hi).1
        have hie : es[i]? = some (es[i]'(by omega)) := List.getElem?_eq_getElem (by omega)
        exact ⟨_, hie, hk i _ f hie hi⟩
      have hget2 : ∀ (i : Nat) (f : List PV) (j : Nat) (y : PV), fs[i]? = some f → f[j]? = some y → ∃ e x, es[i]? = some e ∧ e[j]? = some x ∧ PV.le x y := fun i f j y hi hj => by
        obtain ⟨e, he, hle⟩ := hget i f hi
        have hjl := (List.getElem?_eq_some_iff.1 hj).1
        have hje : e[j]? = some (e[j]'(by omega)) := List.getElem?_eq_getElem (by omega)
        exact ⟨e, _, he, hje, h i e f he hi j _ y hje hj⟩
      have := PRel.sl (P := P) (w := w) (k := k) (es := fs) (a := a) (c := c) vs (fun i f hi => by
        obtain ⟨e, he, hle⟩ := hget i f hi
        rw [hle]
        exact g1 i e he) (fun i f j y hi hj => by
        obtain ⟨e, x, he, hx, _⟩ := hget2 i f j y hi hj
        exact g2 i e j x he hx) (fun i f j y hi hj => by
        obtain ⟨e, he, hle⟩ := hget i f hi
        have hjl := (List.getElem?_eq_some_iff.1 hj).1
        have hje : e[j]? = some (e[j]'(by omega)) := List.getElem?_eq_getElem (by omega)
        exact ih i e f he hi j _ y hje hj (g3 i e j _ he hje)) (by omega)
      rwa [hl] at this
inductive PLs : List PV → List PV → Prop where
  | nil : PLs [] []
  | cons {x y : PV} {xs ys : List PV} (h : PV.le x y) (t : PLs xs ys) : PLs (x :: xs) (y :: ys)
theorem PLs.refl : ∀ xs : List PV, PLs xs xs
  | [] => .nil
  | x :: xs => .cons (.refl x) (PLs.refl xs)
theorem PLs.len {xs ys : List PV} (h : PLs xs ys) : ys.length = xs.length := by
  induction h with
  | nil => rfl
  | cons _ _ ih => simp [ih]
theorem PLs.at {xs ys : List PV} (h : PLs xs ys) : ∀ {j : Nat} {x y : PV}, xs[j]? = some x → ys[j]? = some y → PV.le x y := by
  induction h with
  | nil => intro j x y h1; simp at h1
  | cons h t ih =>
    intro j x y h1 h2
    cases j with
    | zero =>
      injection h1 with h1
      injection h2 with h2
      subst h1; subst h2
      exact h
    | succ j => exact ih (by simpa using h1) (by simpa using h2)
/-- Elements, each weaker. -/
inductive PLLs : List (List PV) → List (List PV) → Prop where
  | nil : PLLs [] []
  | cons {x y : List PV} {xs ys : List (List PV)} (h : PLs x y) (t : PLLs xs ys) : PLLs (x :: xs) (y :: ys)
theorem PLLs.len {xs ys : List (List PV)} (h : PLLs xs ys) : ys.length = xs.length := by
  induction h with
  | nil => rfl
  | cons _ _ ih => simp [ih]
theorem PLLs.at {xs ys : List (List PV)} (h : PLLs xs ys) : ∀ {j : Nat} {x y : List PV}, xs[j]? = some x → ys[j]? = some y → PLs x y := by
  induction h with
  | nil => intro j x y h1; simp at h1
  | cons h t ih =>
    intro j x y h1 h2
    cases j with
    | zero =>
      injection h1 with h1
      injection h2 with h2
      subst h1; subst h2
      exact h
    | succ j => exact ih (by simpa using h1) (by simpa using h2)
inductive PA.le : PA → PA → Prop where
  | one {x y : PV} (h : PV.le x y) : PA.le (.one x) (.one y)
  | agg {xs ys : List PV} (h : PLs xs ys) : PA.le (.agg xs) (.agg ys)
theorem PA.le_refl : ∀ x : PA, PA.le x x
  | .one x => .one (.refl x)
  | .agg xs => .agg (PLs.refl xs)
theorem PARel.le {P : Nat → Prop} {w : World} {x y : PA} (h : PA.le x y) {v : Value} (r : PARel P w x v) : PARel P w y v := by
  cases h with
  | one h => exact PRel.le h r
  | agg h =>
    obtain ⟨vs, e, hl, r⟩ := r
    refine ⟨vs, e, by rw [hl, h.len], fun j y hj => ?_⟩
    have hjl := (List.getElem?_eq_some_iff.1 hj).1
    have := h.len
    exact PRel.le (h.at (List.getElem?_eq_getElem (by omega)) hj) (r j _ (List.getElem?_eq_getElem (by omega)))
inductive PAs : List PA → List PA → Prop where
  | nil : PAs [] []
  | cons {x y : PA} {xs ys : List PA} (h : PA.le x y) (t : PAs xs ys) : PAs (x :: xs) (y :: ys)
theorem PAs.len {xs ys : List PA} (h : PAs xs ys) : ys.length = xs.length := by
  induction h with
  | nil => rfl
  | cons _ _ ih => simp [ih]
theorem PAs.at {xs ys : List PA} (h : PAs xs ys) : ∀ {j : Nat} {x y : PA}, xs[j]? = some x → ys[j]? = some y → PA.le x y := by
  induction h with
  | nil => intro j x y h1; simp at h1
  | cons h t ih =>
    intro j x y h1 h2
    cases j with
    | zero =>
      injection h1 with h1
      injection h2 with h2
      subst h1; subst h2
      exact h
    | succ j => exact ih (by simpa using h1) (by simpa using h2)
inductive PX.le : PX → PX → Prop where
  | a {x y : PA} (h : PA.le x y) : PX.le (.a x) (.a y)
  | tup {xs ys : List PA} (h : PAs xs ys) : PX.le (.tup xs) (.tup ys)
theorem PXRel.le {P : Nat → Prop} {w : World} {x y : PX} (h : PX.le x y) {v : Value} (r : PXRel P w x v) : PXRel P w y v := by
  cases h with
  | a h => exact PARel.le h r
  | tup h =>
    obtain ⟨vs, e, hl, r⟩ := r
    refine ⟨vs, e, by rw [hl, h.len], fun j y hj => ?_⟩
    have hjl := (List.getElem?_eq_some_iff.1 hj).1
    have := h.len
    exact PARel.le (h.at (List.getElem?_eq_getElem (by omega)) hj) (r j _ (List.getElem?_eq_getElem (by omega)))
theorem PFun.le {P : Program} {f : FuncId} {args : List PA} {R R' : PX → Prop} (h : PFun P f args R) (hR : ∀ X, R X → ∃ Y, PX.le X Y ∧ R' Y) : PFun P f args R' := by
  intro Q w vs hQ hl hr
  refine (h Q w vs hQ hl hr).mono ?_
  rintro e w' ⟨v, X, e1, hu, hX, hRX⟩
  obtain ⟨Y, hle, hY⟩ := hR X hRX
  exact ⟨v, Y, e1, hu, PXRel.le hle hX, hY⟩
theorem PFun.args {P : Program} {f : FuncId} {args args' : List PA} {R : PX → Prop} (h : PFun P f args R) (ha : PAs args' args) : PFun P f args' R := by
  intro Q w vs hQ hl hr
  have hlen := ha.len
  refine h Q w vs hQ (by omega) (fun j x hj => ?_)
  have hjl := (List.getElem?_eq_some_iff.1 hj).1
  exact PARel.le (ha.at (List.getElem?_eq_getElem (by omega)) hj) (hr j _ (List.getElem?_eq_getElem (by omega)))
/-! ### Functions with a receiver -/
def lone (T : TypeId) (cs : List PV) : Nat → LB := fun l => if l = 0 then .cells T (cs.map fun x => .c (.p x)) else .hole
/-- It may write to its receiver's cells, and to nothing else. -/
def RFun (P : Program) (f : FuncId) (T : TypeId) (cs : List PV) (args : List PA) (R : PX → List PV → Prop) : Prop :=
  MFun P f (.a (.one (.c (.ptr 0 0))) :: args.map PA.tx) (lone T cs) (fun _ => .hole) (fun X lh tk => ∃ cs', lh = lone T cs' ∧ tk = (fun _ => .hole) ∧ R X cs')
theorem ren_p (θ ϑ : Nat → Nat) (cs : List PV) : (cs.map fun x => TV.c (.p x)).map (TV.ren θ ϑ) = cs.map fun x => TV.c (.p x) := by
  simp [TV.ren, CV.ren]
theorem ren_pa (θ ϑ : Nat → Nat) (x : PA) : x.tx.ren θ ϑ = x.tx := by
  cases x with
  | one x => rfl
  | agg cs =>
    show TX.a (.agg ((cs.map fun x => TV.c (.p x)).map (TV.ren θ ϑ))) = _
    rw [ren_p]
    rfl
theorem CallsT.recv {P : Program} {f : FuncId} {T : TypeId} {cs : List PV} {args : List PA} {R : PX → List PV → Prop} {S : TS} {K : TX → TS → Prop} (h : RFun P f T cs args R) {L : Nat} (hl : S.lh L = .cells T (cs.map fun x => .c (.p x))) {xs : List TX} (hxs : xs = .a (.one (.c (.ptr L 0))) :: args.map PA.tx)
    (hk : ∀ X cs', R X cs' → K X.tx (S.setL none L T (cs'.map fun x => .c (.p x)))) : CallsT P f xs S K := by
  refine CallsT.method h (fun _ => L) (fun t => t) 1 0 (fun l hl => ?_) (fun t ht => absurd rfl ht) (fun i j hi hj _ => by omega) (fun i j hi => by omega) (fun l hl => ?_) (fun t ht => by omega) (fun l hl' => ?_) (fun t ht => by omega) ?_ ?_ ?_
  · by_cases h0 : l = 0
    · omega
    · exact absurd (if_neg h0) hl
  · have h0 : l = 0 := by omega
    subst h0
    refine ⟨T, _, rfl, fun x hx => ?_⟩
    obtain ⟨y, _, rfl⟩ := List.mem_map.1 hx
    trivial
  · have h0 : l = 0 := by omega
    subst h0
    rw [hl]
    show _ = LB.cells T ((cs.map fun x => TV.c (.p x)).map (TV.ren _ _))
    rw [ren_p]
  · rw [hxs]
    simp only [List.map_cons, List.map_map]
    refine List.cons_eq_cons.2 ⟨rfl, List.map_congr_left fun x _ => (ren_pa _ _ x).symm⟩
  · intro x hx
    rcases List.mem_cons.1 hx with rfl | hx
    · show (0 : Nat) < 1
      omega
    · obtain ⟨y, _, rfl⟩ := List.mem_map.1 hx
      cases y with
      | one y => trivial
      | agg ys =>
        intro z hz
        obtain ⟨u, _, rfl⟩ := List.mem_map.1 hz
        trivial
  · rintro X lh' tk' ⟨cs', rfl, rfl, hR⟩
    refine ⟨fun l hl => ?_, fun t ht => absurd rfl ht, S.setL none L T (cs'.map fun x => .c (.p x)), rfl, rfl, fun l hl => ?_, fun l hl => ?_, fun t ht => by omega, fun t _ => rfl, hk X cs' hR⟩
    · by_cases h0 : l = 0
      · omega
      · exact absurd (if_neg h0) hl
    · have h0 : l = 0 := by omega
      subst h0
      show upd S.lh L _ L = LB.cells T ((cs'.map fun x => TV.c (.p x)).map (TV.ren _ _))
      rw [ren_p, upd_same]
    · exact upd_ne _ _ (fun e => hl 0 (by omega) e.symm)
section
variable {P : Program} {ds : List (Option Tmp)} {d : Tmp} {ty : TypeId} {pos : String} {after : Array Edge} {l : List Oper} {S : TS} {K : TS → Prop}
theorem L.rcall {f : FuncId} {us : List Operand} {ats : Array TypeId} {T : TypeId} {cs : List PV} {args : List PA} {R : PX → List PV → Prop} {g : Nat} (hd : d < S.sz) (he : Enters P f) (h : RFun P f T cs args R) (hl : S.lh g = .cells T (cs.map fun x => .c (.p x))) (hargs : us.map S.ev = .a (.one (.c (.ptr g 0))) :: args.map PA.tx)
    (hk : ∀ X cs', R X cs' → OpsL P ds l ((S.setL none g T (cs'.map fun x => .c (.p x))).put (some d) X.tx) K) : OpsL P ds (⟨some d, .call ⟨.value (.func f), us.toArray, ats⟩, ty, pos, after, none⟩ :: l) S K :=
  L.call hd rfl he (CallsT.recv h hl (by simpa using hargs) hk)
theorem D.rcall {f : FuncId} {us : List Operand} {ats : Array TypeId} {T : TypeId} {cs cs0 : List PV} {args : List PA} {R : PX → List PV → Prop} {X0 : PX} {L : Nat} (hd : d < S.sz) (he : Enters P f) (h : RFun P f T cs args R) (hX : ∀ X cs', R X cs' → X = X0 ∧ cs' = cs0) (hl : S.lh L = .cells T (cs.map fun x => .c (.p x))) (hargs : us.map S.ev = .a (.one (.c (.ptr L 0))) :: args.map PA.tx) :
    Does P ds ⟨some d, .call ⟨.value (.func f), us.toArray, ats⟩, ty, pos, after, none⟩ S ⟨X0.tx, [], [(L, .cells T (cs0.map fun x => .c (.p x)))], [], [], 0, 0⟩ := by
  refine ⟨dst_ok hd, fun S' g K hk => ?_⟩
  have e : us.map S'.ev = us.map S.ev := List.map_congr_left fun x hx => ev_agree g (x := x) (by simp [Op.operands, Call.operands, hx])
  refine OpT.call (o := ⟨some d, .call ⟨.value (.func f), us.toArray, ats⟩, ty, pos, after, none⟩) (dst_ok (by rw [g.sz]; exact hd)) rfl rfl rfl he (CallsT.recv h (L := L) (by rw [g.lh L (.inr (by simp))]; exact hl) (by simp [e, hargs]) fun X cs' hR => ?_)
  obtain ⟨rfl, rfl⟩ := hX X cs' hR
  simpa [Fp.apply, upds, TS.put, TS.setL, putT] using hk
theorem Ch.nil : ChainL P ds [] [] S S := rfl
theorem Ch.cons {o : Oper} {p : Fp} {ps : List Fp} {S' : TS} (h : Does P ds o S p) (k : ChainL P ds l ps (p.apply o.dst S) S') : ChainL P ds (o :: l) (p :: ps) S S' := ⟨h, k⟩
end
theorem tm_ap (p : Fp) (d : Nat) (S : TS) (t : Nat) : (p.apply (some d) S).tm t = if t = d then p.x else S.tm t := rfl
theorem tm_ap0 (p : Fp) (S : TS) (t : Nat) : (p.apply none S).tm t = S.tm t := rfl
theorem sz_ap (p : Fp) (d : Option Nat) (S : TS) : (p.apply d S).sz = S.sz := rfl
theorem lh_ap0 (X : TX) (rl : List Nat) (rt : List Nat) (wt : List (Nat × TK)) (a b : Nat) (d : Option Nat) (S : TS) : (Fp.apply ⟨X, rl, [], rt, wt, a, b⟩ d S).lh = S.lh := rfl
theorem lh_ap1 (X : TX) (rl : List Nat) (rt : List Nat) (wt : List (Nat × TK)) (a b : Nat) (d : Option Nat) (S : TS) (l : Nat) (c : LB) (j : Nat) : (Fp.apply ⟨X, rl, [(l, c)], rt, wt, a, b⟩ d S).lh j = if j = l then c else S.lh j := rfl
theorem tk_ap0 (X : TX) (rl : List Nat) (rt : List Nat) (wl : List (Nat × LB)) (a b : Nat) (d : Option Nat) (S : TS) : (Fp.apply ⟨X, rl, wl, rt, [], a, b⟩ d S).tk = S.tk := rfl
theorem tk_ap1 (X : TX) (rl : List Nat) (rt : List Nat) (wl : List (Nat × LB)) (a b : Nat) (d : Option Nat) (S : TS) (l : Nat) (c : TK) (j : Nat) : (Fp.apply ⟨X, rl, wl, rt, [(l, c)], a, b⟩ d S).tk j = if j = l then c else S.tk j := rfl
theorem nl_ap (X : TX) (rl : List Nat) (rt : List Nat) (wl : List (Nat × LB)) (wt : List (Nat × TK)) (b : Nat) (d : Option Nat) (S : TS) : (Fp.apply ⟨X, rl, wl, rt, wt, 0, b⟩ d S).nl = S.nl := Nat.max_zero _
theorem nl_ap1 (X : TX) (rl : List Nat) (rt : List Nat) (wl : List (Nat × LB)) (wt : List (Nat × TK)) (a b : Nat) (d : Option Nat) (S : TS) : (Fp.apply ⟨X, rl, wl, rt, wt, a + 1, b⟩ d S).nl = if S.nl ≤ a + 1 then a + 1 else S.nl := Nat.max_def
theorem nt_ap (X : TX) (rl : List Nat) (rt : List Nat) (wl : List (Nat × LB)) (wt : List (Nat × TK)) (a : Nat) (d : Option Nat) (S : TS) : (Fp.apply ⟨X, rl, wl, rt, wt, a, 0⟩ d S).nt = S.nt := Nat.max_zero _
theorem nt_ap1 (X : TX) (rl : List Nat) (rt : List Nat) (wl : List (Nat × LB)) (wt : List (Nat × TK)) (a b : Nat) (d : Option Nat) (S : TS) : (Fp.apply ⟨X, rl, wl, rt, wt, a, b + 1⟩ d S).nt = if S.nt ≤ b + 1 then b + 1 else S.nt := Nat.max_def
theorem tm_ad (S : TS) (l : Nat) (T : TypeId) (cs : List TV) (j : Nat) (el : TypeId) (k : Nat) : (S.adopt l T cs j el k).tm = S.tm := rfl
theorem lh_ad (S : TS) (l : Nat) (T : TypeId) (cs : List TV) (j : Nat) (el : TypeId) (k : Nat) (i : Nat) : (S.adopt l T cs j el k).lh i = if i = l then .cells T (cs.set j (.os S.nt 0)) else S.lh i := rfl
theorem tk_ad (S : TS) (l : Nat) (T : TypeId) (cs : List TV) (j : Nat) (el : TypeId) (k : Nat) (i : Nat) : (S.adopt l T cs j el k).tk i = if i = S.nt then .tok el k 0 [] else S.tk i := rfl
theorem nl_ad (S : TS) (l : Nat) (T : TypeId) (cs : List TV) (j : Nat) (el : TypeId) (k : Nat) : (S.adopt l T cs j el k).nl = S.nl := rfl
theorem nt_ad (S : TS) (l : Nat) (T : TypeId) (cs : List TV) (j : Nat) (el : TypeId) (k : Nat) : (S.adopt l T cs j el k).nt = S.nt + 1 := rfl
theorem sz_ad (S : TS) (l : Nat) (T : TypeId) (cs : List TV) (j : Nat) (el : TypeId) (k : Nat) : (S.adopt l T cs j el k).sz = S.sz := rfl
theorem tm_adT (S : TS) (d : Nat) (el : TypeId) (k : Nat) (t : Nat) : (S.adoptT d el k).tm t = if t = d then .a (.one (.os S.nt 0)) else S.tm t := rfl
theorem lh_adT (S : TS) (d : Nat) (el : TypeId) (k : Nat) : (S.adoptT d el k).lh = S.lh := rfl
theorem tk_adT (S : TS) (d : Nat) (el : TypeId) (k : Nat) (i : Nat) : (S.adoptT d el k).tk i = if i = S.nt then .tok el k 0 [] else S.tk i := rfl
theorem nl_adT (S : TS) (d : Nat) (el : TypeId) (k : Nat) : (S.adoptT d el k).nl = S.nl := rfl
theorem nt_adT (S : TS) (d : Nat) (el : TypeId) (k : Nat) : (S.adoptT d el k).nt = S.nt + 1 := rfl
theorem sz_adT (S : TS) (d : Nat) (el : TypeId) (k : Nat) : (S.adoptT d el k).sz = S.sz := rfl
end Go.Proofs.Ythmpaepdbjldfaa
