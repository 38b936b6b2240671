/-
  Texts of this claim, merged: TE. Lemmas and contracts; no conditions of our own.
-/
import Derived.Test.YthmpaepdbjldfaaG3
import Derived.Great.BuildSlice
import Derived.Laws.OwnMore

/-
  States told by trees: operations that make or write memory.
-/
namespace Go.Proofs.Ythmpaepdbjldfaa
set_option linter.unusedVariables false
set_option linter.unusedSimpArgs false
open Go.RowKit

/-- What an operation does to a state. -/
def OpT (P : Program) (o : Oper) (S : TS) (K : TS → Prop) : Prop :=
  ∀ E w a, SRel E w a S → ∀ (next : Act → World → Prop) (Q : Exit → Act → World → Prop), (∀ E' w' a' S', SRel E' w' a' S' → Ext E E' w w' → K S' → next a' w') → o.wp P a w next Q
def DstOk (o : Oper) (S : TS) : Prop := ∀ i, o.dst = some i → i < S.sz
theorem OpT.quiet {P : Program} {o : Oper} {S : TS} {K : TS → Prop} (hd : DstOk o S) {X : TX} {pre : Prop} (e : qv P S o.op = some (X, pre)) (hp : pre) (hk : K (S.put o.dst X)) : OpT P o S K := by
  intro E w a hs next Q hn
  obtain ⟨v, hr, hv⟩ := qv_sound hs e hp
  unfold Oper.wp
  rw [hr, Oper.upon_value]
  exact hn E w _ _ (hs.quiet hd hv) (Ext.refl E w) hk
theorem OpT.pick {P : Program} {o : Oper} {S : TS} {K : TS → Prop} (hd : DstOk o S) {c x y : Operand} (ho : o.op = .pick c x y) {t : Bool} (hc : (S.ev c).val? = some (.bool t)) (h1 : t = true → K (S.put o.dst (S.ev x))) (h2 : t = false → K (S.put o.dst (S.ev y))) : OpT P o S K := by
  intro E w a hs next Q hn
  unfold Oper.wp execOp
  simp only [ho, (hs.val hc).1, asBool, Sem.run_bind, Sem.run_pure, Result.andThen_ok, Oper.upon_value]
  cases t with
  | true => exact hn E w _ _ (hs.quiet hd (hs.ev x)) (Ext.refl E w) (h1 rfl)
  | false => exact hn E w _ _ (hs.quiet hd (hs.ev y)) (Ext.refl E w) (h2 rfl)
/-- A block of one's own more. -/
def TS.newL (S : TS) (d : Option Nat) (T : TypeId) (cs : List TV) : TS := { S with tm := putT S.tm d (.a (.one (.c (.ptr S.nl 0)))), lh := upd S.lh S.nl (.cells T cs), nl := S.nl + 1 }
theorem newL_rel {E : Env} {w : World} {a : Act} {S : TS} (hs : SRel E w a S) {d : Option Nat} (hd : ∀ i, d = some i → i < S.sz) (hl : S.lh S.nl = .hole) {T : TypeId} {cs : List TV} {vs : List Value} (hc : CRel E w cs vs) :
    ∃ E', SRel E' (w.alloc (.cells vs.toArray T)) (a.put d (.pointer (some ⟨w.heap.size, 0, none⟩))) (S.newL d T cs) ∧ Ext E E' w (w.alloc (.cells vs.toArray T)) := by
  have hl' : E.lh S.nl = .hole := by rw [hs.1]; exact hl
  obtain ⟨hx, hH⟩ := new_local hs.2.2.1 hl' (T := T) hc
  refine ⟨_, hs.put hx hH (x := .a (.one (.c (.ptr S.nl 0)))) ⟨rfl, by simp, fun _ => by simp⟩ ?_ hs.2.1 rfl rfl hd, hx⟩
  show upd E.lh S.nl _ = upd S.lh S.nl _
  rw [hs.1]
theorem OpT.alloc {P : Program} {o : Oper} {S : TS} {K : TS → Prop} (hd : DstOk o S) {t : TypeId} (ho : o.op = .alloc t) (hok : (tyOf P t).ok = true) (hl : S.lh S.nl = .hole) (hk : K (S.newL o.dst t ((tyOf P t).zero.map fun v => .c (.p (.raw v))))) : OpT P o S K := by
  intro E w a hs next Q hn
  obtain ⟨⟨i, z, hi, hz, hsz, hzz, _, hone, _⟩, _⟩ := tyOf_ok hok
  obtain ⟨E', h1, h2⟩ := newL_rel hs hd hl (T := t) (cs := (tyOf P t).zero.map fun v => .c (.p (.raw v))) (vs := (tyOf P t).zero) ⟨by simp, fun j x hj => by
    simp only [List.getElem?_map, Option.map_eq_some_iff] at hj
    obtain ⟨u, hu, rfl⟩ := hj
    rw [List.getD_eq_getElem?_getD, hu]
    exact PRel.raw ((List.all_eq_true.1 hone) u (List.mem_of_getElem? hu))⟩
  unfold Oper.wp execOp
  have e : (Instr.alloc t true (.tuple #[])).run P w = .ok (.pointer (some ⟨w.heap.size, 0, none⟩)) (w.alloc (.cells (tyOf P t).zero.toArray t)) := by
    simp [Instr.alloc, zeroValue, typeInfo, hi, hz, newVar, newRow, hzz]
  simp only [ho, Sem.run_bind, e, Result.andThen_ok, Sem.run_pure, Oper.upon_value]
  exact hn E' _ _ _ h1 h2 hk
theorem OpT.box {P : Program} {o : Oper} {S : TS} {K : TS → Prop} (hd : DstOk o S) {t : TypeId} {x : Operand} (ho : o.op = .box t x) {cs : List TV} (hc : (S.ev x).cells = some cs) (hl : S.lh S.nl = .hole) (hk : K (S.newL o.dst t cs)) : OpT P o S K := by
  intro E w a hs next Q hn
  obtain ⟨E', h1, h2⟩ := newL_rel hs hd hl (T := t) (hs.cells hc)
  unfold Oper.wp execOp
  have e : (Instr.box t (a.eval x)).run P w = .ok (.pointer (some ⟨w.heap.size, 0, none⟩)) (w.alloc (.cells (a.eval x).cells.toList.toArray t)) := by
    simp [Instr.box, newVar, newRow]
  simp only [ho, Sem.run_bind, e, Result.andThen_ok, Sem.run_pure, Oper.upon_value]
  exact hn E' _ _ _ h1 h2 hk
/-! ### Store -/
def overT {α : Type} (cs : List α) (o : Nat) (vs : List α) : List α := cs.take o ++ vs ++ cs.drop (o + vs.length)
theorem over_at {α : Type} (cs : List α) (o : Nat) (vs : List α) (h : o + vs.length ≤ cs.length) (j : Nat) : (overT cs o vs)[j]? = if j < o then cs[j]? else if j < o + vs.length then vs[j - o]? else cs[j]? := by
  unfold overT
  have hm : min o cs.length = o := Nat.min_eq_left (by omega)
  rw [List.append_assoc, List.getElem?_append, List.getElem?_append]
  simp only [List.length_take, List.getElem?_take, List.getElem?_drop, hm]
  by_cases h1 : j < o
  · simp only [if_pos h1]
  · simp only [if_neg h1]
    by_cases h2 : j < o + vs.length
    · rw [if_pos (by omega), if_pos h2]
    · rw [if_neg (by omega), if_neg h2]
      congr 1
      omega
theorem CRel.over {E : Env} {w : World} {cs ds : List TV} {vs us : List Value} {o : Nat} (h : CRel E w cs vs) (g : CRel E w ds us) (hle : o + ds.length ≤ cs.length) : CRel E w (overT cs o ds) (overT vs o us) := by
  have h1 := h.1
  have g1 := g.1
  refine ⟨by unfold overT; simp; omega, fun j x hj => ?_⟩
  rw [over_at _ _ _ hle] at hj
  rw [List.getD_eq_getElem?_getD, over_at _ _ _ (by omega)]
  by_cases c1 : j < o
  · rw [if_pos c1] at hj ⊢
    have := h.2 j x hj
    rwa [List.getD_eq_getElem?_getD] at this
  · rw [if_neg c1] at hj ⊢
    by_cases c2 : j < o + ds.length
    · rw [if_pos c2] at hj
      rw [if_pos (by omega)]
      have := g.2 _ x hj
      rwa [List.getD_eq_getElem?_getD] at this
    · rw [if_neg c2] at hj
      rw [if_neg (by omega)]
      have := h.2 j x hj
      rwa [List.getD_eq_getElem?_getD] at this
theorem run_store_t {P : Program} {w : World} {t : TypeId} {b o : Nat} {v : Value} {T : TypeId} {cur : List Value} (hok : (tyOf P t).ok = true) (hB : Blk w b cur T) (hn : v.cells.toList.length = (tyOf P t).n) (hle : o + (tyOf P t).n ≤ cur.length) (h1 : ∀ u ∈ v.cells.toList, u.oneCell' = true) :
    (Instr.storeAt t (.pointer (some ⟨b, o, none⟩)) v).run P w = .ok () (w.setCells b o v.cells.toList) := by
  obtain ⟨⟨i, z, hi, hz, hsz, _, _, _, _⟩, _⟩ := tyOf_ok hok
  have h := run_storeCells_cells (P := P) b o v.cells.toList 0 w (fun j hj => by
    have hjl : o + 0 + j < cur.length := by omega
    rw [hB.cell, List.getElem?_eq_getElem hjl]
    rfl) (fun j hj => hB.free _) h1
  rw [Nat.add_zero] at h
  have hs : v.cells.size = i.size := by
    rw [← hsz, ← hn]
    simp
  simp [Instr.storeAt, Instr.sureAddr, storeVar, sizeOf, typeInfo, hi, hs, h]
theorem sz_setCells (g : Nat) : ∀ (vs : List Value) (w : World) (o : Nat), (w.setCells g o vs).heap.size = w.heap.size
  | [], _, _ => rfl
  | v :: vs, w, o => by
    show ((w.setCell ⟨g, o, none⟩ v).setCells g (o + 1) vs).heap.size = _
    rw [sz_setCells g vs, World.size_setCell]
/-- Cells of a block of one's own are others. -/
def TS.setL (S : TS) (d : Option Nat) (l : Nat) (T : TypeId) (cs : List TV) : TS := { S with tm := putT S.tm d .und, lh := upd S.lh l (.cells T cs) }
theorem OpT.store {P : Program} {o : Oper} {S : TS} {K : TS → Prop} (hd : DstOk o S) {t : TypeId} {x y : Operand} (ho : o.op = .store t x y) (hok : (tyOf P t).ok = true) {l off : Nat} (hx : S.ev x = .a (.one (.c (.ptr l off)))) {T : TypeId} {cs ds : List TV} (hl : S.lh l = .cells T cs) (hc : (S.ev y).cells = some ds) (hn : ds.length = (tyOf P t).n) (hle : off + ds.length ≤ cs.length)
    (hk : K (S.setL o.dst l T (overT cs off ds))) : OpT P o S K := by
  intro E w a hs next Q hn'
  have hl' : E.lh l = .cells T cs := by rw [hs.1]; exact hl
  have hlv : E.live l := ⟨by rw [hl']; simp, by rw [hl']; simp⟩
  obtain ⟨vs, hB, hcs⟩ := hs.2.2.1.loc l T cs hl'
  have hp := (hs.cell hx).2.2 hlv
  have hy := hs.cells hc
  have hr := run_store_t (P := P) (t := t) (o := off) (v := a.eval y) hok hB (by rw [hy.1, hn]) (by rw [hcs.1]; omega) hy.one
  have hB2 : Blk (w.setCells (E.ρ l) off (a.eval y).cells.toList) (E.ρ l) (overT vs off (a.eval y).cells.toList) T := Blk.setCells _ off hB (by rw [hy.1, hcs.1]; omega)
  have hu : Upd [E.ρ l] w (w.setCells (E.ρ l) off (a.eval y).cells.toList) := Upd.setCells _ off (Upd.refl _ w) (.inl (by simp))
  have hsz : (w.setCells (E.ρ l) off (a.eval y).cells.toList).heap.size = w.heap.size := sz_setCells _ _ _ _
  obtain ⟨hx2, hH2⟩ := set_local hs.2.2.1 hl' hu hB2 hsz (hcs.over hy hle)
  unfold Oper.wp execOp
  simp only [ho, hp, Sem.run_bind, hr, Result.andThen_ok, Sem.run_pure, Oper.upon_skip]
  refine hn' _ _ _ (S.setL o.dst l T (overT cs off ds)) (hs.put hx2 hH2 (x := .und) trivial ?_ hs.2.1 rfl rfl hd) hx2 hk
  show upd E.lh l _ = upd S.lh l _
  rw [hs.1]
/-! ### Slices of one's own -/
def TV.pv? : TV → Option PV
  | .c (.p x) => some x
  | _ => none
def pvs? : List TV → Option (List PV)
  | [] => some []
  | x :: xs => match x.pv?, pvs? xs with
    | some y, some ys => some (y :: ys)
    | _, _ => none
theorem pvs?_eq : ∀ {cs : List TV} {ps : List PV}, pvs? cs = some ps → cs = ps.map fun x => .c (.p x)
  | [], ps, h => by injection h with h; rw [← h]; rfl
  | x :: xs, ps, h => by
    unfold pvs? at h
    split at h
    · rename_i y ys e1 e2
      injection h with h
      rw [← h, List.map_cons, ← pvs?_eq e2]
      congr 1
      unfold TV.pv? at e1
      split at e1
      · injection e1 with e1
        rw [e1]
      · cases e1
    · cases h
/-- A slice of one's own in its next form. -/
def TS.setT (S : TS) (d : Option Nat) (X : TX) (t : Nat) (k : TK) : TS := { S with tm := putT S.tm d X, tk := upd S.tk t k }
def TS.newT (S : TS) (d : Option Nat) (T : TypeId) (k : Nat) (es : List (List PV)) : TS := { S with tm := putT S.tm d (.a (.one (.os S.nt 0))), tk := upd S.tk S.nt (.tok T k 0 es), nt := S.nt + 1 }
theorem newT_rel {E : Env} {w w' : World} {a : Act} {S : TS} (hs : SRel E w a S) {d : Option Nat} (hd : ∀ i, d = some i → i < S.sz) (ht : S.tk S.nt = .hole) {T : TypeId} {k : Nat} {es : List (List PV)} {v : Value} {xs : List Value} (hu : Upd [] w w') (hv : w'.ownsRow 0 T k v es.length xs) (hb : ∀ b, v.ownBlock = some b → w.heap.size ≤ b) (hone : v.oneCell' = true) (hr : ∀ P', (∀ b, E.imm w b → P' b) → Rows P' w' k es xs) :
    ∃ E', SRel E' w' (a.put d v) (S.newT d T k es) ∧ Ext E E' w w' := by
  have ht' : E.tk S.nt = .hole := by rw [hs.2.1]; exact ht
  obtain ⟨hx, hH⟩ := put_tok hs.2.2.1 (t := S.nt) (n := 0) (.inl ht') (S := []) (by simp) hu hv (fun b hb' => .inr (hb b hb')) hr
  refine ⟨_, hs.put hx hH (x := .a (.one (.os S.nt 0))) ⟨hone, by simp, fun T1 k1 m1 es1 e => ?_⟩ hs.1 ?_ rfl rfl hd, hx⟩
  · simp only [upd_same] at e
    injection e with _ _ e3 _
    exact ⟨by omega, fun _ => by simp⟩
  · show upd E.tk S.nt _ = upd S.tk S.nt _
    rw [hs.2.1]
/-- What lies in a slice. -/
def TS.els (S : TS) : TX → Option (Nat × List (List PV))
  | .a (.one (.c (.p (.sl k es)))) => some (k, es)
  | .a (.one (.os t m)) => match S.tk t with
    | .tok _ k m' es => if m = m' then some (k, es) else none
    | _ => none
  | _ => none
/-- The cells of an element. -/
def ERel (P : Nat → Prop) (w : World) (k : Nat) (cs : List Value) (e : List PV) : Prop := cs.length = k ∧ e.length = k ∧ ∀ (j : Nat) (x : PV), e[j]? = some x → PRel P w x (cs.getD j undef)
theorem chunks (k : Nat) : ∀ (n : Nat) (xs : List Value), xs.length = n * k → ((List.range n).map fun i => (xs.drop (i * k)).take k).flatten = xs
  | 0, xs, h => by
    have : xs = [] := List.eq_nil_of_length_eq_zero (by omega)
    rw [this]
    rfl
  | n + 1, xs, h => by
    rw [List.range_succ_eq_map, List.map_cons, List.flatten_cons, List.map_map]
    have ih := chunks k n (xs.drop k) (by rw [List.length_drop, h, Nat.add_mul]; omega)
    have e : ((fun i => List.take k (List.drop (i * k) xs)) ∘ Nat.succ) = fun i => List.take k (List.drop (i * k) (xs.drop k)) := by
      funext i
      simp only [Function.comp, List.drop_drop]
      congr 2
      rw [Nat.succ_mul]
      omega
    rw [e, ih, Nat.zero_mul, List.drop_zero, List.take_append_drop]
theorem own_of {P : Nat → Prop} {w : World} {T : TypeId} {k : Nat} {v : Value} {es : List (List PV)} {xs : List Value} (h : w.ownsRow 0 T k v es.length xs) (hr : Rows P w k es xs) : OwnK 0 w T k (ERel P w k) v es := by
  have hc := chunks k es.length xs h.1
  have hlen : ∀ i, i < es.length → ((xs.drop (i * k)).take k).length = k := by
    intro i hi
    have : (i + 1) * k ≤ es.length * k := Nat.mul_le_mul_right k hi
    rw [Nat.add_mul] at this
    rw [List.length_take, List.length_drop, h.1]
    omega
  have hget : ∀ i j, j < k → ((xs.drop (i * k)).take k)[j]? = xs[i * k + j]? := by
    intro i j hj
    rw [List.getElem?_take, if_pos hj, List.getElem?_drop]
  refine ⟨(List.range es.length).map fun i => (xs.drop (i * k)).take k, by simp, fun i hi => ?_, fun cs hcs => ?_, by rw [hc]; exact h⟩
  · have e1 : ((List.range es.length).map fun i => (xs.drop (i * k)).take k).getD i [] = (xs.drop (i * k)).take k := by simp [List.getD_eq_getElem?_getD, hi]
    have e2 : es.getD i default = es[i] := by simp [List.getD_eq_getElem?_getD, hi]
    rw [e1, e2]
    obtain ⟨q1, q2⟩ := hr i _ (List.getElem?_eq_getElem hi)
    refine ⟨hlen i hi, q1, fun j x hj => ?_⟩
    obtain ⟨v, r1, r2⟩ := q2 j x hj
    have hjk : j < k := by rw [← q1]; exact (List.getElem?_eq_some_iff.1 hj).1
    rw [List.getD_eq_getElem?_getD, hget i j hjk, r1]
    exact r2
  · obtain ⟨i, hi, rfl⟩ := List.mem_map.1 hcs
    have hi' : i < es.length := by simpa using hi
    refine ⟨hlen i hi', fun u hu => ?_⟩
    obtain ⟨j, hj, rfl⟩ := List.getElem_of_mem hu
    have hjk : j < k := by rw [hlen i hi'] at hj; exact hj
    obtain ⟨q1, q2⟩ := hr i _ (List.getElem?_eq_getElem hi')
    obtain ⟨v, r1, r2⟩ := q2 j _ (List.getElem?_eq_getElem (by rw [q1]; exact hjk))
    have := hget i j hjk
    rw [List.getElem?_eq_getElem hj, r1] at this
    injection this with this
    rw [this]
    exact PRel.one r2
theorem of_own {P : Nat → Prop} {w w' : World} {T : TypeId} {k : Nat} {v : Value} {es : List (List PV)} (h : OwnK 0 w' T k (ERel P w k) v es) : ∃ xs, w'.ownsRow 0 T k v es.length xs ∧ ∀ P', (∀ x v, PRel P w x v → PRel P' w' x v) → Rows P' w' k es xs := by
  obtain ⟨css, h1, h2, h3, h4⟩ := h
  refine ⟨css.flatten, h4, fun P' hm i e hi => ?_⟩
  have hil := (List.getElem?_eq_some_iff.1 hi).1
  obtain ⟨_, q1, q2⟩ := h2 i hil
  have e2 : es.getD i default = e := by rw [List.getD_eq_getElem?_getD, hi]; rfl
  rw [e2] at q1 q2
  refine ⟨q1, fun j x hj => ?_⟩
  have hjk : j < k := by rw [← q1]; exact (List.getElem?_eq_some_iff.1 hj).1
  have hfl := flatten_getK (fun cs hc => (h3 cs hc).1) (i := i) (by omega) hjk
  have hcl : j < (css.getD i []).length := by
    have : css.getD i [] ∈ css := by
      rw [List.getD_eq_getElem?_getD, List.getElem?_eq_getElem (by omega)]
      exact List.getElem_mem _
    rw [(h3 _ this).1]
    exact hjk
  refine ⟨(css.getD i []).getD j undef, ?_, hm _ _ (q2 j x hj)⟩
  rw [hfl]
  generalize css.getD i [] = c at hcl
  rw [List.getElem?_eq_getElem hcl]
  simp [List.getD_eq_getElem?_getD, hcl]
theorem els_rel {E : Env} {w : World} {a : Act} {S : TS} (h : SRel E w a S) {X : TX} {v : Value} (hv : XRel E w X v) {k : Nat} {ys : List (List PV)} (e : S.els X = some (k, ys)) (hk0 : 0 < k) :
    ∃ ap c, v = .slice ap ys.length c ∧ ys.length ≤ c ∧ ∃ P2, RowK w P2 k (ERel (E.imm w) w k) ap ys := by
  obtain ⟨hlh, htk, hH, _⟩ := h
  unfold TS.els at e
  split at e
  · injection e with e
    injection e with e1 e2
    subst e1; subst e2
    have hv' : PRel (E.imm w) w (.sl _ _) v := hv
    cases hv' with
    | sl vs hk h1 h2 hc =>
      rename_i k es ap c
      refine ⟨ap, c, rfl, hc, E.imm w, fun i hi => ?_⟩
      have hei : es[i]? = some es[i] := List.getElem?_eq_getElem hi
      have hl := hk i _ hei
      have e2 : es.getD i default = es[i] := by simp [List.getD_eq_getElem?_getD, hi]
      obtain ⟨b, o, ea, hb, _⟩ := h1 i _ 0 (es[i][0]'(by omega)) hei (List.getElem?_eq_getElem (by omega))
      refine ⟨b, o, (List.range k).map (vs i), ea, hb, ⟨by simp, fun j hj => ?_⟩, ?_⟩
      · obtain ⟨b', o', ea', _, hc'⟩ := h1 i _ j (es[i][j]'(by omega)) hei (List.getElem?_eq_getElem (by omega))
        rw [ea] at ea'
        injection ea' with ea'
        injection ea' with q1 q2
        subst q1; subst q2
        rw [show o + i * k + j = o + (i * k + j) by omega, hc']
        simp [hj]
      · rw [e2]
        refine ⟨by simp, hl, fun j x hj => ?_⟩
        have hjk : j < k := by rw [← hl]; exact (List.getElem?_eq_some_iff.1 hj).1
        rw [show ((List.range k).map (vs i)).getD j undef = vs i j by simp [List.getD_eq_getElem?_getD, hjk]]
        exact h2 i _ j x hei hj
  · split at e
    · rename_i T k m' es htt
      split at e
      · rename_i hm
        injection e with e
        injection e with e1 e2
        subst e1; subst e2
        rw [← htk] at htt
        have ev := (hv.2.2 _ _ _ _ htt).2 hm
        obtain ⟨xs, hO, hR⟩ := hH.tok _ _ _ _ _ htt
        obtain ⟨a', c, e1, hrow, hc⟩ := (own_of hO hR).row
        rw [← ev] at e1
        exact ⟨a', c, e1, hc, _, hrow⟩
      · cases e
    · cases e
  · cases e
theorem OpT.append {P : Program} {o : Oper} {S : TS} {K : TS → Prop} (hd : DstOk o S) {s x : Operand} {t el : TypeId} (ho : o.op = .call { callee := .builtin .append, args := #[s, x], argTypes := #[t, t] })
    (ht : (tyOf P t).d = .slice el) (hok : (tyOf P el).ok = true) (hnz : (tyOf P el).n ≠ 0) (hby : (tyOf P el).bytes ≤ 1000) {τ m k : Nat} {es ys : List (List PV)} (hs : S.ev s = .a (.one (.os τ m))) (hτ : S.tk τ = .tok el k m es) (hk : k = (tyOf P el).n)
    (hx : S.els (S.ev x) = some (k, ys)) (hn : es.length + ys.length ≤ 100000000) (hK : K (S.setT o.dst (.a (.one (.os τ (m + 1)))) τ (.tok el k (m + 1) (es ++ ys)))) : OpT P o S K := by
  intro E w a hs' next Q hn'
  have hτ' : E.tk τ = .tok el k m es := by rw [hs'.2.1]; exact hτ
  have hgr : E.grows τ := ⟨by rw [hτ']; simp, by rw [hτ']; simp⟩
  obtain ⟨xs, hO, hR⟩ := hs'.2.2.1.tok _ _ _ _ _ hτ'
  have ev := ((hs'.cell hs).2.2 _ _ _ _ hτ').2 rfl
  obtain ⟨ap, c, ex, hc, P2, hrow⟩ := els_rel hs' (hs'.ev x) hx (by omega)
  obtain ⟨⟨i, z, hi, hz, hsz, hzz, hbb, hone, hzl⟩, _⟩ := tyOf_ok hok
  have hinfo : (P.info? el).map (fun i => (i.zero, i.size, i.bytes)) = some (some z, k, i.bytes) := by rw [hi]; simp [hz, hk, hsz]
  have hzk : z.cells.size = k := by
    rw [hk, ← hzl, hzz]
    simp
  have hoo := own_of hO hR
  rw [← ev] at hoo
  obtain ⟨a', c', w', hr, hO', hu, hob⟩ := run_apps (P := P) t o.type 0 el z k i.bytes (und_slice ht) hinfo hzk (by omega) hoo hrow (c := c) (fun cs y hy u hu => by
    obtain ⟨q0, q1, q2⟩ := hy
    obtain ⟨j, hj, rfl⟩ := List.getElem_of_mem hu
    have := q2 j _ (List.getElem?_eq_getElem (by omega))
    rw [List.getD_eq_getElem?_getD, List.getElem?_eq_getElem hj] at this
    exact PRel.one this) hn (by rw [← hbb]; exact hby) (Nat.zero_le _)
  obtain ⟨us, hv', hm⟩ := of_own hO'
  rw [ev] at hu hob
  have himm : ∀ b o' v, E.imm w b → w.cell? ⟨b, o', none⟩ = some v → w'.cell? ⟨b, o', none⟩ = some v := fun b o' v hb hcell => hu.cell hcell (fun hmem => hb.2.2.2 τ hgr (by simpa using hmem))
  obtain ⟨hX, hH⟩ := put_tok hs'.2.2.1 (t := τ) (n := m + 1) (.inr ⟨_, _, _, _, hτ', rfl, .inl (Nat.lt_succ_self m)⟩) (S := (E.tv τ).ownBlock.toList) (fun b hb => ⟨hgr, by simpa using hb⟩) hu hv' (fun b hb => by
    rcases hob with q | q
    · rw [q] at hb
      exact .inl ⟨hgr, hb⟩
    · rw [q] at hb
      injection hb with hb
      exact .inr (by omega)) (fun P' hP => hm P' (fun x v r => PRel.map (fun b o' v hb hcell => ⟨hP b hb, himm b o' v hb hcell⟩) r))
  unfold Oper.wp execOp
  simp only [ho, resolve, invoke, builtin, Sem.run_bind, Sem.run_pure, Result.andThen_ok, List.map_toArray, List.map_cons, List.map_nil, ex, hr, Oper.upon_value]
  refine hn' _ _ _ (S.setT o.dst (.a (.one (.os τ (m + 1)))) τ (.tok el k (m + 1) (es ++ ys))) (hs'.put hX hH (x := .a (.one (.os τ (m + 1)))) ⟨rfl, by simp, fun T1 k1 m1 es1 e => ?_⟩ hs'.1 ?_ rfl rfl hd) hX hK
  · simp only [upd_same] at e
    injection e with _ _ e3 _
    exact ⟨by omega, fun _ => by simp⟩
  · show upd E.tk τ _ = upd S.tk τ _
    rw [hs'.2.1]
/-- A nil slice of one's own grows. -/
theorem OpT.append_nil {P : Program} {o : Oper} {S : TS} {K : TS → Prop} (hd : DstOk o S) {s x : Operand} {t el : TypeId} (ho : o.op = .call { callee := .builtin .append, args := #[s, x], argTypes := #[t, t] })
    (ht : (tyOf P t).d = .slice el) (hok : (tyOf P el).ok = true) (hnz : (tyOf P el).n ≠ 0) (hby : (tyOf P el).bytes ≤ 1000) {k : Nat} {ys : List (List PV)} (hs : (S.ev s).val? = some (.slice none 0 0)) (hl : S.tk S.nt = .hole) (hk : k = (tyOf P el).n)
    (hx : S.els (S.ev x) = some (k, ys)) (hn : ys.length ≤ 100000000) (hK : K (S.newT o.dst el k ys)) : OpT P o S K := by
  intro E w a hs' next Q hn'
  obtain ⟨ap, c, ex, hc, P2, hrow⟩ := els_rel hs' (hs'.ev x) hx (by omega)
  obtain ⟨⟨i, z, hi, hz, hsz, hzz, hbb, hone, hzl⟩, _⟩ := tyOf_ok hok
  have hinfo : (P.info? el).map (fun i => (i.zero, i.size, i.bytes)) = some (some z, k, i.bytes) := by rw [hi]; simp [hz, hk, hsz]
  have hzk : z.cells.size = k := by
    rw [hk, ← hzl, hzz]
    simp
  obtain ⟨a', c', w', hr, hO', hu, hob⟩ := run_apps (P := P) t o.type 0 el z k i.bytes (und_slice ht) hinfo hzk (by omega) (OwnK.nil 0 w el k (ERel (E.imm w) w k)) hrow (c := c) (fun cs y hy u hu => by
    obtain ⟨q0, q1, q2⟩ := hy
    obtain ⟨j, hj, rfl⟩ := List.getElem_of_mem hu
    have := q2 j _ (List.getElem?_eq_getElem (by omega))
    rw [List.getD_eq_getElem?_getD, List.getElem?_eq_getElem hj] at this
    exact PRel.one this) (by simpa using hn) (by rw [← hbb]; exact hby) (Nat.zero_le _)
  obtain ⟨us, hv', hm⟩ := of_own hO'
  have hu' : Upd [] w w' := hu
  rw [List.nil_append] at hv' hm
  simp only [List.length_nil, Nat.zero_add] at hr hob hv'
  obtain ⟨E', h1, h2⟩ := newT_rel hs' hd hl hu' hv' (fun b hb => by
    rcases hob with q | q
    · rw [q] at hb
      cases hb
    · rw [q] at hb
      injection hb with hb
      omega) rfl (fun P' hP => hm P' (fun x v r => PRel.map (fun b o' v hb hcell => ⟨hP b hb, hu'.cell hcell (by simp)⟩) r))
  unfold Oper.wp execOp
  simp only [ho, resolve, invoke, builtin, Sem.run_bind, Sem.run_pure, Result.andThen_ok, List.map_toArray, List.map_cons, List.map_nil, ex, (hs'.val hs).1, hr, Oper.upon_value]
  exact hn' E' _ _ _ h1 h2 hK
/-! ### Slices that are listed -/
def partsT (S : TS) (k : Nat) : List (Nat × Operand) → Option (List (List PV))
  | [] => some []
  | (_, x) :: r => match (S.ev x).cells.bind pvs?, partsT S k r with
    | some e, some es => if e.length = k then some (e :: es) else none
    | _, _ => none
theorem partsT_rel {E : Env} {w : World} {a : Act} {S : TS} (h : SRel E w a S) {k : Nat} : ∀ {ps : List (Nat × Operand)} {es : List (List PV)}, partsT S k ps = some es → es.length = ps.length ∧ (∀ v ∈ ps.map (fun p => a.eval p.2), v.cells.size = k) ∧ Rows (E.imm w) w k es ((ps.map fun p => a.eval p.2).flatMap fun v => v.cells.toList)
  | [], es, e => by
    injection e with e
    subst e
    exact ⟨rfl, by simp, fun i e hi => by simp at hi⟩
  | (i, x) :: r, es, e => by
    unfold partsT at e
    split at e
    · rename_i el es' e1 e2
      split at e
      · rename_i hlen
        injection e with e
        subst e
        obtain ⟨h1, h2, h3⟩ := partsT_rel h e2
        simp only [Option.bind_eq_some_iff] at e1
        obtain ⟨cs, hcs, hpv⟩ := e1
        have hc := h.cells hcs
        have hpe := pvs?_eq hpv
        have hsz : (a.eval x).cells.size = k := by
          have := hc.1
          rw [hpe] at this
          simpa [hlen] using this
        refine ⟨by simp [h1], fun v hv => ?_, fun j e hj => ?_⟩
        · rcases List.mem_cons.1 hv with rfl | hv
          · exact hsz
          · exact h2 v hv
        · rw [List.map_cons, List.flatMap_cons]
          cases j with
          | zero =>
            injection hj with hj
            subst hj
            refine ⟨hlen, fun q y hq => ?_⟩
            have hql := (List.getElem?_eq_some_iff.1 hq).1
            have := hc.2 q (.c (.p y)) (by rw [hpe]; simp [hq])
            refine ⟨_, ?_, this⟩
            rw [Nat.zero_mul, Nat.zero_add, List.getElem?_append_left (by simp; omega), List.getD_eq_getElem?_getD]
            rw [List.getElem?_eq_getElem (by simp; omega)]
            rfl
          | succ j =>
            rw [List.getElem?_cons_succ] at hj
            obtain ⟨q1, q2⟩ := h3 j e hj
            refine ⟨q1, fun q y hq => ?_⟩
            obtain ⟨v, r1, r2⟩ := q2 q y hq
            refine ⟨v, ?_, r2⟩
            rw [List.getElem?_append_right (by simp [hsz, Nat.add_mul]; omega)]
            rw [show (j + 1) * k + q - (a.eval x).cells.toList.length = j * k + q by simp [hsz, Nat.add_mul]; omega]
            exact r1
      · cases e
    · cases e
theorem run_listed {P : Program} {E : Env} {w : World} {a : Act} {S : TS} (h : SRel E w a S) {t el : TypeId} (ht : (tyOf P t).d = .slice el) (hok : (tyOf P el).ok = true) (hnz : (tyOf P el).n ≠ 0) {n : Nat} {parts : Array (Nat × Operand)} {es : List (List PV)} (hp : partsT S (tyOf P el).n parts.toList = some es)
    (hix : parts.toList.map (·.1) = List.range n) (hn : n ≤ 10000) (hn0 : 0 < n) (hsm : (tyOf P el).n ≤ 1000) :
    ∃ xs : List Value, (Instr.buildSlice t n (parts.map fun (i, x) => (i, a.eval x))).run P w = .ok (.slice (some ⟨w.heap.size, 0, none⟩) n n) (w.alloc (.cells xs.toArray el)) ∧ es.length = n ∧ xs.length = n * (tyOf P el).n ∧ Rows (E.imm w) w (tyOf P el).n es xs := by
  obtain ⟨h1, h2, h3⟩ := partsT_rel h hp
  obtain ⟨⟨i, z, hi, hz, hsz, hzz, hbb, hone, hzl⟩, _⟩ := tyOf_ok hok
  have hpl : parts.toList.length = n := by
    have := congrArg List.length hix
    simpa using this
  have hparts : (parts.map fun (i, x) => (i, a.eval x)).toList = ((parts.toList.map fun p => a.eval p.2).zipIdx 0).map fun x => (x.2, x.1) := by
    rw [Array.toList_map]
    apply List.ext_getElem?
    intro j
    simp only [List.getElem?_map, List.getElem?_zipIdx]
    by_cases hj : j < parts.toList.length
    · have e1 : parts.toList[j]? = some parts.toList[j] := List.getElem?_eq_getElem hj
      have e2 : (parts.toList.map (·.1))[j]? = some j := by
        rw [hix, List.getElem?_range (by omega)]
      rw [List.getElem?_map, e1] at e2
      simp only [Option.map_some, Option.some.injEq] at e2
      rw [e1]
      simpa using e2
    · rw [List.getElem?_eq_none (by omega)]
      rfl
  have hfl := Great.fill_whole (s := i.size) (by omega) (parts.toList.map fun p => a.eval p.2) ((Array.range (n * i.size)).map (z.cells[· % z.cells.size]!)) (fun v hv => by rw [← hsz]; exact h2 v hv) (by simp; rw [← hpl]; simp)
  rw [← hparts] at hfl
  have hle : n * i.size ≤ 10000 * 1000 := Nat.mul_le_mul hn (by omega)
  have hpos : 0 < n * i.size := Nat.mul_pos hn0 (by omega)
  refine ⟨_, run_buildSlice w t el n _ _ i z (und_slice ht) hi hz (by omega) (by omega) hfl, by rw [h1, hpl], ?_, h3⟩
  rw [hsz]
  have : ∀ l : List Value, (∀ v ∈ l, v.cells.size = i.size) → (l.flatMap fun v => v.cells.toList).length = l.length * i.size := by
    intro l
    induction l with
    | nil => intro _; simp
    | cons v l ih => intro hv; rw [List.flatMap_cons, List.length_append, ih (fun u hu => hv u (by simp [hu])), List.length_cons, Nat.add_mul]; have := hv v (by simp); simp [this]; omega
  rw [this _ (fun v hv => by rw [← hsz]; exact h2 v hv)]
  simp
  rw [← hpl]
  simp
/-- As a slice that stays. -/
theorem OpT.listed {P : Program} {o : Oper} {S : TS} {K : TS → Prop} (hd : DstOk o S) {t el : TypeId} {n : Nat} {parts : Array (Nat × Operand)} (ho : o.op = .buildSlice t n parts) (ht : (tyOf P t).d = .slice el) (hok : (tyOf P el).ok = true) (hnz : (tyOf P el).n ≠ 0) {es : List (List PV)} (hp : partsT S (tyOf P el).n parts.toList = some es)
    (hix : parts.toList.map (·.1) = List.range n) (hn : n ≤ 10000) (hn0 : 0 < n) (hsm : (tyOf P el).n ≤ 1000) (hK : K (S.put o.dst (one (.sl (tyOf P el).n es)))) : OpT P o S K := by
  intro E w a hs next Q hn'
  obtain ⟨xs, hr, hl, hxl, hR⟩ := run_listed hs ht hok hnz hp hix hn hn0 hsm
  have hu : Upd [] w (w.alloc (.cells xs.toArray el)) := (Upd.refl [] w).alloc _
  obtain ⟨E1, s1, x1⟩ : ∃ E1, SRel E1 (w.alloc (.cells xs.toArray el)) (a.put o.dst (.slice (some ⟨w.heap.size, 0, none⟩) n n)) (S.put o.dst (one (.sl (tyOf P el).n es))) ∧ Ext E E1 w (w.alloc (.cells xs.toArray el)) := by
    have himm : ∀ b, E.imm w b → E.imm (w.alloc (.cells xs.toArray el)) b := fun b hb => ⟨by simp; have := hb.1; omega, hb.2⟩
    have hx : Ext E E w (w.alloc (.cells xs.toArray el)) := ext_of_upd hs.2.2.1 hu (by simp) rfl (fun l => locrefl rfl rfl) (fun t => tokrefl rfl rfl) himm
    have hnew : E.imm (w.alloc (.cells xs.toArray el)) w.heap.size := ⟨by simp, fun h => by have := hs.2.2.1.nob _ h; omega, fun l hl e => by have := (hs.2.2.1.nol l hl).2; omega, fun t ht hb => by have := (hs.2.2.1.not t _ ht hb).2.1; omega⟩
    have hH : HRel E (w.alloc (.cells xs.toArray el)) := by
      refine ⟨fun b hb => by have := hs.2.2.1.nob b hb; simp; omega, fun l T cs e => ?_, fun l hl => ?_, hs.2.2.1.inj, fun t T k m es e => ?_, fun t b ht hb => ?_⟩
      · obtain ⟨vs, q1, q2⟩ := hs.2.2.1.loc l T cs e
        exact ⟨vs, q1.alloc _, CRel.ext hx q2⟩
      · have := hs.2.2.1.nol l hl
        exact ⟨this.1, by simp; omega⟩
      · obtain ⟨ys, q1, q2⟩ := hs.2.2.1.tok t T k m es e
        exact ⟨ys, q1.alloc _, Rows.ext hx q2⟩
      · obtain ⟨g1, g2, g3⟩ := hs.2.2.1.not t b ht hb
        exact ⟨g1, by simp; omega, g3⟩
    refine ⟨E, hs.put hx hH (x := one (.sl (tyOf P el).n es)) ?_ hs.1 hs.2.1 rfl rfl hd, hx⟩
    show PRel _ _ _ _
    have hB := Blk.new w xs el
    rw [← hl]
    refine PRel.sl (fun i j => xs.getD (i * (tyOf P el).n + j) undef) (fun i e hi => (hR i e hi).1) (fun i e j x hi hj => ?_) (fun i e j x hi hj => ?_) (Nat.le_refl _)
    · obtain ⟨v, q1, q2⟩ := (hR i e hi).2 j x hj
      refine ⟨_, 0, rfl, hnew, ?_⟩
      rw [Nat.zero_add, hB.cell, q1, List.getD_eq_getElem?_getD, q1]
      rfl
    · obtain ⟨v, q1, q2⟩ := (hR i e hi).2 j x hj
      rw [List.getD_eq_getElem?_getD, q1]
      exact PRel.map (fun b o v hb hc => ⟨himm b hb, hu.cell hc (by simp)⟩) q2
  unfold Oper.wp execOp
  simp only [ho, Sem.run_bind, hr, Result.andThen_ok, Sem.run_pure, Oper.upon_value]
  exact hn' E1 _ _ _ s1 x1 hK
end Go.Proofs.Ythmpaepdbjldfaa
