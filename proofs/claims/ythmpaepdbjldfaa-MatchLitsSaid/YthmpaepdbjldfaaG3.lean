/-
  Texts of this claim, merged: TD, Ty. Lemmas and contracts; no conditions of our own.
-/
import Derived.Test.YthmpaepdbjldfaaG2
import Derived.Test.YthmpaepdbjldfaaRows

/-
  States told by trees: operations that only tell a value.
-/
namespace Go.Proofs.Ythmpaepdbjldfaa
set_option linter.unusedVariables false
set_option linter.unusedSimpArgs false
open Go.RowKit

def TX.val? : TX → Option Value
  | .a (.one (.c (.p (.raw v)))) => some v
  | _ => none
theorem val?_eq {X : TX} {v : Value} (h : X.val? = some v) : X = one (.raw v) := by
  unfold TX.val? at h
  split at h
  · injection h with h
    subst h
    rfl
  · cases h
theorem SRel.val {E : Env} {w : World} {a : Act} {S : TS} (h : SRel E w a S) {x : Operand} {v : Value} (e : (S.ev x).val? = some v) : a.eval x = v ∧ v.oneCell' = true := by
  have e2 := val?_eq e
  have := h.cell e2
  cases this with
  | raw h => exact ⟨rfl, h⟩
/-- Two numbers. -/
def intV (op : BinOp) (k : IntKind) (a b : Int) : Option (Value × Prop) := match op with
  | .add => some (.int k (k.wrap (a + b)), True)
  | .sub => some (.int k (k.wrap (a - b)), True)
  | .mul => some (.int k (k.wrap (a * b)), True)
  | .quo => some (.int k (k.wrap (a.tdiv b)), b ≠ 0)
  | .rem => some (.int k (a.tmod b), b ≠ 0)
  | .eql => some (.bool (a == b), True)
  | .neq => some (.bool (a != b), True)
  | .lss => some (.bool (a < b), True)
  | .leq => some (.bool (a ≤ b), True)
  | .gtr => some (.bool (a > b), True)
  | .geq => some (.bool (a ≥ b), True)
  | .and => some (.int k (k.wrap ((BitVec.ofInt k.bits a &&& BitVec.ofInt k.bits b).toNat)), True)
  | .or => some (.int k (k.wrap ((BitVec.ofInt k.bits a ||| BitVec.ofInt k.bits b).toNat)), True)
  | .xor => some (.int k (k.wrap ((BitVec.ofInt k.bits a ^^^ BitVec.ofInt k.bits b).toNat)), True)
  | _ => none
def strV (op : BinOp) (a b : ByteArray) : Option (Value × Prop) := match op with
  | .add => some (.string (a ++ b), a.size + b.size ≤ 9223372036854775807)
  | .eql => some (.bool (decide (a = b)), True)
  | .neq => some (.bool (!decide (a = b)), True)
  | _ => none
def binV (d : TD) (op : BinOp) (X Y : TX) : Option (Value × Prop) :=
  match X.val?, Y.val? with
  | some (.int k a), some (.int k' b) => match op with
    | .shl => if 0 ≤ b then some (.int k (k.wrap (a * 2 ^ (min b.toNat k.bits))), True) else none
    | .shr => if 0 ≤ b then some (.int k (a.fdiv (2 ^ (min b.toNat k.bits))), True) else none
    | _ => if k = k' then intV op k a b else none
  | some (.string a), some (.string b) => strV op a b
  | some (.bool a), some (.bool b) => match d, op with
    | .bool, .eql => some (.bool (a == b), True)
    | .bool, .neq => some (.bool (a != b), True)
    | _, _ => none
  | _, _ => none
theorem eqIn_bool {P : Program} {w : World} {xt : TypeId} (hu : P.underlying xt = some .bool) (d : Nat) (a b : Bool) : (Op.equalIn (d + 1) xt (.bool a) (.bool b)).run P w = .ok (a == b) w := by
  rw [Op.equalIn, Sem.run_bind, run_underlying hu]
  rfl
theorem equal_bool {P : Program} {w : World} {xt : TypeId} (hu : P.underlying xt = some .bool) (a b : Bool) : (Op.equal xt (.bool a) (.bool b)).run P w = .ok (a == b) w := eqIn_bool hu 9999 a b
theorem under_bool {P : Program} {xt : TypeId} (hd : (tyOf P xt).d = .bool) : P.underlying xt = some .bool := by
  simp only [tyOf] at hd
  revert hd
  cases P.underlying xt with
  | none => intro hd; cases hd
  | some d => cases d <;> intro hd <;> first | rfl | cases hd
theorem run_intV {P : Program} {w : World} {op : BinOp} {k : IntKind} {a b : Int} {xt : TypeId} {x y : Operand} {v : Value} {pre : Prop} (h : intV op k a b = some (v, pre)) (hp : pre) :
    (do eqGuard op xt x y (.int k a) (.int k b); binOp op xt (.int k a) (.int k b) : Sem Value).run P w = .ok v w ∧ v.oneCell' = true := by
  unfold intV at h
  cases op <;> simp only [Option.some.injEq, Prod.mk.injEq, reduceCtorEq] at h <;> obtain ⟨rfl, rfl⟩ := h <;>
    simp_all [eqGuard, binOp, Op.intArith, Op.intCmp, Op.intDiv, Op.intBits, Value.oneCell']
theorem run_binV {P : Program} {w : World} {E : Env} {a : Act} {S : TS} (hs : SRel E w a S) {op : BinOp} {xt : TypeId} {x y : Operand} {v : Value} {pre : Prop} (h : binV (tyOf P xt).d op (S.ev x) (S.ev y) = some (v, pre)) (hp : pre) :
    (do eqGuard op xt x y (a.eval x) (a.eval y); binOp op xt (a.eval x) (a.eval y) : Sem Value).run P w = .ok v w ∧ v.oneCell' = true := by
  unfold binV at h
  split at h
  · rename_i k n k' m e1 e2
    rw [(hs.val e1).1, (hs.val e2).1]
    split at h
    · split at h
      · injection h with h
        injection h with h1 h2
        subst h1
        have hb : ¬ m < 0 := by omega
        simp [eqGuard, binOp, Op.shift, hb, Value.oneCell']
      · cases h
    · split at h
      · injection h with h
        injection h with h1 h2
        subst h1
        have hb : ¬ m < 0 := by omega
        simp [eqGuard, binOp, Op.shift, hb, Value.oneCell']
      · cases h
    · split at h
      · rename_i hk
        subst hk
        exact run_intV h hp
      · cases h
  · rename_i s t e1 e2
    rw [(hs.val e1).1, (hs.val e2).1]
    unfold strV at h
    cases op <;> simp only [Option.some.injEq, Prod.mk.injEq, reduceCtorEq] at h <;> obtain ⟨rfl, rfl⟩ := h
    · have hb : ¬ (((s.size + t.size : Nat) : Int) > IntKind.i64.max) := by
        simp only [IntKind.max, IntKind.signed, IntKind.bits]
        omega
      have hb' : ¬ (IntKind.i64.max < (s.size : Int) + (t.size : Int)) := by simpa using hb
      simp [eqGuard, binOp, Op.stringOp, Value.oneCell', hp, show IntKind.i64.max = 9223372036854775807 from rfl]
      omega
    · simp [eqGuard, binOp, Op.stringOp, Value.oneCell', str_eq]
    · simp [eqGuard, binOp, Op.stringOp, Value.oneCell', str_eq]
  · rename_i s t e1 e2
    rw [(hs.val e1).1, (hs.val e2).1]
    split at h
    · rename_i hd
      injection h with h
      injection h with h1 h2
      subst h1
      refine ⟨?_, rfl⟩
      have := equal_bool (w := w) (under_bool hd) s t
      simp [eqGuard, binOp, this, bne]
    · rename_i hd
      injection h with h
      injection h with h1 h2
      subst h1
      refine ⟨?_, rfl⟩
      have := equal_bool (w := w) (under_bool hd) s t
      simp [eqGuard, binOp, this, bne]
    · cases h
  · cases h
/-! ### Operations that only tell a value -/
def TX.int? (X : TX) : Option Int := match X.val? with
  | some (.int _ n) => some n
  | _ => none
theorem SRel.int {E : Env} {w : World} {a : Act} {S : TS} (h : SRel E w a S) {x : Operand} {n : Int} (e : (S.ev x).int? = some n) : ∃ k, a.eval x = .int k n := by
  unfold TX.int? at e
  split at e
  · rename_i k m e2
    injection e with e
    subst e
    exact ⟨k, (h.val e2).1⟩
  · cases e
/-- Where a pointer leads, n cells on. -/
def TS.off (S : TS) (n : Nat) : TX → Option TX
  | .a (.one (.c (.ptr l o))) => match S.lh l with
    | .cells _ _ => some (.a (.one (.c (.ptr l (o + n)))))
    | _ => none
  | .a (.one (.c (.p (.ip cs)))) => some (.a (.one (.c (.p (.ip (cs.drop n))))))
  | .a (.one (.tp t m i j)) => match S.tk t with
    | .tok _ _ m' _ => if m = m' then some (.a (.one (.tp t m i (j + n)))) else none
    | _ => none
  | _ => none
theorem off_rel {E : Env} {w : World} {a : Act} {S : TS} (h : SRel E w a S) {n : Nat} {X Y : TX} {v : Value} (hv : XRel E w X v) (e : S.off n X = some Y) :
    ∃ b o, v = .pointer (some ⟨b, o, none⟩) ∧ XRel E w Y (.pointer (some ⟨b, o + n, none⟩)) := by
  obtain ⟨hlh, htk, hH, _⟩ := h
  match X, e, hv with
  | .a (.one (.c (.ptr l o))), e, hv =>
    simp only [TS.off] at e
    cases hl : S.lh l with
    | hole => rw [hl] at e; cases e
    | dead => rw [hl] at e; cases e
    | cells T cs =>
      rw [hl] at e
      injection e with e
      subst e
      have hl' : E.lh l = .cells T cs := by rw [hlh]; exact hl
      have hlv : E.live l := ⟨by rw [hl']; simp, by rw [hl']; simp⟩
      exact ⟨_, _, hv.2.2 hlv, rfl, hv.2.1, fun _ => rfl⟩
  | .a (.one (.c (.p (.ip cs)))), e, hv =>
    simp only [TS.off] at e
    injection e with e
    subst e
    have hv' : PRel (E.imm w) w (.ip cs) v := hv
    cases hv' with
    | @ip _ b o vs h1 h2 =>
      refine ⟨b, o, rfl, PRel.ip (fun j => vs (n + j)) (fun j x hj => ?_) (fun j x hj => ?_)⟩
      · rw [List.getElem?_drop] at hj
        have := h1 _ _ hj
        rwa [show o + n + j = o + (n + j) by omega]
      · rw [List.getElem?_drop] at hj
        exact h2 _ _ hj
  | .a (.one (.tp t m i0 j0)), e, hv =>
    simp only [TS.off] at e
    cases ht : S.tk t with
    | hole => rw [ht] at e; cases e
    | dead => rw [ht] at e; cases e
    | tok T k m' es =>
      rw [ht] at e
      simp only at e
      split at e
      · rename_i hm
        injection e with e
        subst e
        have ht' : E.tk t = .tok T k m' es := by rw [htk]; exact ht
        obtain ⟨b, hb, hv'⟩ := (hv.2.2 _ _ _ _ ht').2 hm
        refine ⟨b, i0 * k + j0, hv', rfl, hv.2.1, fun T1 k1 m1 es1 e1 => ?_⟩
        rw [ht'] at e1
        injection e1 with _ e2 e3 _
        subst e3; subst e2
        exact ⟨by omega, fun _ => ⟨b, hb, by rw [Nat.add_assoc]⟩⟩
      · cases e
/-- An element of a slice that stays. -/
theorem sl_elem {P : Nat → Prop} {w : World} {k : Nat} {es : List (List PV)} {v : Value} (h : PRel P w (.sl k es) v) (hk : 0 < k) {i : Nat} (hi : i < es.length) :
    ∃ b o c, v = .slice (some ⟨b, o, none⟩) es.length c ∧ PRel P w (.ip (es.getD i [])) (.pointer (some ⟨b, o + i * k, none⟩)) := by
  cases h with
  | sl vs hkk h1 h2 hc =>
    rename_i a c
    have hei : es[i]? = some es[i] := List.getElem?_eq_getElem hi
    have hgd : es.getD i [] = es[i] := by rw [List.getD_eq_getElem?_getD, hei]; rfl
    have hl := hkk i _ hei
    obtain ⟨b, o, ea, hb, hcell⟩ := h1 i _ 0 (es[i][0]'(by omega)) hei (List.getElem?_eq_getElem (by omega))
    subst ea
    refine ⟨b, o, c, rfl, ?_⟩
    rw [hgd]
    refine PRel.ip (vs i) (fun j x hj => ?_) (fun j x hj => h2 i _ j x hei hj)
    obtain ⟨b', o', e', hb', hc'⟩ := h1 i _ j x hei hj
    injection e' with e'
    injection e' with e1 e2
    subst e1; subst e2
    rw [show o + i * k + j = o + (i * k + j) by omega]
    exact ⟨hb', hc'⟩
def partT (P : Program) (t : TypeId) (cs : List TV) (o : Nat) : Option TX :=
  if (tyOf P t).ok then (if o + (tyOf P t).n ≤ cs.length then (if (tyOf P t).ag then some (.a (.agg ((cs.drop o).take (tyOf P t).n))) else (cs[o]?).map fun c => .a (.one c)) else none) else none
theorem run_isAgg {P : Program} {w : World} {t : TypeId} {d : TypeDesc} (hd : P.underlying t = some d) : (isAgg t).run P w = .ok (tyOf P t).ag w := by
  unfold isAgg tyOf
  rw [Sem.run_bind, run_underlying hd]
  simp only [hd]
  cases d <;> rfl
theorem part_rel {P : Program} {E : Env} {w : World} {t : TypeId} {cs : List TV} {vs : List Value} {o : Nat} {X : TX} (h : partT P t cs o = some X) (hc : CRel E w cs vs) : ∃ v, (part t vs.toArray o).run P w = .ok v w ∧ XRel E w X v := by
  unfold partT at h
  split at h
  · rename_i hok
    obtain ⟨⟨i, z, hi, hz, hsz, _, _, _, _⟩, ⟨d, hd, _⟩, hag⟩ := tyOf_ok hok
    split at h
    · rename_i hle
      unfold part
      cases hg : (tyOf P t).ag with
      | true =>
        rw [hg] at h
        injection h with h
        subst h
        have hs : (sizeOf t).run P w = .ok i.size w := by simp [sizeOf, typeInfo, hi]
        refine ⟨.agg ((vs.drop o).take (tyOf P t).n).toArray, ?_, _, rfl, by simp [hc.1], fun j x hj => ?_⟩
        · simp [run_isAgg hd, hg, hs, hsz]
        · rw [List.getElem?_take] at hj
          split at hj
          · rename_i hjn
            rw [List.getElem?_drop] at hj
            have := hc.2 _ _ hj
            rwa [List.getD_eq_getElem?_getD, List.getElem?_take, if_pos hjn, List.getElem?_drop, ← List.getD_eq_getElem?_getD]
          · cases hj
      | false =>
        rw [hg] at h
        simp only [Bool.false_eq_true, if_false, Option.map_eq_some_iff] at h
        obtain ⟨c, hc1, rfl⟩ := h
        have := hc.2 _ _ hc1
        have hlt : o < vs.length := by rw [hc.1]; exact (List.getElem?_eq_some_iff.1 hc1).1
        refine ⟨vs.getD o undef, ?_, this⟩
        simp [run_isAgg hd, hg, List.getElem?_eq_getElem hlt, List.getD_eq_getElem?_getD]
    · cases h
  · cases h
def nilLen : Value → Option Nat
  | .slice none 0 0 => some 0
  | _ => none
/-- How long a slice is. -/
def TS.len? (S : TS) : TX → Option Nat
  | .a (.one (.c (.p (.sl _ es)))) => some es.length
  | .a (.one (.os t m)) => match S.tk t with
    | .tok _ _ m' es => if m = m' then some es.length else none
    | _ => none
  | .a (.one (.c (.p (.raw v)))) => nilLen v
  | _ => none
/-- A slice of it. -/
def sliceS (s : ByteArray) (lo hi : Option Int) : TX × Prop :=
  (one (.raw (.string (s.extract (lo.getD 0).toNat (hi.getD s.size).toNat))), 0 ≤ lo.getD 0 ∧ lo.getD 0 ≤ hi.getD s.size ∧ hi.getD s.size ≤ s.size)
def sliceL (k : Nat) (es : List (List PV)) (lo hi mx : Option Int) : TX × Prop :=
  (one (.sl k ((es.take (hi.getD es.length).toNat).drop (lo.getD 0).toNat)), 0 ≤ lo.getD 0 ∧ lo.getD 0 ≤ hi.getD es.length ∧ hi.getD es.length ≤ es.length ∧ ∀ m, mx = some m → hi.isSome = true ∧ hi.getD es.length ≤ m ∧ m ≤ es.length)
def optI (S : TS) : Option Operand → Option (Option Int)
  | none => some none
  | some x => ((S.ev x).int?).map some
def lenV (P : Program) (S : TS) (c : Call) : Option (TX × Prop) := match c.callee, c.args.toList, c.argTypes.toList with
  | .builtin .len, [x], [t] => match (tyOf P t).d with
    | .slice _ => (S.len? (S.ev x)).map fun (n : Nat) => (one (.raw (.int .i64 (n : Int))), True)
    | .str => match (S.ev x).val? with
      | some (.string s) => some (one (.raw (.int .i64 s.size)), True)
      | _ => none
    | _ => none
  | _, _, _ => none
/-- What an operation tells, and what must hold for it. -/
def qv (P : Program) (S : TS) : Op → Option (TX × Prop)
  | .move x | .assign x => some (S.ev x, True)
  | .load t x => if (tyOf P t).ok then (S.at? (tyOf P t).n (S.ev x)).bind fun cs => if (tyOf P t).ag then some (.a (.agg cs), True) else (cs[0]?).map fun c => (.a (.one c), True) else none
  | .unOp .not _ x => match (S.ev x).val? with
    | some (.bool b) => some (one (.raw (.bool !b)), True)
    | _ => none
  | .unOp .neg _ x => match (S.ev x).val? with
    | some (.int k n) => some (one (.raw (.int k (k.wrap (0 - n)))), True)
    | _ => none
  | .binOp op xt x y _ => (binV (tyOf P xt).d op (S.ev x) (S.ev y)).map fun r => (one (.raw r.1), r.2)
  | .convert src dst x => match (tyOf P src).d, (tyOf P dst).d, (S.ev x).val? with
    | .int _, .int k, some (.int _ n) => some (one (.raw (.int k (k.wrap n))), True)
    | .str, .str, some (.string s) => some (one (.raw (.string s)), True)
    | _, _, _ => none
  | .fieldAddr s x f => match (tyOf P s).d with
    | .struct fs => match fs[f]? with
      | some (o, t) => if (tyOf P t).ok && (tyOf P t).n != 0 then (S.off o (S.ev x)).map fun y => (y, True) else none
      | none => none
    | _ => none
  | .field s x f => match (tyOf P s).d, S.ev x with
    | .struct fs, .a (.agg cs) => match fs[f]? with
      | some (o, t) => (partT P t cs o).map fun y => (y, True)
      | none => none
    | _, _ => none
  | .indexAddr t x i => match (tyOf P t).d, (S.ev i).int? with
    | .slice e, some n => if (tyOf P e).ok && (tyOf P e).n != 0 then match S.ev x with
      | .a (.one (.c (.p (.sl k es)))) => if k = (tyOf P e).n then some (one (.ip (es.getD n.toNat [])), 0 ≤ n ∧ n < es.length) else none
      | .a (.one (.os t m)) => match S.tk t with
        | .tok _ k m' es => if k = (tyOf P e).n then (if m = m' then some (.a (.one (.tp t m n.toNat 0)), 0 ≤ n ∧ n < es.length) else none) else none
        | _ => none
      | _ => none else none
    | .array len e, some n => if (tyOf P e).ok && (tyOf P e).n != 0 then (S.off (n.toNat * (tyOf P e).n) (S.ev x)).map fun y => (y, 0 ≤ n ∧ n < len) else none
    | _, _ => none
  | .index t x i => match (tyOf P t).d, (S.ev i).int?, (S.ev x).val? with
    | .str, some n, some (.string s) => some (one (.raw (.int .u8 (((s[n.toNat]?).map (·.toNat)).getD 0 : Nat))), 0 ≤ n ∧ n < s.size)
    | _, _, _ => none
  | .extract x i => match S.ev x with
    | .tup xs => (xs[i]?).map fun y => (.a y, True)
    | _ => none
  | .slice t x lo hi mx => (optI S lo).bind fun l => (optI S hi).bind fun h => (optI S mx).bind fun m => match (tyOf P t).d with
    | .str => match (S.ev x).val? with
      | some (.string s) => if m.isNone then some (sliceS s l h) else none
      | _ => none
    | .slice e => if (tyOf P e).ok then match S.ev x with
      | .a (.one (.c (.p (.sl k es)))) => if k = (tyOf P e).n then some (sliceL k es l h m) else none
      | _ => none else none
    | _ => none
  | .nilCheck x => (S.off 0 (S.ev x)).map fun _ => (S.ev x, True)
  | .call c => lenV P S c
  | _ => none
theorem und_slice {P : Program} {t e : TypeId} (h : (tyOf P t).d = .slice e) : P.underlying t = some (.slice e) := by
  simp only [tyOf] at h
  revert h
  cases P.underlying t with
  | none => intro h; cases h
  | some d => cases d <;> intro h <;> first | (injection h with h; rw [h]) | cases h
theorem und_array {P : Program} {t e : TypeId} {n : Nat} (h : (tyOf P t).d = .array n e) : P.underlying t = some (.array n e) := by
  simp only [tyOf] at h
  revert h
  cases P.underlying t with
  | none => intro h; cases h
  | some d => cases d <;> intro h <;> first | (injection h with h1 h2; rw [h1, h2]) | cases h
theorem und_str {P : Program} {t : TypeId} (h : (tyOf P t).d = .str) : P.underlying t = some .string := by
  simp only [tyOf] at h
  revert h
  cases P.underlying t with
  | none => intro h; cases h
  | some d => cases d <;> intro h <;> first | rfl | cases h
theorem und_int {P : Program} {t : TypeId} {k : IntKind} (h : (tyOf P t).d = .int k) : P.underlying t = some (.int k) := by
  simp only [tyOf] at h
  revert h
  cases P.underlying t with
  | none => intro h; cases h
  | some d => cases d <;> intro h <;> first | (injection h with h; rw [h]) | cases h
theorem und_struct {P : Program} {t : TypeId} {fs : List (Nat × TypeId)} (h : (tyOf P t).d = .struct fs) : ∃ gs : Array Field, P.underlying t = some (.struct gs) ∧ ∀ (i o : Nat) (u : TypeId), fs[i]? = some (o, u) → ∃ g : Field, gs[i]? = some g ∧ g.offset = o ∧ g.type = u := by
  simp only [tyOf] at h
  revert h
  cases P.underlying t with
  | none => intro h; cases h
  | some d =>
    cases d with
    | struct gs =>
      intro h
      injection h with h
      refine ⟨gs, rfl, fun i o u hi => ?_⟩
      rw [← h, List.getElem?_map, Option.map_eq_some_iff] at hi
      obtain ⟨g, hg, e⟩ := hi
      injection e with e1 e2
      exact ⟨g, by simpa using hg, e1, e2⟩
    | _ => intro h; cases h
theorem sizeOf_run {P : Program} {w : World} {t : TypeId} (h : (tyOf P t).ok = true) : (sizeOf t).run P w = .ok (tyOf P t).n w := by
  obtain ⟨⟨i, z, hi, hz, hsz, _, _, _, _⟩, _⟩ := tyOf_ok h
  simp [sizeOf, typeInfo, hi, hsz]
theorem len_rel {E : Env} {w : World} {a : Act} {S : TS} (h : SRel E w a S) {X : TX} {v : Value} (hv : XRel E w X v) {n : Nat} (e : S.len? X = some n) : ∃ a c, v = .slice a n c := by
  obtain ⟨hlh, htk, hH, _⟩ := h
  unfold TS.len? at e
  split at e
  · injection e with e
    subst e
    cases hv with
    | sl => exact ⟨_, _, rfl⟩
  · split at e
    · rename_i T k m' es htt
      rw [← htk] at htt
      split at e
      · injection e with e
        subst e
        have := ((hv.2.2) _ _ _ _ htt).2 ‹_›
        obtain ⟨xs, hO, _⟩ := hH.tok _ _ _ _ _ htt
        rcases hO.2 with ⟨q, q0⟩ | ⟨_, _, _, q, _⟩
        · rw [this, q, q0]
          exact ⟨_, _, rfl⟩
        · rw [this, q]
          exact ⟨_, _, rfl⟩
      · cases e
    · cases e
  · cases hv
    unfold nilLen at e
    split at e
    · injection e with e
      subst e
      exact ⟨_, _, rfl⟩
    · cases e
  · cases e
theorem opt_int {E : Env} {w : World} {a : Act} {S : TS} (h : SRel E w a S) {x : Option Operand} {r : Option Int} (e : optI S x = some r) : (x = none ∧ r = none) ∨ ∃ y k n, x = some y ∧ r = some n ∧ a.eval y = .int k n := by
  cases x with
  | none =>
    injection e with e
    exact .inl ⟨rfl, e.symm⟩
  | some y =>
    simp only [optI, Option.map_eq_some_iff] at e
    obtain ⟨n, hn, e⟩ := e
    obtain ⟨k, hk⟩ := h.int hn
    exact .inr ⟨y, k, n, rfl, e.symm, hk⟩
/-- Bounds that are met. -/
theorem bounds_run {P : Program} {E : Env} {w : World} {a : Act} {S : TS} (h : SRel E w a S) {lo hi mx : Option Operand} {l m r : Option Int} (e1 : optI S lo = some l) (e2 : optI S hi = some m) (e3 : optI S mx = some r) (b : Bool) {len cap : Nat} (hlc : len ≤ cap)
    (h0 : 0 ≤ l.getD 0) (h1 : l.getD 0 ≤ m.getD len) (h2 : m.getD len ≤ cap) (h3 : ∀ x, r = some x → m.isSome = true ∧ m.getD len ≤ x ∧ x ≤ cap) :
    (Instr.sliceBounds b len cap (lo.map a.eval) (hi.map a.eval) (mx.map a.eval)).run P w = .ok ((l.getD 0).toNat, (m.getD len).toNat, ((r.map Int.toNat).getD cap)) w := by
  have sb : ∀ (k : IntKind) (n : Int) (y : Nat) (c : BoundsCode), 0 ≤ n → n ≤ y → (Instr.sliceBound (.int k n) y c).run P w = .ok n.toNat w := fun k n y c q1 q2 => by
    simp [Instr.sliceBound, asIntOf, q1, q2]
  unfold Instr.sliceBounds
  rcases opt_int h e3 with ⟨rfl, rfl⟩ | ⟨z, k3, n3, rfl, rfl, ez⟩
  · rcases opt_int h e2 with ⟨rfl, rfl⟩ | ⟨y, k2, n2, rfl, rfl, ey⟩
    · rcases opt_int h e1 with ⟨rfl, rfl⟩ | ⟨x, k1, n1, rfl, rfl, ex⟩
      · simp
      · simp only [Option.getD_some, Option.getD_none] at *
        simp [ex, sb _ _ _ _ h0 h1]
    · rcases opt_int h e1 with ⟨rfl, rfl⟩ | ⟨x, k1, n1, rfl, rfl, ex⟩
      · simp only [Option.getD_some, Option.getD_none] at *
        simp [ey, sb _ _ _ _ (Int.le_trans h0 h1) h2]
      · simp only [Option.getD_some, Option.getD_none] at *
        have q : n1 ≤ (n2.toNat : Int) := by omega
        simp [ey, sb _ _ _ _ (Int.le_trans h0 h1) h2, ex, sb _ _ _ _ h0 q]
  · obtain ⟨h4, h5, h6⟩ := h3 n3 rfl
    rcases opt_int h e2 with ⟨rfl, rfl⟩ | ⟨y, k2, n2, rfl, rfl, ey⟩
    · cases h4
    · simp only [Option.getD_some, Option.getD_none] at *
      have q3 : (0 : Int) ≤ n3 := by omega
      have q2 : n2 ≤ (n3.toNat : Int) := by omega
      rcases opt_int h e1 with ⟨rfl, rfl⟩ | ⟨x, k1, n1, rfl, rfl, ex⟩
      · simp only [Option.getD_some, Option.getD_none] at *
        simp [ez, ey, sb _ _ _ _ q3 h6, sb _ _ _ _ (Int.le_trans h0 h1) q2]
      · simp only [Option.getD_some, Option.getD_none] at *
        have q : n1 ≤ (n2.toNat : Int) := by omega
        simp [ez, ey, ex, sb _ _ _ _ q3 h6, sb _ _ _ _ (Int.le_trans h0 h1) q2, sb _ _ _ _ h0 q]
theorem sl_slice {P : Nat → Prop} {w : World} {k : Nat} {es : List (List PV)} {v : Value} (h : PRel P w (.sl k es) v) {l m cap : Nat} (hlm : l ≤ m) (hm : m ≤ es.length) :
    ∃ a c, v = .slice a es.length c ∧ es.length ≤ c ∧ ∀ r, (m ≤ r) → (r ≤ c) → PRel P w (.sl k ((es.take m).drop l)) (.slice (if r = l then a else a.map (·.add (l * k))) (m - l) (r - l)) := by
  cases h with
  | sl vs hkk h1 h2 hc =>
    rename_i a c
    refine ⟨a, c, rfl, hc, fun r hmr hrc => ?_⟩
    have hle : ((es.take m).drop l).length = m - l := by simp; omega
    have hget : ∀ i e, ((es.take m).drop l)[i]? = some e → es[l + i]? = some e ∧ l + i < m := by
      intro i e hi
      rw [List.getElem?_drop, List.getElem?_take] at hi
      split at hi
      · exact ⟨hi, ‹_›⟩
      · cases hi
    rw [← hle]
    refine PRel.sl (fun i j => vs (l + i) j) (fun i e hi => hkk _ _ (hget i e hi).1) (fun i e j x hi hj => ?_) (fun i e j x hi hj => h2 _ _ _ _ (hget i e hi).1 hj) (by rw [hle]; omega)
    obtain ⟨q1, q2⟩ := hget i e hi
    obtain ⟨b, o, e1, e2, e3⟩ := h1 _ _ _ _ q1 hj
    refine ⟨b, o + l * k, ?_, e2, ?_⟩
    · rw [if_neg (by omega), e1]
      simp only [Option.map_some]
      congr 1
      unfold Addr.add
      split
      · rename_i h0
        rw [h0]
        rfl
      · rfl
    · rw [show o + l * k + (i * k + j) = o + ((l + i) * k + j) by rw [Nat.add_mul]; omega]
      exact e3
set_option maxHeartbeats 1000000 in
theorem qv_sound {P : Program} {E : Env} {w : World} {a : Act} {S : TS} (h : SRel E w a S) {o : Oper} {X : TX} {pre : Prop} (e : qv P S o.op = some (X, pre)) (hp : pre) : ∃ v, (execOp a.eval o).run P w = .ok (.value v) w ∧ XRel E w X v := by
  obtain ⟨dst, op, type, pos, after, guard⟩ := o
  simp only at e
  cases op with
  | move x =>
    injection e with e
    injection e with e1 e2
    subst e1
    exact ⟨a.eval x, rfl, h.ev x⟩
  | assign x =>
    injection e with e
    injection e with e1 e2
    subst e1
    exact ⟨a.eval x, rfl, h.ev x⟩
  | load t x =>
    simp only [qv] at e
    split at e
    · rename_i hok
      simp only [Option.bind_eq_some_iff] at e
      obtain ⟨cs, hcs, e⟩ := e
      obtain ⟨b, o, vs, hv, hl, hc, hcell⟩ := h.at hcs
      have hr := run_load_t (P := P) (w := w) (t := t) (b := b) (o := o) (vs := vs) (by rw [hc.1, hl]) hok hcell
      refine ⟨(if (tyOf P t).ag = true then .agg vs.toArray else vs.getD 0 undef), by simp only [execOp, hv, Sem.run_bind, hr, Result.andThen_ok, Sem.run_pure], ?_⟩
      split at e
      · rename_i hg
        injection e with e
        injection e with e1 e2
        subst e1
        rw [if_pos hg]
        exact ⟨vs, rfl, hc⟩
      · rename_i hg
        rw [if_neg hg]
        simp only [Option.map_eq_some_iff] at e
        obtain ⟨c, hc0, e⟩ := e
        injection e with e1 e2
        subst e1
        exact hc.2 0 c hc0
    · cases e
  | unOp op t x =>
    cases op <;> simp only [qv, reduceCtorEq] at e
    · split at e
      · rename_i k n hx
        injection e with e
        injection e with e1 e2
        subst e1
        refine ⟨.int k (k.wrap (0 - n)), ?_, one_rel rfl⟩
        simp [execOp, (h.val hx).1, Op.unary, Op.intArith]
      · cases e
    · split at e
      · rename_i b hx
        injection e with e
        injection e with e1 e2
        subst e1
        refine ⟨.bool !b, ?_, one_rel rfl⟩
        simp [execOp, (h.val hx).1, Op.unary]
      · cases e
  | binOp op xt x y yt =>
    simp only [qv, Option.map_eq_some_iff] at e
    obtain ⟨⟨v, pr⟩, hb, e⟩ := e
    injection e with e1 e2
    subst e1
    obtain ⟨r1, r2⟩ := run_binV h hb (by rw [← e2] at hp; exact hp)
    exact ⟨v, by simp only [execOp]; rw [Sem.run_bind, r1]; rfl, one_rel r2⟩
  | convert src dst x =>
    simp only [qv] at e
    split at e
    · rename_i k1 k k2 n hs hd hx
      injection e with e
      injection e with e1 e2
      subst e1
      refine ⟨.int k (k.wrap n), ?_, one_rel rfl⟩
      simp [execOp, convert, run_underlying (und_int hs), run_underlying (und_int hd), (h.val hx).1, Conv.intToInt]
    · rename_i s hs hd hx
      injection e with e
      injection e with e1 e2
      subst e1
      refine ⟨.string s, ?_, one_rel rfl⟩
      simp [execOp, convert, run_underlying (und_str hs), run_underlying (und_str hd), (h.val hx).1]
    · cases e
  | fieldAddr s x f =>
    simp only [qv] at e
    split at e
    · rename_i fs hs
      split at e
      · rename_i off t hf
        split at e
        · rename_i hok
          simp only [Bool.and_eq_true, bne_iff_ne] at hok
          simp only [Option.map_eq_some_iff] at e
          obtain ⟨y, hy, e⟩ := e
          injection e with e1 e2
          subst e1
          obtain ⟨b, o, hv, hr⟩ := off_rel h (h.ev x) hy
          obtain ⟨gs, hu, hg⟩ := und_struct hs
          obtain ⟨g, hg1, hg2, hg3⟩ := hg f off t hf
          refine ⟨_, ?_, hr⟩
          have hz := sizeOf_run (w := w) hok.1
          have hadd : (⟨b, o, none⟩ : Addr).add off = ⟨b, o + off, none⟩ := by unfold Addr.add; split <;> simp_all
          simp [execOp, Instr.fieldAt, run_underlying hu, hg1, hv, Instr.sureAddr, fieldPlace, hz, hg2, hg3, hok.2, hadd]
        · cases e
      · cases e
    · cases e
  | field s x f =>
    simp only [qv] at e
    split at e
    · rename_i fs cs hs hx
      split at e
      · rename_i off t hf
        simp only [Option.map_eq_some_iff] at e
        obtain ⟨y, hy, e⟩ := e
        injection e with e1 e2
        subst e1
        have hv := h.ev x
        rw [hx] at hv
        obtain ⟨vs, ev, hc⟩ := hv
        obtain ⟨v, hr, hx2⟩ := part_rel hy hc
        obtain ⟨gs, hu, hg⟩ := und_struct hs
        obtain ⟨g, hg1, hg2, hg3⟩ := hg f off t hf
        refine ⟨v, ?_, hx2⟩
        simp [execOp, Instr.field, run_underlying hu, hg1, ev, asAgg, hg2, hg3, hr]
      · cases e
    · cases e
  | indexAddr t x i =>
    simp only [qv] at e
    split at e
    · rename_i el n hs hi
      obtain ⟨ki, hki⟩ := h.int hi
      split at e
      · rename_i hok
        simp only [Bool.and_eq_true, bne_iff_ne] at hok
        have hz := sizeOf_run (w := w) hok.1
        split at e
        · rename_i k es hx
          split at e
          · rename_i hk
            injection e with e
            injection e with e1 e2
            subst e1
            rw [← e2] at hp
            have hv := h.ev x
            rw [hx] at hv
            obtain ⟨b, o, c, ev, hr⟩ := sl_elem (show PRel (E.imm w) w (.sl k es) (a.eval x) from hv) (by omega) (i := n.toNat) (by omega)
            refine ⟨_, ?_, hr⟩
            have hadd : (⟨b, o, none⟩ : Addr).add (n.toNat * k) = ⟨b, o + n.toNat * k, none⟩ := by unfold Addr.add; split <;> simp_all
            simp [execOp, Instr.indexAt, hki, asIntOf, run_underlying (und_slice hs), ev, hz, ← hk, hadd, hp.1, hp.2]
          · cases e
        · rename_i t' m hx
          split at e
          · rename_i T k m' es htt
            split at e
            · rename_i hk
              split at e
              · rename_i hm
                injection e with e
                injection e with e1 e2
                subst e1
                rw [← e2] at hp
                have hv := h.ev x
                rw [hx] at hv
                obtain ⟨hlh, htk, hH, _⟩ := h
                have htt' : E.tk t' = .tok T k m' es := by rw [htk]; exact htt
                have ev := (hv.2.2 _ _ _ _ htt').2 hm
                obtain ⟨xs, hO, _⟩ := hH.tok _ _ _ _ _ htt'
                rcases hO.2 with ⟨q, q0⟩ | ⟨g, cap, cur, q, _⟩
                · omega
                · refine ⟨.pointer (some ⟨g, n.toNat * k, none⟩), ?_, rfl, hv.2.1, fun T1 k1 m1 es1 e1 => ?_⟩
                  · have hadd : (⟨g, 0, none⟩ : Addr).add (n.toNat * k) = ⟨g, n.toNat * k, none⟩ := by unfold Addr.add; split <;> simp_all
                    rw [q] at ev
                    simp [execOp, Instr.indexAt, hki, asIntOf, run_underlying (und_slice hs), ev, hz, ← hk, hadd, hp.1, hp.2]
                  · rw [htt'] at e1
                    injection e1 with _ e2 e3 _
                    subst e2
                    exact ⟨by omega, fun _ => ⟨g, by rw [q]; rfl, rfl⟩⟩
              · cases e
            · cases e
          · cases e
        · cases e
      · cases e
    · rename_i len el n hs hi
      obtain ⟨ki, hki⟩ := h.int hi
      split at e
      · rename_i hok
        simp only [Bool.and_eq_true, bne_iff_ne] at hok
        have hz := sizeOf_run (w := w) hok.1
        simp only [Option.map_eq_some_iff] at e
        obtain ⟨y, hy, e⟩ := e
        injection e with e1 e2
        subst e1
        rw [← e2] at hp
        obtain ⟨b, o, hv, hr⟩ := off_rel h (h.ev x) hy
        refine ⟨_, ?_, hr⟩
        have hadd : (⟨b, o, none⟩ : Addr).add (n.toNat * (tyOf P el).n) = ⟨b, o + n.toNat * (tyOf P el).n, none⟩ := by unfold Addr.add; split <;> simp_all
        simp [execOp, Instr.indexAt, hki, asIntOf, run_underlying (und_array hs), hv, Instr.sureAddr, hz, hadd, hp.1, hp.2]
      · cases e
    · cases e
  | index t x i =>
    simp only [qv] at e
    split at e
    · rename_i n s hs hi hx
      obtain ⟨ki, hki⟩ := h.int hi
      injection e with e
      injection e with e1 e2
      subst e1
      rw [← e2] at hp
      refine ⟨_, ?_, one_rel rfl⟩
      have hlt : n.toNat < s.size := by omega
      simp [execOp, Instr.index, hki, asIntOf, run_underlying (und_str hs), (h.val hx).1, hp.1, hlt]
    · cases e
  | extract x i =>
    simp only [qv] at e
    split at e
    · rename_i xs hx
      simp only [Option.map_eq_some_iff] at e
      obtain ⟨y, hy, e⟩ := e
      injection e with e1 e2
      subst e1
      have hv := h.ev x
      rw [hx] at hv
      obtain ⟨vs, ev, hl, hr⟩ := hv
      have hlt : i < vs.length := by rw [hl]; exact (List.getElem?_eq_some_iff.1 hy).1
      have := hr i y hy
      rw [List.getD_eq_getElem?_getD, List.getElem?_eq_getElem hlt] at this
      refine ⟨vs[i], ?_, this⟩
      simp [execOp, Instr.extract, ev, List.getElem?_eq_getElem hlt]
    · cases e
  | nilCheck x =>
    simp only [qv, Option.map_eq_some_iff] at e
    obtain ⟨y, hy, e⟩ := e
    injection e with e1 e2
    subst e1
    obtain ⟨b, o, hv, hr⟩ := off_rel h (h.ev x) hy
    refine ⟨_, ?_, h.ev x⟩
    simp [execOp, hv]
  | slice t x lo hi mx =>
    simp only [qv, Option.bind_eq_some_iff] at e
    obtain ⟨l, hl, m, hm, r, hr, e⟩ := e
    split at e
    · rename_i hs
      split at e
      · rename_i s hx
        split at e
        · rename_i hn
          injection e with e
          injection e with e1 e2
          subst e1
          rw [← e2] at hp
          have hv := (h.val hx).1
          refine ⟨.string (s.extract (l.getD 0).toNat (m.getD s.size).toNat), ?_, one_rel rfl⟩
          have hb := bounds_run (P := P) h hl hm hr false (Nat.le_refl s.size) hp.1 hp.2.1 hp.2.2 (fun x hx => by rw [hx] at hn; cases hn)
          have hmx : mx = none := by
            rcases opt_int h hr with ⟨q, _⟩ | ⟨_, _, _, _, q, _⟩
            · exact q
            · rw [q] at hn
              cases hn
          subst hmx
          simp only [Option.map_none] at hb
          simp [execOp, Instr.sliceAt, Instr.slice, run_underlying (und_str hs), hv, hb]
        · cases e
      · cases e
    · rename_i el hs
      split at e
      · rename_i hok
        split at e
        · rename_i k es hx
          split at e
          · rename_i hk
            injection e with e
            injection e with e1 e2
            subst e1
            rw [← e2] at hp
            obtain ⟨p0, p1, p2, p3⟩ := hp
            have hv := h.ev x
            rw [hx] at hv
            have hv' : PRel (E.imm w) w (.sl k es) (a.eval x) := hv
            obtain ⟨a', c, ev, hc, hres⟩ := sl_slice hv' (l := (l.getD 0).toNat) (m := (m.getD es.length).toNat) (cap := 0) (by omega) (by omega)
            have hb := bounds_run (P := P) h hl hm hr true hc p0 p1 (by omega) (fun x hx => by obtain ⟨q1, q2, q3⟩ := p3 x hx; exact ⟨q1, q2, by omega⟩)
            have hz := sizeOf_run (w := w) hok
            have hr2 := hres ((r.map Int.toNat).getD c) (by
              cases r with
              | none => simp; omega
              | some r => obtain ⟨q1, q2, q3⟩ := p3 r rfl; simp; omega) (by
              cases r with
              | none => simp
              | some r => obtain ⟨q1, q2, q3⟩ := p3 r rfl; simp; omega)
            refine ⟨_, ?_, hr2⟩
            simp [execOp, Instr.sliceAt, Instr.slice, run_underlying (und_slice hs), ev, hb, hz, ← hk]
          · cases e
        · cases e
      · cases e
    · cases e
  | call c =>
    obtain ⟨callee, args, ats⟩ := c
    simp only [qv, lenV] at e
    split at e
    case h_2 => cases e
    rename_i x t h2 h3
    have e2 : args = #[x] := Array.toList_inj.1 h2
    have e3 : ats = #[t] := Array.toList_inj.1 h3
    subst e2; subst e3
    split at e
    · rename_i el hs
      simp only [Option.map_eq_some_iff] at e
      obtain ⟨n, hn, e⟩ := e
      injection e with e1 e2
      subst e1
      obtain ⟨a', c, ev⟩ := len_rel h (h.ev x) hn
      refine ⟨.int .i64 n, ?_, one_rel rfl⟩
      simp [execOp, resolve, invoke, builtin, Builtin.len_, ev, run_underlying (und_slice hs), goInt]
    · rename_i hs
      split at e
      · rename_i s hx
        injection e with e
        injection e with e1 e2
        subst e1
        refine ⟨.int .i64 s.size, ?_, one_rel rfl⟩
        simp [execOp, resolve, invoke, builtin, Builtin.len_, (h.val hx).1, run_underlying (und_str hs), goInt]
      · cases e
    · cases e
  | _ => cases e
end Go.Proofs.Ythmpaepdbjldfaa

/-
  What the program says of its types.
-/
namespace Go.Proofs.Ythmpaepdbjldfaa
set_option linter.unusedVariables false
set_option linter.unusedSimpArgs false
theorem ty_1 : tyOf Try.prog 1 = ⟨true, 1, false, [.nilFunc], 8, .func⟩ := by kernel_rfl
theorem ty_2 : tyOf Try.prog 2 = ⟨true, 1, false, [.int .i64 0], 8, .int .i64⟩ := by kernel_rfl
theorem ty_3 : tyOf Try.prog 3 = ⟨true, 1, false, [.int .i64 0], 8, .int .i64⟩ := by kernel_rfl
theorem ty_4 : tyOf Try.prog 4 = ⟨true, 1, false, [.bool false], 1, .bool⟩ := by kernel_rfl
theorem ty_5 : tyOf Try.prog 5 = ⟨true, 1, false, [.int .u8 0], 1, .int .u8⟩ := by kernel_rfl
theorem ty_6 : tyOf Try.prog 6 = ⟨true, 1, false, [.int .u8 0], 1, .int .u8⟩ := by kernel_rfl
theorem ty_7 : tyOf Try.prog 7 = ⟨true, 4, true, [.int .i64 0, .int .i64 0, .bool false, .int .u8 0], 24, .struct [(0, 2), (1, 3), (2, 4), (3, 6)]⟩ := by kernel_rfl
theorem ty_8 : tyOf Try.prog 8 = ⟨true, 4, true, [.int .i64 0, .int .i64 0, .bool false, .int .u8 0], 24, .struct [(0, 2), (1, 3), (2, 4), (3, 6)]⟩ := by kernel_rfl
theorem ty_9 : tyOf Try.prog 9 = ⟨true, 1, false, [.string ByteArray.empty], 16, .str⟩ := by kernel_rfl
theorem ty_10 : tyOf Try.prog 10 = ⟨true, 1, false, [.string ByteArray.empty], 16, .str⟩ := by kernel_rfl
theorem ty_12 : tyOf Try.prog 12 = ⟨true, 1, false, [.int .u64 0], 8, .int .u64⟩ := by kernel_rfl
theorem ty_13 : tyOf Try.prog 13 = ⟨true, 2, true, [.string ByteArray.empty, .int .u64 0], 24, .struct [(0, 9), (1, 12)]⟩ := by kernel_rfl
theorem ty_14 : tyOf Try.prog 14 = ⟨true, 2, true, [.string ByteArray.empty, .int .u64 0], 24, .struct [(0, 9), (1, 12)]⟩ := by kernel_rfl
theorem ty_15 : tyOf Try.prog 15 = ⟨true, 1, false, [.pointer none], 8, .ptr 152⟩ := by kernel_rfl
theorem ty_16 : tyOf Try.prog 16 = ⟨true, 1, false, [.pointer none], 8, .ptr 155⟩ := by kernel_rfl
theorem ty_17 : tyOf Try.prog 17 = ⟨true, 1, false, [.pointer none], 8, .ptr 164⟩ := by kernel_rfl
theorem ty_20 : tyOf Try.prog 20 = ⟨true, 1, false, [.nilIface], 16, .other⟩ := by kernel_rfl
theorem ty_22 : tyOf Try.prog 22 = ⟨true, 1, false, [.slice none 0 0], 24, .slice 60⟩ := by kernel_rfl
theorem ty_23 : tyOf Try.prog 23 = ⟨true, 2, true, [.bool false, .slice none 0 0], 32, .struct [(0, 4), (1, 22)]⟩ := by kernel_rfl
theorem ty_24 : tyOf Try.prog 24 = ⟨true, 2, true, [.bool false, .slice none 0 0], 32, .struct [(0, 4), (1, 22)]⟩ := by kernel_rfl
theorem ty_25 : tyOf Try.prog 25 = ⟨true, 1, false, [.slice none 0 0], 24, .slice 27⟩ := by kernel_rfl
theorem ty_26 : tyOf Try.prog 26 = ⟨true, 7, true, [.int .i64 0, .bool false, .slice none 0 0, .bool false, .string ByteArray.empty, .slice none 0 0, .slice none 0 0], 112, .struct [(0, 3), (1, 24), (3, 4), (4, 9), (5, 25), (6, 25)]⟩ := by kernel_rfl
theorem ty_27 : tyOf Try.prog 27 = ⟨true, 7, true, [.int .i64 0, .bool false, .slice none 0 0, .bool false, .string ByteArray.empty, .slice none 0 0, .slice none 0 0], 112, .struct [(0, 3), (1, 24), (3, 4), (4, 9), (5, 25), (6, 25)]⟩ := by kernel_rfl
theorem ty_34 : tyOf Try.prog 34 = ⟨true, 1, false, [.nilFunc], 8, .func⟩ := by kernel_rfl
theorem ty_35 : tyOf Try.prog 35 = ⟨true, 1, false, [.slice none 0 0], 24, .slice 71⟩ := by kernel_rfl
theorem ty_36 : tyOf Try.prog 36 = ⟨true, 1, false, [.nilFunc], 8, .func⟩ := by kernel_rfl
theorem ty_37 : tyOf Try.prog 37 = ⟨true, 1, false, [.slice none 0 0], 24, .slice 66⟩ := by kernel_rfl
theorem ty_39 : tyOf Try.prog 39 = ⟨true, 1, false, [.nilFunc], 8, .func⟩ := by kernel_rfl
theorem ty_40 : tyOf Try.prog 40 = ⟨true, 1, false, [.slice none 0 0], 24, .slice 50⟩ := by kernel_rfl
theorem ty_45 : tyOf Try.prog 45 = ⟨true, 1, false, [.nilFunc], 8, .func⟩ := by kernel_rfl
theorem ty_46 : tyOf Try.prog 46 = ⟨true, 1, false, [.slice none 0 0], 24, .slice 48⟩ := by kernel_rfl
theorem ty_48 : tyOf Try.prog 48 = ⟨true, 9, true, [.int .i64 0, .bool false, .slice none 0 0, .bool false, .string ByteArray.empty, .slice none 0 0, .slice none 0 0, .bool false, .slice none 0 0], 144, .struct [(0, 27), (7, 4), (8, 46)]⟩ := by kernel_rfl
theorem ty_49 : tyOf Try.prog 49 = ⟨true, 10, true, [.string ByteArray.empty, .int .i64 0, .bool false, .slice none 0 0, .bool false, .string ByteArray.empty, .slice none 0 0, .slice none 0 0, .bool false, .slice none 0 0], 160, .struct [(0, 9), (1, 48)]⟩ := by kernel_rfl
theorem ty_50 : tyOf Try.prog 50 = ⟨true, 10, true, [.string ByteArray.empty, .int .i64 0, .bool false, .slice none 0 0, .bool false, .string ByteArray.empty, .slice none 0 0, .slice none 0 0, .bool false, .slice none 0 0], 160, .struct [(0, 9), (1, 48)]⟩ := by kernel_rfl
theorem ty_53 : tyOf Try.prog 53 = ⟨true, 1, false, [.nilFunc], 8, .func⟩ := by kernel_rfl
theorem ty_54 : tyOf Try.prog 54 = ⟨true, 1, false, [.int .i64 0], 8, .int .i64⟩ := by kernel_rfl
theorem ty_60 : tyOf Try.prog 60 = ⟨true, 1, false, [.int .u32 0], 4, .int .u32⟩ := by kernel_rfl
theorem ty_62 : tyOf Try.prog 62 = ⟨true, 1, false, [.slice none 0 0], 24, .slice 64⟩ := by kernel_rfl
theorem ty_63 : tyOf Try.prog 63 = ⟨true, 9, true, [.int .i64 0, .bool false, .slice none 0 0, .bool false, .string ByteArray.empty, .slice none 0 0, .slice none 0 0, .bool false, .slice none 0 0], 144, .struct [(0, 27), (7, 4), (8, 62)]⟩ := by kernel_rfl
theorem ty_64 : tyOf Try.prog 64 = ⟨true, 9, true, [.int .i64 0, .bool false, .slice none 0 0, .bool false, .string ByteArray.empty, .slice none 0 0, .slice none 0 0, .bool false, .slice none 0 0], 144, .struct [(0, 27), (7, 4), (8, 62)]⟩ := by kernel_rfl
theorem ty_66 : tyOf Try.prog 66 = ⟨true, 10, true, [.string ByteArray.empty, .int .i64 0, .bool false, .slice none 0 0, .bool false, .string ByteArray.empty, .slice none 0 0, .slice none 0 0, .bool false, .slice none 0 0], 160, .struct [(0, 9), (1, 64)]⟩ := by kernel_rfl
theorem ty_68 : tyOf Try.prog 68 = ⟨true, 1, false, [.slice none 0 0], 24, .slice 9⟩ := by kernel_rfl
theorem ty_69 : tyOf Try.prog 69 = ⟨true, 1, false, [.int .u64 0], 8, .int .u64⟩ := by kernel_rfl
theorem ty_71 : tyOf Try.prog 71 = ⟨true, 2, true, [.string ByteArray.empty, .slice none 0 0], 40, .struct [(0, 9), (1, 68)]⟩ := by kernel_rfl
theorem ty_83 : tyOf Try.prog 83 = ⟨true, 1, false, [.nilFunc], 8, .func⟩ := by kernel_rfl
theorem ty_91 : tyOf Try.prog 91 = ⟨true, 1, false, [.pointer none], 8, .ptr 93⟩ := by kernel_rfl
theorem ty_92 : tyOf Try.prog 92 = ⟨true, 2, true, [.int .i64 0, .int .i64 0], 16, .struct [(0, 3), (1, 54)]⟩ := by kernel_rfl
theorem ty_93 : tyOf Try.prog 93 = ⟨true, 2, true, [.int .i64 0, .int .i64 0], 16, .struct [(0, 3), (1, 54)]⟩ := by kernel_rfl
theorem ty_95 : tyOf Try.prog 95 = ⟨true, 1, false, [.nilFunc], 8, .func⟩ := by kernel_rfl
theorem ty_97 : tyOf Try.prog 97 = ⟨true, 1, false, [.nilFunc], 8, .func⟩ := by kernel_rfl
theorem ty_98 : tyOf Try.prog 98 = ⟨true, 2, true, [.string ByteArray.empty, .int .i64 0], 24, .struct [(0, 9), (1, 3)]⟩ := by kernel_rfl
theorem ty_100 : tyOf Try.prog 100 = ⟨true, 1, false, [.nilFunc], 8, .func⟩ := by kernel_rfl
theorem ty_105 : tyOf Try.prog 105 = ⟨true, 1, false, [.nilFunc], 8, .func⟩ := by kernel_rfl
theorem ty_106 : tyOf Try.prog 106 = ⟨true, 1, false, [.nilFunc], 8, .func⟩ := by kernel_rfl
theorem ty_108 : tyOf Try.prog 108 = ⟨true, 1, false, [.nilFunc], 8, .func⟩ := by kernel_rfl
theorem ty_109 : tyOf Try.prog 109 = ⟨true, 1, false, [.nilFunc], 8, .func⟩ := by kernel_rfl
theorem ty_116 : tyOf Try.prog 116 = ⟨true, 1, false, [.nilFunc], 8, .func⟩ := by kernel_rfl
theorem ty_122 : tyOf Try.prog 122 = ⟨true, 1, false, [.slice none 0 0], 24, .slice 66⟩ := by kernel_rfl
theorem ty_136 : tyOf Try.prog 136 = ⟨true, 1, false, [.slice none 0 0], 24, .slice 40⟩ := by kernel_rfl
theorem ty_142 : tyOf Try.prog 142 = ⟨true, 1, false, [.nilFunc], 8, .func⟩ := by kernel_rfl
end Go.Proofs.Ythmpaepdbjldfaa
