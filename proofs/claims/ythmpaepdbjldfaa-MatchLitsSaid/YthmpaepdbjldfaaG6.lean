/-
  Texts of this claim, merged: TI. Lemmas and contracts; no conditions of our own.
-/
import Derived.Test.YthmpaepdbjldfaaG5

/-
  States told by trees: functions that write through pointers.
-/
namespace Go.Proofs.Ythmpaepdbjldfaa
set_option linter.unusedVariables false
set_option linter.unusedSimpArgs false
open Go.RowKit Go.Shelf

/-! ### Other names -/
def CV.ren (θ : Nat → Nat) : CV → CV
  | .p x => .p x
  | .ptr l o => .ptr (θ l) o
  | .mp l => .mp (θ l)
def TV.ren (θ ϑ : Nat → Nat) : TV → TV
  | .c x => .c (x.ren θ)
  | .os t n => .os (ϑ t) n
  | .tp t n i j => .tp (ϑ t) n i j
  | .fn f caps => .fn f (caps.map (CV.ren θ))
def TA.ren (θ ϑ : Nat → Nat) : TA → TA
  | .one x => .one (x.ren θ ϑ)
  | .agg cs => .agg (cs.map (TV.ren θ ϑ))
def TX.ren (θ ϑ : Nat → Nat) : TX → TX
  | .und => .und
  | .a x => .a (x.ren θ ϑ)
  | .tup xs => .tup (xs.map (TA.ren θ ϑ))
def LB.ren (θ ϑ : Nat → Nat) : LB → LB
  | .cells T cs => .cells T (cs.map (TV.ren θ ϑ))
  | b => b
theorem ren_hole {θ ϑ : Nat → Nat} {b : LB} : (b.ren θ ϑ = .hole ↔ b = .hole) ∧ (b.ren θ ϑ = .dead ↔ b = .dead) := by
  cases b <;> simp [LB.ren]
/-- A function that may write through its pointers: lids and tokens are numbered from 0 on; it answers as R says. -/
def MFun (P : Program) (f : FuncId) (args : List TX) (lh : Nat → LB) (tk : Nat → TK) (R : PX → (Nat → LB) → (Nat → TK) → Prop) : Prop :=
  ∀ E w (vs : List Value), E.lh = lh → E.tk = tk → HRel E w → vs.length = args.length → (∀ (j : Nat) (x : TX), args[j]? = some x → XRel E w x (vs.getD j undef)) →
    Calls P f vs.toArray w fun e w' => ∃ v E' X, e = .returned v ∧ Ext E E' w w' ∧ HRel E' w' ∧ PXRel (E'.imm w') w' X v ∧ R X E'.lh E'.tk
/-- Two environments that know the same memory by other names: F is the part that a callee sees. -/
structure Sees (F E : Env) (w : World) (θ ϑ : Nat → Nat) (m q : Nat) : Prop where
  lh : ∀ l, F.lh l ≠ .hole → l < m
  tk : ∀ t, F.tk t ≠ .hole → t < q
  lhE : ∀ l, l < m → E.lh (θ l) = (F.lh l).ren θ ϑ
  tkE : ∀ t, t < q → E.tk (ϑ t) = F.tk t
  ρ : ∀ l, F.live l → E.ρ (θ l) = F.ρ l
  tv : ∀ t, F.grows t → E.tv (ϑ t) = F.tv t
  imm : ∀ b, F.imm w b → E.imm w b
theorem Sees.cv {F E : Env} {w : World} {θ ϑ : Nat → Nat} {m q : Nat} (h : Sees F E w θ ϑ m q) {x : CV} {v : Value} (r : CVRel F w x v) : CVRel E w (x.ren θ) v := by
  have hl : ∀ l, F.lh l ≠ .hole → E.lh (θ l) ≠ .hole ∧ (E.live (θ l) → F.live l) := fun l hl => by
    have := h.lhE l (h.lh l hl)
    unfold Env.live
    rw [this]
    simp only [ne_eq, ren_hole.1, ren_hole.2]
    exact ⟨hl, id⟩
  cases x with
  | p x => exact PRel.map (fun b o v hb hc => ⟨h.imm b hb, hc⟩) r
  | ptr l o => exact ⟨r.1, (hl l r.2.1).1, fun q => by rw [h.ρ l ((hl l r.2.1).2 q)]; exact r.2.2 ((hl l r.2.1).2 q)⟩
  | mp l => exact ⟨r.1, (hl l r.2.1).1, fun q => by rw [h.ρ l ((hl l r.2.1).2 q)]; exact r.2.2 ((hl l r.2.1).2 q)⟩
theorem Sees.v {F E : Env} {w : World} {θ ϑ : Nat → Nat} {m q : Nat} (h : Sees F E w θ ϑ m q) {x : TV} {v : Value} (r : VRel F w x v) : VRel E w (x.ren θ ϑ) v := by
  cases x with
  | c x => exact h.cv r
  | os t n =>
    have e := h.tkE t (h.tk t r.2.1)
    refine ⟨r.1, by rw [e]; exact r.2.1, fun T k m' es q' => ?_⟩
    rw [e] at q'
    obtain ⟨g1, g2⟩ := r.2.2 T k m' es q'
    exact ⟨g1, fun q2 => by rw [h.tv t ⟨r.2.1, by rw [q']; simp⟩]; exact g2 q2⟩
  | tp t n i j =>
    have e := h.tkE t (h.tk t r.2.1)
    refine ⟨r.1, by rw [e]; exact r.2.1, fun T k m' es q' => ?_⟩
    rw [e] at q'
    obtain ⟨g1, g2⟩ := r.2.2 T k m' es q'
    exact ⟨g1, fun q2 => by rw [h.tv t ⟨r.2.1, by rw [q']; simp⟩]; exact g2 q2⟩
  | fn f caps =>
    obtain ⟨cv, e, hl, r⟩ := r
    refine ⟨cv, e, by simp [hl], fun j x hj => ?_⟩
    simp only [List.getElem?_map, Option.map_eq_some_iff] at hj
    obtain ⟨y, hy, rfl⟩ := hj
    exact h.cv (r j y hy)
theorem Sees.c {F E : Env} {w : World} {θ ϑ : Nat → Nat} {m q : Nat} (h : Sees F E w θ ϑ m q) {cs : List TV} {vs : List Value} (r : CRel F w cs vs) : CRel E w (cs.map (TV.ren θ ϑ)) vs := by
  refine ⟨by simp [r.1], fun j x hj => ?_⟩
  simp only [List.getElem?_map, Option.map_eq_some_iff] at hj
  obtain ⟨y, hy, rfl⟩ := hj
  exact h.v (r.2 j y hy)
/-- The other way round: what the caller knows, the callee knows. -/
theorem back_cv {F E : Env} {w : World} {θ ϑ : Nat → Nat} {m : Nat} (hlhE : ∀ l, l < m → E.lh (θ l) = (F.lh l).ren θ ϑ) (hlh : ∀ l, F.lh l ≠ .hole → l < m) (hρ : ∀ l, F.ρ l = E.ρ (θ l)) (himm : ∀ b, E.imm w b → F.imm w b) {x : CV} {v : Value} (hx : match x with | .p _ => True | .ptr l _ => l < m | .mp l => l < m) (r : CVRel E w (x.ren θ) v) : CVRel F w x v := by
  cases x with
  | p x => exact PRel.map (fun b o v hb hc => ⟨himm b hb, hc⟩) r
  | ptr l o =>
    obtain ⟨r1, r2, r3⟩ := r
    rw [hlhE l hx] at r2
    refine ⟨r1, fun q => r2 (ren_hole.1.2 q), fun q => ?_⟩
    rw [hρ l]
    refine r3 ?_
    unfold Env.live
    rw [hlhE l hx]
    exact ⟨fun g => q.1 (ren_hole.1.1 g), fun g => q.2 (ren_hole.2.1 g)⟩
  | mp l =>
    obtain ⟨r1, r2, r3⟩ := r
    rw [hlhE l hx] at r2
    refine ⟨r1, fun q => r2 (ren_hole.1.2 q), fun q => ?_⟩
    rw [hρ l]
    refine r3 ?_
    unfold Env.live
    rw [hlhE l hx]
    exact ⟨fun g => q.1 (ren_hole.1.1 g), fun g => q.2 (ren_hole.2.1 g)⟩
/-- It speaks of lids below m and tokens below q. -/
def CV.below (m : Nat) : CV → Prop
  | .p _ => True
  | .ptr l _ => l < m
  | .mp l => l < m
def TV.below (m q : Nat) : TV → Prop
  | .c x => x.below m
  | .os t _ => t < q
  | .tp t _ _ _ => t < q
  | .fn _ caps => ∀ x ∈ caps, x.below m
def TA.below (m q : Nat) : TA → Prop
  | .one x => x.below m q
  | .agg cs => ∀ x ∈ cs, x.below m q
def TX.below (m q : Nat) : TX → Prop
  | .und => True
  | .a x => x.below m q
  | .tup xs => ∀ x ∈ xs, x.below m q
structure Back (F E : Env) (w : World) (θ ϑ : Nat → Nat) (m q : Nat) : Prop where
  lh : ∀ l, F.lh l ≠ .hole → l < m
  lhE : ∀ l, l < m → E.lh (θ l) = (F.lh l).ren θ ϑ
  tkE : ∀ t, t < q → E.tk (ϑ t) = F.tk t
  ρ : ∀ l, F.ρ l = E.ρ (θ l)
  tv : ∀ t, F.tv t = E.tv (ϑ t)
  imm : ∀ b, E.imm w b → F.imm w b
theorem Back.cv {F E : Env} {w : World} {θ ϑ : Nat → Nat} {m q : Nat} (h : Back F E w θ ϑ m q) {x : CV} {v : Value} (hx : x.below m) (r : CVRel E w (x.ren θ) v) : CVRel F w x v :=
  back_cv (m := m) h.lhE h.lh h.ρ h.imm (by cases x <;> exact hx) r
theorem Back.v {F E : Env} {w : World} {θ ϑ : Nat → Nat} {m q : Nat} (h : Back F E w θ ϑ m q) {x : TV} {v : Value} (hx : x.below m q) (r : VRel E w (x.ren θ ϑ) v) : VRel F w x v := by
  cases x with
  | c x => exact h.cv hx r
  | os t n =>
    obtain ⟨r1, r2, r3⟩ := r
    have e := h.tkE t hx
    rw [e] at r2
    exact ⟨r1, r2, fun T k m' es q' => by rw [h.tv t]; exact r3 T k m' es (by rw [e]; exact q')⟩
  | tp t n i j =>
    obtain ⟨r1, r2, r3⟩ := r
    have e := h.tkE t hx
    rw [e] at r2
    exact ⟨r1, r2, fun T k m' es q' => by rw [h.tv t]; exact r3 T k m' es (by rw [e]; exact q')⟩
  | fn f caps =>
    obtain ⟨cv, e, hl, r⟩ := r
    refine ⟨cv, e, by simpa using hl, fun j x hj => h.cv (hx x (List.mem_of_getElem? hj)) (r j (x.ren θ) (by simp [hj]))⟩
theorem Back.c {F E : Env} {w : World} {θ ϑ : Nat → Nat} {m q : Nat} (h : Back F E w θ ϑ m q) {cs : List TV} {vs : List Value} (hx : ∀ x ∈ cs, x.below m q) (r : CRel E w (cs.map (TV.ren θ ϑ)) vs) : CRel F w cs vs :=
  ⟨by simpa using r.1, fun j x hj => h.v (hx x (List.mem_of_getElem? hj)) (r.2 j (x.ren θ ϑ) (by simp [hj]))⟩
theorem Back.a {F E : Env} {w : World} {θ ϑ : Nat → Nat} {m q : Nat} (h : Back F E w θ ϑ m q) {x : TA} {v : Value} (hx : x.below m q) (r : ARel E w (x.ren θ ϑ) v) : ARel F w x v := by
  cases x with
  | one x => exact h.v hx r
  | agg cs =>
    obtain ⟨vs, e, r⟩ := r
    exact ⟨vs, e, h.c hx r⟩
theorem Back.x {F E : Env} {w : World} {θ ϑ : Nat → Nat} {m q : Nat} (h : Back F E w θ ϑ m q) {x : TX} {v : Value} (hx : x.below m q) (r : XRel E w (x.ren θ ϑ) v) : XRel F w x v := by
  cases x with
  | und => trivial
  | a x => exact h.a hx r
  | tup xs =>
    obtain ⟨vs, e, hl, r⟩ := r
    exact ⟨vs, e, by simpa using hl, fun j x hj => h.a (hx x (List.mem_of_getElem? hj)) (r j (x.ren θ ϑ) (by simp [hj]))⟩
open Classical in
/-- A call through pointers: the callee's lids are θ 0 .. θ (m-1) here, its tokens ϑ 0 .. ϑ (q-1). -/
theorem CallsT.method {P : Program} {f : FuncId} {args : List TX} {lh : Nat → LB} {tk : Nat → TK} {R : PX → (Nat → LB) → (Nat → TK) → Prop} {S : TS} {K : TX → TS → Prop} (h : MFun P f args lh tk R) (θ ϑ : Nat → Nat) (m q : Nat)
    (hlm : ∀ l, lh l ≠ .hole → l < m) (htq : ∀ t, tk t ≠ .hole → t < q)
    (hθ : ∀ i j, i < m → j < m → θ i = θ j → i = j) (hϑ : ∀ i j, i < q → j < q → ϑ i = ϑ j → i = j)
    (hlv : ∀ l, l < m → ∃ T cs, lh l = .cells T cs ∧ ∀ x ∈ cs, TV.below m q x) (htv : ∀ t, t < q → ∃ T k n es, tk t = .tok T k n es)
    (hlh : ∀ l, l < m → S.lh (θ l) = (lh l).ren θ ϑ) (htk : ∀ t, t < q → S.tk (ϑ t) = tk t)
    {xs : List TX} (hxs : xs = args.map (TX.ren θ ϑ)) (hxb : ∀ x ∈ args, TX.below m q x)
    (hk : ∀ X lh' tk', R X lh' tk' → (∀ l, lh' l ≠ .hole → l < m) ∧ (∀ t, tk' t ≠ .hole → t < q) ∧ ∃ S', S'.tm = S.tm ∧ S'.sz = S.sz ∧ (∀ l, l < m → S'.lh (θ l) = (lh' l).ren θ ϑ) ∧ (∀ L, (∀ l, l < m → θ l ≠ L) → S'.lh L = S.lh L) ∧ (∀ t, t < q → S'.tk (ϑ t) = tk' t) ∧ (∀ T, (∀ t, t < q → ϑ t ≠ T) → S'.tk T = S.tk T) ∧ K X.tx S') : CallsT P f xs S K := by
  intro E w vs h1 h2 hH hl hr
  subst hxs
  obtain ⟨F, hF⟩ : ∃ F : Env, F = ⟨fun l => E.ρ (θ l), fun t => E.tv (ϑ t), lh, tk, fun b => E.no b ∨ (∃ L, E.live L ∧ (∀ l, l < m → θ l ≠ L) ∧ E.ρ L = b) ∨ ∃ T, E.grows T ∧ (∀ t, t < q → ϑ t ≠ T) ∧ (E.tv T).ownBlock = some b⟩ := ⟨_, rfl⟩
  have fρ : ∀ l, F.ρ l = E.ρ (θ l) := by rw [hF]; intro l; rfl
  have ftv : ∀ t, F.tv t = E.tv (ϑ t) := by rw [hF]; intro l; rfl
  have flh : F.lh = lh := by rw [hF]
  have ftk : F.tk = tk := by rw [hF]
  have fno : ∀ b, F.no b ↔ (E.no b ∨ (∃ L, E.live L ∧ (∀ l, l < m → θ l ≠ L) ∧ E.ρ L = b) ∨ ∃ T, E.grows T ∧ (∀ t, t < q → ϑ t ≠ T) ∧ (E.tv T).ownBlock = some b) := by rw [hF]; intro b; exact Iff.rfl
  clear hF
  have elh : ∀ l, l < m → E.lh (θ l) = (F.lh l).ren θ ϑ := fun l hl => by rw [h1, flh]; exact hlh l hl
  have etk : ∀ t, t < q → E.tk (ϑ t) = F.tk t := fun t ht => by rw [h2, ftk]; exact htk t ht
  have fl : ∀ l, F.lh l ≠ .hole → l < m := by rw [flh]; exact hlm
  have ft : ∀ t, F.tk t ≠ .hole → t < q := by rw [ftk]; exact htq
  have liveFE : ∀ l, F.live l → E.live (θ l) := fun l hl => by
    unfold Env.live
    rw [elh l (fl l hl.1)]
    exact ⟨fun g => hl.1 (ren_hole.1.1 g), fun g => hl.2 (ren_hole.2.1 g)⟩
  have growFE : ∀ t, F.grows t → E.grows (ϑ t) := fun t ht => by
    unfold Env.grows
    rw [etk t (ft t ht.1)]
    exact ht
  have himm : ∀ b, E.imm w b → F.imm w b := fun b hb => ⟨hb.1, fun g => by
    rcases (fno b).1 g with g | ⟨L, g1, _, g2⟩ | ⟨T, g1, _, g2⟩
    · exact hb.2.1 g
    · exact hb.2.2.1 L g1 g2
    · exact hb.2.2.2 T g1 g2, fun l hl => by rw [fρ]; exact hb.2.2.1 _ (liveFE l hl), fun t ht => by rw [ftv]; exact hb.2.2.2 _ (growFE t ht)⟩
  have hback : Back F E w θ ϑ m q := ⟨fl, elh, etk, fρ, ftv, himm⟩
  have hHF : HRel F w := by
    refine ⟨fun b hb => ?_, fun l T cs e => ?_, fun l hl => ?_, fun l l' g1 g2 e => ?_, fun t T k n es e => ?_, fun t b ht hb => ?_⟩
    · rcases (fno b).1 hb with g | ⟨L, g1, _, g2⟩ | ⟨T, g1, _, g2⟩
      · exact hH.nob b g
      · rw [← g2]; exact (hH.nol L g1).2
      · exact (hH.not T b g1 g2).2.1
    · have hlm' : l < m := fl l (by rw [e]; simp)
      obtain ⟨T', cs', e', hbel⟩ := hlv l hlm'
      rw [flh] at e
      rw [e] at e'
      injection e' with e1 e2
      subst e1; subst e2
      have := elh l hlm'
      rw [flh, e] at this
      obtain ⟨us, q1, q2⟩ := hH.loc (θ l) T _ this
      exact ⟨us, by rw [fρ]; exact q1, hback.c hbel q2⟩
    · rw [fρ]
      refine ⟨fun g => ?_, (hH.nol _ (liveFE l hl)).2⟩
      rcases (fno _).1 g with g | ⟨L, g1, g3, g2⟩ | ⟨T, g1, g3, g2⟩
      · exact (hH.nol _ (liveFE l hl)).1 g
      · exact g3 l (fl l hl.1) (hH.inj _ _ (liveFE l hl) g1 g2.symm)
      · exact (hH.not T _ g1 g2).2.2.1 _ (liveFE l hl) rfl
    · rw [fρ, fρ] at e
      exact hθ l l' (fl l g1.1) (fl l' g2.1) (hH.inj _ _ (liveFE l g1) (liveFE l' g2) e)
    · have htq' : t < q := ft t (by rw [e]; simp)
      obtain ⟨us, q1, q2⟩ := hH.tok (ϑ t) T k n es (by rw [etk t htq']; exact e)
      refine ⟨us, by rw [ftv]; exact q1, fun i el hi => ?_⟩
      obtain ⟨r1, r2⟩ := q2 i el hi
      refine ⟨r1, fun j x hj => ?_⟩
      obtain ⟨v, r3, r4⟩ := r2 j x hj
      exact ⟨v, r3, PRel.map (fun b o v hb hc => ⟨himm b hb, hc⟩) r4⟩
    · rw [ftv] at hb
      obtain ⟨g1, g2, g3, g4⟩ := hH.not _ b (growFE t ht) hb
      refine ⟨fun g => ?_, g2, fun l hl => by rw [fρ]; exact g3 _ (liveFE l hl), fun t' ht' hb' => ?_⟩
      · rcases (fno _).1 g with g | ⟨L, r1, r3, r2⟩ | ⟨T, r1, r3, r2⟩
        · exact g1 g
        · exact g3 L r1 r2
        · exact r3 t (ft t ht.1) (g4 T r1 r2).symm
      · rw [ftv] at hb'
        exact hϑ t' t (ft t' ht'.1) (ft t ht.1) (g4 _ (growFE t' ht') hb')
  refine (h F w vs flh ftk hHF (by simpa using hl) (fun j x hj => hback.x (hxb x (List.mem_of_getElem? hj)) (hr j (x.ren θ ϑ) (by simp [hj])))).mono ?_
  rintro e w' ⟨v, F', X, rfl, hx, hH', hX, hR⟩
  obtain ⟨k1, k2, S', s1, s2, s3, s4, s5, s6, hK⟩ := hk X F'.lh F'.tk hR
  obtain ⟨E', hE'⟩ : ∃ E' : Env, E' = ⟨E.ρ, fun T => if g : ∃ t, t < q ∧ ϑ t = T then F'.tv (Classical.choose g) else E.tv T, S'.lh, S'.tk, E.no⟩ := ⟨_, rfl⟩
  have eρ : E'.ρ = E.ρ := by rw [hE']
  have elh' : E'.lh = S'.lh := by rw [hE']
  have etk' : E'.tk = S'.tk := by rw [hE']
  have eno : E'.no = E.no := by rw [hE']
  have etv1 : ∀ t, t < q → E'.tv (ϑ t) = F'.tv t := fun t ht => by
    have g : ∃ t', t' < q ∧ ϑ t' = ϑ t := ⟨t, ht, rfl⟩
    have e : E'.tv (ϑ t) = F'.tv (Classical.choose g) := by rw [hE']; simp only [dif_pos g]
    have := Classical.choose_spec g
    rw [e, hϑ _ _ this.1 ht this.2]
  have etv2 : ∀ T, (∀ t, t < q → ϑ t ≠ T) → E'.tv T = E.tv T := fun T hT => by
    have g : ¬ ∃ t, t < q ∧ ϑ t = T := fun ⟨t, a, b⟩ => hT t a b
    rw [hE']
    simp only [dif_neg g]
  clear hE'
  have lhA : ∀ l, l < m → E'.lh (θ l) = (F'.lh l).ren θ ϑ := fun l hl => by rw [elh']; exact s3 l hl
  have lhB : ∀ L, (∀ l, l < m → θ l ≠ L) → E'.lh L = E.lh L := fun L hL => by rw [elh', s4 L hL, h1]
  have tkA : ∀ t, t < q → E'.tk (ϑ t) = F'.tk t := fun t ht => by rw [etk']; exact s5 t ht
  have tkB : ∀ T, (∀ t, t < q → ϑ t ≠ T) → E'.tk T = E.tk T := fun T hT => by rw [etk', s6 T hT, h2]
  have liveA : ∀ l, l < m → (E'.live (θ l) ↔ F'.live l) := fun l hl => by
    unfold Env.live
    rw [lhA l hl]
    simp only [ne_eq, ren_hole.1, ren_hole.2]
  have liveB : ∀ L, (∀ l, l < m → θ l ≠ L) → (E'.live L ↔ E.live L) := fun L hL => by
    unfold Env.live
    rw [lhB L hL]
  have growA : ∀ t, t < q → (E'.grows (ϑ t) ↔ F'.grows t) := fun t ht => by
    unfold Env.grows
    rw [tkA t ht]
  have growB : ∀ T, (∀ t, t < q → ϑ t ≠ T) → (E'.grows T ↔ E.grows T) := fun T hT => by
    unfold Env.grows
    rw [tkB T hT]
  have partL : ∀ L, (∃ l, l < m ∧ θ l = L) ∨ ∀ l, l < m → θ l ≠ L := fun L => by
    by_cases g : ∃ l, l < m ∧ θ l = L
    · exact .inl g
    · exact .inr fun l hl e => g ⟨l, hl, e⟩
  have partT' : ∀ T, (∃ t, t < q ∧ ϑ t = T) ∨ ∀ t, t < q → ϑ t ≠ T := fun T => by
    by_cases g : ∃ t, t < q ∧ ϑ t = T
    · exact .inl g
    · exact .inr fun t ht e => g ⟨t, ht, e⟩
  have liveF : ∀ l, l < m → F.live l := fun l hl => by
    obtain ⟨T, cs, e, _⟩ := hlv l hl
    unfold Env.live
    rw [flh, e]
    exact ⟨by simp, by simp⟩
  have growF : ∀ t, t < q → F.grows t := fun t ht => by
    obtain ⟨T, k, n, es, e⟩ := htv t ht
    unfold Env.grows
    rw [ftk, e]
    exact ⟨by simp, by simp⟩
  have ρF : ∀ l, F'.live l → F'.ρ l = E.ρ (θ l) := fun l hl => by
    have hlm' := k1 l hl.1
    rw [(hx.loc l).2.2 (liveF l hlm') hl, fρ]
  have himm' : ∀ b, F'.imm w' b → E'.imm w' b := fun b hb => by
    have hno : ¬ F.no b := by rw [← hx.no]; exact hb.2.1
    refine ⟨hb.1, fun g => hno ((fno b).2 (.inl (by rw [← eno]; exact g))), fun L hL => ?_, fun T hT => ?_⟩
    · rw [eρ]
      rcases partL L with ⟨l, hl, rfl⟩ | hn
      · rw [← ρF l ((liveA l hl).1 hL)]
        exact hb.2.2.1 l ((liveA l hl).1 hL)
      · exact fun e => hno ((fno b).2 (.inr (.inl ⟨L, (liveB L hn).1 hL, hn, e⟩)))
    · rcases partT' T with ⟨t, ht, rfl⟩ | hn
      · rw [etv1 t ht]
        exact hb.2.2.2 t ((growA t ht).1 hT)
      · rw [etv2 T hn]
        exact fun e => hno ((fno b).2 (.inr (.inr ⟨T, (growB T hn).1 hT, hn, e⟩)))
  have hX2 : Ext E E' w w' := by
    refine ⟨hx.os, hx.tape, hx.output, hx.size, eno, fun L => ?_, fun T => ?_, fun b hb => ⟨himm' b (hx.imm b (himm b hb)).1, (hx.imm b (himm b hb)).2⟩, fun b hb ho => ?_⟩
    · rcases partL L with ⟨l, hl, rfl⟩ | hn
      · obtain ⟨g1, g2, g3⟩ := hx.loc l
        rw [lhA l hl, elh l hl]
        refine ⟨fun r => fun r' => g1 (fun r2 => r (ren_hole.1.2 r2)) (ren_hole.1.1 r'), fun r => ren_hole.2.2 (g2 (ren_hole.2.1 r)), fun _ _ => by rw [eρ]⟩
      · rw [lhB L hn]
        exact ⟨id, id, fun _ _ => by rw [eρ]⟩
    · rcases partT' T with ⟨t, ht, rfl⟩ | hn
      · obtain ⟨g1, g2, g3⟩ := hx.tok t
        rw [tkA t ht, etk t ht, etv1 t ht]
        refine ⟨g1, g2, fun T k n es r T' k' n' es' r' => ?_⟩
        have := g3 T k n es r T' k' n' es' r'
        rwa [ftv t] at this
      · rw [tkB T hn, etv2 T hn]
        refine ⟨id, id, fun T' k n es r T'' k' n' es' r' => ?_⟩
        rw [r] at r'
        injection r' with _ r2 r3 _
        exact ⟨r2.symm, .inr ⟨r3.symm, rfl⟩⟩
    · refine hx.out b hb ?_
      rcases ho with ho | ⟨o1, o2⟩
      · exact .inl ((fno b).2 (.inl ho))
      · exact .inr ⟨fun l hl => by rw [fρ]; exact o1 _ (liveFE l hl), fun t ht => by rw [ftv]; exact o2 _ (growFE t ht)⟩
  have hsees : Sees F' E' w' θ ϑ m q := ⟨k1, k2, lhA, tkA, fun l hl => by rw [eρ]; exact (ρF l hl).symm, fun t ht => etv1 t (k2 t ht.1), himm'⟩
  have hH2 : HRel E' w' := by
    refine ⟨fun b hb => by rw [eno] at hb; exact Nat.lt_of_lt_of_le (hH.nob b hb) hx.size, fun L T cs e => ?_, fun L hL => ?_, fun L L' g1 g2 e => ?_, fun T Ty k n es e => ?_, fun T b hT hb => ?_⟩
    · rcases partL L with ⟨l, hl, rfl⟩ | hn
      · rw [lhA l hl] at e
        cases hf : F'.lh l with
        | hole => rw [hf] at e; cases e
        | dead => rw [hf] at e; cases e
        | cells T1 cs1 =>
          rw [hf] at e
          injection e with e1 e2
          subst e1; subst e2
          obtain ⟨us, q1, q2⟩ := hH'.loc l T1 cs1 hf
          have hlv' : F'.live l := ⟨by rw [hf]; simp, by rw [hf]; simp⟩
          exact ⟨us, by rw [eρ, ← ρF l hlv']; exact q1, hsees.c q2⟩
      · rw [lhB L hn] at e
        obtain ⟨us, q1, q2⟩ := hH.loc L T cs e
        have hL : E.live L := ⟨by rw [e]; simp, by rw [e]; simp⟩
        refine ⟨us, ?_, CRel.ext hX2 q2⟩
        rw [eρ]
        have := hx.out (E.ρ L) (hH.nol L hL).2 (.inl ((fno _).2 (.inr (.inl ⟨L, hL, hn, rfl⟩))))
        exact q1.of_eq this
    · rw [eno, eρ]
      rcases partL L with ⟨l, hl, rfl⟩ | hn
      · have hl' := liveFE l (liveF l hl)
        exact ⟨(hH.nol _ hl').1, Nat.lt_of_lt_of_le (hH.nol _ hl').2 hx.size⟩
      · have := hH.nol L ((liveB L hn).1 hL)
        exact ⟨this.1, Nat.lt_of_lt_of_le this.2 hx.size⟩
    · rw [eρ] at e
      have toE : ∀ L, E'.live L → E.live L := fun L hL => by
        rcases partL L with ⟨l, hl, rfl⟩ | hn
        · exact liveFE l (liveF l hl)
        · exact (liveB L hn).1 hL
      exact hH.inj L L' (toE L g1) (toE L' g2) e
    · rcases partT' T with ⟨t, ht, rfl⟩ | hn
      · rw [tkA t ht] at e
        obtain ⟨us, q1, q2⟩ := hH'.tok t Ty k n es e
        refine ⟨us, by rw [etv1 t ht]; exact q1, fun i el hi => ?_⟩
        obtain ⟨r1, r2⟩ := q2 i el hi
        refine ⟨r1, fun j x hj => ?_⟩
        obtain ⟨v, r3, r4⟩ := r2 j x hj
        exact ⟨v, r3, PRel.map (fun b o v hb hc => ⟨himm' b hb, hc⟩) r4⟩
      · rw [tkB T hn] at e
        obtain ⟨us, q1, q2⟩ := hH.tok T Ty k n es e
        have hT : E.grows T := ⟨by rw [e]; simp, by rw [e]; simp⟩
        refine ⟨us, ?_, Rows.ext hX2 q2⟩
        rw [etv2 T hn]
        refine ⟨q1.1, ?_⟩
        rcases q1.2 with g | ⟨g, cap, cur, g1, g2, g3, g4⟩
        · exact .inl g
        · have hob : (E.tv T).ownBlock = some g := by rw [g1]; rfl
          have := hx.out g (hH.not T g hT hob).2.1 (.inl ((fno _).2 (.inr (.inr ⟨T, hT, hn, hob⟩))))
          exact .inr ⟨g, cap, cur, g1, g2, by rw [this]; exact g3, g4⟩
    · rcases partT' T with ⟨t, ht, rfl⟩ | hn
      · rw [etv1 t ht] at hb
        obtain ⟨g1, g2, g3, g4⟩ := hH'.not t b ((growA t ht).1 hT) hb
        rw [hx.no, fno] at g1
        refine ⟨fun g => g1 (.inl (by rw [← eno]; exact g)), g2, fun L hL => ?_, fun T' hT' hb' => ?_⟩
        · rw [eρ]
          rcases partL L with ⟨l, hl, rfl⟩ | hn
          · rw [← ρF l ((liveA l hl).1 hL)]
            exact g3 l ((liveA l hl).1 hL)
          · exact fun e => g1 (.inr (.inl ⟨L, (liveB L hn).1 hL, hn, e⟩))
        · rcases partT' T' with ⟨t', ht', rfl⟩ | hn'
          · rw [etv1 t' ht'] at hb'
            rw [g4 t' ((growA t' ht').1 hT') hb']
          · rw [etv2 T' hn'] at hb'
            exact absurd (.inr (.inr ⟨T', (growB T' hn').1 hT', hn', hb'⟩)) g1
      · rw [etv2 T hn] at hb
        have hTE := (growB T hn).1 hT
        obtain ⟨g1, g2, g3, g4⟩ := hH.not T b hTE hb
        have hFno : F'.no b := by rw [hx.no]; exact (fno b).2 (.inr (.inr ⟨T, hTE, hn, hb⟩))
        refine ⟨by rw [eno]; exact g1, Nat.lt_of_lt_of_le g2 hx.size, fun L hL => ?_, fun T' hT' hb' => ?_⟩
        · rw [eρ]
          rcases partL L with ⟨l, hl, rfl⟩ | hn
          · exact g3 _ (liveFE l (liveF l hl))
          · exact g3 L ((liveB L hn).1 hL)
        · rcases partT' T' with ⟨t', ht', rfl⟩ | hn'
          · rw [etv1 t' ht'] at hb'
            exact absurd hFno (hH'.not t' b ((growA t' ht').1 hT') hb').1
          · rw [etv2 T' hn'] at hb'
            exact g4 T' ((growB T' hn').1 hT') hb'
  exact ⟨v, E', S', X.tx, rfl, hX2, hH2, elh', etk', s1, s2, tx_rel.2 (PXRel.map (fun b o v hb hc => ⟨himm' b hb, hc⟩) hX), hK⟩
/-! ### Where such a function begins and ends -/
def startM (args : List TX) (lh : Nat → LB) (tk : Nat → TK) (n nl nt : Nat) : TS := ⟨fun t => (args[t]?).getD .und, lh, tk, nl, nt, n⟩
def endM (P : Program) (B : Base) (fn : Func) (R : PX → (Nat → LB) → (Nat → TK) → Prop) : Exit → TS → Prop
  | .ret, S | .normal, S => ∃ (X : PX) (S2 : TS), Weak B S S2 ∧ resT P S fn.results.toList = some X.tx ∧ R X S2.lh S2.tk
  | _, _ => False
theorem MFun.of_code {P : Program} {f : FuncId} {fn : Func} {c : Code} {args : List TX} {lh : Nat → LB} {tk : Nat → TK} {R : PX → (Nat → LB) → (Nat → TK) → Prop} (hf : P.funcs[f]? = some fn) (hb : fn.body = some c) (m : Nat) (hm : fn.ntmps = m) (hn : args.length ≤ m) (nl nt : Nat) (h : CodeT P ⟨lh, tk⟩ c (startM args lh tk m nl nt) (endM P ⟨lh, tk⟩ fn R)) : MFun P f args lh tk R := by
  intro E w vs h1 h2 hH hl hr
  subst hm
  have hs : SRel E w { tmps := vs.toArray ++ Array.replicate (fn.ntmps - vs.toArray.size) undef, defers := [] } (startM args lh tk fn.ntmps nl nt) := by
    refine ⟨h1, h2, hH, rfl, ?_, fun t => ?_⟩
    · simp only [Array.size_append, Array.size_replicate, List.size_toArray, startM]
      omega
    · simp only [startM]
      cases ht : args[t]? with
      | none => trivial
      | some x =>
        have htl := (List.getElem?_eq_some_iff.1 ht).1
        have := hr t x ht
        have e : (vs.toArray ++ Array.replicate (fn.ntmps - vs.toArray.size) undef).getD t undef = vs.getD t undef := by
          rw [Array.getD_eq_getD_getElem?, Array.getElem?_append_left (by simp; omega), List.getD_eq_getElem?_getD]
          simp
        rw [e]
        exact this
  refine calls_of_wp hf hb (wp_mono (h E w h1 h2 E w _ (Ext.refl E w) hs) ?_)
  rintro e a' w' ⟨E', S', hs', hx, hk⟩
  have hfin : (∃ (X : PX) (S2 : TS), Weak ⟨lh, tk⟩ S' S2 ∧ resT P S' fn.results.toList = some X.tx ∧ R X S2.lh S2.tk) → a'.defers = [] ∧ ∃ v, (results fn a'.tmps).run P w' = .ok v w' ∧ ∃ v_1 E'' X, Ending.returned v = Ending.returned v_1 ∧ Ext E E'' w w' ∧ HRel E'' w' ∧ PXRel (E''.imm w') w' X v_1 ∧ R X E''.lh E''.tk := by
    rintro ⟨X, S2, hW, hX, hR⟩
    obtain ⟨v, hv, hxr⟩ := results_rel hs' hX
    obtain ⟨E2, g1, g2, g3⟩ := hW.rel (B := ⟨lh, tk⟩) h1 h2 hx hs'
    refine ⟨hs'.2.2.2.1, v, hv, v, E2, X, rfl, g2, g1.2.2.1, PXRel.map (fun b o v hb hc => ⟨g3 b hb, hc⟩) (tx_rel.1 hxr), ?_⟩
    rw [g1.1, g1.2.1]
    exact hR
  cases e with
  | ret => exact hfin hk
  | normal => exact hfin hk
  | _ => exact hk.elim
theorem tm_startM (args : List TX) (lh : Nat → LB) (tk : Nat → TK) (n nl nt t : Nat) : (startM args lh tk n nl nt).tm t = (args[t]?).getD .und := rfl
theorem lh_startM (args : List TX) (lh : Nat → LB) (tk : Nat → TK) (n nl nt : Nat) : (startM args lh tk n nl nt).lh = lh := rfl
theorem tk_startM (args : List TX) (lh : Nat → LB) (tk : Nat → TK) (n nl nt : Nat) : (startM args lh tk n nl nt).tk = tk := rfl
theorem nl_startM (args : List TX) (lh : Nat → LB) (tk : Nat → TK) (n nl nt : Nat) : (startM args lh tk n nl nt).nl = nl := rfl
theorem nt_startM (args : List TX) (lh : Nat → LB) (tk : Nat → TK) (n nl nt : Nat) : (startM args lh tk n nl nt).nt = nt := rfl
theorem sz_startM (args : List TX) (lh : Nat → LB) (tk : Nat → TK) (n nl nt : Nat) : (startM args lh tk n nl nt).sz = n := rfl
end Go.Proofs.Ythmpaepdbjldfaa
