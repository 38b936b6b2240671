/-
  Texts of this claim, merged: DatZ, DatR, DatV, DatN. Lemmas and contracts; no conditions of our own.
-/
import Derived.Test.YtknbgbeepachgaaDoorG4
import Derived.RangeFuncNested
import Derived.RangeFuncBound
import Derived.RangeFuncCalls
import Derived.RangeFuncLeaves
import Derived.RangeFuncBox
import Derived.Shelf.Abstract
import Derived.OwnWalkIn
import Derived.TacticsInMore
import Derived.LoopNIn
import Derived.LoopIn

/-
  datum.joined.
-/
namespace Go.Proofs.YtknbgbeepachgaaDoor
open Go.RowKit

/-- Some data, or none, appended to a row of one's own, at a step of a region. -/
theorem step_apps {W : World} {base : Nat} {v : Value} {n m c : Nat} {xs news : List Value} {ap : Option Addr} {ops : Array Oper} {o : Oper} {a : Act} {K : Act → World → Prop} {Q : Exit → Act → World → Prop} {E : Prop} (hgd : o.guard = none) (s x : Operand)
    (ho : o.op = .call { callee := .builtin .append, args := #[s, x], argTypes := #[24, 24] })
    (hs : a.eval s = v) (hx : a.eval x = .slice ap m c) (hown : W.ownsRow base 56 7 v n xs) (hl : news.length = m * 7) (hnone : ap = none → m = 0)
    (hnews : ∀ ad, ap = some ad → ∀ j u, news[j]? = some u → W.cell? (ad.add j) = some u) (h1 : ∀ u ∈ news, u.oneCell' = true) (hb : n + m ≤ 1000000) (hbase : base ≤ W.heap.size)
    (h : ∀ a' c' w', w'.ownsRow base 56 7 (.slice a' (n + m) c') (n + m) (xs ++ news) → W.grownBy w' v.ownBlock → ((Value.slice a' (n + m) c').ownBlock = v.ownBlock ∨ (Value.slice a' (n + m) c').ownBlock = some W.heap.size) → K (a.put o.dst (.slice a' (n + m) c')) w') :
    if Region.wanted o (yielded ops a.tmps) = true then Oper.wp Tryd.prog o a W K Q else E := by
  obtain ⟨i, hi, hz0, hz1, hz2⟩ := info_parts info_dat
  have hw : Region.wanted o (yielded ops a.tmps) = true := by simp [Region.wanted, hgd]
  rw [if_pos hw]
  have hrun : ∃ a' c' w', (Builtin.append_ #[24, 24] o.type #[v, .slice ap m c]).run Tryd.prog W = .ok (.slice a' (n + m) c') w' ∧ w'.ownsRow base 56 7 (.slice a' (n + m) c') (n + m) (xs ++ news) ∧ W.grownBy w' v.ownBlock ∧ ((Value.slice a' (n + m) c').ownBlock = v.ownBlock ∨ (Value.slice a' (n + m) c').ownBlock = some W.heap.size) := by
    cases ap with
    | none =>
      obtain rfl := hnone rfl
      have hn : news = [] := List.eq_nil_of_length_eq_zero (by simpa using hl)
      subst hn
      have hr : (Builtin.append_ #[24, 24] o.type #[v, .slice none 0 c]).run Tryd.prog W = .ok v W := by
        rcases hown.2 with ⟨rfl, _⟩ | ⟨g, cap, cur, rfl, _, _, hnc, _⟩
        · simp [Builtin.append_, run_underlying Tryd.underlying24, sizeOf, typeInfo, hi, Builtin.lenOf, Builtin.firstCells]
        · simp [Builtin.append_, run_underlying Tryd.underlying24, sizeOf, typeInfo, hi, Builtin.lenOf, Builtin.firstCells, hnc, storeCells]
      have hf : ∃ a' c', v = .slice a' n c' := by
        rcases hown.2 with ⟨rfl, rfl⟩ | ⟨g, cap, cur, rfl, _⟩
        · exact ⟨_, _, rfl⟩
        · exact ⟨_, _, rfl⟩
      obtain ⟨a', c', rfl⟩ := hf
      exact ⟨a', c', W, hr, by simpa using hown, ⟨rfl, rfl, rfl, Nat.le_refl _, fun _ _ _ => rfl⟩, .inl rfl⟩
    | some ad =>
      obtain ⟨v', w', hr, h2, h3, _, h5⟩ := run_append_own_at (P := Tryd.prog) W base 24 o.type 56 i _ 7 112 Tryd.underlying24 hi hz0 hz1 hz2 (by rfl) (by decide) v n xs hown ad m c news hl (hnews ad rfl) h1 (by unfold maxLen; omega) (by omega) hbase
      have hf : ∃ a' c', v' = .slice a' (n + m) c' := by
        rcases h2.2 with ⟨rfl, e⟩ | ⟨g, cap, cur, rfl, _⟩
        · rw [e]; exact ⟨_, _, rfl⟩
        · exact ⟨_, _, rfl⟩
      obtain ⟨a', c', rfl⟩ := hf
      exact ⟨a', c', w', hr, h2, h3, h5⟩
  obtain ⟨a', c', w', hr, h2, h3, h4⟩ := hrun
  unfold Oper.wp execOp
  simp only [ho, resolve, invoke, builtin, Sem.run_bind, Sem.run_pure, Result.andThen_ok, List.map_toArray, List.map_cons, List.map_nil, hs, hx, hr]
  exact h a' c' w' h2 h3 h4

/-- Seven cells stored. -/
abbrev put7 (W : World) (b : Nat) (x0 x1 x2 x3 x4 x5 x6 : Value) : World :=
  ((((((W.setCell ⟨b, 0, none⟩ x0).setCell ⟨b, 1, none⟩ x1).setCell ⟨b, 2, none⟩ x2).setCell ⟨b, 3, none⟩ x3).setCell ⟨b, 4, none⟩ x4).setCell ⟨b, 5, none⟩ x5).setCell ⟨b, 6, none⟩ x6
theorem Blk.put7 {W : World} {b : Nat} {t : TypeId} {y0 y1 y2 y3 y4 y5 y6 : Value} (h : Blk W b [y0, y1, y2, y3, y4, y5, y6] t) (x0 x1 x2 x3 x4 x5 x6 : Value) : Blk (put7 W b x0 x1 x2 x3 x4 x5 x6) b [x0, x1, x2, x3, x4, x5, x6] t :=
  ((((((h.set 0 x0).set 1 x1).set 2 x2).set 3 x3).set 4 x4).set 5 x5).set 6 x6
theorem Upd.put7 {S : List Nat} {W0 W : World} {b : Nat} (h : Upd S W0 W) (hb : b ∈ S ∨ W0.heap.size ≤ b) (x0 x1 x2 x3 x4 x5 x6 : Value) : Upd S W0 (put7 W b x0 x1 x2 x3 x4 x5 x6) :=
  ((((((h.setCell x0 (p := ⟨b, 0, none⟩) hb).setCell x1 (p := ⟨b, 1, none⟩) hb).setCell x2 (p := ⟨b, 2, none⟩) hb).setCell x3 (p := ⟨b, 3, none⟩) hb).setCell x4 (p := ⟨b, 4, none⟩) hb).setCell x5 (p := ⟨b, 5, none⟩) hb).setCell x6 (p := ⟨b, 6, none⟩) hb
theorem IsD.put7 {W : World} {P : Nat → Prop} {n : Nat} {cs : List Value} {d : Dat} (h : IsD W P n cs d) (b : Nat) (hP : ∀ k, P k → k ≠ b) (x0 x1 x2 x3 x4 x5 x6 : Value) : IsD (put7 W b x0 x1 x2 x3 x4 x5 x6) P n cs d :=
  h.updS ((Upd.refl [b] W).put7 (.inl (by simp)) x0 x1 x2 x3 x4 x5 x6) (fun k hk => by simpa using hP k hk)
/-- More data behind a row of one's own. -/
theorem OutRow.adds {w0 w w' : World} {n : Nat} {v v' : Value} {ds es : List Dat} {S : List Nat} {css ns : List (List Value)}
    (h1 : css.length = ds.length) (h2 : ∀ i, i < ds.length → IsD w (fun b => w0.heap.size ≤ b ∧ v.ownBlock ≠ some b) n (css.getD i []) (ds.getD i default))
    (k1 : ns.length = es.length) (k2 : ∀ i, i < es.length → IsD w (fun b => w0.heap.size ≤ b ∧ v.ownBlock ≠ some b) n (ns.getD i []) (es.getD i default))
    (hu : Upd S w w') (hS : ∀ k, k ∈ S → v.ownBlock = some k) (hv : v'.ownBlock = v.ownBlock ∨ ∃ g, v'.ownBlock = some g ∧ w.heap.size ≤ g)
    (hO : w'.ownsRow w0.heap.size 56 7 v' (ds.length + es.length) (css.flatten ++ ns.flatten)) : OutRow w0 w' n v' (ds ++ es) := by
  have hm : ∀ {cs : List Value} {d : Dat}, IsD w (fun b => w0.heap.size ≤ b ∧ v.ownBlock ≠ some b) n cs d → IsD w' (fun b => w0.heap.size ≤ b ∧ v'.ownBlock ≠ some b) n cs d := by
    intro cs d h
    refine IsD.map (m := 0) (fun b hb hp => ⟨hp.1, fun e => ?_⟩) (fun b o u hp hc => hu.cell hc (fun hx => hp.2 (hS b hx))) h
    rcases hv with hv | ⟨g, hv, hg⟩
    · exact hp.2 (hv.symm.trans e)
    · rw [hv] at e
      injection e with e
      omega
  refine ⟨css ++ ns, by simp [h1, k1], fun i hi => ?_, by simpa using hO⟩
  rw [List.length_append] at hi
  rw [getD_append, getD_append, h1]
  split
  · rename_i hl
    exact hm (h2 i hl)
  · rename_i hl
    exact hm (k2 _ (by omega))
/-- Behind joined's append. -/
theorem join_fin {w0 w w10 : World} {n : Nat} {v0 : Value} {ds is ts : List Dat} {a' aT : Option Addr} {c' cT : Nat} {css ns : List (List Value)} {y0 y1 y2 y3 y4 y5 y6 : Value}
    (hlo : ∀ k, v0.ownBlock = some k → w0.heap.size ≤ k ∧ k < w.heap.size) (k1 : css.length = ds.length) (k2 : ∀ i, i < ds.length → IsD w (fun b => w0.heap.size ≤ b ∧ v0.ownBlock ≠ some b) (n + 1) (css.getD i []) (ds.getD i default))
    (n1 : ns.length = is.length) (n2 : ∀ i, i < is.length → IsD w (fun b => w0.heap.size ≤ b ∧ v0.ownBlock ≠ some b) n (ns.getD i []) (is.getD i default))
    (hr2 : RowOf w (fun b => w0.heap.size ≤ b ∧ v0.ownBlock ≠ some b) (IsD w (fun b => w0.heap.size ≤ b ∧ v0.ownBlock ≠ some b) n) aT ts)
    (hu10 : Upd v0.ownBlock.toList w w10) (hv : (Value.slice a' (ds.length + is.length) c').ownBlock = v0.ownBlock ∨ (Value.slice a' (ds.length + is.length) c').ownBlock = some (w.heap.size + 2))
    (hO10 : w10.ownsRow w0.heap.size 56 7 (.slice a' (ds.length + is.length) c') (ds.length + is.length) (css.flatten ++ ns.flatten))
    (hB10 : Blk w10 (w.heap.size + 1) [y0, y1, y2, y3, y4, y5, y6] 56) (hs : ds.length + is.length ≤ 100000) (hcT : ts.length ≤ cT) (hbT : ts.length ≤ 35184372088832) :
    Blk (put7 w10 (w.heap.size + 1) (.int .i64 5) (.bool false) (.slice none 0 0) (.bool false) (.string ⟨#[]⟩) (.slice a' (ds.length + is.length) c') (.slice aT ts.length cT)) (w.heap.size + 1) [.int .i64 5, .bool false, .slice none 0 0, .bool false, .string ⟨#[]⟩, .slice a' (ds.length + is.length) c', .slice aT ts.length cT] 56 ∧
    Upd v0.ownBlock.toList w (put7 w10 (w.heap.size + 1) (.int .i64 5) (.bool false) (.slice none 0 0) (.bool false) (.string ⟨#[]⟩) (.slice a' (ds.length + is.length) c') (.slice aT ts.length cT)) ∧
    IsD (put7 w10 (w.heap.size + 1) (.int .i64 5) (.bool false) (.slice none 0 0) (.bool false) (.string ⟨#[]⟩) (.slice a' (ds.length + is.length) c') (.slice aT ts.length cT)) (fun b => w0.heap.size ≤ b) (n + 1 + 1) [.int .i64 5, .bool false, .slice none 0 0, .bool false, .string ⟨#[]⟩, .slice a' (ds.length + is.length) c', .slice aT ts.length cT] (.mk 5 false [] false ByteArray.empty (ds ++ is) ts) := by
  have hu11 : Upd v0.ownBlock.toList w (put7 w10 (w.heap.size + 1) (.int .i64 5) (.bool false) (.slice none 0 0) (.bool false) (.string ⟨#[]⟩) (.slice a' (ds.length + is.length) c') (.slice aT ts.length cT)) := hu10.put7 (.inr (Nat.le_succ _)) _ _ _ _ _ _ _
  have hS : ∀ k, k ∈ v0.ownBlock.toList → v0.ownBlock = some k := fun k hk => by simpa using hk
  have hO11 : (put7 w10 (w.heap.size + 1) (.int .i64 5) (.bool false) (.slice none 0 0) (.bool false) (.string ⟨#[]⟩) (.slice a' (ds.length + is.length) c') (.slice aT ts.length cT)).ownsRow w0.heap.size 56 7 (.slice a' (ds.length + is.length) c') (ds.length + is.length) (css.flatten ++ ns.flatten) := by
    refine own_upd hO10 ((Upd.refl [w.heap.size + 1] w10).put7 (.inl (by simp)) _ _ _ _ _ _ _) (fun g hg hx => ?_)
    have hx : g = w.heap.size + 1 := by simpa using hx
    rcases hv with hv | hv
    · have := (hlo g (by rw [← hv]; exact hg)).2
      omega
    · rw [hv] at hg
      injection hg with hg
      omega
  refine ⟨hB10.put7 _ _ _ _ _ _ _, hu11, ?_⟩
  have hrow := OutRow.adds (v' := .slice a' (ds.length + is.length) c') k1 k2 n1 (fun i hi => (n2 i hi).more 1) hu11 hS (by
    rcases hv with hv | hv
    · exact .inl hv
    · exact .inr ⟨_, hv, by omega⟩) hO11
  obtain ⟨a'', c'', e, hr, hc⟩ := hrow.row
  injection e with e1 e2 e3
  subst e1
  subst e3
  refine ⟨none, 0, a', c', aT, cT, ?_, fun i hi => absurd hi (by simp [Dat.limbs]), hr, ?_, ⟨by simp [Dat.limbs], hc, hcT⟩, by simp [Dat.kind], by simp [Dat.limbs], by simp [Dat.limbs], by simp [Dat.s, ByteArray.size], by simp only [Dat.items]; rw [List.length_append]; omega, hbT⟩
  · simp only [datCells, Dat.kind, Dat.neg, Dat.limbs, Dat.b, Dat.s, Dat.items, Dat.tail, List.length_append, List.length_nil]
    rfl
  · exact hr2.map (fun b _ hp => hp.1) (fun b o v hp hc => hu11.cell hc (fun hx => hp.2 (hS _ hx))) (fun cs d hd => (IsD.map (m := 1) (fun b _ hp => hp.1) (fun b o v hp hc => hu11.cell hc (fun hx => hp.2 (hS _ hx))) hd))
end Go.Proofs.YtknbgbeepachgaaDoor

/-
  A region that draws its order, walked in a round as in a plain frame.
-/
namespace Go.Proofs.YtknbgbeepachgaaDoor
open Go.RowKit

/-- No defer statement. -/
def noDefer (o : Oper) : Bool := match o.op with | .defer _ => false | _ => true
theorem oper_round {P : Program} {o : Oper} {a : Act} {w : World} {K K' : Act → World → Prop} {Q : Exit → Act → World → Prop} {l n : Nat} (hd : noDefer o = true) (hK : ∀ a w, K a w → K' a w) (h : o.wp P a w K Q) : o.wpIn (Fence.wide.inRound l) n P a w K' Q := by
  refine ⟨fun _ _ => trivial, ?_⟩
  have hd' : ∀ c, o.op ≠ .defer c := fun c e => by simp [noDefer, e] at hd
  rw [Fence.inRound_round, Oper.semAt_some l a.eval o hd']
  unfold Oper.wp at h
  generalize (execOp a.eval o).run P w = r at *
  have h0 : (Fence.wide.inRound l).depth.isSome = true → 1 ≤ n := fun h => by simp [Fence.wide] at h
  unfold Oper.upon at h
  unfold Oper.uponIn
  split at h
  · exact hK _ _ h
  · exact hK _ _ h
  · exact hK _ _ h
  · refine ⟨h0, CallsIn.inRound l (callsIn_wide.2 (Calls.mono h ?_))⟩
    intro e w' he
    cases e with
    | returned v => exact hK _ _ he
    | panicked c => exact he
    | outgrown => exact he
  · rename_i row args w'
    refine ⟨h0, fun c cs _ => ?_⟩
    obtain ⟨v, w'', hr, hs⟩ := h c cs
    exact ⟨v, w'', hK _ _ hr, stepsIn_wide.2 hs⟩
  · exact h
  · exact h.elim
theorem ops_round {P : Program} {ops : Array Oper} {Q : Exit → Act → World → Prop} {l n : Nat} (hd : ∀ (i : Nat) (o : Oper), ops[i]? = some o → noDefer o = true) (hQ : ∀ a w, ¬ Q .outgrown a w) : ∀ (is : List Nat) (a : Act) (w : World), wpOps P ops Q is a w → wpOpsIn (Fence.wide.inRound l) n P ops Q is a w
  | [], _, _, h => h
  | i :: rest, a, w, h => by
    simp only [wpOps] at h
    simp only [wpOpsIn]
    cases ho : ops[i]? with
    | none =>
      simp only [ho] at h
      exact ops_round hd hQ rest a w h
    | some o =>
      simp only [ho] at h ⊢
      split
      · rename_i hw
        rw [if_pos hw] at h
        rcases h with h | ⟨_, a', w', h⟩
        · exact oper_round (hd i o ho) (fun a w => ops_round hd hQ rest a w) h
        · exact (hQ _ _ h).elim
      · rename_i hw
        rw [if_neg hw] at h
        exact ⟨fun _ _ => trivial, ops_round hd hQ rest _ w h⟩
theorem region_round {P : Program} {id : Nat} {ops : Array Oper} {Q : Exit → Act → World → Prop} {a : Act} {w : World} {l n : Nat} (hm : P.follows .mixedOrders = true) (hd : ops.all noDefer = true) (hQ : ∀ a w, ¬ Q .outgrown a w)
    (h : wpAny P .any ops Q ops.size (Array.replicate ops.size false) a w.drew) : (Code.region id ops true).wpIn (Fence.wide.inRound l) n P Q a w := by
  refine wpIn_region_draw fun t => ?_
  simp only [Region.schedule, hm, Bool.true_or, if_true]
  refine ops_round (fun i o ho => ?_) hQ _ a _ (wpAny_sound ops.size t _ a _ h)
  rw [Array.all_eq_true] at hd
  obtain ⟨hi, e⟩ := Array.getElem?_eq_some_iff.1 ho
  rw [← e]
  exact hd i hi
end Go.Proofs.YtknbgbeepachgaaDoor

/-
  slices.Values of data: its iterator's contract.
-/
namespace Go.Proofs.YtknbgbeepachgaaDoor
open Go.RowKit Go.Shelf
attribute [local go_sem] Oper.semAt_some

theorem Below.at7 {w w' : World} {n₀ b o : Nat} {cs : List Value} (h : At7 w b o cs) (hu : Below n₀ w w') (hb : b < n₀) : At7 w' b o cs :=
  ⟨h.1, fun j hj => (hu.cell (p := ⟨b, o + j, none⟩) hb).trans (h.2 j hj)⟩
end Go.Proofs.YtknbgbeepachgaaDoor

/-
  datum.norm.
-/
namespace Go.Proofs.YtknbgbeepachgaaDoor
open Go.RowKit

theorem normD_num (n : Nat) (ng : Bool) (ls : List Int) (bb : Bool) (ss : ByteArray) (is ts : List Dat) : normD (n + 1) (.mk 1 ng ls bb ss is ts) = .mk 1 (ng && decide (0 < (trimL ls).length)) (trimL ls) false ByteArray.empty [] [] := by
  rw [normD]
  exact if_pos rfl
theorem normD_bool (n : Nat) (ng : Bool) (ls : List Int) (bb : Bool) (ss : ByteArray) (is ts : List Dat) : normD (n + 1) (.mk 2 ng ls bb ss is ts) = .mk 2 false [] bb ByteArray.empty [] [] := by
  rw [normD]
  simp [Dat.kind, Dat.b]
theorem normD_text (n : Nat) {kd : Int} (hk : kd = 3 ∨ kd = 4) (ng : Bool) (ls : List Int) (bb : Bool) (ss : ByteArray) (is ts : List Dat) : normD (n + 1) (.mk kd ng ls bb ss is ts) = .mk kd false [] false ss [] [] := by
  rw [normD]
  rcases hk with rfl | rfl <;> simp [Dat.kind, Dat.s]
theorem normD_list (n : Nat) (ng : Bool) (ls : List Int) (bb : Bool) (ss : ByteArray) (is ts : List Dat) : normD (n + 1) (.mk 5 ng ls bb ss is ts) = if ts = [] then .mk 5 false [] false ByteArray.empty (is.map (normD n)) [] else joinD (is.map (normD n)) (normD n (ts.getD 0 default)) := by
  rw [normD]
  simp [Dat.kind, Dat.items, Dat.tail]
theorem normD_other (n : Nat) {kd : Int} (h1 : kd ≠ 1) (h2 : kd ≠ 2) (h3 : kd ≠ 3) (h4 : kd ≠ 4) (h5 : kd ≠ 5) (ng : Bool) (ls : List Int) (bb : Bool) (ss : ByteArray) (is ts : List Dat) : normD (n + 1) (.mk kd ng ls bb ss is ts) = .mk kd false [] false ByteArray.empty [] [] := by
  rw [normD]
  simp [Dat.kind, h1, h2, h3, h4, h5]
/-- What norm answers. -/
def NormPost (w : World) (n : Nat) (d : Dat) (e : Ending) (w' : World) : Prop :=
  (∃ cs', e = .returned (.agg cs'.toArray) ∧ IsD w' (fun b => w.heap.size ≤ b) n cs' d) ∧ Upd [] w w'
theorem Blk.seven {W : World} {b : Nat} {t : TypeId} {y0 y1 y2 y3 y4 y5 y6 : Value} (h : Blk W b [y0, y1, y2, y3, y4, y5, y6] t) :
    W.cell? ⟨b, 0, none⟩ = some y0 ∧ W.cell? ⟨b, 1, none⟩ = some y1 ∧ W.cell? ⟨b, 2, none⟩ = some y2 ∧ W.cell? ⟨b, 3, none⟩ = some y3 ∧ W.cell? ⟨b, 4, none⟩ = some y4 ∧ W.cell? ⟨b, 5, none⟩ = some y5 ∧ W.cell? ⟨b, 6, none⟩ = some y6 :=
  ⟨h.cell_some rfl, h.cell_some rfl, h.cell_some rfl, h.cell_some rfl, h.cell_some rfl, h.cell_some rfl, h.cell_some rfl⟩
theorem Blk.frees {W : World} {b : Nat} {t : TypeId} {cs : List Value} (h : Blk W b cs t) :
    W.frozen? ⟨b, 0, none⟩ = false ∧ W.frozen? ⟨b, 1, none⟩ = false ∧ W.frozen? ⟨b, 2, none⟩ = false ∧ W.frozen? ⟨b, 3, none⟩ = false ∧ W.frozen? ⟨b, 4, none⟩ = false ∧ W.frozen? ⟨b, 5, none⟩ = false ∧ W.frozen? ⟨b, 6, none⟩ = false :=
  ⟨h.free 0, h.free 1, h.free 2, h.free 3, h.free 4, h.free 5, h.free 6⟩
/-- What stands at the beginning. -/
structure NBeg (w W : World) (kd : Int) (xs : List Value) : Prop where
  box : Blk W w.heap.size xs 56
  res : Blk W (w.heap.size + 1) [.int .i64 0, .bool false, .slice none 0 0, .bool false, .string ⟨#[]⟩, .slice none 0 0, .slice none 0 0] 56
  out : Blk W (w.heap.size + 1 + 1) [.int .i64 kd, .bool false, .slice none 0 0, .bool false, .string ⟨#[]⟩, .slice none 0 0, .slice none 0 0] 56
  upd : Upd [] w W
theorem NBeg.new (w : World) (kd : Int) (xs : List Value) : NBeg w (((w.alloc (.cells xs.toArray 56)).alloc (.cells #[.int .i64 0, .bool false, .slice none 0 0, .bool false, .string ⟨#[]⟩, .slice none 0 0, .slice none 0 0] 56)).alloc (.cells #[.int .i64 kd, .bool false, .slice none 0 0, .bool false, .string ⟨#[]⟩, .slice none 0 0, .slice none 0 0] 56)) kd xs :=
  ⟨((Blk.new w xs _).alloc _).alloc _, (Blk.newAt (by simp)).alloc _, Blk.newAt (by simp), (((Upd.refl [] w).alloc _).alloc _).alloc _⟩
theorem NBeg.step {w W W' : World} {kd : Int} {xs : List Value} (h : NBeg w W kd xs) (hu : Upd [] W W') : NBeg w W' kd xs :=
  ⟨hu.blk h.box (by simp), hu.blk h.res (by simp), hu.blk h.out (by simp), h.upd.then hu⟩
/-- What stands at the end: out's cells are stored into the result's box. -/
structure NEnd (w W : World) (n : Nat) (d : Dat) (x0 x1 x2 x3 x4 x5 x6 : Value) : Prop where
  out : Blk W (w.heap.size + 1 + 1) [x0, x1, x2, x3, x4, x5, x6] 56
  res : Blk W (w.heap.size + 1) [.int .i64 0, .bool false, .slice none 0 0, .bool false, .string ⟨#[]⟩, .slice none 0 0, .slice none 0 0] 56
  upd : Upd [] w W
  isd : IsD W (fun b => w.heap.size + 3 ≤ b) n [x0, x1, x2, x3, x4, x5, x6] d
theorem NEnd.fin {w W : World} {n : Nat} {d : Dat} {x0 x1 x2 x3 x4 x5 x6 : Value} (h : NEnd w W n d x0 x1 x2 x3 x4 x5 x6) :
    Blk (put7 W (w.heap.size + 1) x0 x1 x2 x3 x4 x5 x6) (w.heap.size + 1) [x0, x1, x2, x3, x4, x5, x6] 56 ∧ NormPost w n d (.returned (.agg #[x0, x1, x2, x3, x4, x5, x6])) (put7 W (w.heap.size + 1) x0 x1 x2 x3 x4 x5 x6) :=
  ⟨h.res.put7 _ _ _ _ _ _ _, ⟨[x0, x1, x2, x3, x4, x5, x6], rfl, (h.isd.put7 (w.heap.size + 1) (fun k hk => by omega) _ _ _ _ _ _ _).mono fun b _ hp => by omega⟩, h.upd.put7 (.inr (Nat.le_succ _)) _ _ _ _ _ _ _⟩
/-- A datum without lists. -/
theorem isd_flat {W : World} {P : Nat → Prop} {n : Nat} {kd : Int} {ng : Bool} {ls : List Int} {bb : Bool} {ss : ByteArray} {aL : Option Addr} {cL : Nat} (hk : -9223372036854775808 ≤ kd ∧ kd ≤ 9223372036854775807) (hL : LimbsOf W P aL ls) (hx : ∀ x ∈ ls, 0 ≤ x ∧ x < 4294967296) (hl : ls.length ≤ 35184372088832) (hc : ls.length ≤ cL) (hs : ss.size ≤ 140737488351232) :
    IsD W P (n + 1) [.int .i64 kd, .bool ng, .slice aL ls.length cL, .bool bb, .string ss, .slice none 0 0, .slice none 0 0] (.mk kd ng ls bb ss [] []) :=
  ⟨aL, cL, none, 0, none, 0, rfl, hL, fun i hi => absurd hi (by simp [Dat.items]), fun i hi => absurd hi (by simp [Dat.tail]), ⟨hc, by simp [Dat.items], by simp [Dat.tail]⟩, hk, hx, hl, hs, by simp [Dat.items], by simp [Dat.tail]⟩
theorem isd_flat0 {W : World} {P : Nat → Prop} {n : Nat} {kd : Int} {bb : Bool} {ss : ByteArray} (hk : -9223372036854775808 ≤ kd ∧ kd ≤ 9223372036854775807) (hs : ss.size ≤ 140737488351232) :
    IsD W P (n + 1) [.int .i64 kd, .bool false, .slice none 0 0, .bool bb, .string ss, .slice none 0 0, .slice none 0 0] (.mk kd false [] bb ss [] []) :=
  isd_flat (aL := none) (cL := 0) (ls := []) hk (fun i hi => absurd hi (by simp)) (by simp) (by simp) (by simp) hs
theorem norm_flat {w : World} {n : Nat} {d : Dat} (bx : Array Value) (x0 x1 x2 x3 x4 x5 x6 : Value) (hD : ∀ (W : World) (P : Nat → Prop), IsD W P n [x0, x1, x2, x3, x4, x5, x6] d) :
    Blk (((w.alloc (.cells bx 56)).alloc (.cells #[x0, x1, x2, x3, x4, x5, x6] 56)).alloc (.cells #[x0, x1, x2, x3, x4, x5, x6] 56)) (w.heap.size + 1) [x0, x1, x2, x3, x4, x5, x6] 56 ∧
    NormPost w n d (.returned (.agg #[x0, x1, x2, x3, x4, x5, x6])) (((w.alloc (.cells bx 56)).alloc (.cells #[x0, x1, x2, x3, x4, x5, x6] 56)).alloc (.cells #[x0, x1, x2, x3, x4, x5, x6] 56)) :=
  ⟨(Blk.newAt (by simp)).alloc _, ⟨[x0, x1, x2, x3, x4, x5, x6], rfl, hD _ _⟩, (((Upd.refl [] w).alloc _).alloc _).alloc _⟩
end Go.Proofs.YtknbgbeepachgaaDoor
