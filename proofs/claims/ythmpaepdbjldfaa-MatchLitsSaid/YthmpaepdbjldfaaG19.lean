/-
  Texts of this claim, merged: DatY, DatZ. Lemmas and contracts; no conditions of our own.
-/
import Derived.Test.YthmpaepdbjldfaaG17
import Derived.Test.YthmpaepdbjldfaaG18

/-
  What norm makes of a datum; datum.joined.
-/
namespace Go.Proofs.Ythmpaepdbjldfaa
set_option linter.unusedVariables false
set_option linter.unusedSimpArgs false
open Go.RowKit

/-! ### The plain part -/
theorem szL_same {f g : Dat → Nat} (h : ∀ d, f d ≤ 1000000 → g d = f d) : ∀ ds : List Dat, szL f ds ≤ 1000000 → szL g ds = szL f ds
  | [], _ => rfl
  | d :: ds, hs => by
    rw [szL] at hs
    rw [szL, szL, h d (by omega), szL_same h ds (by omega)]
theorem szN_one : ∀ (n : Nat) (d : Dat), szN n d ≤ 1000000 → szN (n + 1) d = szN n d
  | 0, _, h => by rw [szN] at h; omega
  | n + 1, d, h => by
    rw [szN] at h
    rw [szN, szN, szL_same (szN_one n) d.items (by omega), szL_same (szN_one n) d.tail (by omega)]
/-- Items, and what stands behind them. -/
def joinD (l : List Dat) (t : Dat) : Dat :=
  if l = [] then t else if t.kind = 5 then .mk 5 false [] false ByteArray.empty (l ++ t.items) t.tail else .mk 5 false [] false ByteArray.empty l [t]
/-- As it must be. -/
def normD : Nat → Dat → Dat
  | 0, _ => default
  | n + 1, d =>
    if d.kind = 1 then .mk 1 (d.neg && decide (0 < (trimL d.limbs).length)) (trimL d.limbs) false ByteArray.empty [] []
    else if d.kind = 2 then .mk 2 false [] d.b ByteArray.empty [] []
    else if d.kind = 3 ∨ d.kind = 4 then .mk d.kind false [] false d.s [] []
    else if d.kind = 5 then (if d.tail = [] then .mk 5 false [] false ByteArray.empty (d.items.map (normD n)) [] else joinD (d.items.map (normD n)) (normD n (d.tail.getD 0 default)))
    else .mk d.kind false [] false ByteArray.empty [] []
theorem szL_map {f : Dat → Nat} {g : Dat → Dat} (h : ∀ d, f d ≤ 1000000 → f (g d) ≤ f d) : ∀ ds : List Dat, szL f ds ≤ 1000000 → szL f (ds.map g) ≤ szL f ds
  | [], _ => Nat.le_refl _
  | d :: ds, hs => by
    rw [szL] at hs
    have h1 := h d (by omega)
    have h2 := szL_map h ds (by omega)
    rw [List.map_cons, szL, szL]
    omega
theorem szN_mk (n : Nat) (k : Int) (g : Bool) (ls : List Int) (b : Bool) (s : ByteArray) (i t : List Dat) : szN (n + 1) (.mk k g ls b s i t) = 1 + szL (szN n) i + szL (szN n) t := by rw [szN]; rfl
theorem joinD_sz (n : Nat) (l : List Dat) (t : Dat) (hs : 1 + szL (szN n) l + szN n t ≤ 1000000) : szN (n + 1) (joinD l t) ≤ 1 + szL (szN n) l + szN n t := by
  unfold joinD
  split
  · rw [szN_one n t (by omega)]
    omega
  · split
    · cases n with
      | zero => rw [szN] at hs; omega
      | succ n =>
        have h := hs
        rw [szN] at h
        rw [szN_mk, szL_append, szL_same (f := szN n) (szN_one n) t.items (by omega), szL_same (f := szN n) (szN_one n) t.tail (by omega)]
        rw [show szN (n + 1) t = 1 + szL (szN n) t.items + szL (szN n) t.tail by rw [szN]]
        omega
    · rw [szN_mk]
      simp only [szL]
      omega
theorem szN_flat (n : Nat) (k : Int) (g : Bool) (ls : List Int) (b : Bool) (s : ByteArray) : szN (n + 1) (.mk k g ls b s [] []) = 1 := by rw [szN]; rfl
theorem tail0_sz {f : Dat → Nat} {ds : List Dat} (h : ds ≠ []) : f (ds.getD 0 default) ≤ szL f ds := szL_get f (List.length_pos_iff.2 h)
theorem normD_sz : ∀ (n : Nat) (d : Dat), szN n d ≤ 1000000 → szN n (normD n d) ≤ szN n d
  | 0, _, h => by rw [szN] at h; omega
  | n + 1, d, h => by
    have h0 := h
    rw [szN] at h0
    rw [normD]
    have hi := szL_map (normD_sz n) d.items (by omega)
    have hp := szN_pos (n + 1) d
    split
    · rw [szN_flat]; exact hp
    · split
      · rw [szN_flat]; exact hp
      · split
        · rw [szN_flat]; exact hp
        · split
          · split
            · rename_i ht
              rw [szN_mk, szN]
              simp only [szL]
              omega
            · rename_i ht
              have h1 := tail0_sz (f := szN n) ht
              have h2 := normD_sz n (d.tail.getD 0 default) (by omega)
              have h3 := joinD_sz n (d.items.map (normD n)) (normD n (d.tail.getD 0 default)) (by omega)
              rw [show szN (n + 1) d = 1 + szL (szN n) d.items + szL (szN n) d.tail by rw [szN]]
              omega
          · rw [szN_flat]; exact hp
end Go.Proofs.Ythmpaepdbjldfaa

/-
  datum.joined.
-/
namespace Go.Proofs.Ythmpaepdbjldfaa
set_option linter.unusedVariables false
set_option linter.unusedSimpArgs false
open Go.RowKit

/-- Some data, or none, appended to a row of one's own, at a step of a region. -/
theorem step_apps {W : World} {base : Nat} {v : Value} {n m c : Nat} {xs news : List Value} {ap : Option Addr} {ops : Array Oper} {o : Oper} {a : Act} {K : Act → World → Prop} {Q : Exit → Act → World → Prop} {E : Prop} (hgd : o.guard = none) (s x : Operand)
    (ho : o.op = .call { callee := .builtin .append, args := #[s, x], argTypes := #[25, 25] })
    (hs : a.eval s = v) (hx : a.eval x = .slice ap m c) (hown : W.ownsRow base 27 7 v n xs) (hl : news.length = m * 7) (hnone : ap = none → m = 0)
    (hnews : ∀ ad, ap = some ad → ∀ j u, news[j]? = some u → W.cell? (ad.add j) = some u) (h1 : ∀ u ∈ news, u.oneCell' = true) (hb : n + m ≤ 1000000) (hbase : base ≤ W.heap.size)
    (h : ∀ a' c' w', w'.ownsRow base 27 7 (.slice a' (n + m) c') (n + m) (xs ++ news) → W.grownBy w' v.ownBlock → ((Value.slice a' (n + m) c').ownBlock = v.ownBlock ∨ (Value.slice a' (n + m) c').ownBlock = some W.heap.size) → K (a.put o.dst (.slice a' (n + m) c')) w') :
    if Region.wanted o (yielded ops a.tmps) = true then Oper.wp Try.prog o a W K Q else E := by
  obtain ⟨i, hi, hz0, hz1, hz2⟩ := info_parts info_dat
  have hw : Region.wanted o (yielded ops a.tmps) = true := by simp [Region.wanted, hgd]
  rw [if_pos hw]
  have hrun : ∃ a' c' w', (Builtin.append_ #[25, 25] o.type #[v, .slice ap m c]).run Try.prog W = .ok (.slice a' (n + m) c') w' ∧ w'.ownsRow base 27 7 (.slice a' (n + m) c') (n + m) (xs ++ news) ∧ W.grownBy w' v.ownBlock ∧ ((Value.slice a' (n + m) c').ownBlock = v.ownBlock ∨ (Value.slice a' (n + m) c').ownBlock = some W.heap.size) := by
    cases ap with
    | none =>
      obtain rfl := hnone rfl
      have hn : news = [] := List.eq_nil_of_length_eq_zero (by simpa using hl)
      subst hn
      have hr : (Builtin.append_ #[25, 25] o.type #[v, .slice none 0 c]).run Try.prog W = .ok v W := by
        rcases hown.2 with ⟨rfl, _⟩ | ⟨g, cap, cur, rfl, _, _, hnc, _⟩
        · simp [Builtin.append_, run_underlying Try.underlying25, sizeOf, typeInfo, hi, Builtin.lenOf, Builtin.firstCells]
        · simp [Builtin.append_, run_underlying Try.underlying25, sizeOf, typeInfo, hi, Builtin.lenOf, Builtin.firstCells, hnc, storeCells]
      have hf : ∃ a' c', v = .slice a' n c' := by
        rcases hown.2 with ⟨rfl, rfl⟩ | ⟨g, cap, cur, rfl, _⟩
        · exact ⟨_, _, rfl⟩
        · exact ⟨_, _, rfl⟩
      obtain ⟨a', c', rfl⟩ := hf
      exact ⟨a', c', W, hr, by simpa using hown, ⟨rfl, rfl, rfl, Nat.le_refl _, fun _ _ _ => rfl⟩, .inl rfl⟩
    | some ad =>
      obtain ⟨v', w', hr, h2, h3, _, h5⟩ := run_append_own_at (P := Try.prog) W base 25 o.type 27 i _ 7 112 Try.underlying25 hi hz0 hz1 hz2 (by rfl) (by decide) v n xs hown ad m c news hl (hnews ad rfl) h1 (by unfold maxLen; omega) (by omega) hbase
      have hf : ∃ a' c', v' = .slice a' (n + m) c' := by
        rcases h2.2 with ⟨rfl, e⟩ | ⟨g, cap, cur, rfl, _⟩
        · rw [e]; exact ⟨_, _, rfl⟩
        · exact ⟨_, _, rfl⟩
      obtain ⟨a', c', rfl⟩ := hf
      exact ⟨a', c', w', hr, h2, h3, h5⟩
  obtain ⟨a', c', w', hr, h2, h3, h4⟩ := hrun
  unfold Oper.wp execOp
  simp only [ho, resolve, invoke, builtin, Sem.run_bind, Sem.run_pure, Result.andThen_ok, List.map_toArray, List.map_cons, List.map_nil, hs, hx, hr]
  exact h a' c' w' h2 h3 h4

/-- Seven cells stored. -/
abbrev put7 (W : World) (b : Nat) (x0 x1 x2 x3 x4 x5 x6 : Value) : World :=
  ((((((W.setCell ⟨b, 0, none⟩ x0).setCell ⟨b, 1, none⟩ x1).setCell ⟨b, 2, none⟩ x2).setCell ⟨b, 3, none⟩ x3).setCell ⟨b, 4, none⟩ x4).setCell ⟨b, 5, none⟩ x5).setCell ⟨b, 6, none⟩ x6
theorem Blk.put7 {W : World} {b : Nat} {t : TypeId} {y0 y1 y2 y3 y4 y5 y6 : Value} (h : Blk W b [y0, y1, y2, y3, y4, y5, y6] t) (x0 x1 x2 x3 x4 x5 x6 : Value) : Blk (put7 W b x0 x1 x2 x3 x4 x5 x6) b [x0, x1, x2, x3, x4, x5, x6] t :=
  ((((((h.set 0 x0).set 1 x1).set 2 x2).set 3 x3).set 4 x4).set 5 x5).set 6 x6
theorem Upd.put7 {S : List Nat} {W0 W : World} {b : Nat} (h : Upd S W0 W) (hb : b ∈ S ∨ W0.heap.size ≤ b) (x0 x1 x2 x3 x4 x5 x6 : Value) : Upd S W0 (put7 W b x0 x1 x2 x3 x4 x5 x6) :=
  ((((((h.setCell x0 (p := ⟨b, 0, none⟩) hb).setCell x1 (p := ⟨b, 1, none⟩) hb).setCell x2 (p := ⟨b, 2, none⟩) hb).setCell x3 (p := ⟨b, 3, none⟩) hb).setCell x4 (p := ⟨b, 4, none⟩) hb).setCell x5 (p := ⟨b, 5, none⟩) hb).setCell x6 (p := ⟨b, 6, none⟩) hb
theorem IsD.put7 {W : World} {P : Nat → Prop} {n : Nat} {cs : List Value} {d : Dat} (h : IsD W P n cs d) (b : Nat) (hP : ∀ k, P k → k ≠ b) (x0 x1 x2 x3 x4 x5 x6 : Value) : IsD (put7 W b x0 x1 x2 x3 x4 x5 x6) P n cs d :=
  h.updS ((Upd.refl [b] W).put7 (.inl (by simp)) x0 x1 x2 x3 x4 x5 x6) (fun k hk => by simpa using hP k hk)
/-- More data behind a row of one's own. -/
theorem OutRow.adds {w0 w w' : World} {n : Nat} {v v' : Value} {ds es : List Dat} {S : List Nat} {css ns : List (List Value)}
    (h1 : css.length = ds.length) (h2 : ∀ i, i < ds.length → IsD w (fun b => w0.heap.size ≤ b ∧ v.ownBlock ≠ some b) n (css.getD i []) (ds.getD i default))
    (k1 : ns.length = es.length) (k2 : ∀ i, i < es.length → IsD w (fun b => w0.heap.size ≤ b ∧ v.ownBlock ≠ some b) n (ns.getD i []) (es.getD i default))
    (hu : Upd S w w') (hS : ∀ k, k ∈ S → v.ownBlock = some k) (hv : v'.ownBlock = v.ownBlock ∨ ∃ g, v'.ownBlock = some g ∧ w.heap.size ≤ g)
    (hO : w'.ownsRow w0.heap.size 27 7 v' (ds.length + es.length) (css.flatten ++ ns.flatten)) : OutRow w0 w' n v' (ds ++ es) := by
  have hm : ∀ {cs : List Value} {d : Dat}, IsD w (fun b => w0.heap.size ≤ b ∧ v.ownBlock ≠ some b) n cs d → IsD w' (fun b => w0.heap.size ≤ b ∧ v'.ownBlock ≠ some b) n cs d := by
    intro cs d h
    refine IsD.map (m := 0) (fun b hb hp => ⟨hp.1, fun e => ?_⟩) (fun b o u hp hc => hu.cell hc (fun hx => hp.2 (hS b hx))) h
    rcases hv with hv | ⟨g, hv, hg⟩
    · exact hp.2 (hv.symm.trans e)
    · rw [hv] at e
      injection e with e
      omega
  refine ⟨css ++ ns, by simp [h1, k1], fun i hi => ?_, by simpa using hO⟩
  rw [List.length_append] at hi
  rw [getD_append, getD_append, h1]
  split
  · rename_i hl
    exact hm (h2 i hl)
  · rename_i hl
    exact hm (k2 _ (by omega))
/-- Behind joined's append. -/
theorem join_fin {w0 w w10 : World} {n : Nat} {v0 : Value} {ds is ts : List Dat} {a' aT : Option Addr} {c' cT : Nat} {css ns : List (List Value)} {y0 y1 y2 y3 y4 y5 y6 : Value}
    (hlo : ∀ k, v0.ownBlock = some k → w0.heap.size ≤ k ∧ k < w.heap.size) (k1 : css.length = ds.length) (k2 : ∀ i, i < ds.length → IsD w (fun b => w0.heap.size ≤ b ∧ v0.ownBlock ≠ some b) (n + 1) (css.getD i []) (ds.getD i default))
    (n1 : ns.length = is.length) (n2 : ∀ i, i < is.length → IsD w (fun b => w0.heap.size ≤ b ∧ v0.ownBlock ≠ some b) n (ns.getD i []) (is.getD i default))
    (hr2 : RowOf w (fun b => w0.heap.size ≤ b ∧ v0.ownBlock ≠ some b) (IsD w (fun b => w0.heap.size ≤ b ∧ v0.ownBlock ≠ some b) n) aT ts)
    (hu10 : Upd v0.ownBlock.toList w w10) (hv : (Value.slice a' (ds.length + is.length) c').ownBlock = v0.ownBlock ∨ (Value.slice a' (ds.length + is.length) c').ownBlock = some (w.heap.size + 2))
    (hO10 : w10.ownsRow w0.heap.size 27 7 (.slice a' (ds.length + is.length) c') (ds.length + is.length) (css.flatten ++ ns.flatten))
    (hB10 : Blk w10 (w.heap.size + 1) [y0, y1, y2, y3, y4, y5, y6] 27) (hs : ds.length + is.length ≤ 100000) (hcT : ts.length ≤ cT) (hbT : ts.length ≤ 35184372088832) :
    Blk (put7 w10 (w.heap.size + 1) (.int .i64 5) (.bool false) (.slice none 0 0) (.bool false) (.string ⟨#[]⟩) (.slice a' (ds.length + is.length) c') (.slice aT ts.length cT)) (w.heap.size + 1) [.int .i64 5, .bool false, .slice none 0 0, .bool false, .string ⟨#[]⟩, .slice a' (ds.length + is.length) c', .slice aT ts.length cT] 27 ∧
    Upd v0.ownBlock.toList w (put7 w10 (w.heap.size + 1) (.int .i64 5) (.bool false) (.slice none 0 0) (.bool false) (.string ⟨#[]⟩) (.slice a' (ds.length + is.length) c') (.slice aT ts.length cT)) ∧
    IsD (put7 w10 (w.heap.size + 1) (.int .i64 5) (.bool false) (.slice none 0 0) (.bool false) (.string ⟨#[]⟩) (.slice a' (ds.length + is.length) c') (.slice aT ts.length cT)) (fun b => w0.heap.size ≤ b) (n + 1 + 1) [.int .i64 5, .bool false, .slice none 0 0, .bool false, .string ⟨#[]⟩, .slice a' (ds.length + is.length) c', .slice aT ts.length cT] (.mk 5 false [] false ByteArray.empty (ds ++ is) ts) := by
  have hu11 : Upd v0.ownBlock.toList w (put7 w10 (w.heap.size + 1) (.int .i64 5) (.bool false) (.slice none 0 0) (.bool false) (.string ⟨#[]⟩) (.slice a' (ds.length + is.length) c') (.slice aT ts.length cT)) := hu10.put7 (.inr (Nat.le_succ _)) _ _ _ _ _ _ _
  have hS : ∀ k, k ∈ v0.ownBlock.toList → v0.ownBlock = some k := fun k hk => by simpa using hk
  have hO11 : (put7 w10 (w.heap.size + 1) (.int .i64 5) (.bool false) (.slice none 0 0) (.bool false) (.string ⟨#[]⟩) (.slice a' (ds.length + is.length) c') (.slice aT ts.length cT)).ownsRow w0.heap.size 27 7 (.slice a' (ds.length + is.length) c') (ds.length + is.length) (css.flatten ++ ns.flatten) := by
    refine own_upd hO10 ((Upd.refl [w.heap.size + 1] w10).put7 (.inl (by simp)) _ _ _ _ _ _ _) (fun g hg hx => ?_)
    have hx : g = w.heap.size + 1 := by simpa using hx
    rcases hv with hv | hv
    · have := (hlo g (by rw [← hv]; exact hg)).2
      omega
    · rw [hv] at hg
      injection hg with hg
      omega
  refine ⟨hB10.put7 _ _ _ _ _ _ _, hu11, ?_⟩
  have hrow := OutRow.adds (v' := .slice a' (ds.length + is.length) c') k1 k2 n1 (fun i hi => (n2 i hi).more 1) hu11 hS (by
    rcases hv with hv | hv
    · exact .inl hv
    · exact .inr ⟨_, hv, by omega⟩) hO11
  obtain ⟨a'', c'', e, hr, hc⟩ := hrow.row
  injection e with e1 e2 e3
  subst e1
  subst e3
  refine ⟨none, 0, a', c', aT, cT, ?_, fun i hi => absurd hi (by simp [Dat.limbs]), hr, ?_, ⟨by simp [Dat.limbs], hc, hcT⟩, by simp [Dat.kind], by simp [Dat.limbs], by simp [Dat.limbs], by simp [Dat.s, ByteArray.size], by simp only [Dat.items]; rw [List.length_append]; omega, hbT⟩
  · simp only [datCells, Dat.kind, Dat.neg, Dat.limbs, Dat.b, Dat.s, Dat.items, Dat.tail, List.length_append, List.length_nil]
    rfl
  · exact hr2.map (fun b _ hp => hp.1) (fun b o v hp hc => hu11.cell hc (fun hx => hp.2 (hS _ hx))) (fun cs d hd => (IsD.map (m := 1) (fun b _ hp => hp.1) (fun b o v hp hc => hu11.cell hc (fun hx => hp.2 (hS _ hx))) hd))
set_option maxRecDepth 100000 in
set_option maxHeartbeats 1500000 in
theorem joined_calls {w0 w : World} {n : Nat} {v : Value} {ds : List Dat} {cs : List Value} {t : Dat} (hO : OutRow w0 w n v ds) (hT : IsD w (fun b => w0.heap.size ≤ b ∧ v.ownBlock ≠ some b) n cs t) (hs : ds.length + t.items.length ≤ 100000) (hw : w0.heap.size ≤ w.heap.size) :
    Calls Try.prog 65 #[v, .agg cs.toArray] w fun e w' => (∃ cs', e = .returned (.agg cs'.toArray) ∧ IsD w' (fun b => w0.heap.size ≤ b) (n + 1) cs' (joinD ds t)) ∧ Upd v.ownBlock.toList w w' := by
  obtain ⟨a0, c0, rfl⟩ : ∃ a c, v = .slice a ds.length c := by
    obtain ⟨css, h1, h2, h3⟩ := hO
    rcases h3.2 with ⟨rfl, h0⟩ | ⟨g, c, _, rfl, _⟩
    · exact ⟨none, 0, by rw [h0]⟩
    · exact ⟨_, _, rfl⟩
  obtain ⟨v0, hv0⟩ : ∃ v0, v0 = Value.slice a0 ds.length c0 := ⟨_, rfl⟩
  have HV := Lib.hid hv0
  rw [← hv0] at hO hT
  obtain ⟨n, rfl⟩ : ∃ n', n = n' + 1 := by
    cases n with
    | zero => exact hT.elim
    | succ k => exact ⟨k, rfl⟩
  have hT0 := hT
  obtain ⟨aL, cL, aI, cI, aT, cT, rfl, l1, r1, r2, hcap, hbd⟩ := hT
  obtain ⟨kd, ng, ls, bb, ss, is, ts⟩ := t
  simp only [Dat.kind, Dat.neg, Dat.limbs, Dat.b, Dat.s, Dat.items, Dat.tail] at *
  have hB3 := Lib.hid ((Blk.new w (datCells kd ng aL ls.length cL bb ss aI is.length cI aT ts.length cT) 27).alloc (.cells (datCells 0 false none 0 0 false ByteArray.empty none 0 0 none 0 0).toArray 27))
  have hB4 : Hid (Blk ((w.alloc (.cells (datCells kd ng aL ls.length cL bb ss aI is.length cI aT ts.length cT).toArray 27)).alloc (.cells (datCells 0 false none 0 0 false ByteArray.empty none 0 0 none 0 0).toArray 27)) (w.heap.size + 1) (datCells 0 false none 0 0 false ByteArray.empty none 0 0 none 0 0) 27) := Lib.hid (Blk.newAt (by simp))
  have hU1 := Lib.hid (((Upd.refl [] w).alloc (.cells (datCells kd ng aL ls.length cL bb ss aI is.length cI aT ts.length cT).toArray 27)).alloc (.cells (datCells 0 false none 0 0 false ByteArray.empty none 0 0 none 0 0).toArray 27))
  have HO := Lib.hid hO
  have HT := Lib.hid hT0
  have HR := Lib.hid (And.intro r1 r2)
  have HC := Lib.hid hcap
  have HBD := Lib.hid hbd.2.2.2.2.2
  clear hO hT0 l1 r1 r2 hcap hbd hv0
  unfold datCells at *
  by_cases h0 : ds = []
  · subst h0
    have hj : joinD [] (.mk kd ng ls bb ss is ts) = .mk kd ng ls bb ss is ts := rfl
    rw [hj]
    go_enter Try.func65, Try.ntmps65
    go_wp2
    have hB : Blk ((w.alloc (.cells #[.int .i64 kd, .bool ng, .slice aL ls.length cL, .bool bb, .string ss, .slice aI is.length cI, .slice aT ts.length cT] 27)).alloc (.cells #[.int .i64 kd, .bool ng, .slice aL ls.length cL, .bool bb, .string ss, .slice aI is.length cI, .slice aT ts.length cT] 27)) (w.heap.size + 1) [.int .i64 kd, .bool ng, .slice aL ls.length cL, .bool bb, .string ss, .slice aI is.length cI, .slice aT ts.length cT] 27 := Blk.newAt (by simp)
    have k0 := hB.cell_some (i := 0) rfl
    have k1 := hB.cell_some (i := 1) rfl
    have k2 := hB.cell_some (i := 2) rfl
    have k3 := hB.cell_some (i := 3) rfl
    have k4 := hB.cell_some (i := 4) rfl
    have k5 := hB.cell_some (i := 5) rfl
    have k6 := hB.cell_some (i := 6) rfl
    have hu := ((Upd.refl (Value.slice a0 0 c0).ownBlock.toList w).alloc (.cells #[.int .i64 kd, .bool ng, .slice aL ls.length cL, .bool bb, .string ss, .slice aI is.length cI, .slice aT ts.length cT] 27)).alloc (.cells #[.int .i64 kd, .bool ng, .slice aL ls.length cL, .bool bb, .string ss, .slice aI is.length cI, .slice aT ts.length cT] 27)
    have hu0 := ((Upd.refl [] w).alloc (.cells #[.int .i64 kd, .bool ng, .slice aL ls.length cL, .bool bb, .string ss, .slice aI is.length cI, .slice aT ts.length cT] 27)).alloc (.cells #[.int .i64 kd, .bool ng, .slice aL ls.length cL, .bool bb, .string ss, .slice aI is.length cI, .slice aT ts.length cT] 27)
    refine bodyPost_ret (v := .agg #[.int .i64 kd, .bool ng, .slice aL ls.length cL, .bool bb, .string ss, .slice aI is.length cI, .slice aT ts.length cT]) ?_ rfl ⟨⟨[.int .i64 kd, .bool ng, .slice aL ls.length cL, .bool bb, .string ss, .slice aI is.length cI, .slice aT ts.length cT], rfl, ?_⟩, hu⟩
    · simp [results, Try.results65, go_sem, k0, k1, k2, k3, k4, k5, k6]
    · exact ((HT.out.upd hu0).mono fun b _ hp => hp.1).more 1
  · have hl0 : 0 < ds.length := List.length_pos_iff.2 h0
    have hne : ¬ ((ds.length : Nat) : Int) = 0 := by omega
    by_cases h5 : kd = 5
    · subst h5
      have hj : joinD ds (.mk 5 ng ls bb ss is ts) = .mk 5 false [] false ByteArray.empty (ds ++ is) ts := by simp [joinD, h0, Dat.kind, Dat.items, Dat.tail]
      rw [hj]
      go_enter Try.func65, Try.ntmps65
      go_wp2_with fail
      obtain ⟨W1, hW1⟩ : ∃ W1, W1 = (w.alloc (.cells #[.int .i64 5, .bool ng, .slice aL ls.length cL, .bool bb, .string ss, .slice aI is.length cI, .slice aT ts.length cT] 27)).alloc (.cells #[.int .i64 0, .bool false, .slice none 0 0, .bool false, .string ⟨#[]⟩, .slice none 0 0, .slice none 0 0] 27) := ⟨_, rfl⟩
      have hb3 : Blk W1 w.heap.size [.int .i64 5, .bool ng, .slice aL ls.length cL, .bool bb, .string ss, .slice aI is.length cI, .slice aT ts.length cT] 27 := by rw [hW1]; exact hB3.out
      have hb4 : Blk W1 (w.heap.size + 1) [.int .i64 0, .bool false, .slice none 0 0, .bool false, .string ⟨#[]⟩, .slice none 0 0, .slice none 0 0] 27 := by rw [hW1]; exact hB4.out
      have hu1 : Upd [] w W1 := by rw [hW1]; exact hU1.out
      have hsz1 : W1.heap.size = w.heap.size + 2 := by rw [hW1]; simp
      rw [← hW1]
      clear hW1 hB3 hB4 hU1
      have hUd : Upd [] w W1.drew := hu1.drew
      obtain ⟨css, k1, k2, k3⟩ := HO.out
      have hlo := k3.lt
      obtain ⟨ns, n1, n2, n3, n4, n5⟩ := HR.out.1.cells
      have hnone : aI = none → is.length = 0 := fun e => by
        cases is with
        | nil => rfl
        | cons x xs =>
          obtain ⟨_, _, _, e', _⟩ := HR.out.1 0 (by simp)
          rw [e] at e'
          cases e'
      have c5 : W1.cell? ⟨w.heap.size, 5, none⟩ = some (.slice aI is.length cI) := hb3.cell_some rfl
      have c6 : W1.cell? ⟨w.heap.size, 6, none⟩ = some (.slice aT ts.length cT) := hb3.cell_some rfl
      have hn3 : v0.ownBlock ≠ some w.heap.size := fun e => by have := (hlo _ e).2; omega
      have hn4 : v0.ownBlock ≠ some (w.heap.size + 1) := fun e => by have := (hlo _ e).2; omega
      have HOD : Hid (W1.drew.ownsRow w0.heap.size 27 7 v0 ds.length css.flatten) := Lib.hid (own_upd0 k3 hUd)
      have HN5 : Hid (∀ ad, aI = some ad → ∀ j u, ns.flatten[j]? = some u → W1.drew.cell? (ad.add j) = some u) := Lib.hid (fun ad e j u hj => hUd.cell (n5 ad e j u hj) (by simp))
      have HN3 := Lib.hid n3
      have HN4 := Lib.hid n4
      have HNN := Lib.hid hnone
      have HK := Lib.hid (And.intro k1 (And.intro k2 (And.intro n1 n2)))
      have HB3 := Lib.hid hb3
      have HB4 := Lib.hid hb4
      have HUD := Lib.hid hUd
      clear k1 k2 k3 n1 n2 n3 n4 n5 hnone hb3 hb4 hUd hu1
      go_region_law (refine' step_apps (W := W1.drew) (base := w0.heap.size) (v := .slice a0 ds.length c0) (n := ds.length) (m := is.length) (c := cI) (xs := css.flatten) (news := ns.flatten) (ap := aI) rfl (.tmp 14) (.tmp 16) rfl rfl rfl (by rw [← HV.out]; exact HOD.out) HN3.out HNN.out HN5.out HN4.out (by omega) (by simp; omega) ?_; intro a' c' w10 hO10 hgr10 hg10; rw [← HV.out] at hgr10 hg10; have hB10 := (Blk.drew HB3.out).of_eq (hgr10.block _ (Blk.drew HB3.out).lt (fun e => hn3 e.symm)); have hR10 := (Blk.drew HB4.out).of_eq (hgr10.block _ (Blk.drew HB4.out).lt (fun e => hn4 e.symm)); have c10 := hB10.cell_some (i := 6) rfl; have e0 := hR10.cell_some (i := 0) rfl; have e1 := hR10.cell_some (i := 1) rfl; have e2 := hR10.cell_some (i := 2) rfl; have e3 := hR10.cell_some (i := 3) rfl; have e4 := hR10.cell_some (i := 4) rfl; have e5 := hR10.cell_some (i := 5) rfl; have e6 := hR10.cell_some (i := 6) rfl; have f0 := hR10.free 0; have f1 := hR10.free 1; have f2 := hR10.free 2; have f3 := hR10.free 3; have f4 := hR10.free 4; have f5 := hR10.free 5; have f6 := hR10.free 6)
      all_goals
        have hu10 : Upd v0.ownBlock.toList w w10 := (HUD.out.mono (by simp)).then (Upd.of_grown hgr10 (fun k hk => by simp [hk]))
        have hz : (W1.drew).heap.size = w.heap.size + 2 := hsz1
        rw [hz] at hg10
        obtain ⟨hBf, hUf, hDf⟩ := join_fin hlo HK.out.1 HK.out.2.1 HK.out.2.2.1 HK.out.2.2.2 HR.out.2 hu10 hg10 hO10 hR10 hs HC.out.2.2 HBD.out
        have HF := Lib.hid (And.intro hBf (And.intro hUf hDf))
        clear hBf hUf hDf e0 e1 e2 e3 e4 e5 e6 f0 f1 f2 f3 f4 f5 f6 c10
        go_wp2
        obtain ⟨hBf, hUf, hDf⟩ := HF.out
        have k0 := hBf.cell_some (i := 0) rfl
        have k1 := hBf.cell_some (i := 1) rfl
        have k2 := hBf.cell_some (i := 2) rfl
        have k3 := hBf.cell_some (i := 3) rfl
        have k4 := hBf.cell_some (i := 4) rfl
        have k5 := hBf.cell_some (i := 5) rfl
        have k6 := hBf.cell_some (i := 6) rfl
        rw [HV.out] at hUf
        refine bodyPost_ret (v := .agg #[.int .i64 5, .bool false, .slice none 0 0, .bool false, .string ⟨#[]⟩, .slice a' (ds.length + is.length) c', .slice aT ts.length cT]) ?_ rfl ⟨⟨[.int .i64 5, .bool false, .slice none 0 0, .bool false, .string ⟨#[]⟩, .slice a' (ds.length + is.length) c', .slice aT ts.length cT], rfl, hDf⟩, hUf⟩
        simp [results, Try.results65, go_sem, k0, k1, k2, k3, k4, k5, k6]
    · have hj : joinD ds (.mk kd ng ls bb ss is ts) = .mk 5 false [] false ByteArray.empty ds [.mk kd ng ls bb ss is ts] := by simp [joinD, h0, Dat.kind, h5]
      rw [hj]
      go_enter Try.func65, Try.ntmps65
      go_wp2
      obtain ⟨W, hW⟩ : ∃ W, W = ((w.alloc (.cells #[.int .i64 kd, .bool ng, .slice aL ls.length cL, .bool bb, .string ss, .slice aI is.length cI, .slice aT ts.length cT] 27)).alloc (.cells #[.int .i64 5, .bool false, .slice none 0 0, .bool false, .string ⟨#[]⟩, .slice a0 ds.length c0, .slice (some ⟨w.heap.size + 1 + 1, 0, none⟩) 1 1] 27)).alloc (.cells #[.int .i64 kd, .bool ng, .slice aL ls.length cL, .bool bb, .string ss, .slice aI is.length cI, .slice aT ts.length cT] 27) := ⟨_, rfl⟩
      have hB : Blk W (w.heap.size + 1) [.int .i64 5, .bool false, .slice none 0 0, .bool false, .string ⟨#[]⟩, .slice a0 ds.length c0, .slice (some ⟨w.heap.size + 1 + 1, 0, none⟩) 1 1] 27 := by
        rw [hW]
        exact (Blk.newAt (by simp)).alloc _
      have hT2 : Blk W (w.heap.size + 1 + 1) [.int .i64 kd, .bool ng, .slice aL ls.length cL, .bool bb, .string ss, .slice aI is.length cI, .slice aT ts.length cT] 27 := by
        rw [hW]
        exact Blk.newAt (by simp)
      have hu : Upd [] w W := by
        rw [hW]
        exact (((Upd.refl [] w).alloc _).alloc _).alloc _
      rw [← hW]
      have k0 := hB.cell_some (i := 0) rfl
      have k1 := hB.cell_some (i := 1) rfl
      have k2 := hB.cell_some (i := 2) rfl
      have k3 := hB.cell_some (i := 3) rfl
      have k4 := hB.cell_some (i := 4) rfl
      have k5 := hB.cell_some (i := 5) rfl
      have k6 := hB.cell_some (i := 6) rfl
      have hO2 := HO.out.step hu (by simp)
      rw [HV.out] at hO2
      obtain ⟨a'', c'', e, hr, hc⟩ := hO2.row
      injection e with e1 e2 e3
      subst e1
      subst e3
      have hDT : IsD W (fun b => w0.heap.size ≤ b) (n + 1) _ _ := (HT.out.upd hu).mono fun b _ hp => hp.1
      refine bodyPost_ret (v := .agg #[.int .i64 5, .bool false, .slice none 0 0, .bool false, .string ⟨#[]⟩, .slice a0 ds.length c0, .slice (some ⟨w.heap.size + 1 + 1, 0, none⟩) 1 1]) ?_ rfl ⟨⟨[.int .i64 5, .bool false, .slice none 0 0, .bool false, .string ⟨#[]⟩, .slice a0 ds.length c0, .slice (some ⟨w.heap.size + 1 + 1, 0, none⟩) 1 1], rfl, ?_⟩, hu.mono (by simp)⟩
      · simp [results, Try.results65, go_sem, k0, k1, k2, k3, k4, k5, k6]
      · refine ⟨none, 0, a0, c0, some ⟨w.heap.size + 1 + 1, 0, none⟩, 1, rfl, fun i hi => absurd hi (by simp [Dat.limbs]), hr, fun i hi => ?_, ⟨by simp [Dat.limbs], hc, by simp [Dat.tail]⟩, by simp [Dat.kind], by simp [Dat.limbs], by simp [Dat.limbs], by simp [Dat.s, ByteArray.size], by simp only [Dat.items]; omega, by simp [Dat.tail]⟩
        have hi0 : i = 0 := by simpa [Dat.tail] using hi
        subst hi0
        exact ⟨w.heap.size + 1 + 1, 0, _, rfl, by omega, ⟨rfl, fun j _ => by rw [show 0 + 0 * 7 + j = j by omega, hT2.cell]⟩, hDT⟩
end Go.Proofs.Ythmpaepdbjldfaa
