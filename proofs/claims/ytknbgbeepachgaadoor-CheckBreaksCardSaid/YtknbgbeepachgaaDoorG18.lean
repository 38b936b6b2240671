/-
  Texts of this claim, merged: CbW, CbX. Lemmas and contracts; no conditions of our own.
-/
import Derived.Test.YtknbgbeepachgaaDoorG16
import Derived.Test.YtknbgbeepachgaaDoorG17
import Derived.Deep.RegionHeld3

/-
  What breaks a code that may be run: the walk, its parts.
-/
namespace Go.Proofs.YtknbgbeepachgaaDoor
open Go.RowKit Go.Shelf

theorem own_at0 {base n : Nat} {e : TypeId} {size : Nat} {W : World} (h : Blk W n [] e) (hb : base ≤ n) : W.ownsRow base e size (.slice (some ⟨n, 0, none⟩) 0 0) 0 [] :=
  ⟨by simp, .inr ⟨n, 0, #[], rfl, hb, h, Nat.le_refl _, by unfold maxLen; omega, by simp, by simp⟩⟩
theorem flat_len {α : Type} {k : Nat} {f : α → List Value} (hf : ∀ x, (f x).length = k) (xs : List α) : (xs.flatMap f).length = xs.length * k := by
  induction xs with
  | nil => simp
  | cons x xs ih => rw [List.flatMap_cons, List.length_append, hf, ih, List.length_cons, Nat.succ_mul]; omega
/-- The cells of a row, from its head on. -/
theorem rowK_news {α : Type} {w : World} {k : Nat} {f : α → List Value} {a : Option Addr} {xs : List α} (hf : ∀ x, (f x).length = k) (hk : 0 < k) (h : RowK w k f a xs) {ad : Addr} (ha : a = some ad) : ∀ j u, (xs.flatMap f)[j]? = some u → w.cell? (ad.add j) = some u := by
  intro j u hj
  have hlt := (List.getElem?_eq_some_iff.1 hj).1
  rw [flat_len hf] at hlt
  have hi : j / k < xs.length := Nat.div_lt_of_lt_mul (by rw [Nat.mul_comm]; exact hlt)
  have hm := Nat.mod_lt j hk
  have e := flat_at hf xs (j / k) (j % k) hi hm
  have ed : j / k * k + j % k = j := by rw [Nat.mul_comm]; exact Nat.div_add_mod j k
  rw [ed, hj] at e
  obtain ⟨b, o, e2, hc⟩ := h (j / k) xs[j / k] (List.getElem?_eq_getElem hi)
  rw [List.getElem?_eq_getElem hi] at e
  have e3 : some u = (f xs[j / k])[j % k]? := e
  rw [e2] at ha
  injection ha with ha
  subst ha
  have : (⟨b, o, none⟩ : Addr).add j = ⟨b, o + j / k * k + j % k, none⟩ := by
    have : o + j / k * k + j % k = o + j := by omega
    rw [this]
    unfold Addr.add
    split <;> simp_all
  rw [this, hc _ hm, ← e3]
/-- A row of instructions appended to an empty one that was made here. -/
theorem step_ins {w W : World} {g0 : Addr} {n c : Nat} {cells : List Value} {ops : Array Oper} {o : Oper} {a : Act} {K : Act → World → Prop} {Q : Exit → Act → World → Prop} {E : Prop} (hgd : o.guard = none) (s x : Operand)
    (ho : o.op = .call { callee := .builtin .append, args := #[s, x], argTypes := #[22, 22] })
    (hn : 0 < n) (hn2 : n ≤ 100000) (h3 : cells.length = n * 3) (h1 : ∀ u ∈ cells, u.oneCell' = true)
    (k : Nat) (hs : a.eval s = .slice (some ⟨k, 0, none⟩) 0 0) (hx : a.eval x = .slice (some g0) n c)
    (hu : Upd [] w W) (hk : Blk W k [] 47) (hkb : w.heap.size ≤ k) (HC : ∀ j u, cells[j]? = some u → W.cell? (g0.add j) = some u)
    (h : ∀ g cap w3, w3.ownsRow w.heap.size 47 3 (.slice (some ⟨g, 0, none⟩) n cap) n cells → Upd [k] W w3 → w.heap.size ≤ g → (k = g ∨ g = W.heap.size) → K (a.put o.dst (.slice (some ⟨g, 0, none⟩) n cap)) w3) :
    if Region.wanted o (yielded ops a.tmps) = true then Oper.wp Tryd.prog o a W K Q else E := by
  obtain ⟨i0, hi, hz0, hz1, hz2⟩ := info_parts info_ins
  have hsz := hu.size
  refine step_append_lies _ hgd s x 22 ho w.heap.size 47 i0 _ 3 24 Tryd.underlying22 hi hz0 hz1 hz2 (by rfl) (by decide) (.slice (some ⟨k, 0, none⟩) 0 0) 0 [] hs (own_at0 hk hkb) g0 n c cells hx h3 HC h1 hn (by unfold maxLen; omega) (by omega) hsz _ rfl ?_
  intro g cap w3 hown hgr hg hlt
  simp only [Nat.zero_add, List.nil_append] at hown ⊢
  have hgg : k = g ∨ g = W.heap.size := by
    rcases hg with e | e
    · exact .inl (Option.some.inj e)
    · exact .inr e
  have hgr2 : World.grownBy W w3 (some k) := hgr
  exact h g cap w3 hown (Upd.of_grown hgr2 (fun j hj => by rw [Option.some.inj hj]; simp)) (by omega) hgg
/-- Another code in memory, its instructions one's own. -/
structure Made5 (w : World) (n : Nat) (aB aC : Option Addr) (nB cB nC cC : Nat) (cells : List Value) (W : World) (p g cap : Nat) : Prop where
  own : W.ownsRow w.heap.size 47 3 (.slice (some ⟨g, 0, none⟩) n cap) n cells
  box : Blk W p [.slice (some ⟨g, 0, none⟩) n cap, .slice aB nB cB, .slice aC nC cC] 26
  upd : Upd [] w W
  new : w.heap.size ≤ p
theorem Made5.ne {w : World} {n : Nat} {aB aC : Option Addr} {nB cB nC cC : Nat} {cells : List Value} {W : World} {p g cap : Nat} (h : Made5 w n aB aC nB cB nC cC cells W p g cap) : p ≠ g := by
  rintro rfl
  rcases h.own.2 with ⟨h', _⟩ | ⟨g', cap', cur, h', hb, hg, _⟩
  · cases h'
  · simp only [Value.slice.injEq, Option.some.injEq, Addr.mk.injEq, and_true, true_and] at h'
    obtain ⟨rfl, _⟩ := h'
    have : Blk W p cur.toList 47 := by
      unfold Blk
      simpa using hg
    exact absurd (this.inj h.box).2 (by decide)
/-- Made before the row grew. -/
theorem made5_old {w W w3 : World} {n k A g cap : Nat} {aB aC : Option Addr} {nB cB nC cC : Nat} {cells : List Value} (hu : Upd [] w W) (hA : Blk W A [.slice none 0 0, .slice none 0 0, .slice none 0 0] 26) (hAk : A ≠ k) (hAw : w.heap.size ≤ A) (hkw : w.heap.size ≤ k)
    (hown : w3.ownsRow w.heap.size 47 3 (.slice (some ⟨g, 0, none⟩) n cap) n cells) (hgr : Upd [k] W w3) (hg : k = g ∨ g = W.heap.size) :
    Made5 w n aB aC nB cB nC cC cells (((w3.setCell ⟨A, 0, none⟩ (.slice (some ⟨g, 0, none⟩) n cap)).setCell ⟨A, 1, none⟩ (.slice aB nB cB)).setCell ⟨A, 2, none⟩ (.slice aC nC cC)) A g cap := by
  have hA3 := hgr.blk hA (fun e => hAk (List.mem_singleton.1 e))
  have hlt := hA.lt
  have hs : Upd [A] w3 (((w3.setCell ⟨A, 0, none⟩ (.slice (some ⟨g, 0, none⟩) n cap)).setCell ⟨A, 1, none⟩ (.slice aB nB cB)).setCell ⟨A, 2, none⟩ (.slice aC nC cC)) := (((Upd.refl [A] w3).setCell _ (.inl (by simp))).setCell _ (.inl (by simp))).setCell _ (.inl (by simp))
  refine ⟨own_upd hown hs (fun g' e => ?_), ((hA3.set 0 _).set 1 _).set 2 _, (hu.onto hgr (fun x hx => by rw [List.mem_singleton.1 hx]; exact hkw)).onto hs (fun x hx => by rw [List.mem_singleton.1 hx]; exact hAw), hAw⟩
  have e2 : g = g' := Option.some.inj e
  intro hx
  have := List.mem_singleton.1 hx
  omega
/-- Made behind it. -/
theorem made5_new {w W w3 : World} {n k g cap : Nat} {aB aC : Option Addr} {nB cB nC cC : Nat} {cells : List Value} (hu : Upd [] w W) (hkw : w.heap.size ≤ k)
    (hown : w3.ownsRow w.heap.size 47 3 (.slice (some ⟨g, 0, none⟩) n cap) n cells) (hgr : Upd [k] W w3) :
    Made5 w n aB aC nB cB nC cC cells (w3.alloc (.cells #[.slice (some ⟨g, 0, none⟩) n cap, .slice aB nB cB, .slice aC nC cC] 26)) w3.heap.size g cap :=
  ⟨own_upd0 hown ((Upd.refl [] w3).alloc _), Blk.newAt rfl, (hu.onto hgr (fun x hx => by rw [List.mem_singleton.1 hx]; exact hkw)).alloc _, Nat.le_trans hu.size hgr.size⟩
theorem flat_set {α : Type} {k : Nat} {f : α → List Value} (hf : ∀ x, (f x).length = k) : ∀ (xs : List α) (i j : Nat) (y : α) (v : Value) (hi : i < xs.length), j < k → f y = (f (xs[i]'hi)).set j v → (xs.flatMap f).set (i * k + j) v = (xs.set i y).flatMap f
  | [], i, j, _, _, hi, _, _ => by simp at hi
  | x :: xs, 0, j, y, v, _, hj, hy => by
    rw [List.set_cons_zero, List.flatMap_cons, List.flatMap_cons, Nat.zero_mul, Nat.zero_add, List.set_append_left _ _ (by rw [hf]; exact hj)]
    rw [hy]
    rfl
  | x :: xs, i + 1, j, y, v, hi, hj, hy => by
    rw [List.set_cons_succ, List.flatMap_cons, List.flatMap_cons, List.set_append_right _ _ (by rw [hf, Nat.succ_mul]; omega), hf, show (i + 1) * k + j - k = i * k + j by rw [Nat.succ_mul]; omega]
    rw [flat_set hf xs i j y v (by simpa using hi) hj (by simpa using hy)]
end Go.Proofs.YtknbgbeepachgaaDoor

/-
  CheckBreaks: the walk.
-/
namespace Go.Proofs.YtknbgbeepachgaaDoor
open Go.RowKit Go.Shelf

theorem blk_nil {w : World} {b : Nat} {t : TypeId} (hb : b = w.heap.size) : Blk (w.alloc (.cells #[] t)) b [] t := Blk.newAt hb
theorem blk_zero {w : World} {b : Nat} {t : TypeId} {x y z : Value} (hb : b = w.heap.size) : Blk (w.alloc (.cells #[x, y, z] t)) b [x, y, z] t := Blk.newAt hb
theorem up_of {w W w10 : World} {k : Nat} (_ : Upd [k] W w10) (h : Upd [] w W) : Upd [] w W := h
theorem blk_of {W w10 : World} {k A : Nat} {cs : List Value} {t : TypeId} (h : Upd [k] W w10) (hA : Blk W A cs t) (hn : A ≠ k) : Blk w10 A cs t ∧ Blk W A cs t := ⟨h.blk hA (fun e => hn (List.mem_singleton.1 e)), hA⟩
theorem sz_lt {w3 w10 : World} {n g cap : Nat} {xs : List Value} {t : TypeId} {sz : Nat} (hO : w10.ownsRow w3.heap.size t sz (.slice (some ⟨g, 0, none⟩) n cap) n xs) : w3.heap.size < w10.heap.size := by
  have h1 := hO.lt g rfl
  omega
theorem set3 {w : World} {b A o : Nat} {u v0 v1 v2 : Value} (h : w.cell? ⟨b, o, none⟩ = some u) (hn : ¬ b = A) : (((w.setCell ⟨A, 0, none⟩ v0).setCell ⟨A, 1, none⟩ v1).setCell ⟨A, 2, none⟩ v2).cell? ⟨b, o, none⟩ = some u :=
  (((((Upd.refl [A] w).setCell (p := ⟨A, 0, none⟩) v0 (.inl (by simp))).setCell (p := ⟨A, 1, none⟩) v1 (.inl (by simp))).setCell (p := ⟨A, 2, none⟩) v2 (.inl (by simp))).cell h (by simpa using hn))
/-- The instruction that is named, where it lies. -/
theorem made5_at {w3 W5 : World} {nI : Nat} {aB aC : Option Addr} {nB cB nC cC : Nat} {p g cap : Nat} {c : CodeV} {i : Nat} (h : Made5 w3 nI aB aC nB cB nC cC (c.ins.flatMap insCells) W5 p g cap) (hn : nI = c.ins.length) (hi : i < nI) :
    W5.cell? ⟨g, i * 3, none⟩ = some (.int .i64 (c.ins.getD i default).op) ∧ W5.cell? ⟨g, i * 3 + 1, none⟩ = some (.int .i64 (c.ins.getD i default).a) := by
  have e : c.ins.getD i default = c.ins[i]'(by omega) := by simp [List.getD_eq_getElem?_getD, show i < c.ins.length by omega]
  have h0 := flat_at (k := 3) (f := insCells) (fun _ => rfl) c.ins i 0 (by omega) (by omega)
  have h1 := flat_at (k := 3) (f := insCells) (fun _ => rfl) c.ins i 1 (by omega) (by omega)
  rw [List.getElem?_eq_getElem (show i < c.ins.length by omega)] at h0 h1
  rw [e]
  exact ⟨by rw [h.own.cellAt (i * 3) (by omega)]; exact h0, by rw [h.own.cellAt (i * 3 + 1) (by omega)]; exact h1⟩
/-- Behind the store: a code that names what is not there. -/
theorem made5_break {w w3 W5 : World} {n nI : Nat} {aI aB aC : Option Addr} {nB cB nC cC : Nat} {p g cap : Nat} {c : CodeV} {i : Nat} (hc : ∀ W, Upd [] w W → IsC W n aI aB aC c) (hu : Upd [] w w3) (h : Made5 w3 nI aB aC nB cB nC cC (c.ins.flatMap insCells) W5 p g cap) (hn : nI = c.ins.length) (hi : i < nI) :
    IsC (W5.setCell ⟨g, i * 3 + 1, none⟩ (.int .i64 999999)) n (some ⟨g, 0, none⟩) aB aC (breakC c i) ∧ Upd [] w3 (W5.setCell ⟨g, i * 3 + 1, none⟩ (.int .i64 999999)) ∧ Blk (W5.setCell ⟨g, i * 3 + 1, none⟩ (.int .i64 999999)) p [.slice (some ⟨g, 0, none⟩) nI cap, .slice aB nB cB, .slice aC nC cC] 26 := by
  have hg := h.own.lt g rfl
  have hu6 : Upd [] w3 (W5.setCell ⟨g, i * 3 + 1, none⟩ (.int .i64 999999)) := h.upd.setCell (p := ⟨g, i * 3 + 1, none⟩) _ (.inr hg.1)
  have hC := hc _ (hu.then hu6)
  have ho := (h.own.stored (i * 3 + 1) (.int .i64 999999)).1
  have hil : i < c.ins.length := by omega
  have e : c.ins.getD i default = c.ins[i] := by simp [List.getD_eq_getElem?_getD, hil]
  rw [flat_set (k := 3) (f := insCells) (fun _ => rfl) c.ins i 1 ⟨(c.ins.getD i default).op, 999999, (c.ins.getD i default).b⟩ _ hil (by omega) (by rw [e]; rfl)] at ho
  have hx := hC.insOk (c.ins.getD i default) (by rw [e]; exact List.getElem_mem hil)
  refine ⟨⟨rowK_own (fun _ => rfl) ho, hC.blks, hC.cons, fun x hx' => ?_, hC.blksOk, ?_, hC.nB, hC.nC⟩, hu6, h.box.set_other _ (by simpa using h.ne)⟩
  · rcases List.mem_or_eq_of_mem_set hx' with h1 | rfl
    · exact hC.insOk x h1
    · exact ⟨hx.1, ⟨show -9223372036854775808 ≤ (999999 : Int) by decide, show (999999 : Int) ≤ 9223372036854775807 by decide⟩, hx.2.2⟩
  · have : (breakC c i).ins.length = c.ins.length := List.length_set
    rw [this]
    exact hC.nI
set_option maxRecDepth 100000 in
set_option maxHeartbeats 4000000 in
theorem breaks_walk {w : World} {n : Nat} {aI aB aC : Option Addr} (cI cB cC : Nat) {c : CodeV} (which : Int) (hw : (Lit.int .u64 which).wf = true) (h : IsC w n aI aB aC c) (hT : Tabs w) :
    Calls Tryd.prog 5 #[.agg #[.slice aI c.ins.length cI, .slice aB c.blks.length cB, .slice aC c.cons.length cC], .int .u64 which] w fun e w' => e = .returned (.bool true) ∧ Upd [] w w' := by
  have hBx : Blk (w.alloc (.cells #[.slice aI c.ins.length cI, .slice aB c.blks.length cB, .slice aC c.cons.length cC] 26)) w.heap.size [.slice aI c.ins.length cI, .slice aB c.blks.length cB, .slice aC c.cons.length cC] 26 := Blk.newAt rfl
  have hu1 : Upd [] w (w.alloc (.cells #[.slice aI c.ins.length cI, .slice aB c.blks.length cB, .slice aC c.cons.length cC] 26)) := (Upd.refl [] w).alloc _
  have HL := Lib.hid (light16_calls cI cB cC (h.upd hu1))
  have HH := Lib.hid (fun (W : World) (hu : Upd [] w W) => h.upd hu)
  have HT := Lib.hid (fun (W : World) (hu : Upd [] w W) => hT.upd hu)
  have HV := Lib.hid (fun (W : World) (hu : Upd [] w W) => lives16_calls (hT.upd hu))
  have HBX := Lib.hid hBx
  have HU1 := Lib.hid hu1
  have hwb := bounds_u64 hw
  clear h hT hBx hu1 hw
  unfold BoolIf at HL
  obtain ⟨nI, hI⟩ : ∃ nI, nI = c.ins.length := ⟨_, rfl⟩
  obtain ⟨nB, hB⟩ : ∃ nB, nB = c.blks.length := ⟨_, rfl⟩
  obtain ⟨nC, hC⟩ : ∃ nC, nC = c.cons.length := ⟨_, rfl⟩
  rw [← hI, ← hB, ← hC] at HL HBX HU1 ⊢
  have HNI := Lib.hid hI
  have HNB := Lib.hid hB
  have HNC := Lib.hid hC
  clear hI hB hC
  go_enter Tryd.func5, Tryd.ntmps5
  go_wp2_with fail
  refine HL.out.mono ?_
  rintro e w2 ⟨⟨r, rfl, hr⟩, hu2⟩
  have HBX2 := Lib.hid (hu2.blk HBX.out (by simp))
  have HU2 := Lib.hid (HU1.out.then hu2)
  have HR := Lib.hid hr
  clear hu2 hr HL HBX HU1
  cases r with
  | false =>
    clear HR
    go_wp2_with fail
    refine (HV.out _ HU2.out).mono ?_
    rintro e w3 ⟨rfl, hu3⟩
    have HU3 := Lib.hid (HU2.out.then hu3)
    clear hu3
    go_wp2
    go_ret
    exact ⟨rfl, HU3.out⟩
  | true =>
    obtain ⟨hnI, hnB, hlit⟩ := HR.out rfl
    have HLI := Lib.hid hlit
    clear HR hlit
    have hdp := depths2_calls cI cB cC (HH.out _ HU2.out) HLI.out (HT.out _ HU2.out)
    rw [← HNI.out, ← HNB.out, ← HNC.out] at hdp
    have HDP := Lib.hid hdp
    have x0 := HBX2.out.cell_some (i := 0) rfl
    have x1 := HBX2.out.cell_some (i := 1) rfl
    have x2 := HBX2.out.cell_some (i := 2) rfl
    clear hdp
    go_wp2_with fail
    refine HDP.out.mono ?_
    rintro e w3 ⟨⟨a, cap, rfl, hD⟩, hu3⟩
    have HBX3 := Lib.hid (hu3.blk HBX2.out (by simp))
    have HU3 := Lib.hid (HU2.out.then hu3)
    have HD := Lib.hid hD
    clear hu3 hD HDP HBX2 HU2 x0 x1 x2
    have x0 := HBX3.out.cell_some (i := 0) rfl
    have x1 := HBX3.out.cell_some (i := 1) rfl
    have x2 := HBX3.out.cell_some (i := 2) rfl
    rcases depths_e (n := n) c with he | ⟨he, hde⟩
    · have hlen : (depthsF n c).deep.length = nI := by rw [depths_len he, HNI.out]
      have HE := Lib.hid he
      have HLEN := Lib.hid hlen
      rw [he, hlen]
      clear he hlen
      by_cases h0 : nI = 0
      · have h0' : ((nI : Int) == 0) = true := by simpa using h0
        clear h0
        go_wp2_with fail
        refine (HV.out _ HU3.out).mono ?_
        rintro e w4 ⟨rfl, hu4⟩
        have HU4 := Lib.hid (HU3.out.then hu4)
        clear hu4
        go_wp2
        go_ret
        exact ⟨rfl, HU4.out⟩
      · have h0' : ((nI : Int) == 0) = false := by simpa using h0
        have hnIp : (0 : Int) < (nI : Int) := by omega
        obtain ⟨i, hi⟩ : ∃ i : Nat, i = (which % (nI : Int)).toNat := ⟨_, rfl⟩
        have hi2 : which % (nI : Int) = (i : Int) := by
          have := Int.emod_nonneg which (show (nI : Int) ≠ 0 by omega)
          omega
        have hi3 : i < nI := by
          have := Int.emod_lt_of_pos which hnIp
          omega
        clear hi h0
        go_wp2_with fail
        obtain ⟨bI, oI, eI, _, _, _⟩ := insAt_get (HH.out _ HU3.out).ins (i := 0) (by rw [← HNI.out]; omega)
        obtain ⟨ad, had⟩ : ∃ ad : Addr, ad = ⟨bI, oI, none⟩ := ⟨_, rfl⟩
        rw [← had] at eI
        clear had
        obtain ⟨CL, hCL⟩ : ∃ CL, CL = c.ins.flatMap insCells := ⟨_, rfl⟩
        have HCL3 : Hid (CL.length = nI * 3) := Lib.hid (by rw [hCL, flat_len (k := 3) (fun _ => rfl), HNI.out])
        have HCL1 : Hid (∀ u ∈ CL, u.oneCell' = true) := Lib.hid (fun u hu => by
          rw [hCL] at hu
          obtain ⟨x, _, hx⟩ := List.mem_flatMap.1 hu
          simp [insCells] at hx
          rcases hx with rfl | rfl | rfl <;> rfl)
        have HCN : Hid (∀ W, Upd [] w W → ∀ j u, CL[j]? = some u → W.cell? (ad.add j) = some u) := Lib.hid (fun W hu => by
          rw [hCL]
          exact rowK_news (k := 3) (fun _ => rfl) (by decide) (HH.out W hu).ins eI)
        have HCL := Lib.hid hCL
        subst eI
        have HU3b : Hid (∀ (W : World) {w10 : World} {k : Nat}, Upd [] w3 W → Upd [k] W w10 → w3.heap.size ≤ k → Blk w10 w.heap.size [.slice (some ad) nI cI, .slice aB nB cB, .slice aC nC cC] 26) := Lib.hid (fun W w10 k h1 h2 h3 => h2.blk (h1.blk HBX3.out (by simp)) (fun h => by
          have := List.mem_singleton.1 h
          have := HBX3.out.lt
          omega))
        have l0 := HBX3.out.lt
        have l1 : w.heap.size < w3.heap.size + 1 := by omega
        have l2 : w.heap.size < w3.heap.size + 1 + 1 := by omega
        have hnp : 0 < nI := by omega
        have hn2 : nI ≤ 100000 := by omega
        clear hCL
        have n0 : ¬ w.heap.size = w3.heap.size := by omega
        have n1 : ¬ w.heap.size = w3.heap.size + 1 := by omega
        go_region_held3 (fun w' => w'.cell? ⟨w.heap.size, 0, none⟩ = some (.slice (some ad) nI cI) ∧ w'.cell? ⟨w.heap.size, 1, none⟩ = some (.slice aB nB cB) ∧ w'.cell? ⟨w.heap.size, 2, none⟩ = some (.slice aC nC cC)) (first | with_reducible exact ⟨x0, x1, x2⟩ | with_reducible exact ⟨z0, z1, z2⟩ | with_reducible exact ⟨set3 z0 n1, set3 z1 n1, set3 z2 n1⟩ | with_reducible exact ⟨set3 z0 n0, set3 z1 n0, set3 z2 n0⟩ | go_keep) (first
          | (refine' step_ins (w := w3) (g0 := ad) (n := nI) (c := cI) (cells := CL) rfl (.tmp 45) (.tmp 47) rfl hnp hn2 HCL3.out HCL1.out (w3.heap.size + 1) rfl rfl ?_ ?_ (Nat.le_succ _) ?_ ?_; (focus ((repeat (first | with_reducible exact Upd.refl _ _ | with_reducible apply Upd.drew | with_reducible apply Upd.alloc)); done)); (focus ((repeat (first | ((with_reducible refine blk_nil ?_); (focus (first | (simp; done) | rfl))) | with_reducible apply Blk.drew | with_reducible apply Blk.alloc)); done)); (focus (refine HCN.out _ (HU3.out.then ?_); (focus ((repeat (first | with_reducible exact Upd.refl _ _ | with_reducible apply Upd.drew | with_reducible apply Upd.alloc)); done)))); (focus (intro g cap w10 hO10 hG10 hgg10 hg10; have hW10 := Lib.hid (up_of (w := w3) hG10 (by (repeat (first | with_reducible exact Upd.refl _ _ | with_reducible apply Upd.drew | with_reducible apply Upd.alloc)); done)); have hX10 := HU3b.out _ hW10.out hG10 (by omega); have z0 := hX10.cell_some (i := 0) rfl; have z1 := hX10.cell_some (i := 1) rfl; have z2 := hX10.cell_some (i := 2) rfl; have hA10 := blk_of hG10 (A := w3.heap.size) (by (repeat (first | ((with_reducible refine blk_zero ?_); (focus (first | (simp; done) | rfl))) | with_reducible apply Blk.drew | with_reducible apply Blk.alloc)); done) (by omega); have v0 := hA10.1.cell_some (i := 0) rfl; have v1 := hA10.1.cell_some (i := 1) rfl; have v2 := hA10.1.cell_some (i := 2) rfl; have q0 := hA10.1.free 0; have q1 := hA10.1.free 1; have q2 := hA10.1.free 2; have hM10 := made5_old (n := nI) (aB := aB) (aC := aC) (nB := nB) (cB := cB) (nC := nC) (cC := cC) (A := w3.heap.size) hW10.out hA10.2 (by omega) (by omega) (by omega) hO10 hG10 hg10; have HM := Lib.hid hM10; clear hM10 hO10 hG10 hgg10 hg10 hA10)))
          | (refine' step_ins (w := w3) (g0 := ad) (n := nI) (c := cI) (cells := CL) rfl (.tmp 45) (.tmp 47) rfl hnp hn2 HCL3.out HCL1.out (w3.heap.size) rfl rfl ?_ ?_ (Nat.le_refl _) ?_ ?_; (focus ((repeat (first | with_reducible exact Upd.refl _ _ | with_reducible apply Upd.drew | with_reducible apply Upd.alloc)); done)); (focus ((repeat (first | ((with_reducible refine blk_nil ?_); (focus (first | (simp; done) | rfl))) | with_reducible apply Blk.drew | with_reducible apply Blk.alloc)); done)); (focus (refine HCN.out _ (HU3.out.then ?_); (focus ((repeat (first | with_reducible exact Upd.refl _ _ | with_reducible apply Upd.drew | with_reducible apply Upd.alloc)); done)))); (focus (intro g cap w10 hO10 hG10 hgg10 hg10; have hW10 := Lib.hid (up_of (w := w3) hG10 (by (repeat (first | with_reducible exact Upd.refl _ _ | with_reducible apply Upd.drew | with_reducible apply Upd.alloc)); done)); have hX10 := HU3b.out _ hW10.out hG10 (by omega); have z0 := hX10.cell_some (i := 0) rfl; have z1 := hX10.cell_some (i := 1) rfl; have z2 := hX10.cell_some (i := 2) rfl; have hA10 := blk_of hG10 (A := w3.heap.size + 1) (by (repeat (first | ((with_reducible refine blk_zero ?_); (focus (first | (simp; done) | rfl))) | with_reducible apply Blk.drew | with_reducible apply Blk.alloc)); done) (by omega); have v0 := hA10.1.cell_some (i := 0) rfl; have v1 := hA10.1.cell_some (i := 1) rfl; have v2 := hA10.1.cell_some (i := 2) rfl; have q0 := hA10.1.free 0; have q1 := hA10.1.free 1; have q2 := hA10.1.free 2; have hM10 := made5_old (n := nI) (aB := aB) (aC := aC) (nB := nB) (cB := cB) (nC := nC) (cC := cC) (A := w3.heap.size + 1) hW10.out hA10.2 (by omega) (by omega) (by omega) hO10 hG10 hg10; have HM := Lib.hid hM10; clear hM10 hO10 hG10 hgg10 hg10 hA10)))
          | (refine' step_ins (w := w3) (g0 := ad) (n := nI) (c := cI) (cells := CL) rfl (.tmp 45) (.tmp 47) rfl hnp hn2 HCL3.out HCL1.out (w3.heap.size) rfl rfl ?_ ?_ (Nat.le_refl _) ?_ ?_; (focus ((repeat (first | with_reducible exact Upd.refl _ _ | with_reducible apply Upd.drew | with_reducible apply Upd.alloc)); done)); (focus ((repeat (first | ((with_reducible refine blk_nil ?_); (focus (first | (simp; done) | rfl))) | with_reducible apply Blk.drew | with_reducible apply Blk.alloc)); done)); (focus (refine HCN.out _ (HU3.out.then ?_); (focus ((repeat (first | with_reducible exact Upd.refl _ _ | with_reducible apply Upd.drew | with_reducible apply Upd.alloc)); done)))); (focus (intro g cap w10 hO10 hG10 hgg10 hg10; have hW10 := Lib.hid (up_of (w := w3) hG10 (by (repeat (first | with_reducible exact Upd.refl _ _ | with_reducible apply Upd.drew | with_reducible apply Upd.alloc)); done)); have hX10 := HU3b.out _ hW10.out hG10 (by omega); have z0 := hX10.cell_some (i := 0) rfl; have z1 := hX10.cell_some (i := 1) rfl; have z2 := hX10.cell_some (i := 2) rfl; have hM10 := made5_new (n := nI) (aB := aB) (aC := aC) (nB := nB) (cB := cB) (nC := nC) (cC := cC) hW10.out (Nat.le_refl _) hO10 hG10; have HM := Lib.hid hM10; have hl10 : w3.heap.size < w10.heap.size := sz_lt hO10; have hl11 : w.heap.size < w10.heap.size := (by omega); have n2 : ¬ w.heap.size = w10.heap.size := (by omega); clear hM10 hO10 hG10 hgg10 hg10))))
        · generalize w10.alloc (.cells #[.slice (some ⟨g, 0, none⟩) nI cap, .slice aB nB cB, .slice aC nC cC] 26) = W5 at HM ⊢
          generalize w10.heap.size = p at HM ⊢
          clear n2 hl10 hl11
          have hM := HM.out
          rw [HCL.out] at hM
          have y0 := hM.box.cell_some (i := 0) rfl
          have hat := made5_at hM HNI.out hi3
          have hgl := (hM.own.lt g rfl).1
          have fg := hM.own.frozenAt (i * 3 + 1)
          obtain ⟨hbk, hbu, hbb⟩ := made5_break (i := i) HH.out HU3.out hM HNI.out hi3
          obtain ⟨xo, hxo⟩ : ∃ xo, xo = (c.ins.getD i default).op := ⟨_, rfl⟩
          obtain ⟨z0, z1⟩ := hat
          rw [← hxo] at z0
          have hi4 : (i : Int) < (nI : Int) := by omega
          have HBK := Lib.hid (And.intro hbk (And.intro hbu hbb))
          have HXO := Lib.hid hxo
          have HU5 := Lib.hid (HU3.out.then hM.upd)
          clear hM hbk hbu hbb hxo x0 x1 x2
          by_cases q : xo = 11 ∨ xo = 12 ∨ xo = 9 ∨ xo = 10
          · clear HBK
            have HL5 := Lib.hid (HV.out _ HU5.out)
            rcases q with rfl | rfl | rfl | rfl
            all_goals
              go_wp2_with fail
              refine HL5.out.mono ?_
              rintro e w6 ⟨rfl, hu6⟩
              have HU6 := Lib.hid (HU5.out.then hu6)
              clear hu6 HL5
              go_wp2
              go_ret
              exact ⟨rfl, HU6.out⟩
          · have b11 : (xo == 11) = false := by simpa using fun e => q (.inl e)
            have b12 : (xo == 12) = false := by simpa using fun e => q (.inr (.inl e))
            have b9 : (xo == 9) = false := by simpa using fun e => q (.inr (.inr (.inl e)))
            have b10 : (xo == 10) = false := by simpa using fun e => q (.inr (.inr (.inr e)))
            have hsh := depths_shape HE.out
            have hxk := (CodeOk.of (n := n) (c := c) (by unfold shapeF at hsh; simp only [Bool.and_eq_true] at hsh; exact hsh.1.1)).at (i := i) (by rw [← HNI.out]; exact hi3)
            have hop8 : (c.ins.getD i default).op ≤ 8 := by
              have h1 := hxk.op2
              have h2 := HXO.out
              omega
            have hbs := breaks_said HLI.out (i := i) (by rw [← HNI.out]; exact hi3) hop8 HE.out
            have hli : Lit' n (breakC c i) := ⟨by rw [show (breakC c i).ins.length = c.ins.length from List.length_set]; exact HLI.out.nI, HLI.out.nB, HLI.out.nC, HLI.out.cons⟩
            have hck := check_calls cap cB cC HBK.out.1 hli (HT.out _ (HU3.out.then HBK.out.2.1))
            rw [show (breakC c i).ins.length = nI by rw [HNI.out]; exact List.length_set, show (breakC c i).blks.length = nB from HNB.out.symm, show (breakC c i).cons.length = nC from HNC.out.symm] at hck
            obtain ⟨D, hDa, hDb⟩ := HD.out (by rw [HLEN.out]; omega)
            subst hDa
            have hDc : ∀ W, Upd [] w3 W → W.cell? ⟨D, i, none⟩ = some (.int .i64 ((depthsF n c).deep.getD i 0)) := fun W hu => (hu.blk hDb (by simp)).cell_some (by
              rw [map_int_get, List.getElem?_eq_getElem (by rw [HLEN.out]; exact hi3)]
              simp [List.getD_eq_getElem?_getD, show i < (depthsF n c).deep.length by rw [HLEN.out]; exact hi3])
            obtain ⟨li, hli9⟩ : ∃ li, li = (depthsF n c).deep.getD i 0 := ⟨_, rfl⟩
            rw [← hli9] at hbs hDc
            obtain ⟨RB, hRB⟩ : ∃ RB, RB = depthsF n (breakC c i) := ⟨_, rfl⟩
            rw [← hRB] at hck hbs
            have HCK := Lib.hid hck
            have HBS := Lib.hid hbs
            have HDC := Lib.hid hDc
            have b0 := HBK.out.2.2.cell_some (i := 0) rfl
            have b1 := HBK.out.2.2.cell_some (i := 1) rfl
            have b2 := HBK.out.2.2.cell_some (i := 2) rfl
            have HB6 := Lib.hid HBK.out.2.1
            clear hsh hxk hop8 hbs hli hck hDb hDc hli9 hRB HBK HXO q
            go_wp2_with fail
            refine HCK.out.mono ?_
            rintro e w7 ⟨rfl, hu7⟩
            have cD := HDC.out w7 (HB6.out.then hu7)
            have HU7 := Lib.hid (HU3.out.then (HB6.out.then hu7))
            have HL7 := Lib.hid (HV.out w7 HU7.out)
            clear hu7 HCK HDC HB6 b0 b1 b2 z0 z1 fg y0
            by_cases hl : li < 0
            · obtain ⟨r1, r2⟩ := HBS.out.1 hl
              rw [r1, r2]
              clear r1 r2 HBS
              go_wp2_with fail
              refine HL7.out.mono ?_
              rintro e w8 ⟨rfl, hu8⟩
              have HU8 := Lib.hid (HU7.out.then hu8)
              clear hu8 HL7
              go_wp2
              go_ret
              exact ⟨rfl, HU8.out⟩
            · obtain ⟨r1, r2⟩ := HBS.out.2 (by omega)
              rw [r1, r2]
              clear r1 r2 HBS
              go_wp2_with fail
              refine HL7.out.mono ?_
              rintro e w8 ⟨rfl, hu8⟩
              have HU8 := Lib.hid (HU7.out.then hu8)
              clear hu8 HL7
              go_wp2
              go_ret
              exact ⟨rfl, HU8.out⟩
        · generalize ((w10.setCell ⟨w3.heap.size + 1, 0, none⟩ (.slice (some ⟨g, 0, none⟩) nI cap)).setCell ⟨w3.heap.size + 1, 1, none⟩ (.slice aB nB cB)).setCell ⟨w3.heap.size + 1, 2, none⟩ (.slice aC nC cC) = W5 at HM ⊢
          generalize w3.heap.size + 1 = p at HM ⊢
          clear q0 q1 q2 v0 v1 v2
          have hM := HM.out
          rw [HCL.out] at hM
          have y0 := hM.box.cell_some (i := 0) rfl
          have hat := made5_at hM HNI.out hi3
          have hgl := (hM.own.lt g rfl).1
          have fg := hM.own.frozenAt (i * 3 + 1)
          obtain ⟨hbk, hbu, hbb⟩ := made5_break (i := i) HH.out HU3.out hM HNI.out hi3
          obtain ⟨xo, hxo⟩ : ∃ xo, xo = (c.ins.getD i default).op := ⟨_, rfl⟩
          obtain ⟨z0, z1⟩ := hat
          rw [← hxo] at z0
          have hi4 : (i : Int) < (nI : Int) := by omega
          have HBK := Lib.hid (And.intro hbk (And.intro hbu hbb))
          have HXO := Lib.hid hxo
          have HU5 := Lib.hid (HU3.out.then hM.upd)
          clear hM hbk hbu hbb hxo x0 x1 x2
          by_cases q : xo = 11 ∨ xo = 12 ∨ xo = 9 ∨ xo = 10
          · clear HBK
            have HL5 := Lib.hid (HV.out _ HU5.out)
            rcases q with rfl | rfl | rfl | rfl
            all_goals
              go_wp2_with fail
              refine HL5.out.mono ?_
              rintro e w6 ⟨rfl, hu6⟩
              have HU6 := Lib.hid (HU5.out.then hu6)
              clear hu6 HL5
              go_wp2
              go_ret
              exact ⟨rfl, HU6.out⟩
          · have b11 : (xo == 11) = false := by simpa using fun e => q (.inl e)
            have b12 : (xo == 12) = false := by simpa using fun e => q (.inr (.inl e))
            have b9 : (xo == 9) = false := by simpa using fun e => q (.inr (.inr (.inl e)))
            have b10 : (xo == 10) = false := by simpa using fun e => q (.inr (.inr (.inr e)))
            have hsh := depths_shape HE.out
            have hxk := (CodeOk.of (n := n) (c := c) (by unfold shapeF at hsh; simp only [Bool.and_eq_true] at hsh; exact hsh.1.1)).at (i := i) (by rw [← HNI.out]; exact hi3)
            have hop8 : (c.ins.getD i default).op ≤ 8 := by
              have h1 := hxk.op2
              have h2 := HXO.out
              omega
            have hbs := breaks_said HLI.out (i := i) (by rw [← HNI.out]; exact hi3) hop8 HE.out
            have hli : Lit' n (breakC c i) := ⟨by rw [show (breakC c i).ins.length = c.ins.length from List.length_set]; exact HLI.out.nI, HLI.out.nB, HLI.out.nC, HLI.out.cons⟩
            have hck := check_calls cap cB cC HBK.out.1 hli (HT.out _ (HU3.out.then HBK.out.2.1))
            rw [show (breakC c i).ins.length = nI by rw [HNI.out]; exact List.length_set, show (breakC c i).blks.length = nB from HNB.out.symm, show (breakC c i).cons.length = nC from HNC.out.symm] at hck
            obtain ⟨D, hDa, hDb⟩ := HD.out (by rw [HLEN.out]; omega)
            subst hDa
            have hDc : ∀ W, Upd [] w3 W → W.cell? ⟨D, i, none⟩ = some (.int .i64 ((depthsF n c).deep.getD i 0)) := fun W hu => (hu.blk hDb (by simp)).cell_some (by
              rw [map_int_get, List.getElem?_eq_getElem (by rw [HLEN.out]; exact hi3)]
              simp [List.getD_eq_getElem?_getD, show i < (depthsF n c).deep.length by rw [HLEN.out]; exact hi3])
            obtain ⟨li, hli9⟩ : ∃ li, li = (depthsF n c).deep.getD i 0 := ⟨_, rfl⟩
            rw [← hli9] at hbs hDc
            obtain ⟨RB, hRB⟩ : ∃ RB, RB = depthsF n (breakC c i) := ⟨_, rfl⟩
            rw [← hRB] at hck hbs
            have HCK := Lib.hid hck
            have HBS := Lib.hid hbs
            have HDC := Lib.hid hDc
            have b0 := HBK.out.2.2.cell_some (i := 0) rfl
            have b1 := HBK.out.2.2.cell_some (i := 1) rfl
            have b2 := HBK.out.2.2.cell_some (i := 2) rfl
            have HB6 := Lib.hid HBK.out.2.1
            clear hsh hxk hop8 hbs hli hck hDb hDc hli9 hRB HBK HXO q
            go_wp2_with fail
            refine HCK.out.mono ?_
            rintro e w7 ⟨rfl, hu7⟩
            have cD := HDC.out w7 (HB6.out.then hu7)
            have HU7 := Lib.hid (HU3.out.then (HB6.out.then hu7))
            have HL7 := Lib.hid (HV.out w7 HU7.out)
            clear hu7 HCK HDC HB6 b0 b1 b2 z0 z1 fg y0
            by_cases hl : li < 0
            · obtain ⟨r1, r2⟩ := HBS.out.1 hl
              rw [r1, r2]
              clear r1 r2 HBS
              go_wp2_with fail
              refine HL7.out.mono ?_
              rintro e w8 ⟨rfl, hu8⟩
              have HU8 := Lib.hid (HU7.out.then hu8)
              clear hu8 HL7
              go_wp2
              go_ret
              exact ⟨rfl, HU8.out⟩
            · obtain ⟨r1, r2⟩ := HBS.out.2 (by omega)
              rw [r1, r2]
              clear r1 r2 HBS
              go_wp2_with fail
              refine HL7.out.mono ?_
              rintro e w8 ⟨rfl, hu8⟩
              have HU8 := Lib.hid (HU7.out.then hu8)
              clear hu8 HL7
              go_wp2
              go_ret
              exact ⟨rfl, HU8.out⟩
        · generalize ((w10.setCell ⟨w3.heap.size, 0, none⟩ (.slice (some ⟨g, 0, none⟩) nI cap)).setCell ⟨w3.heap.size, 1, none⟩ (.slice aB nB cB)).setCell ⟨w3.heap.size, 2, none⟩ (.slice aC nC cC) = W5 at HM ⊢
          generalize w3.heap.size = p at HM ⊢
          clear q0 q1 q2 v0 v1 v2
          have hM := HM.out
          rw [HCL.out] at hM
          have y0 := hM.box.cell_some (i := 0) rfl
          have hat := made5_at hM HNI.out hi3
          have hgl := (hM.own.lt g rfl).1
          have fg := hM.own.frozenAt (i * 3 + 1)
          obtain ⟨hbk, hbu, hbb⟩ := made5_break (i := i) HH.out HU3.out hM HNI.out hi3
          obtain ⟨xo, hxo⟩ : ∃ xo, xo = (c.ins.getD i default).op := ⟨_, rfl⟩
          obtain ⟨z0, z1⟩ := hat
          rw [← hxo] at z0
          have hi4 : (i : Int) < (nI : Int) := by omega
          have HBK := Lib.hid (And.intro hbk (And.intro hbu hbb))
          have HXO := Lib.hid hxo
          have HU5 := Lib.hid (HU3.out.then hM.upd)
          clear hM hbk hbu hbb hxo x0 x1 x2
          by_cases q : xo = 11 ∨ xo = 12 ∨ xo = 9 ∨ xo = 10
          · clear HBK
            have HL5 := Lib.hid (HV.out _ HU5.out)
            rcases q with rfl | rfl | rfl | rfl
            all_goals
              go_wp2_with fail
              refine HL5.out.mono ?_
              rintro e w6 ⟨rfl, hu6⟩
              have HU6 := Lib.hid (HU5.out.then hu6)
              clear hu6 HL5
              go_wp2
              go_ret
              exact ⟨rfl, HU6.out⟩
          · have b11 : (xo == 11) = false := by simpa using fun e => q (.inl e)
            have b12 : (xo == 12) = false := by simpa using fun e => q (.inr (.inl e))
            have b9 : (xo == 9) = false := by simpa using fun e => q (.inr (.inr (.inl e)))
            have b10 : (xo == 10) = false := by simpa using fun e => q (.inr (.inr (.inr e)))
            have hsh := depths_shape HE.out
            have hxk := (CodeOk.of (n := n) (c := c) (by unfold shapeF at hsh; simp only [Bool.and_eq_true] at hsh; exact hsh.1.1)).at (i := i) (by rw [← HNI.out]; exact hi3)
            have hop8 : (c.ins.getD i default).op ≤ 8 := by
              have h1 := hxk.op2
              have h2 := HXO.out
              omega
            have hbs := breaks_said HLI.out (i := i) (by rw [← HNI.out]; exact hi3) hop8 HE.out
            have hli : Lit' n (breakC c i) := ⟨by rw [show (breakC c i).ins.length = c.ins.length from List.length_set]; exact HLI.out.nI, HLI.out.nB, HLI.out.nC, HLI.out.cons⟩
            have hck := check_calls cap cB cC HBK.out.1 hli (HT.out _ (HU3.out.then HBK.out.2.1))
            rw [show (breakC c i).ins.length = nI by rw [HNI.out]; exact List.length_set, show (breakC c i).blks.length = nB from HNB.out.symm, show (breakC c i).cons.length = nC from HNC.out.symm] at hck
            obtain ⟨D, hDa, hDb⟩ := HD.out (by rw [HLEN.out]; omega)
            subst hDa
            have hDc : ∀ W, Upd [] w3 W → W.cell? ⟨D, i, none⟩ = some (.int .i64 ((depthsF n c).deep.getD i 0)) := fun W hu => (hu.blk hDb (by simp)).cell_some (by
              rw [map_int_get, List.getElem?_eq_getElem (by rw [HLEN.out]; exact hi3)]
              simp [List.getD_eq_getElem?_getD, show i < (depthsF n c).deep.length by rw [HLEN.out]; exact hi3])
            obtain ⟨li, hli9⟩ : ∃ li, li = (depthsF n c).deep.getD i 0 := ⟨_, rfl⟩
            rw [← hli9] at hbs hDc
            obtain ⟨RB, hRB⟩ : ∃ RB, RB = depthsF n (breakC c i) := ⟨_, rfl⟩
            rw [← hRB] at hck hbs
            have HCK := Lib.hid hck
            have HBS := Lib.hid hbs
            have HDC := Lib.hid hDc
            have b0 := HBK.out.2.2.cell_some (i := 0) rfl
            have b1 := HBK.out.2.2.cell_some (i := 1) rfl
            have b2 := HBK.out.2.2.cell_some (i := 2) rfl
            have HB6 := Lib.hid HBK.out.2.1
            clear hsh hxk hop8 hbs hli hck hDb hDc hli9 hRB HBK HXO q
            go_wp2_with fail
            refine HCK.out.mono ?_
            rintro e w7 ⟨rfl, hu7⟩
            have cD := HDC.out w7 (HB6.out.then hu7)
            have HU7 := Lib.hid (HU3.out.then (HB6.out.then hu7))
            have HL7 := Lib.hid (HV.out w7 HU7.out)
            clear hu7 HCK HDC HB6 b0 b1 b2 z0 z1 fg y0
            by_cases hl : li < 0
            · obtain ⟨r1, r2⟩ := HBS.out.1 hl
              rw [r1, r2]
              clear r1 r2 HBS
              go_wp2_with fail
              refine HL7.out.mono ?_
              rintro e w8 ⟨rfl, hu8⟩
              have HU8 := Lib.hid (HU7.out.then hu8)
              clear hu8 HL7
              go_wp2
              go_ret
              exact ⟨rfl, HU8.out⟩
            · obtain ⟨r1, r2⟩ := HBS.out.2 (by omega)
              rw [r1, r2]
              clear r1 r2 HBS
              go_wp2_with fail
              refine HL7.out.mono ?_
              rintro e w8 ⟨rfl, hu8⟩
              have HU8 := Lib.hid (HU7.out.then hu8)
              clear hu8 HL7
              go_wp2
              go_ret
              exact ⟨rfl, HU8.out⟩
    · have HE := Lib.hid he
      rw [he, hde]
      clear he hde
      go_wp2_with fail
      refine (HV.out _ HU3.out).mono ?_
      rintro e w4 ⟨rfl, hu4⟩
      have HU4 := Lib.hid (HU3.out.then hu4)
      clear hu4
      go_wp2
      go_ret
      exact ⟨rfl, HU4.out⟩
theorem law_CheckBreaks (v : Value) (which : Int) (w : World) (h : ArgS Tryd.prog w 26 v) (hw : (Lit.int .u64 which).wf = true) (hT : Tabs w) :
    Calls Tryd.prog 5 #[v, .int .u64 which] w fun e w' => e = .returned (.bool true) ∧ Upd [] w w' := by
  obtain ⟨aI, cI, aB, cB, aC, cC, n, c, rfl, hc⟩ := code_open h
  exact breaks_walk cI cB cC which hw hc hT
end Go.Proofs.YtknbgbeepachgaaDoor
