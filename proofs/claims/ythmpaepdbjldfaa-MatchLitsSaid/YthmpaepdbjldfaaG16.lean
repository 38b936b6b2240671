/-
  Texts of this claim, merged: DatH, DatI, DatJ. Lemmas and contracts; no conditions of our own.
-/
import Derived.Test.YthmpaepdbjldfaaG15
import Derived.Laws.AppendOwnNone

/-
  slices.Concat of two.
-/
namespace Go.Proofs.Ythmpaepdbjldfaa
set_option linter.unusedVariables false
set_option linter.unusedSimpArgs false
open Go.RowKit

/-- Nothing appended. -/
theorem wpList_app_none {P : Program} {w : World} {ops : Array Oper} {rest : List Oper} {o : Oper} {a : Act} {Q : Exit → Act → World → Prop} (hgd : o.guard = none) (s x : Operand) (t : TypeId)
    (ho : o.op = .call { callee := .builtin .append, args := #[s, x], argTypes := #[t, t] })
    (base : Nat) (e : TypeId) (i : TypeInfo) (size : Nat) (ht : P.underlying t = some (.slice e)) (hi : P.info? e = some i)
    (v : Value) (n : Nat) (xs : List Value) (hs : a.eval s = v) (hown : w.ownsRow base e size v n xs) (c : Nat) (hx : a.eval x = .slice none 0 c)
    (h : wpList P ops Q rest (a.put o.dst v) w) : wpList P ops Q (o :: rest) a w := by
  refine wpList_plain hgd fun K hK => ?_
  have hrun : (Builtin.append_ #[t, t] o.type #[v, .slice none 0 c]).run P w = .ok v w := by
    rcases hown.2 with ⟨rfl, _⟩ | ⟨g, cap, cur, rfl, _, _, hnc, _⟩
    · simp [Builtin.append_, run_underlying ht, sizeOf, typeInfo, hi, Builtin.lenOf, Builtin.firstCells]
    · simp [Builtin.append_, run_underlying ht, sizeOf, typeInfo, hi, Builtin.lenOf, Builtin.firstCells, hnc, storeCells]
  unfold Oper.wp
  simp [execOp, ho, resolve, invoke, builtin, hs, hx, hrun, Result.andThen]
  exact hK _ _ h
def preAt (is ts : List Dat) : Nat → List Dat
  | 0 => []
  | 1 => is
  | _ => is ++ ts
set_option maxRecDepth 100000 in
set_option maxHeartbeats 1500000 in
theorem concat_calls {P : Nat → Prop} {R : List Value → Dat → Prop} (hsh : ∀ cs d, R cs d → Shaped cs) {w : World} {b nI nT cI cT : Nat} {aI aT : Option Addr} {is ts : List Dat} (hB : Blk w b [.slice aI nI cI, .slice aT nT cT] 25) (hI : RowOf w P R aI is) (hT : RowOf w P R aT ts)
    (h1 : nI = is.length) (h2 : nT = ts.length) (hs : nI + nT ≤ 100000) :
    Calls Try.prog 105 #[.slice (some ⟨b, 0, none⟩) 2 2] w fun e w' => (∃ v, e = .returned v ∧ OwnD R w w' v (is ++ ts)) ∧ Upd [] w w' := by
  have hrow : ∀ j, j < 2 → ∃ (av : Option Addr) (m cv : Nat) (ds : List Dat), w.cell? ⟨b, j, none⟩ = some (.slice av m cv) ∧ m = ds.length ∧ RowOf w P R av ds ∧ preAt is ts (j + 1) = preAt is ts j ++ ds ∧ (preAt is ts j).length + m ≤ 100000 := by
    intro j hj
    obtain rfl | rfl : j = 0 ∨ j = 1 := by omega
    · exact ⟨aI, nI, cI, is, hB.cell_some rfl, h1, hI, rfl, by simp [preAt]; omega⟩
    · exact ⟨aT, nT, cT, ts, hB.cell_some rfl, h2, hT, rfl, by simp only [preAt]; omega⟩
  have hfin : is ++ ts = preAt is ts 2 := rfl
  rw [hfin]
  have h00 : preAt is ts 0 = [] := rfl
  have HB := Lib.hid hrow
  clear hrow hB hI hT h1 h2 hs hfin
  generalize preAt is ts = pre at *
  go_enter Try.func105, Try.ntmps105
  go_wp2_with fail
  go_loopw [3, 11] (fun s i wr => ∃ j : Nat, j ≤ 2 ∧ i = .int .i64 j ∧ s = .int .i64 ((pre j).length : Int) ∧ (pre j).length ≤ 100000 ∧ wr = w) (fun _ i _ => 2 - (intOf i).toNat)
  case atStart => exact ⟨0, by omega, rfl, by rw [h00]; rfl, by rw [h00]; simp, rfl⟩
  case round =>
    obtain ⟨j, hj, rfl, rfl, hle, rfl⟩ := hrel
    by_cases hj2 : j < 2
    · obtain ⟨av, m, cv, ds, hq, hm, _, hp, hle2⟩ := HB.out j hj2
      have hpl : (pre (j + 1)).length = (pre j).length + m := by rw [hp, List.length_append, hm]
      have HPL := Lib.hid hpl
      clear hpl hp hm
      generalize (pre j).length = lj at *
      go_wp2
      go_roundw
      case rel => exact ⟨j + 1, by omega, by go_num, by rw [HPL.out]; go_num, by rw [HPL.out]; omega, trivial⟩
      case measure => simp [intOf]; omega
    · have hj3 : j = 2 := by omega
      subst hj3
      obtain ⟨W0, rfl⟩ : ∃ W0 : World, W0 = wr := ⟨_, rfl⟩
      have hg := Lib.hid (grow_calls W0 (pre 2).length hle)
      go_wp2_with fail
      refine hg.out.mono ?_
      rintro e w2 ⟨⟨v, rfl, hO⟩, hu2⟩
      have hO2 : Hid (OwnD R W0 w2 v (pre 0)) := Lib.hid (by rw [h00]; exact ⟨[], rfl, fun i hi => absurd hi (by simp), hO⟩)
      have hU2 := Lib.hid hu2
      clear hg hO hu2
      go_wp2_with fail
      go_loopw [6, 27] (fun lv i wx => ∃ j : Nat, j ≤ 2 ∧ i = .int .i64 j ∧ Hid (OwnD R W0 wx lv (pre j)) ∧ Hid (Upd [] W0 wx)) (fun _ i _ => 2 - (intOf i).toNat)
      case atStart => exact ⟨0, by omega, rfl, hO2, hU2⟩
      case round =>
        obtain ⟨j, hj, rfl, hO, hU⟩ := hrel
        by_cases hj2 : j < 2
        · obtain ⟨av, m, cv, ds, hq, hm, hr, hp, hle2⟩ := HB.out j hj2
          have hq2 := hU.out.cell hq (by simp)
          obtain ⟨ns, n1, n2, n3, n4, n5⟩ := hr.cellsR hsh
          obtain ⟨css, c1, c2, c3⟩ := hO.out
          have hj2' : (j : Int) < 2 := by omega
          have hsz := hU.out.size
          have HC3 := Lib.hid c3
          have hadd : ∀ (v' : Value) (w' : World) (S : List Nat), Upd S wr w' → (∀ k, k ∈ S → W0.heap.size ≤ k) → w'.ownsRow W0.heap.size 27 7 v' ((pre j).length + ds.length) (css.flatten ++ ns.flatten) → OwnD R W0 w' v' (pre (j + 1)) := by
            intro v' w' S _ _ hO'
            rw [hp]
            exact OwnD.add c1 c2 n1 n2 hO'
          have HADD := Lib.hid hadd
          cases av with
          | none =>
            have hds : ds = [] := by
              cases ds with
              | nil => rfl
              | cons x xs => obtain ⟨_, _, _, e, _⟩ := hr 0 (by simp); cases e
            subst hds
            have hm0 : m = 0 := hm
            subst hm0
            have hns : ns = [] := by simpa using n1
            subst hns
            have hO9 : OwnD R W0 wr _ (pre (j + 1)) := HADD.out _ wr [] (Upd.refl _ _) (by simp) (by simpa using c3)
            have HO9 := Lib.hid hO9
            clear hadd HADD n1 n2 n3 n4 n5 c1 c2 c3 hO hr hq hO9 hm hp
            obtain ⟨i, hi, hz0, hz1, hz2⟩ := info_parts info_dat
            go_wp2_with (at_builtin; refine wpList_app_none rfl _ _ 25 rfl W0.heap.size 27 i 7 Try.underlying25 hi _ _ _ rfl HC3.out cv rfl ?_)
            go_wp2
            go_roundw
            case rel => exact ⟨j + 1, by omega, by go_num, HO9, hU⟩
            case measure => simp [intOf]; omega
          | some ad =>
            subst hm
            have hnw : ∀ jj u, ns.flatten[jj]? = some u → wr.cell? (ad.add jj) = some u := fun jj u h => hU.out.cell (n5 ad rfl jj u h) (by simp)
            have HNW := Lib.hid hnw
            have H4 := Lib.hid n4
            obtain ⟨i, hi, hz0, hz1, hz2⟩ := info_parts info_dat
            clear hadd n1 n2 n4 n5 c1 c2 c3 hO hr hq hnw
            generalize (pre j).length = lj at *
            generalize ds.length = ld at *
            go_wp2_with (at_builtin; refine wpList_append_own_at _ rfl _ _ 25 rfl W0.heap.size 27 i _ 7 112 Try.underlying25 hi hz0 hz1 hz2 rfl (by decide) _ _ _ rfl HC3.out ad ld cv ns.flatten rfl n3 HNW.out H4.out (by unfold maxLen; omega) (by omega) hsz ?_; intro v9 w9 hO9 hg9 _ _)
            have hg10 : wr.grownBy w9 u6.ownBlock := hg9
            have hu10 : Upd u6.ownBlock.toList wr w9 := Upd.of_grown hg10 (fun k hk => by simp [hk])
            have hS10 : ∀ k, k ∈ u6.ownBlock.toList → W0.heap.size ≤ k := fun k hk => (HC3.out.lt k (by simpa using hk)).1
            have hO10 := Lib.hid (HADD.out v9 w9 _ hu10 hS10 hO9)
            have hU10 := Lib.hid (hU.out.onto hu10 hS10)
            clear hO9 hg9 hg10 hu10 hS10 HADD HC3 HNW H4 n3 hq2 hp
            go_wp2
            go_roundw
            case rel => exact ⟨j + 1, by omega, by go_num, hO10, hU10⟩
            case measure => simp [intOf]; omega
        · have hj3 : j = 2 := by omega
          subst hj3
          go_wp2
          go_ret
          exact ⟨⟨_, rfl, hO.out⟩, hU.out⟩
end Go.Proofs.Ythmpaepdbjldfaa

/-
  datum.parts and Depth.
-/
namespace Go.Proofs.Ythmpaepdbjldfaa
set_option linter.unusedVariables false
set_option linter.unusedSimpArgs false
open Go.RowKit

theorem OwnD.row {R : List Value → Dat → Prop} (hsh : ∀ cs d, R cs d → Shaped cs) {w0 w : World} {v : Value} {ds : List Dat} (h : OwnD R w0 w v ds) : ∃ a c, v = .slice a ds.length c ∧ RowOf w (fun _ => True) R a ds := by
  obtain ⟨css, h1, h2, h3⟩ := h
  have h4 := h3
  rcases h3.2 with ⟨rfl, h0⟩ | ⟨g, c, _, rfl, hb, _⟩
  · exact ⟨none, 0, by rw [h0], fun i hi => absurd hi (by omega)⟩
  · refine ⟨_, c, rfl, fun i hi => ⟨g, 0, css.getD i [], rfl, trivial, ?_, h2 i hi⟩⟩
    have hlen : ∀ cs ∈ css, cs.length = 7 := by
      intro cs hc
      obtain ⟨k, hk, rfl⟩ := List.getElem_of_mem hc
      have := (hsh _ _ (h2 k (by omega))).len
      simpa [List.getD_eq_getElem?_getD, hk] using this
    refine ⟨(hsh _ _ (h2 i hi)).len, fun j hj => ?_⟩
    rw [show 0 + i * 7 + j = i * 7 + j by omega, h4.cellAt (i * 7 + j) (by omega)]
    exact flatten_get hlen (by omega) hj
set_option maxRecDepth 100000 in
set_option maxHeartbeats 1500000 in
theorem partsR_calls {P : Nat → Prop} {n : Nat} {d : Dat} {cs : List Value} {w : World} (h : IsD w P (n + 1) cs d) (hs : d.items.length + d.tail.length ≤ 100000) :
    Calls Try.prog 83 #[.agg cs.toArray] w fun e w' => (∃ a c, e = .returned (.slice a (d.items ++ d.tail).length c) ∧ RowOf w' (fun _ => True) (IsD w P n) a (d.items ++ d.tail)) ∧ Upd [] w w' := by
  obtain ⟨aL, cL, aI, cI, aT, cT, rfl, h1, h2, h3, h4⟩ := h
  unfold datCells
  have hu1 : Upd [] w ((w.alloc (.cells #[.int .i64 d.kind, .bool d.neg, .slice aL d.limbs.length cL, .bool d.b, .string d.s, .slice aI d.items.length cI, .slice aT d.tail.length cT] 27)).alloc (.cells #[.slice aI d.items.length cI, .slice aT d.tail.length cT] 25)) := ((Upd.refl [] w).alloc _).alloc _
  have HI := Lib.hid (fun W (hu : Upd [] w W) => h2.map (R' := IsD w P n) (w' := W) (fun _ _ hp => hp) (fun _ _ _ _ hc => hu.cell hc (by simp)) (fun _ _ h => h))
  have HT := Lib.hid (fun W (hu : Upd [] w W) => h3.map (R' := IsD w P n) (w' := W) (fun _ _ hp => hp) (fun _ _ _ _ hc => hu.cell hc (by simp)) (fun _ _ h => h))
  have hU := Lib.hid hu1
  clear h1 h2 h3 h4 hu1
  go_enter Try.func83, Try.ntmps83
  go_wp2_with fail
  refine (concat_calls (P := P) (R := IsD w P n) (fun _ _ h => h.shaped) (is := d.items) (ts := d.tail) (Blk.newAt (by simp)) (HI.out _ hU.out) (HT.out _ hU.out) rfl rfl hs).mono ?_
  rintro e w2 ⟨⟨v, rfl, hO⟩, hu2⟩
  have hU2 := Lib.hid (hU.out.then hu2)
  obtain ⟨a, c, rfl, hR⟩ := hO.row (fun _ _ h => h.shaped)
  have HR := Lib.hid hR
  clear hO hR hu2 hU HI HT
  go_wp2
  go_ret
  exact ⟨⟨a, c, by rw [List.length_append]; rfl, HR.out⟩, hU2.out⟩
theorem parts_calls {P : Nat → Prop} {n : Nat} {d : Dat} {cs : List Value} {w : World} (h : IsD w P (n + 1) cs d) (hs : d.items.length + d.tail.length ≤ 100000) :
    Calls Try.prog 83 #[.agg cs.toArray] w fun e w' => (∃ a c, e = .returned (.slice a (d.items ++ d.tail).length c) ∧ RowOf w' (fun _ => True) (IsD w' (fun _ => True) n) a (d.items ++ d.tail)) ∧ Upd [] w w' :=
  (partsR_calls h hs).mono fun _ _ ⟨⟨a, c, e1, hr⟩, hu⟩ => ⟨⟨a, c, e1, hr.map (fun _ _ hp => hp) (fun _ _ _ _ hc => hc) (fun _ _ hd => (hd.upd hu).mono fun _ _ _ => trivial)⟩, hu⟩
end Go.Proofs.Ythmpaepdbjldfaa

/-
  datum.Depth.
-/
namespace Go.Proofs.Ythmpaepdbjldfaa
set_option linter.unusedVariables false
set_option linter.unusedSimpArgs false
open Go.RowKit

set_option maxRecDepth 100000 in
set_option maxHeartbeats 1500000 in
theorem depth_calls : ∀ (n : Nat) (P : Nat → Prop) (d : Dat) (cs : List Value) (w : World), IsD w P n cs d → szN n d ≤ 100000 → dpN n d ≤ 10000 →
    Calls Try.prog 53 #[.agg cs.toArray] w fun e w' => e = .returned (.int .i64 ((dpN n d : Nat) : Int)) ∧ Upd [] w w' := by
  intro n
  induction n with
  | zero => intro P d cs w h; exact h.elim
  | succ n ih =>
    intro P d cs w h hs hd
    have IH := Lib.hid (ih (fun _ => True))
    clear ih
    obtain ⟨yL, zL, yI, zI, yT, zT, rfl⟩ := cells_agg h
    have hu1 := (Upd.refl [] w).alloc (.cells (datCells d.kind d.neg yL d.limbs.length zL d.b d.s yI d.items.length zI yT d.tail.length zT).toArray 27)
    have hF := Lib.hid (few_calls (h.upd hu1) hs hd)
    have hU := Lib.hid hu1
    have hX := Lib.hid (At7.box w (datCells d.kind d.neg yL d.limbs.length zL d.b d.s yI d.items.length zI yT d.tail.length zT) 27 rfl)
    have hsz : szL (szN n) (d.items ++ d.tail) ≤ 100000 := by rw [szN] at hs; rw [szL_append]; omega
    have hdp : dpN (n + 1) d = 1 + dpL (dpN n) (d.items ++ d.tail) := by rw [dpN, dpL_append]
    have hlen : d.items.length + d.tail.length ≤ 100000 := by
      have := len_le_szL (szN_pos n) (d.items ++ d.tail)
      rw [List.length_append] at this
      omega
    have hPt := Lib.hid (fun (W : World) (hu : Upd [] w W) => parts_calls (h.upd hu) hlen)
    rw [hdp] at hd ⊢
    clear h hu1 hs hdp hlen
    unfold datCells at hF hU hX hPt ⊢
    obtain ⟨ds, hds⟩ : ∃ ds, ds = d.items ++ d.tail := ⟨_, rfl⟩
    rw [← hds] at hPt hsz hd ⊢
    clear hds
    generalize d.kind = kd9 at *
    generalize d.neg = ng9 at *
    generalize d.limbs.length = nl9 at *
    generalize d.b = bb9 at *
    generalize d.s = ss9 at *
    generalize d.items.length = ni9 at *
    generalize d.tail.length = nt9 at *
    go_enter Try.func53, Try.ntmps53
    go_wp2_with fail
    refine hF.out.mono ?_
    rintro e w2 ⟨rfl, hu2⟩
    obtain ⟨q0, q1, q2, q3, q4, q5, q6⟩ := (hX.out.upd hu2 (by simp)).cells0
    have hU2 := Lib.hid (hU.out.then hu2)
    clear hF hX hU hu2
    go_wp2_with fail
    refine (hPt.out w2 hU2.out).mono ?_
    rintro e w3 ⟨⟨a, c, rfl, hR⟩, hu3⟩
    have hU3 := Lib.hid (hU2.out.then hu3)
    have HR := Lib.hid hR
    clear hPt hR hU2 hu3 q0 q1 q2 q3 q4 q5 q6
    obtain ⟨m, hm⟩ : ∃ m, m = ds.length := ⟨_, rfl⟩
    rw [← hm]
    have hm2 := len_le_szL (szN_pos n) ds
    rw [← hm] at hm2
    have hmb : m ≤ 100000 := by omega
    clear hm2
    go_wp2_with fail
    go_loopw [3, 12] (fun v i wr => ∃ j : Nat, j ≤ m ∧ i = .int .i64 j ∧ v = .int .i64 ((dpL (dpN n) (ds.take j) : Nat) : Int) ∧ Hid (Upd [] w3 wr)) (fun _ i _ => m - (intOf i).toNat)
    case atStart => exact ⟨0, by omega, rfl, rfl, Upd.refl _ _⟩
    case round =>
      obtain ⟨j, hj, rfl, rfl, hUj⟩ := hrel
      have hle := dpL_take (dpN n) ds j
      by_cases hlt : j < m
      · have hjl : j < ds.length := by rw [← hm]; exact hlt
        have hnx := dpL_next (dpN n) hjl
        have hg1 := szL_get (szN n) hjl
        have hg2 := dpL_get (dpN n) hjl
        obtain ⟨b, o, cs, rfl, _, hat, hd0⟩ := HR.out j hjl
        obtain ⟨x, hx⟩ : ∃ x, x = ds.getD j default := ⟨_, rfl⟩
        rw [← hx] at hnx hg1 hg2 hd0
        clear hx
        obtain ⟨yL2, zL2, yI2, zI2, yT2, zT2, rfl⟩ := cells_agg hd0
        obtain ⟨q0, q1, q2, q3, q4, q5, q6⟩ := (hat.upd hUj.out (by simp)).cells
        have hu4 := hUj.out.alloc (.cells (datCells x.kind x.neg yL2 x.limbs.length zL2 x.b x.s yI2 x.items.length zI2 yT2 x.tail.length zT2).toArray 27)
        have hC := Lib.hid (IH.out x _ _ (hd0.upd hu4) (by omega) (by omega))
        have hU4 := Lib.hid hu4
        have HNX := Lib.hid hnx
        unfold datCells at hC hU4
        have hd2 : dpN n x ≤ 10000 := by omega
        have hd3 : dpL (dpN n) (ds.take j) ≤ 10000 := by omega
        obtain ⟨A, hA⟩ : ∃ A, A = dpL (dpN n) (ds.take j) := ⟨_, rfl⟩
        obtain ⟨B, hBB⟩ : ∃ B, B = dpN n x := ⟨_, rfl⟩
        rw [← hA, ← hBB] at HNX
        rw [← hA] at hd3 ⊢
        rw [← hBB] at hC hd2
        clear hnx hg1 hg2 hd0 hat hu4 hle hA hBB
        generalize x.kind = kd8 at *
        generalize x.neg = ng8 at *
        generalize x.limbs.length = nl8 at *
        generalize x.b = bb8 at *
        generalize x.s = ss8 at *
        generalize x.items.length = ni8 at *
        generalize x.tail.length = nt8 at *
        go_wp2_with fail
        refine hC.out.mono ?_
        rintro e w5 ⟨rfl, hu5⟩
        have hU5 := Lib.hid (hU4.out.then hu5)
        clear hC hU4 hu5 q0 q1 q2 q3 q4 q5 q6
        have hmx : max (A : Int) B = ((max A B : Nat) : Int) := by omega
        go_wp2
        go_roundw
        case rel => exact ⟨j + 1, by omega, by go_num, by rw [HNX.out]; first | rfl | go_num | (simp; omega), hU5⟩
        case measure => simp [intOf]; omega
      · have hjm : j = m := by omega
        subst hjm
        rw [hm, List.take_length] at hle ⊢
        have hd3 : dpL (dpN n) ds ≤ 10000 := by omega
        obtain ⟨r, hr⟩ : ∃ r, r = dpL (dpN n) ds := ⟨_, rfl⟩
        rw [← hr] at hd3 ⊢
        have HRR := Lib.hid hr
        clear hle hd hr
        go_wp2
        go_ret
        refine ⟨?_, hU3.out.then hUj.out⟩
        rw [← HRR.out, show ((1 + r : Nat) : Int) = (r : Int) + 1 by omega]
        rfl
end Go.Proofs.Ythmpaepdbjldfaa
