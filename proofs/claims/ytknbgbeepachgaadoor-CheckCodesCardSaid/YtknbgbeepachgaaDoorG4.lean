/-
  Texts of this claim, merged: DatG, DatH, DatI, DatK, DatX, DatY. Lemmas and contracts; no conditions of our own.
-/
import Derived.Test.YtknbgbeepachgaaDoorG3
import Derived.Lib.AppendZeros
import Derived.Laws.AppendOwnNone
import Derived.Deep.RegionLaw
import Derived.Deep.AppendLies
import Derived.Laws.CopyOwn

/-
  slices.Grow of nothing, slices.Concat, datum.parts.
-/
namespace Go.Proofs.YtknbgbeepachgaaDoor
open Go.RowKit

set_option maxRecDepth 100000 in
set_option maxHeartbeats 1500000 in
theorem grow_calls (w : World) (n : Nat) (hn : n ≤ 100000) :
    Calls Tryd.prog 69 #[.slice none 0 0, .int .i64 n] w fun e w' => (∃ v, e = .returned v ∧ w'.ownsRow w.heap.size 56 7 v 0 []) ∧ Upd [] w w' := by
  by_cases h0 : n = 0
  · subst h0
    go_enter Tryd.func69, Tryd.ntmps69
    go_wp2
    go_ret
    exact ⟨⟨_, rfl, World.ownsRow_nil _ _ _ _⟩, Upd.refl _ _⟩
  · obtain ⟨i, hi, hz0, hz1, hz2⟩ := info_parts info_dat
    have hpos : 0 < n := by omega
    have hr := fun (ty : TypeId) => Lib.run_append_nil_zeros (P := Tryd.prog) w 24 3 ty 56 i _ .i64 .i64 Tryd.underlying24 Tryd.underlying3 hi hz0 n hpos (by omega) (by omega) (by rw [hz2]; omega)
    obtain ⟨CUR, hCUR⟩ : ∃ CUR, CUR = Builtin.zeroCells (Value.cells (.agg (datCells 0 false none 0 0 false ByteArray.empty none 0 0 none 0 0).toArray)) n ++ Builtin.zeroCells (Value.cells (.agg (datCells 0 false none 0 0 false ByteArray.empty none 0 0 none 0 0).toArray)) (grownCap w n 0 56 - n) := ⟨_, rfl⟩
    have hge := grownCap_ge w n 0 56
    have hle := grownCap_le_maxLen w n 0 56 (by unfold maxLen; omega)
    have hsz : CUR.size = grownCap w n 0 56 * 7 := by
      rw [hCUR, Array.size_append, size_zeroCells, size_zeroCells]
      have : (Value.cells (.agg (datCells 0 false none 0 0 false ByteArray.empty none 0 0 none 0 0).toArray)).size = 7 := rfl
      rw [this]
      omega
    have hown := World.ownsRow_made (base := w.heap.size) (e := 56) (size := 7) w.drew CUR _ (Nat.le_refl _) hle hsz
    have hU : Upd [] w (w.drew.alloc (.cells CUR 56)) := ((Upd.refl [] w).drew).alloc _
    rw [← hCUR] at hr
    clear hCUR hge hsz hle
    generalize grownCap w n 0 56 = cap at *
    have HO := Lib.hid hown
    have HU := Lib.hid hU
    have HR := Lib.hid hr
    clear hr hown hU
    go_enter Tryd.func69, Tryd.ntmps69
    go_wp2_with (at_builtin; refine Lib.wpList_append_run _ rfl _ _ _ _ rfl _ _ rfl rfl _ _ (HR.out _) ?_)
    go_wp2
    go_ret
    exact ⟨⟨_, rfl, HO.out⟩, HU.out⟩

/-- A row of one's own, each of its elements as R says. -/
def OwnD (R : List Value → Dat → Prop) (w0 w : World) (v : Value) (ds : List Dat) : Prop :=
  ∃ css : List (List Value), css.length = ds.length ∧ (∀ i, i < ds.length → R (css.getD i []) (ds.getD i default)) ∧ w.ownsRow w0.heap.size 56 7 v ds.length css.flatten
theorem OwnD.step {R : List Value → Dat → Prop} {w0 w w' : World} {v : Value} {ds : List Dat} (h : OwnD R w0 w v ds) (hu : Upd [] w w') : OwnD R w0 w' v ds := by
  obtain ⟨css, h1, h2, h3⟩ := h
  exact ⟨css, h1, h2, own_upd0 h3 hu⟩
theorem getD_append {α : Type} {a b : List α} {z : α} {i : Nat} : (a ++ b).getD i z = if i < a.length then a.getD i z else b.getD (i - a.length) z := by
  split
  · rename_i h
    simp [List.getD_eq_getElem?_getD, List.getElem?_append_left h]
  · rename_i h
    simp [List.getD_eq_getElem?_getD, List.getElem?_append_right (Nat.le_of_not_lt h)]
theorem OwnD.add {R : List Value → Dat → Prop} {w0 w' : World} {v' : Value} {ds es : List Dat} {css ns : List (List Value)}
    (h1 : css.length = ds.length) (h2 : ∀ i, i < ds.length → R (css.getD i []) (ds.getD i default))
    (k1 : ns.length = es.length) (k2 : ∀ i, i < es.length → R (ns.getD i []) (es.getD i default))
    (hO : w'.ownsRow w0.heap.size 56 7 v' (ds.length + es.length) (css.flatten ++ ns.flatten)) : OwnD R w0 w' v' (ds ++ es) := by
  refine ⟨css ++ ns, by simp [h1, k1], fun i hi => ?_, by simpa using hO⟩
  rw [List.length_append] at hi
  rw [getD_append, getD_append, h1]
  split
  · rename_i hl
    exact h2 i hl
  · rename_i hl
    exact k2 _ (by omega)
theorem flatten_len {css : List (List Value)} (h : ∀ cs ∈ css, cs.length = 7) : css.flatten.length = css.length * 7 := by
  induction css with
  | nil => rfl
  | cons c css ih =>
    rw [List.flatten_cons, List.length_append, h c (by simp), ih (fun cs hc => h cs (by simp [hc])), List.length_cons]
    omega
/-- The cells of a row. -/
theorem RowOf.cellsR {w : World} {P : Nat → Prop} {R : List Value → Dat → Prop} {a : Option Addr} {ds : List Dat} (h : RowOf w P R a ds) (hsh : ∀ cs d, R cs d → Shaped cs) : ∃ ns : List (List Value), ns.length = ds.length ∧ (∀ i, i < ds.length → R (ns.getD i []) (ds.getD i default)) ∧ ns.flatten.length = ds.length * 7 ∧ (∀ u ∈ ns.flatten, u.oneCell' = true) ∧ (∀ ad, a = some ad → ∀ j u, ns.flatten[j]? = some u → w.cell? (ad.add j) = some u) := by
  have hx : ∀ i, i < ds.length → ∃ cs : List Value, ∃ b o, a = some ⟨b, o, none⟩ ∧ At7 w b (o + i * 7) cs ∧ R cs (ds.getD i default) := by
    intro i hi
    obtain ⟨b, o, cs, e, _, h1, h2⟩ := h i hi
    exact ⟨cs, b, o, e, h1, h2⟩
  obtain ⟨f, hf⟩ := Deep.choose_lt hx
  have hg : ∀ i, i < ds.length → ((List.range ds.length).map f).getD i [] = f i := by
    intro i hi
    simp [List.getD_eq_getElem?_getD, hi]
  have hl : ∀ cs ∈ (List.range ds.length).map f, cs.length = 7 := by
    intro cs hc
    obtain ⟨i, hi, rfl⟩ := List.mem_map.1 hc
    obtain ⟨b, o, _, h1, _⟩ := hf i (by simpa using hi)
    exact h1.1
  have hflen : ((List.range ds.length).map f).flatten.length = ds.length * 7 := by
    have := flatten_len hl
    simpa using this
  refine ⟨(List.range ds.length).map f, by simp, fun i hi => ?_, hflen, fun u hu => ?_, fun ad e j u hj => ?_⟩
  · rw [hg i hi]
    obtain ⟨b, o, _, _, h2⟩ := hf i hi
    exact h2
  · obtain ⟨cs, hc, hu⟩ := List.mem_flatten.1 hu
    obtain ⟨i, hi, rfl⟩ := List.mem_map.1 hc
    obtain ⟨b, o, _, _, h2⟩ := hf i (by simpa using hi)
    exact (hsh _ _ h2).one u hu
  · have hjl : j < ds.length * 7 := by
      rw [← hflen]
      exact (List.getElem?_eq_some_iff.1 hj).1
    have hi : j / 7 < ds.length := by omega
    have hf2 := flatten_get hl (i := j / 7) (j := j % 7) (by simpa using hi) (by omega)
    rw [show j / 7 * 7 + j % 7 = j by omega, hj, hg _ hi] at hf2
    obtain ⟨b, o, e2, h1, _⟩ := hf (j / 7) hi
    rw [e2] at e
    injection e with e
    subst e
    have : (⟨b, o, none⟩ : Addr).add j = ⟨b, o + j / 7 * 7 + j % 7, none⟩ := by
      have : o + j / 7 * 7 + j % 7 = o + j := by omega
      rw [this]
      unfold Addr.add
      split <;> simp_all
    rw [this, h1.2 (j % 7) (by omega), ← hf2]
theorem RowOf.cells {w : World} {P : Nat → Prop} {n : Nat} {a : Option Addr} {ds : List Dat} (h : RowOf w P (IsD w P n) a ds) : ∃ ns : List (List Value), ns.length = ds.length ∧ (∀ i, i < ds.length → IsD w P n (ns.getD i []) (ds.getD i default)) ∧ ns.flatten.length = ds.length * 7 ∧ (∀ u ∈ ns.flatten, u.oneCell' = true) ∧ (∀ ad, a = some ad → ∀ j u, ns.flatten[j]? = some u → w.cell? (ad.add j) = some u) :=
  h.cellsR (fun _ _ h => h.shaped)
end Go.Proofs.YtknbgbeepachgaaDoor

/-
  slices.Concat of two.
-/
namespace Go.Proofs.YtknbgbeepachgaaDoor
open Go.RowKit

/-- Nothing appended. -/
theorem wpList_app_none {P : Program} {w : World} {ops : Array Oper} {rest : List Oper} {o : Oper} {a : Act} {Q : Exit → Act → World → Prop} (hgd : o.guard = none) (s x : Operand) (t : TypeId)
    (ho : o.op = .call { callee := .builtin .append, args := #[s, x], argTypes := #[t, t] })
    (base : Nat) (e : TypeId) (i : TypeInfo) (size : Nat) (ht : P.underlying t = some (.slice e)) (hi : P.info? e = some i)
    (v : Value) (n : Nat) (xs : List Value) (hs : a.eval s = v) (hown : w.ownsRow base e size v n xs) (c : Nat) (hx : a.eval x = .slice none 0 c)
    (h : wpList P ops Q rest (a.put o.dst v) w) : wpList P ops Q (o :: rest) a w := by
  refine wpList_plain hgd fun K hK => ?_
  have hrun : (Builtin.append_ #[t, t] o.type #[v, .slice none 0 c]).run P w = .ok v w := by
    rcases hown.2 with ⟨rfl, _⟩ | ⟨g, cap, cur, rfl, _, _, hnc, _⟩
    · simp [Builtin.append_, run_underlying ht, sizeOf, typeInfo, hi, Builtin.lenOf, Builtin.firstCells]
    · simp [Builtin.append_, run_underlying ht, sizeOf, typeInfo, hi, Builtin.lenOf, Builtin.firstCells, hnc, storeCells]
  unfold Oper.wp
  simp [execOp, ho, resolve, invoke, builtin, hs, hx, hrun, Result.andThen]
  exact hK _ _ h
def preAt (is ts : List Dat) : Nat → List Dat
  | 0 => []
  | 1 => is
  | _ => is ++ ts
set_option maxRecDepth 100000 in
set_option maxHeartbeats 1500000 in
theorem concat_calls {P : Nat → Prop} {R : List Value → Dat → Prop} (hsh : ∀ cs d, R cs d → Shaped cs) {w : World} {b nI nT cI cT : Nat} {aI aT : Option Addr} {is ts : List Dat} (hB : Blk w b [.slice aI nI cI, .slice aT nT cT] 24) (hI : RowOf w P R aI is) (hT : RowOf w P R aT ts)
    (h1 : nI = is.length) (h2 : nT = ts.length) (hs : nI + nT ≤ 100000) :
    Calls Tryd.prog 68 #[.slice (some ⟨b, 0, none⟩) 2 2] w fun e w' => (∃ v, e = .returned v ∧ OwnD R w w' v (is ++ ts)) ∧ Upd [] w w' := by
  have hrow : ∀ j, j < 2 → ∃ (av : Option Addr) (m cv : Nat) (ds : List Dat), w.cell? ⟨b, j, none⟩ = some (.slice av m cv) ∧ m = ds.length ∧ RowOf w P R av ds ∧ preAt is ts (j + 1) = preAt is ts j ++ ds ∧ (preAt is ts j).length + m ≤ 100000 := by
    intro j hj
    obtain rfl | rfl : j = 0 ∨ j = 1 := by omega
    · exact ⟨aI, nI, cI, is, hB.cell_some rfl, h1, hI, rfl, by simp [preAt]; omega⟩
    · exact ⟨aT, nT, cT, ts, hB.cell_some rfl, h2, hT, rfl, by simp only [preAt]; omega⟩
  have hfin : is ++ ts = preAt is ts 2 := rfl
  rw [hfin]
  have h00 : preAt is ts 0 = [] := rfl
  have HB := Lib.hid hrow
  clear hrow hB hI hT h1 h2 hs hfin
  generalize preAt is ts = pre at *
  go_enter Tryd.func68, Tryd.ntmps68
  go_wp2_with fail
  go_loopw [3, 11] (fun s i wr => ∃ j : Nat, j ≤ 2 ∧ i = .int .i64 j ∧ s = .int .i64 ((pre j).length : Int) ∧ (pre j).length ≤ 100000 ∧ wr = w) (fun _ i _ => 2 - (intOf i).toNat)
  case atStart => exact ⟨0, by omega, rfl, by rw [h00]; rfl, by rw [h00]; simp, rfl⟩
  case round =>
    obtain ⟨j, hj, rfl, rfl, hle, rfl⟩ := hrel
    by_cases hj2 : j < 2
    · obtain ⟨av, m, cv, ds, hq, hm, _, hp, hle2⟩ := HB.out j hj2
      have hpl : (pre (j + 1)).length = (pre j).length + m := by rw [hp, List.length_append, hm]
      have HPL := Lib.hid hpl
      clear hpl hp hm
      generalize (pre j).length = lj at *
      go_wp2
      go_roundw
      case rel => exact ⟨j + 1, by omega, by go_num, by rw [HPL.out]; go_num, by rw [HPL.out]; omega, trivial⟩
      case measure => simp [intOf]; omega
    · have hj3 : j = 2 := by omega
      subst hj3
      obtain ⟨W0, rfl⟩ : ∃ W0 : World, W0 = wr := ⟨_, rfl⟩
      have hg := Lib.hid (grow_calls W0 (pre 2).length hle)
      go_wp2_with fail
      refine hg.out.mono ?_
      rintro e w2 ⟨⟨v, rfl, hO⟩, hu2⟩
      have hO2 : Hid (OwnD R W0 w2 v (pre 0)) := Lib.hid (by rw [h00]; exact ⟨[], rfl, fun i hi => absurd hi (by simp), hO⟩)
      have hU2 := Lib.hid hu2
      clear hg hO hu2
      go_wp2_with fail
      go_loopw [6, 27] (fun lv i wx => ∃ j : Nat, j ≤ 2 ∧ i = .int .i64 j ∧ Hid (OwnD R W0 wx lv (pre j)) ∧ Hid (Upd [] W0 wx)) (fun _ i _ => 2 - (intOf i).toNat)
      case atStart => exact ⟨0, by omega, rfl, hO2, hU2⟩
      case round =>
        obtain ⟨j, hj, rfl, hO, hU⟩ := hrel
        by_cases hj2 : j < 2
        · obtain ⟨av, m, cv, ds, hq, hm, hr, hp, hle2⟩ := HB.out j hj2
          have hq2 := hU.out.cell hq (by simp)
          obtain ⟨ns, n1, n2, n3, n4, n5⟩ := hr.cellsR hsh
          obtain ⟨css, c1, c2, c3⟩ := hO.out
          have hj2' : (j : Int) < 2 := by omega
          have hsz := hU.out.size
          have HC3 := Lib.hid c3
          have hadd : ∀ (v' : Value) (w' : World) (S : List Nat), Upd S wr w' → (∀ k, k ∈ S → W0.heap.size ≤ k) → w'.ownsRow W0.heap.size 56 7 v' ((pre j).length + ds.length) (css.flatten ++ ns.flatten) → OwnD R W0 w' v' (pre (j + 1)) := by
            intro v' w' S _ _ hO'
            rw [hp]
            exact OwnD.add c1 c2 n1 n2 hO'
          have HADD := Lib.hid hadd
          cases av with
          | none =>
            have hds : ds = [] := by
              cases ds with
              | nil => rfl
              | cons x xs => obtain ⟨_, _, _, e, _⟩ := hr 0 (by simp); cases e
            subst hds
            have hm0 : m = 0 := hm
            subst hm0
            have hns : ns = [] := by simpa using n1
            subst hns
            have hO9 : OwnD R W0 wr _ (pre (j + 1)) := HADD.out _ wr [] (Upd.refl _ _) (by simp) (by simpa using c3)
            have HO9 := Lib.hid hO9
            clear hadd HADD n1 n2 n3 n4 n5 c1 c2 c3 hO hr hq hO9 hm hp
            obtain ⟨i, hi, hz0, hz1, hz2⟩ := info_parts info_dat
            go_wp2_with (at_builtin; refine wpList_app_none rfl _ _ 24 rfl W0.heap.size 56 i 7 Tryd.underlying24 hi _ _ _ rfl HC3.out cv rfl ?_)
            go_wp2
            go_roundw
            case rel => exact ⟨j + 1, by omega, by go_num, HO9, hU⟩
            case measure => simp [intOf]; omega
          | some ad =>
            subst hm
            have hnw : ∀ jj u, ns.flatten[jj]? = some u → wr.cell? (ad.add jj) = some u := fun jj u h => hU.out.cell (n5 ad rfl jj u h) (by simp)
            have HNW := Lib.hid hnw
            have H4 := Lib.hid n4
            obtain ⟨i, hi, hz0, hz1, hz2⟩ := info_parts info_dat
            clear hadd n1 n2 n4 n5 c1 c2 c3 hO hr hq hnw
            generalize (pre j).length = lj at *
            generalize ds.length = ld at *
            go_wp2_with (at_builtin; refine wpList_append_own_at _ rfl _ _ 24 rfl W0.heap.size 56 i _ 7 112 Tryd.underlying24 hi hz0 hz1 hz2 rfl (by decide) _ _ _ rfl HC3.out ad ld cv ns.flatten rfl n3 HNW.out H4.out (by unfold maxLen; omega) (by omega) hsz ?_; intro v9 w9 hO9 hg9 _ _)
            have hg10 : wr.grownBy w9 u6.ownBlock := hg9
            have hu10 : Upd u6.ownBlock.toList wr w9 := Upd.of_grown hg10 (fun k hk => by simp [hk])
            have hS10 : ∀ k, k ∈ u6.ownBlock.toList → W0.heap.size ≤ k := fun k hk => (HC3.out.lt k (by simpa using hk)).1
            have hO10 := Lib.hid (HADD.out v9 w9 _ hu10 hS10 hO9)
            have hU10 := Lib.hid (hU.out.onto hu10 hS10)
            clear hO9 hg9 hg10 hu10 hS10 HADD HC3 HNW H4 n3 hq2 hp
            go_wp2
            go_roundw
            case rel => exact ⟨j + 1, by omega, by go_num, hO10, hU10⟩
            case measure => simp [intOf]; omega
        · have hj3 : j = 2 := by omega
          subst hj3
          go_wp2
          go_ret
          exact ⟨⟨_, rfl, hO.out⟩, hU.out⟩
end Go.Proofs.YtknbgbeepachgaaDoor

/-
  datum.parts and Depth.
-/
namespace Go.Proofs.YtknbgbeepachgaaDoor
open Go.RowKit

theorem OwnD.row {R : List Value → Dat → Prop} (hsh : ∀ cs d, R cs d → Shaped cs) {w0 w : World} {v : Value} {ds : List Dat} (h : OwnD R w0 w v ds) : ∃ a c, v = .slice a ds.length c ∧ RowOf w (fun _ => True) R a ds := by
  obtain ⟨css, h1, h2, h3⟩ := h
  have h4 := h3
  rcases h3.2 with ⟨rfl, h0⟩ | ⟨g, c, _, rfl, hb, _⟩
  · exact ⟨none, 0, by rw [h0], fun i hi => absurd hi (by omega)⟩
  · refine ⟨_, c, rfl, fun i hi => ⟨g, 0, css.getD i [], rfl, trivial, ?_, h2 i hi⟩⟩
    have hlen : ∀ cs ∈ css, cs.length = 7 := by
      intro cs hc
      obtain ⟨k, hk, rfl⟩ := List.getElem_of_mem hc
      have := (hsh _ _ (h2 k (by omega))).len
      simpa [List.getD_eq_getElem?_getD, hk] using this
    refine ⟨(hsh _ _ (h2 i hi)).len, fun j hj => ?_⟩
    rw [show 0 + i * 7 + j = i * 7 + j by omega, h4.cellAt (i * 7 + j) (by omega)]
    exact flatten_get hlen (by omega) hj
set_option maxRecDepth 100000 in
set_option maxHeartbeats 1500000 in
theorem partsR_calls {P : Nat → Prop} {n : Nat} {d : Dat} {cs : List Value} {w : World} (h : IsD w P (n + 1) cs d) (hs : d.items.length + d.tail.length ≤ 100000) :
    Calls Tryd.prog 66 #[.agg cs.toArray] w fun e w' => (∃ a c, e = .returned (.slice a (d.items ++ d.tail).length c) ∧ RowOf w' (fun _ => True) (IsD w P n) a (d.items ++ d.tail)) ∧ Upd [] w w' := by
  obtain ⟨aL, cL, aI, cI, aT, cT, rfl, h1, h2, h3, h4⟩ := h
  unfold datCells
  have hu1 : Upd [] w ((w.alloc (.cells #[.int .i64 d.kind, .bool d.neg, .slice aL d.limbs.length cL, .bool d.b, .string d.s, .slice aI d.items.length cI, .slice aT d.tail.length cT] 56)).alloc (.cells #[.slice aI d.items.length cI, .slice aT d.tail.length cT] 24)) := ((Upd.refl [] w).alloc _).alloc _
  have HI := Lib.hid (fun W (hu : Upd [] w W) => h2.map (R' := IsD w P n) (w' := W) (fun _ _ hp => hp) (fun _ _ _ _ hc => hu.cell hc (by simp)) (fun _ _ h => h))
  have HT := Lib.hid (fun W (hu : Upd [] w W) => h3.map (R' := IsD w P n) (w' := W) (fun _ _ hp => hp) (fun _ _ _ _ hc => hu.cell hc (by simp)) (fun _ _ h => h))
  have hU := Lib.hid hu1
  clear h1 h2 h3 h4 hu1
  go_enter Tryd.func66, Tryd.ntmps66
  go_wp2_with fail
  refine (concat_calls (P := P) (R := IsD w P n) (fun _ _ h => h.shaped) (is := d.items) (ts := d.tail) (Blk.newAt (by simp)) (HI.out _ hU.out) (HT.out _ hU.out) rfl rfl hs).mono ?_
  rintro e w2 ⟨⟨v, rfl, hO⟩, hu2⟩
  have hU2 := Lib.hid (hU.out.then hu2)
  obtain ⟨a, c, rfl, hR⟩ := hO.row (fun _ _ h => h.shaped)
  have HR := Lib.hid hR
  clear hO hR hu2 hU HI HT
  go_wp2
  go_ret
  exact ⟨⟨a, c, by rw [List.length_append]; rfl, HR.out⟩, hU2.out⟩
theorem parts_calls {P : Nat → Prop} {n : Nat} {d : Dat} {cs : List Value} {w : World} (h : IsD w P (n + 1) cs d) (hs : d.items.length + d.tail.length ≤ 100000) :
    Calls Tryd.prog 66 #[.agg cs.toArray] w fun e w' => (∃ a c, e = .returned (.slice a (d.items ++ d.tail).length c) ∧ RowOf w' (fun _ => True) (IsD w' (fun _ => True) n) a (d.items ++ d.tail)) ∧ Upd [] w w' :=
  (partsR_calls h hs).mono fun _ _ ⟨⟨a, c, e1, hr⟩, hu⟩ => ⟨⟨a, c, e1, hr.map (fun _ _ hp => hp) (fun _ _ _ _ hc => hc) (fun _ _ hd => (hd.upd hu).mono fun _ _ _ => trivial)⟩, hu⟩
end Go.Proofs.YtknbgbeepachgaaDoor

/-
  datum.Items.
-/
namespace Go.Proofs.YtknbgbeepachgaaDoor
open Go.RowKit

theorem RowOf.set_other {w : World} {P : Nat → Prop} {n : Nat} {a : Option Addr} {ds : List Dat} (h : RowOf w P (IsD w P n) a ds) (ad : Addr) (v : Value) (hP : ∀ b, P b → b ≠ ad.block) : RowOf (w.setCell ad v) P (IsD (w.setCell ad v) P n) a ds :=
  h.map (fun _ _ hp => hp) (fun b o u hp hc => (World.cell?_of_block (w := w) (Below.heap_setCell _ _ _ _ (by have := hP b hp; simpa [eq_comm] using this))).trans hc) (fun _ _ hd => hd.set_other ad v hP)
/-- What Items' loop leans on: the result's block r, the variable's block q, the list so far. -/
structure ItRel (w w1 wr : World) (r q n : Nat) (lv : Value) (ds : List Dat) : Prop where
  res : Blk wr r (datCells 0 false none 0 0 false ByteArray.empty none 0 0 none 0 0) 56
  out : Blk wr q [.int .i64 5, .bool false, .slice none 0 0, .bool false, .string ByteArray.empty, lv, .slice none 0 0] 56
  row : OutRow w1 wr n lv ds
  upd : Upd [] w wr
/-- The append of one datum that Copy made, at a step of a region. -/
theorem step_item {W1 W4 w5 : World} {j : Nat} {lv : Value} {css : List (List Value)} {cells : List Value} {ops : Array Oper} {o : Oper} {a : Act} {K : Act → World → Prop} {Q : Exit → Act → World → Prop} {E : Prop} (hgd : o.guard = none) (s x : Operand)
    (ho : o.op = .call { callee := .builtin .append, args := #[s, x], argTypes := #[24, 24] })
    (hs : a.eval s = lv) (hx : a.eval x = .slice (some ⟨w5.heap.size, 0, none⟩) 1 1)
    (hO : W4.ownsRow W1.heap.size 56 7 lv j css.flatten) (hu : Upd [] W4 w5) (h7 : cells.length = 7) (h1 : ∀ u ∈ cells, u.oneCell' = true) (hj : j ≤ 1000) (hb : W1.heap.size ≤ W4.heap.size)
    (h : ∀ g cap w10, w10.ownsRow W1.heap.size 56 7 (.slice (some ⟨g, 0, none⟩) (j + 1) cap) (j + 1) (css.flatten ++ cells) → (w5.alloc (.cells cells.toArray 56)).grownBy w10 lv.ownBlock → (lv.ownBlock = some g ∨ g = w5.heap.size + 1) → K (a.put o.dst (.slice (some ⟨g, 0, none⟩) (j + 1) cap)) w10) :
    if Region.wanted o (yielded ops a.tmps) = true then Oper.wp Tryd.prog o a (w5.alloc (.cells cells.toArray 56)) K Q else E := by
  obtain ⟨i0, hi, hz0, hz1, hz2⟩ := info_parts info_dat
  have hs5 := hu.size
  exact step_append_lies _ hgd s x 24 ho W1.heap.size 56 i0 _ 7 112 Tryd.underlying24 hi hz0 hz1 hz2 (by rfl) (by decide) lv j css.flatten hs (own_upd0 hO (hu.alloc _)) ⟨w5.heap.size, 0, none⟩ 1 1 cells hx (by omega) (World.news_of_block (Blk.newAt rfl)) h1 (by omega) (by unfold maxLen; omega) (by omega) (by simp; omega) (w5.heap.size + 1) (by simp) (fun g cap w10 hown hgr hg _ => h g cap w10 hown hgr hg)
/-- Behind the append and the store. -/
theorem it_join {w W1 wr W4 w5 w10 : World} {n g cap j : Nat} {lv : Value} {ds : List Dat} {x : Dat} {css : List (List Value)} {cells : List Value} {o5 : Obj} (hR : ItRel w W1 wr w.heap.size (w.heap.size + 1) n lv ds) (hW : W1.heap.size = w.heap.size + 2) (hu4 : Upd [] wr W4) (hj : ds.length = j)
    (hk3 : W4.ownsRow W1.heap.size 56 7 lv j css.flatten) (hk : css.length = ds.length ∧ ∀ i, i < ds.length → IsD W4 (fun b => W1.heap.size ≤ b ∧ lv.ownBlock ≠ some b) n (css.getD i []) (ds.getD i default))
    (hu5 : Upd [] W4 w5) (hD5 : IsD w5 (fun b => W4.heap.size ≤ b) n cells x) (h14 : W1.heap.size ≤ W4.heap.size)
    (hO10 : w10.ownsRow W1.heap.size 56 7 (.slice (some ⟨g, 0, none⟩) (j + 1) cap) (j + 1) (css.flatten ++ cells)) (hgr : (w5.alloc o5).grownBy w10 lv.ownBlock) (hg : lv.ownBlock = some g ∨ g = w5.heap.size + 1) :
    ItRel w W1 (w10.setCell ⟨w.heap.size + 1, 5, none⟩ (.slice (some ⟨g, 0, none⟩) (j + 1) cap)) w.heap.size (w.heap.size + 1) n (.slice (some ⟨g, 0, none⟩) (j + 1) cap) (ds ++ [x]) := by
  have hlo := hk3.lt
  have hn : ∀ b, b < W1.heap.size → lv.ownBlock ≠ some b := fun b hb e => by
    have := (hlo _ e).1
    omega
  have hua : Upd [] W4 (w5.alloc o5) := hu5.alloc _
  have h10 : ∀ {b : Nat} {cs : List Value} {t : TypeId}, Blk wr b cs t → b < W1.heap.size → Blk w10 b cs t := fun hb hl =>
    (hua.blk (hu4.blk hb (by simp)) (by simp)).of_eq (hgr.block _ (hua.blk (hu4.blk hb (by simp)) (by simp)).lt (fun e => hn _ hl e.symm))
  have hUg : Upd lv.ownBlock.toList (w5.alloc o5) w10 := Upd.of_grown hgr (fun k hk => by simp [hk])
  have hD : IsD (w5.alloc o5) (fun b => W1.heap.size ≤ b ∧ lv.ownBlock ≠ some b) n cells x := (hD5.upd ((Upd.refl [] w5).alloc o5)).mono fun b _ hp => ⟨by omega, fun e => by have := (hlo _ e).2; omega⟩
  have hadd : OutRow W1 w10 n (.slice (some ⟨g, 0, none⟩) (j + 1) cap) (ds ++ [x]) := by
    refine OutRow.add (w := w5.alloc o5) (v := lv) hk.1 (fun i hi => (hk.2 i hi).upd hua) hD hUg (fun k hk => by simpa using hk) ?_ (by rw [hj]; exact hO10)
    rcases hg with h | h
    · exact .inl h.symm
    · exact .inr ⟨g, rfl, by simp; omega⟩
  refine ⟨?_, ?_, hadd.step (S := [w.heap.size + 1]) ((Upd.refl _ _).setCell _ (.inl (by simp))) (fun b hb => .inl (by simp at hb; omega)), ?_⟩
  · exact (h10 hR.res (by omega)).set_other _ (by simp)
  · exact (h10 hR.out (by omega)).set 5 _
  · refine (((hR.upd.then hu4).then hua).onto hUg (fun b hb => ?_)).setCell _ (.inr (by simp))
    have := (hlo b (by simpa using hb)).1
    omega
end Go.Proofs.YtknbgbeepachgaaDoor

/-
  nat.trim, nat.Norm, whole.of, whole.Norm.
-/
namespace Go.Proofs.YtknbgbeepachgaaDoor
open Go.RowKit

/-- Without noughts at the end. -/
def trimL (xs : List Int) : List Int := (xs.reverse.dropWhile (· == 0)).reverse
theorem trimL_nil : trimL [] = [] := rfl
theorem trimL_zero (ys : List Int) : trimL (ys ++ [0]) = trimL ys := by simp [trimL]
theorem trimL_other (ys : List Int) {x : Int} (h : x ≠ 0) : trimL (ys ++ [x]) = ys ++ [x] := by simp [trimL, h]
theorem take_last {xs : List Int} {k : Nat} (hk : k < xs.length) : xs.take (k + 1) = xs.take k ++ [xs.getD k 0] := by
  rw [List.take_succ_eq_append_getElem hk]
  simp [List.getD_eq_getElem?_getD, hk]
theorem trimL_prefix (xs : List Int) : ∃ k, k ≤ xs.length ∧ trimL xs = xs.take k := by
  suffices h : ∀ k, k ≤ xs.length → ∃ j, j ≤ xs.length ∧ trimL (xs.take k) = xs.take j by
    obtain ⟨j, h1, h2⟩ := h xs.length (Nat.le_refl _)
    rw [List.take_length] at h2
    exact ⟨j, h1, h2⟩
  intro k
  induction k with
  | zero => intro _; exact ⟨0, by omega, by simp [trimL]⟩
  | succ k ih =>
    intro hk
    rw [take_last (by omega)]
    by_cases h : xs.getD k 0 = 0
    · rw [h, trimL_zero]
      exact ih (by omega)
    · rw [trimL_other _ h]
      exact ⟨k + 1, hk, (take_last (by omega)).symm⟩
theorem LimbsOf.take {w : World} {P : Nat → Prop} {a : Option Addr} {xs : List Int} (h : LimbsOf w P a xs) (k : Nat) : LimbsOf w P a (xs.take k) := by
  intro i hi
  have hi' : i < k ∧ i < xs.length := by
    rw [List.length_take] at hi
    omega
  obtain ⟨b, o, e, hp, hc⟩ := h i hi'.2
  refine ⟨b, o, e, hp, ?_⟩
  rw [hc]
  simp [List.getD_eq_getElem?_getD, hi'.1]
theorem madeL_at {W : World} {b m : Nat} {t : TypeId} (hb : b = W.heap.size) : Blk (W.alloc (.cells (madeCells #[.int .u32 0] m) t)) b (List.replicate m (.int .u32 0)) t := by
  have := Blk.newAt (c := madeCells #[.int .u32 0] m) (t := t) hb
  rwa [toList_madeCells_one] at this
theorem LimbsOf.news {w : World} {P : Nat → Prop} {a : Option Addr} {xs : List Int} (h : LimbsOf w P a xs) (hl : 0 < xs.length) : ∃ ad, a = some ad ∧ ∀ j u, (xs.map (Value.int .u32))[j]? = some u → w.cell? (ad.add j) = some u := by
  obtain ⟨b, o, e, _, _⟩ := h 0 hl
  refine ⟨_, e, fun j u hj => ?_⟩
  have hjl : j < xs.length := by
    have := (List.getElem?_eq_some_iff.1 hj).1
    simpa using this
  obtain ⟨b', o', e', _, hc⟩ := h j hjl
  rw [e] at e'
  injection e' with e'
  injection e' with e1 e2
  subst e1; subst e2
  have : (⟨b, o, none⟩ : Addr).add j = ⟨b, o + j, none⟩ := by unfold Addr.add; split <;> simp_all
  rw [this, hc, ← hj]
  simp [List.getD_eq_getElem?_getD, hjl]
/-- A number in new memory. -/
def NumPost (w : World) (neg : Bool) (ts : List Int) (e : Ending) (w' : World) : Prop :=
  (∃ a c, e = .returned (.agg #[.bool (neg && decide (0 < ts.length)), .slice a ts.length c]) ∧ LimbsOf w' (fun b => w.heap.size ≤ b) a ts ∧ ts.length ≤ c) ∧ Upd [] w w'
theorem LimbsOf.mono {w : World} {P Q : Nat → Prop} {a : Option Addr} {xs : List Int} (h : LimbsOf w P a xs) (hP : ∀ b, P b → Q b) : LimbsOf w Q a xs := by
  intro i hi
  obtain ⟨b, o, e, hp, hc⟩ := h i hi
  exact ⟨b, o, e, hP b hp, hc⟩
theorem LimbsOf.upd0 {w w' : World} {P : Nat → Prop} {a : Option Addr} {xs : List Int} (h : LimbsOf w P a xs) (hu : Upd [] w w') : LimbsOf w' P a xs := by
  intro i hi
  obtain ⟨b, o, e, hp, hc⟩ := h i hi
  exact ⟨b, o, e, hp, hu.cell hc (by simp)⟩
theorem LimbsOf.set_other {w : World} {P : Nat → Prop} {a : Option Addr} {xs : List Int} (h : LimbsOf w P a xs) (p : Addr) (v : Value) (hP : ∀ b, P b → b ≠ p.block) : LimbsOf (w.setCell p v) P a xs := by
  intro i hi
  obtain ⟨b, o, e, hp, hc⟩ := h i hi
  exact ⟨b, o, e, hp, (World.cell?_of_block (w := w) (Below.heap_setCell _ _ _ _ (by have := hP b hp; simpa [eq_comm] using this))).trans hc⟩
end Go.Proofs.YtknbgbeepachgaaDoor

/-
  What norm makes of a datum; datum.joined.
-/
namespace Go.Proofs.YtknbgbeepachgaaDoor
open Go.RowKit

/-! ### The plain part -/
theorem szL_same {f g : Dat → Nat} (h : ∀ d, f d ≤ 1000000 → g d = f d) : ∀ ds : List Dat, szL f ds ≤ 1000000 → szL g ds = szL f ds
  | [], _ => rfl
  | d :: ds, hs => by
    rw [szL] at hs
    rw [szL, szL, h d (by omega), szL_same h ds (by omega)]
theorem szN_one : ∀ (n : Nat) (d : Dat), szN n d ≤ 1000000 → szN (n + 1) d = szN n d
  | 0, _, h => by rw [szN] at h; omega
  | n + 1, d, h => by
    rw [szN] at h
    rw [szN, szN, szL_same (szN_one n) d.items (by omega), szL_same (szN_one n) d.tail (by omega)]
theorem dpL_same {f g s : Dat → Nat} (h : ∀ d, s d ≤ 1000000 → g d = f d) : ∀ ds : List Dat, szL s ds ≤ 1000000 → dpL g ds = dpL f ds
  | [], _ => rfl
  | d :: ds, hs => by
    rw [szL] at hs
    rw [dpL, dpL, h d (by omega), dpL_same h ds (by omega)]
theorem dpN_one : ∀ (n : Nat) (d : Dat), szN n d ≤ 1000000 → dpN (n + 1) d = dpN n d
  | 0, _, h => by rw [szN] at h; omega
  | n + 1, d, h => by
    rw [szN] at h
    rw [dpN, dpN, dpL_same (dpN_one n) d.items (by omega), dpL_same (dpN_one n) d.tail (by omega)]
/-- Items, and what stands behind them. -/
def joinD (l : List Dat) (t : Dat) : Dat :=
  if l = [] then t else if t.kind = 5 then .mk 5 false [] false ByteArray.empty (l ++ t.items) t.tail else .mk 5 false [] false ByteArray.empty l [t]
/-- As it must be. -/
def normD : Nat → Dat → Dat
  | 0, _ => default
  | n + 1, d =>
    if d.kind = 1 then .mk 1 (d.neg && decide (0 < (trimL d.limbs).length)) (trimL d.limbs) false ByteArray.empty [] []
    else if d.kind = 2 then .mk 2 false [] d.b ByteArray.empty [] []
    else if d.kind = 3 ∨ d.kind = 4 then .mk d.kind false [] false d.s [] []
    else if d.kind = 5 then (if d.tail = [] then .mk 5 false [] false ByteArray.empty (d.items.map (normD n)) [] else joinD (d.items.map (normD n)) (normD n (d.tail.getD 0 default)))
    else .mk d.kind false [] false ByteArray.empty [] []
theorem szL_map {f : Dat → Nat} {g : Dat → Dat} (h : ∀ d, f d ≤ 1000000 → f (g d) ≤ f d) : ∀ ds : List Dat, szL f ds ≤ 1000000 → szL f (ds.map g) ≤ szL f ds
  | [], _ => Nat.le_refl _
  | d :: ds, hs => by
    rw [szL] at hs
    have h1 := h d (by omega)
    have h2 := szL_map h ds (by omega)
    rw [List.map_cons, szL, szL]
    omega
theorem dpL_map {f s : Dat → Nat} {g : Dat → Dat} (h : ∀ d, s d ≤ 1000000 → f (g d) ≤ f d) : ∀ ds : List Dat, szL s ds ≤ 1000000 → dpL f (ds.map g) ≤ dpL f ds
  | [], _ => Nat.le_refl _
  | d :: ds, hs => by
    rw [szL] at hs
    have h1 := h d (by omega)
    have h2 := dpL_map h ds (by omega)
    rw [List.map_cons, dpL, dpL]
    omega
theorem szN_mk (n : Nat) (k : Int) (g : Bool) (ls : List Int) (b : Bool) (s : ByteArray) (i t : List Dat) : szN (n + 1) (.mk k g ls b s i t) = 1 + szL (szN n) i + szL (szN n) t := by rw [szN]; rfl
theorem dpN_mk (n : Nat) (k : Int) (g : Bool) (ls : List Int) (b : Bool) (s : ByteArray) (i t : List Dat) : dpN (n + 1) (.mk k g ls b s i t) = 1 + max (dpL (dpN n) i) (dpL (dpN n) t) := by rw [dpN]; rfl
theorem joinD_sz (n : Nat) (l : List Dat) (t : Dat) (hs : 1 + szL (szN n) l + szN n t ≤ 1000000) : szN (n + 1) (joinD l t) ≤ 1 + szL (szN n) l + szN n t := by
  unfold joinD
  split
  · rw [szN_one n t (by omega)]
    omega
  · split
    · cases n with
      | zero => rw [szN] at hs; omega
      | succ n =>
        have h := hs
        rw [szN] at h
        rw [szN_mk, szL_append, szL_same (f := szN n) (szN_one n) t.items (by omega), szL_same (f := szN n) (szN_one n) t.tail (by omega)]
        rw [show szN (n + 1) t = 1 + szL (szN n) t.items + szL (szN n) t.tail by rw [szN]]
        omega
    · rw [szN_mk]
      simp only [szL]
      omega
theorem joinD_dp (n : Nat) (l : List Dat) (t : Dat) (hs : 1 + szL (szN n) l + szN n t ≤ 1000000) : dpN (n + 1) (joinD l t) ≤ 1 + max (dpL (dpN n) l) (dpN n t) := by
  unfold joinD
  split
  · rw [dpN_one n t (by omega)]
    omega
  · split
    · cases n with
      | zero => rw [szN] at hs; omega
      | succ n =>
        have h := hs
        rw [szN] at h
        rw [dpN_mk, dpL_append, dpL_same (f := dpN n) (s := szN n) (dpN_one n) t.items (by omega), dpL_same (f := dpN n) (s := szN n) (dpN_one n) t.tail (by omega)]
        rw [show dpN (n + 1) t = 1 + max (dpL (dpN n) t.items) (dpL (dpN n) t.tail) by rw [dpN]]
        omega
    · rw [dpN_mk]
      simp only [dpL]
      omega
theorem szN_flat (n : Nat) (k : Int) (g : Bool) (ls : List Int) (b : Bool) (s : ByteArray) : szN (n + 1) (.mk k g ls b s [] []) = 1 := by rw [szN]; rfl
theorem dpN_flat (n : Nat) (k : Int) (g : Bool) (ls : List Int) (b : Bool) (s : ByteArray) : dpN (n + 1) (.mk k g ls b s [] []) = 1 := by rw [dpN]; rfl
theorem tail0_sz {f : Dat → Nat} {ds : List Dat} (h : ds ≠ []) : f (ds.getD 0 default) ≤ szL f ds := szL_get f (List.length_pos_iff.2 h)
theorem normD_sz : ∀ (n : Nat) (d : Dat), szN n d ≤ 1000000 → szN n (normD n d) ≤ szN n d
  | 0, _, h => by rw [szN] at h; omega
  | n + 1, d, h => by
    have h0 := h
    rw [szN] at h0
    rw [normD]
    have hi := szL_map (normD_sz n) d.items (by omega)
    have hp := szN_pos (n + 1) d
    split
    · rw [szN_flat]; exact hp
    · split
      · rw [szN_flat]; exact hp
      · split
        · rw [szN_flat]; exact hp
        · split
          · split
            · rename_i ht
              rw [szN_mk, szN]
              simp only [szL]
              omega
            · rename_i ht
              have h1 := tail0_sz (f := szN n) ht
              have h2 := normD_sz n (d.tail.getD 0 default) (by omega)
              have h3 := joinD_sz n (d.items.map (normD n)) (normD n (d.tail.getD 0 default)) (by omega)
              rw [show szN (n + 1) d = 1 + szL (szN n) d.items + szL (szN n) d.tail by rw [szN]]
              omega
          · rw [szN_flat]; exact hp
theorem dpN_pos (n : Nat) (d : Dat) : 1 ≤ dpN (n + 1) d := by rw [dpN]; omega
theorem normD_dp : ∀ (n : Nat) (d : Dat), szN n d ≤ 1000000 → dpN n (normD n d) ≤ dpN n d
  | 0, _, h => by rw [szN] at h; omega
  | n + 1, d, h => by
    have h0 := h
    rw [szN] at h0
    rw [normD]
    have hi := dpL_map (normD_dp n) d.items (by omega)
    have hs := szL_map (normD_sz n) d.items (by omega)
    have hp := dpN_pos n d
    split
    · rw [dpN_flat]; exact hp
    · split
      · rw [dpN_flat]; exact hp
      · split
        · rw [dpN_flat]; exact hp
        · split
          · split
            · rename_i ht
              rw [dpN_mk, dpN]
              simp only [dpL]
              omega
            · rename_i ht
              have h1 := tail0_sz (f := szN n) ht
              have h1' := dpL_get (dpN n) (List.length_pos_iff.2 ht)
              have h2 := normD_sz n (d.tail.getD 0 default) (by omega)
              have h2' := normD_dp n (d.tail.getD 0 default) (by omega)
              have h3 := joinD_dp n (d.items.map (normD n)) (normD n (d.tail.getD 0 default)) (by omega)
              rw [show dpN (n + 1) d = 1 + max (dpL (dpN n) d.items) (dpL (dpN n) d.tail) by rw [dpN]]
              omega
          · rw [dpN_flat]; exact hp
end Go.Proofs.YtknbgbeepachgaaDoor
