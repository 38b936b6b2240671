/-
  slices.Concat of two.
-/
import Derived.Test.YtknbgbeepachgaaDatG
import Derived.Laws.AppendOwnNone
namespace Go.Proofs.Ytknbgbeepachgaa
open Go.RowKit

/-- Nothing appended. -/
theorem wpList_app_none {P : Program} {w : World} {ops : Array Oper} {rest : List Oper} {o : Oper} {a : Act} {Q : Exit → Act → World → Prop} (hgd : o.guard = none) (s x : Operand) (t : TypeId)
    (ho : o.op = .call { callee := .builtin .append, args := #[s, x], argTypes := #[t, t] })
    (base : Nat) (e : TypeId) (i : TypeInfo) (size : Nat) (ht : P.underlying t = some (.slice e)) (hi : P.info? e = some i)
    (v : Value) (n : Nat) (xs : List Value) (hs : a.eval s = v) (hown : w.ownsRow base e size v n xs) (c : Nat) (hx : a.eval x = .slice none 0 c)
    (h : wpList P ops Q rest (a.put o.dst v) w) : wpList P ops Q (o :: rest) a w := by
  refine wpList_plain hgd fun K hK => ?_
  have hrun : (Builtin.append_ #[t, t] o.type #[v, .slice none 0 c]).run P w = .ok v w := by
    rcases hown.2 with ⟨rfl, _⟩ | ⟨g, cap, cur, rfl, _, _, hnc, _⟩
    · simp [Builtin.append_, run_underlying ht, sizeOf, typeInfo, hi, Builtin.lenOf, Builtin.firstCells]
    · simp [Builtin.append_, run_underlying ht, sizeOf, typeInfo, hi, Builtin.lenOf, Builtin.firstCells, hnc, storeCells]
  unfold Oper.wp
  simp [execOp, ho, resolve, invoke, builtin, hs, hx, hrun, Result.andThen]
  exact hK _ _ h
def preAt (is ts : List Dat) : Nat → List Dat
  | 0 => []
  | 1 => is
  | _ => is ++ ts
set_option maxRecDepth 100000 in
set_option maxHeartbeats 1500000 in
theorem concat_calls {P : Nat → Prop} {R : List Value → Dat → Prop} (hsh : ∀ cs d, R cs d → Shaped cs) {w : World} {b nI nT cI cT : Nat} {aI aT : Option Addr} {is ts : List Dat} (hB : Blk w b [.slice aI nI cI, .slice aT nT cT] 25) (hI : RowOf w P R aI is) (hT : RowOf w P R aT ts)
    (h1 : nI = is.length) (h2 : nT = ts.length) (hs : nI + nT ≤ 100000) :
    Calls Try.prog 46 #[.slice (some ⟨b, 0, none⟩) 2 2] w fun e w' => (∃ v, e = .returned v ∧ OwnD R w w' v (is ++ ts)) ∧ Upd [] w w' := by
  have hrow : ∀ j, j < 2 → ∃ (av : Option Addr) (m cv : Nat) (ds : List Dat), w.cell? ⟨b, j, none⟩ = some (.slice av m cv) ∧ m = ds.length ∧ RowOf w P R av ds ∧ preAt is ts (j + 1) = preAt is ts j ++ ds ∧ (preAt is ts j).length + m ≤ 100000 := by
    intro j hj
    obtain rfl | rfl : j = 0 ∨ j = 1 := by omega
    · exact ⟨aI, nI, cI, is, hB.cell_some rfl, h1, hI, rfl, by simp [preAt]; omega⟩
    · exact ⟨aT, nT, cT, ts, hB.cell_some rfl, h2, hT, rfl, by simp only [preAt]; omega⟩
  have hfin : is ++ ts = preAt is ts 2 := rfl
  rw [hfin]
  have h00 : preAt is ts 0 = [] := rfl
  have HB := Lib.hid hrow
  clear hrow hB hI hT h1 h2 hs hfin
  generalize preAt is ts = pre at *
  go_enter Try.func46, Try.ntmps46
  go_wp2_with fail
  go_loopw [3, 11] (fun s i wr => ∃ j : Nat, j ≤ 2 ∧ i = .int .i64 j ∧ s = .int .i64 ((pre j).length : Int) ∧ (pre j).length ≤ 100000 ∧ wr = w) (fun _ i _ => 2 - (intOf i).toNat)
  case atStart => exact ⟨0, by omega, rfl, by rw [h00]; rfl, by rw [h00]; simp, rfl⟩
  case round =>
    obtain ⟨j, hj, rfl, rfl, hle, rfl⟩ := hrel
    by_cases hj2 : j < 2
    · obtain ⟨av, m, cv, ds, hq, hm, _, hp, hle2⟩ := HB.out j hj2
      have hpl : (pre (j + 1)).length = (pre j).length + m := by rw [hp, List.length_append, hm]
      have HPL := Lib.hid hpl
      clear hpl hp hm
      generalize (pre j).length = lj at *
      go_wp2
      go_roundw
      case rel => exact ⟨j + 1, by omega, by go_num, by rw [HPL.out]; go_num, by rw [HPL.out]; omega, trivial⟩
      case measure => simp [intOf]; omega
    · have hj3 : j = 2 := by omega
      subst hj3
      obtain ⟨W0, rfl⟩ : ∃ W0 : World, W0 = wr := ⟨_, rfl⟩
      have hg := Lib.hid (grow_calls W0 (pre 2).length hle)
      go_wp2_with fail
      refine hg.out.mono ?_
      rintro e w2 ⟨⟨v, rfl, hO⟩, hu2⟩
      have hO2 : Hid (OwnD R W0 w2 v (pre 0)) := Lib.hid (by rw [h00]; exact ⟨[], rfl, fun i hi => absurd hi (by simp), hO⟩)
      have hU2 := Lib.hid hu2
      clear hg hO hu2
      go_wp2_with fail
      go_loopw [6, 27] (fun lv i wx => ∃ j : Nat, j ≤ 2 ∧ i = .int .i64 j ∧ Hid (OwnD R W0 wx lv (pre j)) ∧ Hid (Upd [] W0 wx)) (fun _ i _ => 2 - (intOf i).toNat)
      case atStart => exact ⟨0, by omega, rfl, hO2, hU2⟩
      case round =>
        obtain ⟨j, hj, rfl, hO, hU⟩ := hrel
        by_cases hj2 : j < 2
        · obtain ⟨av, m, cv, ds, hq, hm, hr, hp, hle2⟩ := HB.out j hj2
          have hq2 := hU.out.cell hq (by simp)
          obtain ⟨ns, n1, n2, n3, n4, n5⟩ := hr.cellsR hsh
          obtain ⟨css, c1, c2, c3⟩ := hO.out
          have hj2' : (j : Int) < 2 := by omega
          have hsz := hU.out.size
          have HC3 := Lib.hid c3
          have hadd : ∀ (v' : Value) (w' : World) (S : List Nat), Upd S wr w' → (∀ k, k ∈ S → W0.heap.size ≤ k) → w'.ownsRow W0.heap.size 27 7 v' ((pre j).length + ds.length) (css.flatten ++ ns.flatten) → OwnD R W0 w' v' (pre (j + 1)) := by
            intro v' w' S _ _ hO'
            rw [hp]
            exact OwnD.add c1 c2 n1 n2 hO'
          have HADD := Lib.hid hadd
          cases av with
          | none =>
            have hds : ds = [] := by
              cases ds with
              | nil => rfl
              | cons x xs => obtain ⟨_, _, _, e, _⟩ := hr 0 (by simp); cases e
            subst hds
            have hm0 : m = 0 := hm
            subst hm0
            have hns : ns = [] := by simpa using n1
            subst hns
            have hO9 : OwnD R W0 wr _ (pre (j + 1)) := HADD.out _ wr [] (Upd.refl _ _) (by simp) (by simpa using c3)
            have HO9 := Lib.hid hO9
            clear hadd HADD n1 n2 n3 n4 n5 c1 c2 c3 hO hr hq hO9 hm hp
            obtain ⟨i, hi, hz0, hz1, hz2⟩ := info_parts info_dat
            go_wp2_with (at_builtin; refine wpList_app_none rfl _ _ 25 rfl W0.heap.size 27 i 7 Try.underlying25 hi _ _ _ rfl HC3.out cv rfl ?_)
            go_wp2
            go_roundw
            case rel => exact ⟨j + 1, by omega, by go_num, HO9, hU⟩
            case measure => simp [intOf]; omega
          | some ad =>
            subst hm
            have hnw : ∀ jj u, ns.flatten[jj]? = some u → wr.cell? (ad.add jj) = some u := fun jj u h => hU.out.cell (n5 ad rfl jj u h) (by simp)
            have HNW := Lib.hid hnw
            have H4 := Lib.hid n4
            obtain ⟨i, hi, hz0, hz1, hz2⟩ := info_parts info_dat
            clear hadd n1 n2 n4 n5 c1 c2 c3 hO hr hq hnw
            generalize (pre j).length = lj at *
            generalize ds.length = ld at *
            go_wp2_with (at_builtin; refine wpList_append_own_at _ rfl _ _ 25 rfl W0.heap.size 27 i _ 7 112 Try.underlying25 hi hz0 hz1 hz2 rfl (by decide) _ _ _ rfl HC3.out ad ld cv ns.flatten rfl n3 HNW.out H4.out (by unfold maxLen; omega) (by omega) hsz ?_; intro v9 w9 hO9 hg9 _ _)
            have hg10 : wr.grownBy w9 u6.ownBlock := hg9
            have hu10 : Upd u6.ownBlock.toList wr w9 := Upd.of_grown hg10 (fun k hk => by simp [hk])
            have hS10 : ∀ k, k ∈ u6.ownBlock.toList → W0.heap.size ≤ k := fun k hk => (HC3.out.lt k (by simpa using hk)).1
            have hO10 := Lib.hid (HADD.out v9 w9 _ hu10 hS10 hO9)
            have hU10 := Lib.hid (hU.out.onto hu10 hS10)
            clear hO9 hg9 hg10 hu10 hS10 HADD HC3 HNW H4 n3 hq2 hp
            go_wp2
            go_roundw
            case rel => exact ⟨j + 1, by omega, by go_num, hO10, hU10⟩
            case measure => simp [intOf]; omega
        · have hj3 : j = 2 := by omega
          subst hj3
          go_wp2
          go_ret
          exact ⟨⟨_, rfl, hO.out⟩, hU.out⟩
end Go.Proofs.Ytknbgbeepachgaa
