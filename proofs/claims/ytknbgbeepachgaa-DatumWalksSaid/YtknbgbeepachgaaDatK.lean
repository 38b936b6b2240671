/-
  datum.Items.
-/
import Derived.Test.YtknbgbeepachgaaDatI
import Derived.Deep.RegionLaw
import Derived.Deep.AppendLies
namespace Go.Proofs.Ytknbgbeepachgaa
open Go.RowKit

theorem RowOf.set_other {w : World} {P : Nat → Prop} {n : Nat} {a : Option Addr} {ds : List Dat} (h : RowOf w P (IsD w P n) a ds) (ad : Addr) (v : Value) (hP : ∀ b, P b → b ≠ ad.block) : RowOf (w.setCell ad v) P (IsD (w.setCell ad v) P n) a ds :=
  h.map (fun _ _ hp => hp) (fun b o u hp hc => (World.cell?_of_block (w := w) (Below.heap_setCell _ _ _ _ (by have := hP b hp; simpa [eq_comm] using this))).trans hc) (fun _ _ hd => hd.set_other ad v hP)
/-- What Items' loop leans on: the result's block r, the variable's block q, the list so far. -/
structure ItRel (w w1 wr : World) (r q n : Nat) (lv : Value) (ds : List Dat) : Prop where
  res : Blk wr r (datCells 0 false none 0 0 false ByteArray.empty none 0 0 none 0 0) 27
  out : Blk wr q [.int .i64 5, .bool false, .slice none 0 0, .bool false, .string ByteArray.empty, lv, .slice none 0 0] 27
  row : OutRow w1 wr n lv ds
  upd : Upd [] w wr
/-- The append of one datum that Copy made, at a step of a region. -/
theorem step_item {W1 W4 w5 : World} {j : Nat} {lv : Value} {css : List (List Value)} {cells : List Value} {ops : Array Oper} {o : Oper} {a : Act} {K : Act → World → Prop} {Q : Exit → Act → World → Prop} {E : Prop} (hgd : o.guard = none) (s x : Operand)
    (ho : o.op = .call { callee := .builtin .append, args := #[s, x], argTypes := #[25, 25] })
    (hs : a.eval s = lv) (hx : a.eval x = .slice (some ⟨w5.heap.size, 0, none⟩) 1 1)
    (hO : W4.ownsRow W1.heap.size 27 7 lv j css.flatten) (hu : Upd [] W4 w5) (h7 : cells.length = 7) (h1 : ∀ u ∈ cells, u.oneCell' = true) (hj : j ≤ 1000) (hb : W1.heap.size ≤ W4.heap.size)
    (h : ∀ g cap w10, w10.ownsRow W1.heap.size 27 7 (.slice (some ⟨g, 0, none⟩) (j + 1) cap) (j + 1) (css.flatten ++ cells) → (w5.alloc (.cells cells.toArray 27)).grownBy w10 lv.ownBlock → (lv.ownBlock = some g ∨ g = w5.heap.size + 1) → K (a.put o.dst (.slice (some ⟨g, 0, none⟩) (j + 1) cap)) w10) :
    if Region.wanted o (yielded ops a.tmps) = true then Oper.wp Try.prog o a (w5.alloc (.cells cells.toArray 27)) K Q else E := by
  obtain ⟨i0, hi, hz0, hz1, hz2⟩ := info_parts info_dat
  have hs5 := hu.size
  exact step_append_lies _ hgd s x 25 ho W1.heap.size 27 i0 _ 7 112 Try.underlying25 hi hz0 hz1 hz2 (by rfl) (by decide) lv j css.flatten hs (own_upd0 hO (hu.alloc _)) ⟨w5.heap.size, 0, none⟩ 1 1 cells hx (by omega) (World.news_of_block (Blk.newAt rfl)) h1 (by omega) (by unfold maxLen; omega) (by omega) (by simp; omega) (w5.heap.size + 1) (by simp) (fun g cap w10 hown hgr hg _ => h g cap w10 hown hgr hg)
/-- Behind the append and the store. -/
theorem it_join {w W1 wr W4 w5 w10 : World} {n g cap j : Nat} {lv : Value} {ds : List Dat} {x : Dat} {css : List (List Value)} {cells : List Value} {o5 : Obj} (hR : ItRel w W1 wr w.heap.size (w.heap.size + 1) n lv ds) (hW : W1.heap.size = w.heap.size + 2) (hu4 : Upd [] wr W4) (hj : ds.length = j)
    (hk3 : W4.ownsRow W1.heap.size 27 7 lv j css.flatten) (hk : css.length = ds.length ∧ ∀ i, i < ds.length → IsD W4 (fun b => W1.heap.size ≤ b ∧ lv.ownBlock ≠ some b) n (css.getD i []) (ds.getD i default))
    (hu5 : Upd [] W4 w5) (hD5 : IsD w5 (fun b => W4.heap.size ≤ b) n cells x) (h14 : W1.heap.size ≤ W4.heap.size)
    (hO10 : w10.ownsRow W1.heap.size 27 7 (.slice (some ⟨g, 0, none⟩) (j + 1) cap) (j + 1) (css.flatten ++ cells)) (hgr : (w5.alloc o5).grownBy w10 lv.ownBlock) (hg : lv.ownBlock = some g ∨ g = w5.heap.size + 1) :
    ItRel w W1 (w10.setCell ⟨w.heap.size + 1, 5, none⟩ (.slice (some ⟨g, 0, none⟩) (j + 1) cap)) w.heap.size (w.heap.size + 1) n (.slice (some ⟨g, 0, none⟩) (j + 1) cap) (ds ++ [x]) := by
  have hlo := hk3.lt
  have hn : ∀ b, b < W1.heap.size → lv.ownBlock ≠ some b := fun b hb e => by
    have := (hlo _ e).1
    omega
  have hua : Upd [] W4 (w5.alloc o5) := hu5.alloc _
  have h10 : ∀ {b : Nat} {cs : List Value} {t : TypeId}, Blk wr b cs t → b < W1.heap.size → Blk w10 b cs t := fun hb hl =>
    (hua.blk (hu4.blk hb (by simp)) (by simp)).of_eq (hgr.block _ (hua.blk (hu4.blk hb (by simp)) (by simp)).lt (fun e => hn _ hl e.symm))
  have hUg : Upd lv.ownBlock.toList (w5.alloc o5) w10 := Upd.of_grown hgr (fun k hk => by simp [hk])
  have hD : IsD (w5.alloc o5) (fun b => W1.heap.size ≤ b ∧ lv.ownBlock ≠ some b) n cells x := (hD5.upd ((Upd.refl [] w5).alloc o5)).mono fun b _ hp => ⟨by omega, fun e => by have := (hlo _ e).2; omega⟩
  have hadd : OutRow W1 w10 n (.slice (some ⟨g, 0, none⟩) (j + 1) cap) (ds ++ [x]) := by
    refine OutRow.add (w := w5.alloc o5) (v := lv) hk.1 (fun i hi => (hk.2 i hi).upd hua) hD hUg (fun k hk => by simpa using hk) ?_ (by rw [hj]; exact hO10)
    rcases hg with h | h
    · exact .inl h.symm
    · exact .inr ⟨g, rfl, by simp; omega⟩
  refine ⟨?_, ?_, hadd.step (S := [w.heap.size + 1]) ((Upd.refl _ _).setCell _ (.inl (by simp))) (fun b hb => .inl (by simp at hb; omega)), ?_⟩
  · exact (h10 hR.res (by omega)).set_other _ (by simp)
  · exact (h10 hR.out (by omega)).set 5 _
  · refine (((hR.upd.then hu4).then hua).onto hUg (fun b hb => ?_)).setCell _ (.inr (by simp))
    have := (hlo b (by simpa using hb)).1
    omega
set_option maxRecDepth 100000 in
set_option maxHeartbeats 1500000 in
theorem items_calls {P : Nat → Prop} {w : World} {n m c : Nat} {a : Option Addr} {ds : List Dat} (hr : RowOf w P (IsD w P n) a ds) (hm : m = ds.length) (h10 : m ≤ 100) (hs : ∀ i, i < ds.length → szN n (ds.getD i default) ≤ 100000 ∧ dpN n (ds.getD i default) ≤ 10000) :
    Calls Try.prog 17 #[.slice a m c] w fun e w' => (∃ cs', e = .returned (.agg cs'.toArray) ∧ IsD w' (fun b => w.heap.size ≤ b) (n + 1) cs' (.mk 5 false [] false ByteArray.empty ds [])) ∧ Upd [] w w' := by
  have HR := Lib.hid hr
  have HS := Lib.hid hs
  have HM := Lib.hid hm
  clear hr hs hm
  go_enter Try.func17, Try.ntmps17
  go_wp2_with fail
  obtain ⟨W1, hW1⟩ : ∃ W1, W1 = (w.alloc (.cells (datCells 0 false none 0 0 false ByteArray.empty none 0 0 none 0 0).toArray 27)).alloc (.cells (datCells 5 false none 0 0 false ByteArray.empty none 0 0 none 0 0).toArray 27) := ⟨_, rfl⟩
  have h0 : ItRel w W1 W1 w.heap.size (w.heap.size + 1) n (.slice none 0 0) (ds.take 0) := by
    subst hW1
    exact ⟨(Blk.new w _ _).alloc _, Blk.newAt (by simp), OutRow.nil _ _ _, ((Upd.refl [] w).alloc _).alloc _⟩
  have hW1s : W1.heap.size = w.heap.size + 2 := by rw [hW1]; simp
  have H0 := Lib.hid h0
  clear h0
  go_loopw [9] (fun i wr => ∃ (j : Nat) (lv : Value), j ≤ m ∧ i = .int .i64 j ∧ Hid (ItRel w W1 wr w.heap.size (w.heap.size + 1) n lv (ds.take j))) (fun i _ => m - (intOf i).toNat)
  case atStart =>
    subst hW1
    exact ⟨0, _, by omega, rfl, H0⟩
  case round =>
    obtain ⟨j, lv, hj, rfl, hR⟩ := hrel
    by_cases hlt : j < m
    · have hjl : j < ds.length := by rw [← HM.out]; exact hlt
      obtain ⟨b, o, cs, rfl, _, hat, hd0⟩ := HR.out j hjl
      obtain ⟨hz1, hz2⟩ := HS.out j hjl
      have htk := take_next hjl
      obtain ⟨x, hx⟩ : ∃ x, x = ds.getD j default := ⟨_, rfl⟩
      rw [← hx] at hd0 hz1 hz2 htk
      clear hx
      have hUr := hR.out.upd
      obtain ⟨yL, zL, yI, zI, yT, zT, rfl⟩ := cells_agg hd0
      obtain ⟨q0, q1, q2, q3, q4, q5, q6⟩ := (hat.upd hUr (by simp)).cells
      have HC := Lib.hid (fun (W : World) (hu : Upd [] w W) => copy_calls (hd0.upd hu) hz1 hz2)
      have hu4 : Upd [] wr (wr.alloc (.cells #[.int .i64 x.kind, .bool x.neg, .slice yL x.limbs.length zL, .bool x.b, .string x.s, .slice yI x.items.length zI, .slice yT x.tail.length zT] 27)) := (Upd.refl [] wr).alloc _
      have hB4 : Blk (wr.alloc (.cells #[.int .i64 x.kind, .bool x.neg, .slice yL x.limbs.length zL, .bool x.b, .string x.s, .slice yI x.items.length zI, .slice yT x.tail.length zT] 27)) wr.heap.size [.int .i64 x.kind, .bool x.neg, .slice yL x.limbs.length zL, .bool x.b, .string x.s, .slice yI x.items.length zI, .slice yT x.tail.length zT] 27 := Blk.newAt rfl
      have HB4 := Lib.hid hB4
      have HU4 := Lib.hid hu4
      have HTK := Lib.hid htk
      unfold datCells at HC
      have hq := hR.out.out.lt
      clear hat hd0 htk hz1 hz2 hB4 hu4 hUr
      go_wp2_with fail
      obtain ⟨W4, hW4⟩ : ∃ W4, W4 = wr.alloc (.cells #[.int .i64 x.kind, .bool x.neg, .slice yL x.limbs.length zL, .bool x.b, .string x.s, .slice yI x.items.length zI, .slice yT x.tail.length zT] 27) := ⟨_, rfl⟩
      rw [← hW4] at HB4 HU4
      rw [← hW4]
      clear hW4 q0 q1 q2 q3 q4 q5 q6
      have hBo := HU4.out.blk hR.out.out (by simp)
      have c5 : W4.cell? ⟨w.heap.size + 1, 5, none⟩ = some lv := hBo.cell_some rfl
      have b0 := HB4.out.cell_some (i := 0) rfl
      have b1 := HB4.out.cell_some (i := 1) rfl
      have b2 := HB4.out.cell_some (i := 2) rfl
      have b3 := HB4.out.cell_some (i := 3) rfl
      have b4 := HB4.out.cell_some (i := 4) rfl
      have b5 := HB4.out.cell_some (i := 5) rfl
      have b6 := HB4.out.cell_some (i := 6) rfl
      have HBo := Lib.hid hBo
      have HUw := Lib.hid (hR.out.upd.then HU4.out)
      clear hBo
      have htl : (ds.take j).length = j := by rw [List.length_take]; omega
      obtain ⟨css, k1, k2, k3⟩ := hR.out.row.step HU4.out (by simp)
      rw [htl] at k3
      have hlo := k3.lt
      have hqn : lv.ownBlock ≠ some (w.heap.size + 1) := by
        intro e
        have := (hlo _ e).1
        rw [hW1] at this
        simp at this
        omega
      have h14 : W1.heap.size ≤ W4.heap.size := by
        have := HUw.out.size
        have := HBo.out.lt
        rw [hW1]
        simp
        omega
      have HK3 := Lib.hid k3
      have HK := Lib.hid (And.intro k1 k2)
      clear k1 k2 k3 hlo
      have hUd : Upd [] W4 W4.drew := (Upd.refl [] W4).drew
      go_region_law (first
        | (refine' step_item (W1 := W1) (W4 := W4) (w5 := w5) (j := j) (lv := lv) (css := css) (cells := [.int .i64 k9, .bool n9, .slice a9 l9 c9, .bool b9, .string s9, .slice i9 m9 d9, .slice t9 o9 p9]) rfl (.tmp 14) (.tmp 17) rfl rfl rfl HK3.out (hUd.then hu5) rfl (by simp [Value.oneCell']) (by omega) h14 ?_; intro g cap w10 hO10 hgr10 hg10; have hB10 := (hBo5.alloc (.cells #[.int .i64 k9, .bool n9, .slice a9 l9 c9, .bool b9, .string s9, .slice i9 m9 d9, .slice t9 o9 p9] 27)).of_eq (hgr10.block _ (hBo5.alloc _).lt (fun e => hqn e.symm)); have c10 := hB10.cell_some (i := 5) rfl; have f10 := hB10.free 5)
        | (go_simp; go_wp2_with (go_at_call 23; refine (HC.out _ HUw.out.drew).mono ?_; rintro e w5 ⟨⟨cs5, rfl, hD5⟩, hu5⟩; obtain ⟨k9, n9, a9, l9, c9, b9, s9, i9, m9, d9, t9, o9, p9, rfl⟩ := hD5.shaped; unfold datCells; have hBo5 := hu5.blk HBo.out (by simp); have c55 := hBo5.cell_some (i := 5) rfl; have f55 := hBo5.free 5; have hl5 := hBo5.lt)))
      all_goals
        have hrel := it_join hR.out hW1s HU4.out htl HK3.out HK.out (hUd.then hu5) hD5 h14 hO10 hgr10 hg10
        have HREL := Lib.hid hrel
        clear hrel
        go_wp2
        go_roundw
        case rel => exact ⟨j + 1, _, by omega, by go_num, by rw [HTK.out]; exact HREL⟩
        case measure => simp [intOf]; omega
    · have hjm : j = m := by omega
      subst hjm
      have hR1 := hR.out
      rw [HM.out, List.take_length] at hR1
      obtain ⟨a', c', rfl, hRow, hRc⟩ := hR1.row.row
      have e0 := hR1.out.cell_some (i := 0) rfl
      have e1 := hR1.out.cell_some (i := 1) rfl
      have e2 := hR1.out.cell_some (i := 2) rfl
      have e3 := hR1.out.cell_some (i := 3) rfl
      have e4 := hR1.out.cell_some (i := 4) rfl
      have e5 := hR1.out.cell_some (i := 5) rfl
      have e6 := hR1.out.cell_some (i := 6) rfl
      have g0 := hR1.res.cell_some (i := 0) rfl
      have g1 := hR1.res.cell_some (i := 1) rfl
      have g2 := hR1.res.cell_some (i := 2) rfl
      have g3 := hR1.res.cell_some (i := 3) rfl
      have g4 := hR1.res.cell_some (i := 4) rfl
      have g5 := hR1.res.cell_some (i := 5) rfl
      have g6 := hR1.res.cell_some (i := 6) rfl
      have f0 := hR1.res.free 0
      have f1 := hR1.res.free 1
      have f2 := hR1.res.free 2
      have f3 := hR1.res.free 3
      have f4 := hR1.res.free 4
      have f5 := hR1.res.free 5
      have f6 := hR1.res.free 6
      have hrlt := hR1.res.lt
      have HRow := Lib.hid hRow
      have HR1 := Lib.hid hR1
      clear hR hRow hR1
      go_wp2
      have hR1 := HR1.out
      have hBf := (((((((hR1.res.set 0 (.int .i64 5)).set 1 (.bool false)).set 2 (.slice none 0 0)).set 3 (.bool false)).set 4 (.string ByteArray.empty)).set 5 (.slice a' ds.length c')).set 6 (.slice none 0 0))
      have k0 := hBf.cell_some (i := 0) rfl
      have k1 := hBf.cell_some (i := 1) rfl
      have k2 := hBf.cell_some (i := 2) rfl
      have k3 := hBf.cell_some (i := 3) rfl
      have k4 := hBf.cell_some (i := 4) rfl
      have k5 := hBf.cell_some (i := 5) rfl
      have k6 := hBf.cell_some (i := 6) rfl
      have hUf := (((((((hR1.upd.setCell (.int .i64 5) (p := ⟨w.heap.size, 0, none⟩) (.inr (Nat.le_refl _))).setCell (.bool false) (p := ⟨w.heap.size, 1, none⟩) (.inr (Nat.le_refl _))).setCell (.slice none 0 0) (p := ⟨w.heap.size, 2, none⟩) (.inr (Nat.le_refl _))).setCell (.bool false) (p := ⟨w.heap.size, 3, none⟩) (.inr (Nat.le_refl _))).setCell (.string ByteArray.empty) (p := ⟨w.heap.size, 4, none⟩) (.inr (Nat.le_refl _))).setCell (.slice a' ds.length c') (p := ⟨w.heap.size, 5, none⟩) (.inr (Nat.le_refl _))).setCell (.slice none 0 0) (p := ⟨w.heap.size, 6, none⟩) (.inr (Nat.le_refl _)))
      refine bodyPost_ret (v := .agg #[.int .i64 5, .bool false, .slice none 0 0, .bool false, .string ByteArray.empty, .slice a' ds.length c', .slice none 0 0]) ?_ rfl ⟨⟨[.int .i64 5, .bool false, .slice none 0 0, .bool false, .string ByteArray.empty, .slice a' ds.length c', .slice none 0 0], rfl, ?_⟩, hUf⟩
      · simp [results, Try.results17, go_sem, k0, k1, k2, k3, k4, k5, k6]
      · have hW1s : W1.heap.size = w.heap.size + 2 := by rw [hW1]; simp
        have hPn : ∀ b, W1.heap.size ≤ b → b ≠ w.heap.size := fun b hb => by omega
        have h := HRow.out
        have h7 := (((((((h.set_other ⟨w.heap.size, 0, none⟩ (.int .i64 5) hPn).set_other ⟨w.heap.size, 1, none⟩ (.bool false) hPn).set_other ⟨w.heap.size, 2, none⟩ (.slice none 0 0) hPn).set_other ⟨w.heap.size, 3, none⟩ (.bool false) hPn).set_other ⟨w.heap.size, 4, none⟩ (.string ByteArray.empty) hPn).set_other ⟨w.heap.size, 5, none⟩ (.slice a' ds.length c') hPn).set_other ⟨w.heap.size, 6, none⟩ (.slice none 0 0) hPn)
        exact ⟨none, 0, a', c', none, 0, rfl, fun i hi => absurd hi (by simp [Dat.limbs]), h7.map (fun b _ hb => by omega) (fun _ _ _ _ hc => hc) (fun _ _ hd => hd.mono fun b _ hb => by omega), fun i hi => absurd hi (by simp [Dat.tail]), ⟨by simp [Dat.limbs], hRc, by simp [Dat.tail]⟩, by simp [Dat.kind], by simp [Dat.limbs], by simp [Dat.limbs], by simp [Dat.s], by have := HM.out; simp only [Dat.items]; omega, by simp [Dat.tail]⟩
end Go.Proofs.Ytknbgbeepachgaa
