/-
  Texts of this claim, merged: DatX, SamA. Lemmas and contracts; no conditions of our own.
-/
import Derived.Test.YthmpaepdbjldfaaG10
import Derived.Laws.CopyOwn

/-
  nat.trim, nat.Norm, whole.of, whole.Norm.
-/
namespace Go.Proofs.Ythmpaepdbjldfaa
set_option linter.unusedVariables false
set_option linter.unusedSimpArgs false
open Go.RowKit

/-- Without noughts at the end. -/
def trimL (xs : List Int) : List Int := (xs.reverse.dropWhile (· == 0)).reverse
theorem trimL_nil : trimL [] = [] := rfl
theorem trimL_zero (ys : List Int) : trimL (ys ++ [0]) = trimL ys := by simp [trimL]
theorem trimL_other (ys : List Int) {x : Int} (h : x ≠ 0) : trimL (ys ++ [x]) = ys ++ [x] := by simp [trimL, h]
theorem take_last {xs : List Int} {k : Nat} (hk : k < xs.length) : xs.take (k + 1) = xs.take k ++ [xs.getD k 0] := by
  rw [List.take_succ_eq_append_getElem hk]
  simp [List.getD_eq_getElem?_getD, hk]
theorem trimL_prefix (xs : List Int) : ∃ k, k ≤ xs.length ∧ trimL xs = xs.take k := by
  suffices h : ∀ k, k ≤ xs.length → ∃ j, j ≤ xs.length ∧ trimL (xs.take k) = xs.take j by
    obtain ⟨j, h1, h2⟩ := h xs.length (Nat.le_refl _)
    rw [List.take_length] at h2
    exact ⟨j, h1, h2⟩
  intro k
  induction k with
  | zero => intro _; exact ⟨0, by omega, by simp [trimL]⟩
  | succ k ih =>
    intro hk
    rw [take_last (by omega)]
    by_cases h : xs.getD k 0 = 0
    · rw [h, trimL_zero]
      exact ih (by omega)
    · rw [trimL_other _ h]
      exact ⟨k + 1, hk, (take_last (by omega)).symm⟩
theorem LimbsOf.take {w : World} {P : Nat → Prop} {a : Option Addr} {xs : List Int} (h : LimbsOf w P a xs) (k : Nat) : LimbsOf w P a (xs.take k) := by
  intro i hi
  have hi' : i < k ∧ i < xs.length := by
    rw [List.length_take] at hi
    omega
  obtain ⟨b, o, e, hp, hc⟩ := h i hi'.2
  refine ⟨b, o, e, hp, ?_⟩
  rw [hc]
  simp [List.getD_eq_getElem?_getD, hi'.1]
set_option maxRecDepth 100000 in
set_option maxHeartbeats 1500000 in
theorem trim_calls {P : Nat → Prop} {w : World} {a : Option Addr} {xs : List Int} (m c : Nat) (hm : xs.length = m) (h : LimbsOf w P a xs) (hc : m ≤ c) (hb : m ≤ 35184372088832) (hx : ∀ x ∈ xs, 0 ≤ x ∧ x < 4294967296) :
    Calls Try.prog 110 #[.slice a m c] w fun e w' => (∃ k, k ≤ m ∧ e = .returned (.slice a k c) ∧ trimL xs = xs.take k) ∧ w' = w := by
  have HL := Lib.hid h
  have HM := Lib.hid hm
  have HX := Lib.hid hx
  clear h hm hx
  go_enter Try.func110, Try.ntmps110
  go_wp2_with fail
  go_loopw [0] (fun v wr => ∃ k : Nat, k ≤ m ∧ v = .slice a k c ∧ Hid (trimL xs = trimL (xs.take k)) ∧ wr = w) (fun v _ => match v with | .slice _ k _ => k | _ => 0)
  case atStart => exact ⟨m, Nat.le_refl _, rfl, Lib.hid (by rw [← HM.out, List.take_length]), rfl⟩
  case round =>
    obtain ⟨k, hk, rfl, hT, rfl⟩ := hrel
    cases k with
    | zero =>
      go_wp2
      go_ret
      exact ⟨⟨0, by omega, rfl, by rw [hT.out]; simp [trimL]⟩, rfl⟩
    | succ k =>
      have hkl : k < xs.length := by rw [HM.out]; omega
      obtain ⟨b, o, rfl, _, hcell⟩ := HL.out k hkl
      have hxk : 0 ≤ xs.getD k 0 ∧ xs.getD k 0 < 4294967296 := HX.out _ (by simp [List.getD_eq_getElem?_getD, hkl])
      have htk := take_last hkl
      obtain ⟨x, hx⟩ : ∃ x, x = xs.getD k 0 := ⟨_, rfl⟩
      rw [← hx] at hcell hxk htk
      have hT1 := hT.out
      rw [htk] at hT1
      clear hx
      have hTK := Lib.hid htk
      clear htk
      have hd : decide ((0 : Int) < ((k + 1 : Nat) : Int)) = true := by simp
      have hw : IntKind.i64.wrap (((k + 1 : Nat) : Int) - 1) = (k : Int) := by
        rw [show ((k + 1 : Nat) : Int) - 1 = (k : Int) by omega]
        exact IntWalk.i64_in _ (by omega)
      by_cases h0 : x = 0
      · subst h0
        rw [trimL_zero] at hT1
        have HT1 := Lib.hid hT1
        clear hT1 hT
        go_wp2
        go_roundw
        case rel => exact ⟨k, by omega, by go_num, HT1, trivial⟩
        case measure => simp
      · rw [trimL_other _ h0] at hT1
        have HT1 := Lib.hid hT1
        clear hT1 hT
        go_wp2
        go_ret
        exact ⟨⟨k + 1, by omega, rfl, by rw [HT1.out, hTK.out]⟩, rfl⟩
theorem madeL_at {W : World} {b m : Nat} {t : TypeId} (hb : b = W.heap.size) : Blk (W.alloc (.cells (madeCells #[.int .u32 0] m) t)) b (List.replicate m (.int .u32 0)) t := by
  have := Blk.newAt (c := madeCells #[.int .u32 0] m) (t := t) hb
  rwa [toList_madeCells_one] at this
theorem LimbsOf.news {w : World} {P : Nat → Prop} {a : Option Addr} {xs : List Int} (h : LimbsOf w P a xs) (hl : 0 < xs.length) : ∃ ad, a = some ad ∧ ∀ j u, (xs.map (Value.int .u32))[j]? = some u → w.cell? (ad.add j) = some u := by
  obtain ⟨b, o, e, _, _⟩ := h 0 hl
  refine ⟨_, e, fun j u hj => ?_⟩
  have hjl : j < xs.length := by
    have := (List.getElem?_eq_some_iff.1 hj).1
    simpa using this
  obtain ⟨b', o', e', _, hc⟩ := h j hjl
  rw [e] at e'
  injection e' with e'
  injection e' with e1 e2
  subst e1; subst e2
  have : (⟨b, o, none⟩ : Addr).add j = ⟨b, o + j, none⟩ := by unfold Addr.add; split <;> simp_all
  rw [this, hc, ← hj]
  simp [List.getD_eq_getElem?_getD, hjl]
set_option maxRecDepth 100000 in
set_option maxHeartbeats 1500000 in
theorem natNorm_calls {P : Nat → Prop} {w : World} {a : Option Addr} {xs : List Int} (m c : Nat) (hm : xs.length = m) (h : LimbsOf w P a xs) (hc : m ≤ c) (hb : m ≤ 35184372088832) (hx : ∀ x ∈ xs, 0 ≤ x ∧ x < 4294967296) :
    Calls Try.prog 106 #[.slice a m c] w fun e w' => (∃ k, e = .returned (.slice (some ⟨w.heap.size, 0, none⟩) k k) ∧ (trimL xs).length = k ∧ LimbsOf w' (fun b => w.heap.size ≤ b) (some ⟨w.heap.size, 0, none⟩) (trimL xs)) ∧ Upd [] w w' := by
  have hT := Lib.hid (trim_calls m c hm h hc hb hx)
  have HL := Lib.hid h
  have HM := Lib.hid hm
  clear h hm hx
  go_enter Try.func106, Try.ntmps106
  go_wp2_with fail
  refine hT.out.mono ?_
  rintro e w' ⟨⟨k, hk, rfl, ht⟩, rfl⟩
  have hlk : (trimL xs).length = k := by rw [ht, List.length_take, HM.out]; omega
  have hmk := run_make_row' (P := Try.prog) 22 60 (.int .u32 0) 4 Try.underlying22 (by kernel_rfl) rfl .i64 .i64 k (by omega) (by omega)
  have hLt : LimbsOf w' P a (trimL xs) := by rw [ht]; exact HL.out.take k
  obtain ⟨ts, hts⟩ : ∃ ts, ts = trimL xs := ⟨_, rfl⟩
  rw [← hts] at hlk hLt
  clear ht hT
  have HLt := Lib.hid hLt
  have HTS := Lib.hid hts
  clear hts
  obtain ⟨us, hus⟩ : ∃ us, us = ts.map (Value.int .u32) := ⟨_, rfl⟩
  have hone : ∀ u ∈ us, u.oneCell' = true := by
    intro u hu
    rw [hus] at hu
    obtain ⟨x, _, rfl⟩ := List.mem_map.1 hu
    rfl
  have hul : us.length = k := by rw [hus, List.length_map, hlk]
  have hpos : Hid (0 < us.length → ∃ ad, a = some ad ∧ ∀ j u, us[j]? = some u → (w'.alloc (.cells (madeCells #[.int .u32 0] k) 60)).cell? (ad.add j) = some u) := Lib.hid (fun h0 => by
    obtain ⟨ad, e, hh⟩ := HLt.out.news (by omega)
    rw [hus]
    exact ⟨ad, e, fun j u hj => ((Upd.refl [] w').alloc _).cell (hh j u hj) (by simp)⟩)
  have HUS := Lib.hid hus
  have HONE := Lib.hid hone
  have hbel : Below w'.heap.size w' (w'.alloc (.cells (madeCells #[.int .u32 0] k) 60)) := (Below.refl _ _).alloc (Nat.le_refl _) _
  have HBEL := Lib.hid hbel
  have HLK := Lib.hid hlk
  clear hus hone hLt hbel hlk
  go_wp2_with (refine wpList_copy_splice rfl (.tmp 9) (.tmp 10) 22 22 rfl 60 Try.underlying22 (by kernel_rfl) _ _ _ _ _ _ rfl rfl w'.heap.size 0 (List.replicate k (.int .u32 0)) 60 (madeL_at rfl) us (by rw [hul]; exact (Nat.min_self k).symm) (fun h0 => ⟨rfl, hpos.out h0⟩) (by simp [hul]) HONE.out w'.heap.size w' HBEL.out (Nat.le_refl _) ?_; intro w3 hg3 hb3)
  have hu3 : Upd [] w' w3 := Upd.of_below hb3 (Nat.le_refl _) []
  have HU3 := Lib.hid hu3
  have HG3 : Hid (Blk w3 w'.heap.size us 60) := Lib.hid (by
    have := hg3.out
    rw [show splice (List.replicate k (Value.int .u32 0)) 0 us = us by simp [splice, hul]] at this
    exact this)
  clear hg3 hb3 hu3 hpos hmk
  go_wp2
  go_ret
  rw [← HTS.out]
  refine ⟨⟨k, rfl, HLK.out, fun i hi => ⟨w'.heap.size, 0, rfl, Nat.le_refl _, ?_⟩⟩, HU3.out⟩
  rw [HG3.out.cell, HUS.out]
  simp [List.getD_eq_getElem?_getD, hi]
/-- A number in new memory. -/
def NumPost (w : World) (neg : Bool) (ts : List Int) (e : Ending) (w' : World) : Prop :=
  (∃ a c, e = .returned (.agg #[.bool (neg && decide (0 < ts.length)), .slice a ts.length c]) ∧ LimbsOf w' (fun b => w.heap.size ≤ b) a ts ∧ ts.length ≤ c) ∧ Upd [] w w'
theorem LimbsOf.mono {w : World} {P Q : Nat → Prop} {a : Option Addr} {xs : List Int} (h : LimbsOf w P a xs) (hP : ∀ b, P b → Q b) : LimbsOf w Q a xs := by
  intro i hi
  obtain ⟨b, o, e, hp, hc⟩ := h i hi
  exact ⟨b, o, e, hP b hp, hc⟩
theorem LimbsOf.upd0 {w w' : World} {P : Nat → Prop} {a : Option Addr} {xs : List Int} (h : LimbsOf w P a xs) (hu : Upd [] w w') : LimbsOf w' P a xs := by
  intro i hi
  obtain ⟨b, o, e, hp, hc⟩ := h i hi
  exact ⟨b, o, e, hp, hu.cell hc (by simp)⟩
theorem LimbsOf.set_other {w : World} {P : Nat → Prop} {a : Option Addr} {xs : List Int} (h : LimbsOf w P a xs) (p : Addr) (v : Value) (hP : ∀ b, P b → b ≠ p.block) : LimbsOf (w.setCell p v) P a xs := by
  intro i hi
  obtain ⟨b, o, e, hp, hc⟩ := h i hi
  exact ⟨b, o, e, hp, (World.cell?_of_block (w := w) (Below.heap_setCell _ _ _ _ (by have := hP b hp; simpa [eq_comm] using this))).trans hc⟩
set_option maxRecDepth 100000 in
set_option maxHeartbeats 1500000 in
theorem wholeOf_calls {P : Nat → Prop} {w : World} {a : Option Addr} {xs : List Int} (neg : Bool) (m c : Nat) (hm : xs.length = m) (h : LimbsOf w P a xs) (hc : m ≤ c) (hb : m ≤ 35184372088832) (hx : ∀ x ∈ xs, 0 ≤ x ∧ x < 4294967296) :
    Calls Try.prog 90 #[.bool neg, .slice a m c] w (NumPost w neg (trimL xs)) := by
  have hu1 := (Upd.refl [] w).alloc (.cells #[.bool false, .slice none 0 0] 24)
  have hN := Lib.hid (natNorm_calls m c hm (h.upd0 hu1) hc hb hx)
  have hB1 := Lib.hid (Blk.new w [.bool false, .slice none 0 0] 24)
  have hlk : (trimL xs).length ≤ m := by
    obtain ⟨k, hk, e⟩ := trimL_prefix xs
    rw [e, List.length_take]
    omega
  have HU1 := Lib.hid hu1
  clear h hm hx hu1
  go_enter Try.func90, Try.ntmps90
  go_wp2_with fail
  refine hN.out.mono ?_
  rintro e w2 ⟨⟨k, rfl, hk, hL⟩, hu2⟩
  rw [hk] at hlk
  have hB2 := hu2.blk hB1.out (by simp)
  have c0 := hB2.cell_some (i := 0) rfl
  have c1 := hB2.cell_some (i := 1) rfl
  have f0 := hB2.free 0
  have f1 := hB2.free 1
  have HL := Lib.hid hL
  have HK := Lib.hid hk
  have HB2 := Lib.hid hB2
  have HU2 := Lib.hid (HU1.out.then hu2)
  have hsz : (w.alloc (.cells #[.bool false, .slice none 0 0] 24)).heap.size = w.heap.size + 1 := by simp
  rw [hsz] at HL ⊢
  have HLT := Lib.hid hB2.lt
  clear hN hB1 hB2 hu2 hL hk HU1 hsz
  have fin : ∀ b : Bool, Hid (Blk ((w2.setCell ⟨w.heap.size, 0, none⟩ (.bool b)).setCell ⟨w.heap.size, 1, none⟩ (.slice (some ⟨w.heap.size + 1, 0, none⟩) k k)) w.heap.size [.bool b, .slice (some ⟨w.heap.size + 1, 0, none⟩) k k] 24 ∧ Upd [] w ((w2.setCell ⟨w.heap.size, 0, none⟩ (.bool b)).setCell ⟨w.heap.size, 1, none⟩ (.slice (some ⟨w.heap.size + 1, 0, none⟩) k k)) ∧ LimbsOf ((w2.setCell ⟨w.heap.size, 0, none⟩ (.bool b)).setCell ⟨w.heap.size, 1, none⟩ (.slice (some ⟨w.heap.size + 1, 0, none⟩) k k)) (fun b => w.heap.size ≤ b) (some ⟨w.heap.size + 1, 0, none⟩) (trimL xs)) := fun b => Lib.hid (by
    refine ⟨(HB2.out.set 0 _).set 1 _, (HU2.out.setCell _ (.inr (Nat.le_refl _))).setCell _ (.inr (Nat.le_refl _)), ?_⟩
    exact LimbsOf.mono (P := fun b => w.heap.size + 1 ≤ b) ((HL.out.set_other _ _ (fun b hb => by simp; omega)).set_other _ _ (fun b hb => by simp; omega)) (fun b hb => by omega))
  by_cases hn : neg = true
  · subst hn
    by_cases h0 : 0 < k
    · have hd : decide ((0 : Int) < (k : Int)) = true := by simp; omega
      go_wp2
      obtain ⟨hB, hU, hLf⟩ := (fin true).out
      have k0 := hB.cell_some (i := 0) rfl
      have k1 := hB.cell_some (i := 1) rfl
      refine bodyPost_ret (v := .agg #[.bool true, .slice (some ⟨w.heap.size + 1, 0, none⟩) k k]) ?_ rfl ⟨⟨_, k, by rw [HK.out]; simp [h0], hLf, by rw [HK.out]; exact Nat.le_refl _⟩, hU⟩
      simp [results, Try.results90, go_sem, k0, k1]
    · have hd : decide ((0 : Int) < (k : Int)) = false := by simp; omega
      go_wp2
      obtain ⟨hB, hU, hLf⟩ := (fin false).out
      have k0 := hB.cell_some (i := 0) rfl
      have k1 := hB.cell_some (i := 1) rfl
      refine bodyPost_ret (v := .agg #[.bool false, .slice (some ⟨w.heap.size + 1, 0, none⟩) k k]) ?_ rfl ⟨⟨_, k, by rw [HK.out]; simp [h0], hLf, by rw [HK.out]; exact Nat.le_refl _⟩, hU⟩
      simp [results, Try.results90, go_sem, k0, k1]
  · have hn : neg = false := by simpa using hn
    subst hn
    go_wp2
    obtain ⟨hB, hU, hLf⟩ := (fin false).out
    have k0 := hB.cell_some (i := 0) rfl
    have k1 := hB.cell_some (i := 1) rfl
    refine bodyPost_ret (v := .agg #[.bool false, .slice (some ⟨w.heap.size + 1, 0, none⟩) k k]) ?_ rfl ⟨⟨_, k, by rw [HK.out]; simp, hLf, by rw [HK.out]; exact Nat.le_refl _⟩, hU⟩
    simp [results, Try.results90, go_sem, k0, k1]
set_option maxRecDepth 100000 in
set_option maxHeartbeats 1500000 in
theorem wholeNorm_calls {P : Nat → Prop} {w : World} {a : Option Addr} {xs : List Int} (neg : Bool) (m c : Nat) (hm : xs.length = m) (h : LimbsOf w P a xs) (hc : m ≤ c) (hb : m ≤ 35184372088832) (hx : ∀ x ∈ xs, 0 ≤ x ∧ x < 4294967296) :
    Calls Try.prog 63 #[.agg #[.bool neg, .slice a m c]] w (NumPost w neg (trimL xs)) := by
  have hu1 := ((Upd.refl [] w).alloc (.cells #[.bool neg, .slice a m c] 24)).alloc (.cells #[.bool false, .slice none 0 0] 24)
  have hN := Lib.hid (wholeOf_calls neg m c hm (h.upd0 hu1) hc hb hx)
  have hB1 : Blk ((w.alloc (.cells #[.bool neg, .slice a m c] 24)).alloc (.cells #[.bool false, .slice none 0 0] 24)) (w.heap.size + 1) [.bool false, .slice none 0 0] 24 := Blk.newAt (by simp)
  have HB1 := Lib.hid hB1
  have HU1 := Lib.hid hu1
  obtain ⟨ts, hts⟩ : ∃ ts, ts = trimL xs := ⟨_, rfl⟩
  rw [← hts] at hN ⊢
  clear h hm hx hu1 hB1 hts
  go_enter Try.func63, Try.ntmps63
  go_wp2_with fail
  refine hN.out.mono ?_
  rintro e w2 ⟨⟨a2, c2, rfl, hL, hlc⟩, hu2⟩
  have hB2 := hu2.blk HB1.out (by simp)
  have c0 := hB2.cell_some (i := 0) rfl
  have c1 := hB2.cell_some (i := 1) rfl
  have f0 := hB2.free 0
  have f1 := hB2.free 1
  have HL := Lib.hid hL
  have HB2 := Lib.hid hB2
  have HU2 := Lib.hid (HU1.out.then hu2)
  have hsz : ((w.alloc (.cells #[.bool neg, .slice a m c] 24)).alloc (.cells #[.bool false, .slice none 0 0] 24)).heap.size = w.heap.size + 2 := by simp
  rw [hsz] at HL
  have HLT := Lib.hid hB2.lt
  have HLC := Lib.hid hlc
  clear hN HB1 hB2 hu2 hL HU1 hsz hlc
  obtain ⟨bb, hbb⟩ : ∃ bb, bb = (neg && decide (0 < ts.length)) := ⟨_, rfl⟩
  rw [← hbb]
  have HBB := Lib.hid hbb
  clear hbb
  go_wp2
  have hB := (HB2.out.set 0 (.bool bb)).set 1 (.slice a2 ts.length c2)
  have k0 := hB.cell_some (i := 0) rfl
  have k1 := hB.cell_some (i := 1) rfl
  refine bodyPost_ret (v := .agg #[.bool bb, .slice a2 ts.length c2]) ?_ rfl ⟨⟨a2, c2, by rw [← HBB.out], ?_, HLC.out⟩, (HU2.out.setCell _ (.inr (Nat.le_succ _))).setCell _ (.inr (Nat.le_succ _))⟩
  · simp [results, Try.results63, go_sem, k0, k1]
  · exact LimbsOf.mono (P := fun b => w.heap.size + 2 ≤ b) ((HL.out.set_other _ _ (fun b hb => by simp; omega)).set_other _ _ (fun b hb => by simp; omega)) (fun b hb => by omega)
end Go.Proofs.Ythmpaepdbjldfaa

/-
  nat.Cmp and whole.Cmp of like numbers.
-/
namespace Go.Proofs.Ythmpaepdbjldfaa
set_option linter.unusedVariables false
set_option linter.unusedSimpArgs false
open Go.RowKit

theorem LimbsOf.cell {w : World} {P : Nat → Prop} {a : Option Addr} {xs : List Int} (h : LimbsOf w P a xs) {i : Nat} (hi : i < xs.length) : ∃ b o, a = some ⟨b, o, none⟩ ∧ w.cell? ⟨b, o + i, none⟩ = some (.int .u32 (xs.getD i 0)) := by
  obtain ⟨b, o, e, _, hc⟩ := h i hi
  exact ⟨b, o, e, hc⟩
theorem trimL_sub {xs : List Int} (hx : ∀ x ∈ xs, 0 ≤ x ∧ x < 4294967296) : (∀ x ∈ trimL xs, 0 ≤ x ∧ x < 4294967296) ∧ (trimL xs).length ≤ xs.length := by
  obtain ⟨k, hk, e⟩ := trimL_prefix xs
  rw [e]
  exact ⟨fun x h => hx x (List.mem_of_mem_take h), by rw [List.length_take]; omega⟩
end Go.Proofs.Ythmpaepdbjldfaa
