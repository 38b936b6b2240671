/-
  Texts of this claim, merged: ChY, ChZ, CfR. Lemmas and contracts; no conditions of our own.
-/
import Derived.Test.YtknbgbeepachgaaDoorG17

/-
  check.Check, check.Depths; the law's light and lives.
-/
namespace Go.Proofs.YtknbgbeepachgaaDoor
open Go.RowKit Go.Shelf

def ChkPost (w : World) (R : DepR) (e : Ending) (w' : World) : Prop := e = .returned (.tuple #[.int .i64 R.at', .int .i64 R.e]) ∧ Upd [] w w'
def Dep2Post (w : World) (R : DepR) (e : Ending) (w' : World) : Prop :=
  (∃ a cap, e = .returned (.tuple #[.slice a R.deep.length cap, .int .i64 R.e]) ∧ (0 < R.deep.length → ∃ D, a = some ⟨D, 0, none⟩ ∧ Blk w' D (R.deep.map (.int .i64)) 3)) ∧ Upd [] w w'
/-- A truth; where it is true, G. -/
def BoolIf (G : Prop) (w : World) (e : Ending) (w' : World) : Prop := (∃ r : Bool, e = .returned (.bool r) ∧ (r = true → G)) ∧ Upd [] w w'
set_option maxRecDepth 100000 in
set_option maxHeartbeats 1500000 in
theorem check_calls {w : World} {n : Nat} {aI aB aC : Option Addr} (cI cB cC : Nat) {c : CodeV} (h : IsC w n aI aB aC c) (hl : Lit' n c) (hT : Tabs w) :
    Calls Tryd.prog 8 #[.agg #[.slice aI c.ins.length cI, .slice aB c.blks.length cB, .slice aC c.cons.length cC]] w (ChkPost w (depthsF n c)) := by
  have hu1 : Upd [] w (w.alloc (.cells #[.slice aI c.ins.length cI, .slice aB c.blks.length cB, .slice aC c.cons.length cC] 26)) := (Upd.refl [] w).alloc _
  have HD := Lib.hid (depths_calls cI cB cC (h.upd hu1) hl (hT.upd hu1))
  have HU1 := Lib.hid hu1
  clear h hl hT hu1
  obtain ⟨RR, hRR⟩ : ∃ RR, RR = depthsF n c := ⟨_, rfl⟩
  rw [← hRR] at HD ⊢
  clear hRR
  generalize c.ins.length = nI at *
  generalize c.blks.length = nB at *
  generalize c.cons.length = nC at *
  go_enter Tryd.func8, Tryd.ntmps8
  go_wp2_with fail
  refine HD.out.mono ?_
  rintro e w2 ⟨⟨a, cap, rfl, _⟩, hu2⟩
  have HU2 := Lib.hid (HU1.out.then hu2)
  clear hu2 HD HU1
  go_wp2
  go_ret2
  exact ⟨rfl, HU2.out⟩
set_option maxRecDepth 100000 in
set_option maxHeartbeats 1500000 in
theorem depths2_calls {w : World} {n : Nat} {aI aB aC : Option Addr} (cI cB cC : Nat) {c : CodeV} (h : IsC w n aI aB aC c) (hl : Lit' n c) (hT : Tabs w) :
    Calls Tryd.prog 11 #[.agg #[.slice aI c.ins.length cI, .slice aB c.blks.length cB, .slice aC c.cons.length cC]] w (Dep2Post w (depthsF n c)) := by
  have hu1 : Upd [] w (w.alloc (.cells #[.slice aI c.ins.length cI, .slice aB c.blks.length cB, .slice aC c.cons.length cC] 26)) := (Upd.refl [] w).alloc _
  have HD := Lib.hid (depths_calls cI cB cC (h.upd hu1) hl (hT.upd hu1))
  have HU1 := Lib.hid hu1
  clear h hl hT hu1
  obtain ⟨RR, hRR⟩ : ∃ RR, RR = depthsF n c := ⟨_, rfl⟩
  rw [← hRR] at HD ⊢
  clear hRR
  generalize c.ins.length = nI at *
  generalize c.blks.length = nB at *
  generalize c.cons.length = nC at *
  go_enter Tryd.func11, Tryd.ntmps11
  go_wp2_with fail
  refine HD.out.mono ?_
  rintro e w2 ⟨⟨a, cap, rfl, hb⟩, hu2⟩
  have HU2 := Lib.hid (HU1.out.then hu2)
  have HB := Lib.hid hb
  clear hu2 HD HU1 hb
  go_wp2
  go_ret2
  exact ⟨⟨a, cap, rfl, HB.out⟩, HU2.out⟩
set_option maxRecDepth 100000 in
set_option maxHeartbeats 1500000 in
theorem light16_calls {w : World} {n : Nat} {aI aB aC : Option Addr} (cI cB cC : Nat) {c : CodeV} (h : IsC w n aI aB aC c) :
    Calls Tryd.prog 6 #[.agg #[.slice aI c.ins.length cI, .slice aB c.blks.length cB, .slice aC c.cons.length cC]] w (BoolIf (c.ins.length ≤ 300 ∧ c.blks.length ≤ 60 ∧ Lit' n c) w) := by
  have hBx : Blk (w.alloc (.cells #[.slice aI c.ins.length cI, .slice aB c.blks.length cB, .slice aC c.cons.length cC] 26)) w.heap.size [.slice aI c.ins.length cI, .slice aB c.blks.length cB, .slice aC c.cons.length cC] 26 := Blk.newAt rfl
  have hu1 : Upd [] w (w.alloc (.cells #[.slice aI c.ins.length cI, .slice aB c.blks.length cB, .slice aC c.cons.length cC] 26)) := (Upd.refl [] w).alloc _
  have HC := Lib.hid h.cons
  have HBX := Lib.hid hBx
  have HU1 := Lib.hid hu1
  obtain ⟨G, hG⟩ : ∃ G : Prop, G = (c.ins.length ≤ 300 ∧ c.blks.length ≤ 60 ∧ Lit' n c) := ⟨_, rfl⟩
  have hG2 : c.ins.length ≤ 300 → c.blks.length ≤ 60 → c.cons.length ≤ 40 → (∀ i, i < c.cons.length → szN n (c.cons.getD i default) ≤ 100000 ∧ dpN n (c.cons.getD i default) ≤ 10000) → G := by
    intro h1 h2 h3 h4
    rw [hG]
    refine ⟨h1, h2, by omega, by omega, by omega, fun d hd => ?_⟩
    obtain ⟨i, hi, rfl⟩ := List.getElem_of_mem hd
    have := h4 i hi
    rwa [List.getD_eq_getElem?_getD, List.getElem?_eq_getElem hi] at this
  rw [← hG]
  have HG := Lib.hid hG2
  obtain ⟨m, hm⟩ : ∃ m, m = c.cons.length := ⟨_, rfl⟩
  have HM := Lib.hid hm
  rw [← hm] at HG HBX HU1 ⊢
  clear h hBx hu1 hG hG2 hm
  generalize c.ins.length = nI at *
  generalize c.blks.length = nB at *
  generalize c.cons = ds at *
  go_enter Tryd.func6, Tryd.ntmps6
  by_cases h1 : (300 : Int) < (nI : Int)
  · clear HG
    go_wp2
    go_ret
    exact ⟨⟨_, rfl, by simp⟩, HU1.out⟩
  by_cases h2 : (60 : Int) < (nB : Int)
  · clear HG
    go_wp2
    go_ret
    exact ⟨⟨_, rfl, by simp⟩, HU1.out⟩
  by_cases h3 : (40 : Int) < (m : Int)
  · clear HG
    go_wp2
    go_ret
    exact ⟨⟨_, rfl, by simp⟩, HU1.out⟩
  have HG3 := Lib.hid (HG.out (by omega) (by omega) (by omega))
  clear HG
  have hm40 : m ≤ 40 := by omega
  go_wp2_with fail
  go_loopw [24] (fun i wr => ∃ j : Nat, j ≤ m ∧ i = .int .i64 j ∧ Hid (∀ i, i < j → szN n (ds.getD i default) ≤ 100000 ∧ dpN n (ds.getD i default) ≤ 10000) ∧ Hid (Upd [] w wr)) (fun i _ => m - (intOf i).toNat)
  case atStart => exact ⟨0, by omega, rfl, Lib.hid (fun i hi => by omega), HU1⟩
  case round =>
    obtain ⟨j, hj, rfl, hA, hU⟩ := hrel
    by_cases hlt : j < m
    · obtain ⟨b, o, cs, rfl, _, hat, hd0⟩ := HC.out j (by rw [← HM.out]; exact hlt)
      obtain ⟨k1, n1, a1, l1, p1, b1, s1, i1, m1, d1, t1, o1, q1, rfl⟩ := hd0.shaped
      obtain ⟨x0, x1, x2, x3, x4, x5, x6⟩ := (hat.upd hU.out (by simp)).cells
      have HA1 : Hid (szN n (ds.getD j default) ≤ 100 ∧ dpN n (ds.getD j default) ≤ 40 → ∀ i, i < j + 1 → szN n (ds.getD i default) ≤ 100000 ∧ dpN n (ds.getD i default) ≤ 10000) := Lib.hid (fun h i hi => by
        by_cases hij : i < j
        · exact hA.out i hij
        · rw [show i = j by omega]
          omega)
      obtain ⟨x, hx⟩ : ∃ x, x = ds.getD j default := ⟨_, rfl⟩
      rw [← hx] at hd0 HA1
      clear hx
      have hlb := World.block_lt_of_cell? wr _ x0
      simp only at hlb
      have hu2 : Upd [] wr (wr.alloc (.cells #[.int .i64 k1, .bool n1, .slice a1 l1 p1, .bool b1, .string s1, .slice i1 m1 d1, .slice t1 o1 q1] 56)) := (Upd.refl [] wr).alloc _
      have hb2 : Blk (wr.alloc (.cells #[.int .i64 k1, .bool n1, .slice a1 l1 p1, .bool b1, .string s1, .slice i1 m1 d1, .slice t1 o1 q1] 56)) wr.heap.size [.int .i64 k1, .bool n1, .slice a1 l1 p1, .bool b1, .string s1, .slice i1 m1 d1, .slice t1 o1 q1] 56 := Blk.newAt rfl
      have hS := small_calls (hd0.upd (hU.out.then hu2)) 100 40 (by omega) (by omega) (by omega) (by omega)
      have hbs := budN_some n x 100 40
      have HS := Lib.hid hS
      have HBS := Lib.hid hbs
      have HB2 := Lib.hid hb2
      have HU2 := Lib.hid (hU.out.then hu2)
      unfold datCells at HS
      clear hS hbs hat hd0 hb2 hu2
      generalize budN n x 100 40 = r at *
      go_wp2_with fail
      refine HS.out.mono ?_
      rintro e w3 ⟨rfl, hu3⟩
      have y2 := (hu3.blk HB2.out (by simp)).cell_some (i := 2) rfl
      have HU3 := Lib.hid (HU2.out.then hu3)
      clear hu3 HS HB2 HU2 x0 x1 x2 x3 x4 x5 x6
      by_cases hr : 0 ≤ r
      · have hr' : decide (0 ≤ r) = true := decide_eq_true hr
        obtain ⟨e1, e2⟩ := HBS.out hr
        have HA2 := Lib.hid (HA1.out ⟨by omega, by omega⟩)
        clear HA1 HBS e1 e2
        by_cases hl : (70 : Int) < (l1 : Int)
        · go_wp2
          go_ret
          exact ⟨⟨_, rfl, by simp⟩, HU3.out⟩
        · go_wp2
          go_roundw
          case rel => exact ⟨j + 1, by omega, by go_num, HA2, HU3⟩
          case measure => simp [intOf]; omega
      · have hr' : decide (0 ≤ r) = false := decide_eq_false hr
        clear HA1 HBS
        go_wp2
        go_ret
        exact ⟨⟨_, rfl, by simp⟩, HU3.out⟩
    · obtain rfl : j = m := by omega
      have HG4 := Lib.hid (HG3.out hA.out)
      go_wp2
      go_ret
      exact ⟨⟨_, rfl, fun _ => HG4.out⟩, hU.out⟩
end Go.Proofs.YtknbgbeepachgaaDoor

/-
  The law's lives.
-/
namespace Go.Proofs.YtknbgbeepachgaaDoor
set_option linter.unusedVariables false
open Go.RowKit Go.Shelf

theorem flat_at {α : Type} {k : Nat} {f : α → List Value} (hf : ∀ x, (f x).length = k) : ∀ (xs : List α) (i j : Nat), i < xs.length → j < k → (xs.flatMap f)[i * k + j]? = (xs[i]?.map f).bind (·[j]?)
  | [], i, j, hi, _ => by simp at hi
  | x :: xs, 0, j, _, hj => by
    rw [List.flatMap_cons, Nat.zero_mul, Nat.zero_add, List.getElem?_append_left (by rw [hf]; exact hj)]
    rfl
  | x :: xs, i + 1, j, hi, hj => by
    rw [List.flatMap_cons, List.getElem?_append_right (by rw [hf, Nat.succ_mul]; omega), hf, show (i + 1) * k + j - k = i * k + j by rw [Nat.succ_mul]; omega]
    rw [flat_at hf xs i j (by simpa using hi) hj]
    rfl
theorem rowK_cells {α : Type} {w : World} {k b : Nat} {f : α → List Value} {xs : List α} (hf : ∀ x, (f x).length = k) (h : ∀ i v, (xs.flatMap f)[i]? = some v → w.cell? ⟨b, i, none⟩ = some v) : RowK w k f (some ⟨b, 0, none⟩) xs := by
  intro i x hi
  refine ⟨b, 0, rfl, fun j hj => ?_⟩
  have hlt := (List.getElem?_eq_some_iff.1 hi).1
  have e := flat_at hf xs i j hlt hj
  rw [hi] at e
  have e2 : (xs.flatMap f)[i * k + j]? = (f x)[j]? := e
  obtain ⟨v, hv⟩ : ∃ v, (f x)[j]? = some v := ⟨_, List.getElem?_eq_getElem (by rw [hf]; exact hj)⟩
  rw [hv] at e2 ⊢
  rw [Nat.zero_add]
  exact h _ _ e2
theorem rowK_blk {α : Type} {w : World} {k b : Nat} {t : TypeId} {f : α → List Value} {xs : List α} (hf : ∀ x, (f x).length = k) (h : Blk w b (xs.flatMap f) t) : RowK w k f (some ⟨b, 0, none⟩) xs :=
  rowK_cells hf fun i v hv => h.cell_some hv
theorem rowK_own {α : Type} {w : World} {k base g n cap : Nat} {t : TypeId} {f : α → List Value} {xs : List α} (hf : ∀ x, (f x).length = k) (h : w.ownsRow base t k (.slice (some ⟨g, 0, none⟩) n cap) n (xs.flatMap f)) : RowK w k f (some ⟨g, 0, none⟩) xs :=
  rowK_cells hf fun i v hv => by
    have := h.cells (g := g) rfl i v hv
    rwa [show (⟨g, 0, none⟩ : Addr).add i = ⟨g, 0 + i, none⟩ by unfold Addr.add; split <;> simp_all, Nat.zero_add] at this
def exD : Dat := .mk 1 false [] false ByteArray.empty [] []
def ex1 : CodeV := ⟨[⟨1, 0, 0⟩, ⟨12, 0, 0⟩, ⟨12, 0, 0⟩], [⟨0, 0, false, 0, 1, 0⟩], [exD]⟩
def ex2 : CodeV := ⟨[⟨1, 0, 0⟩, ⟨12, 0, 0⟩, ⟨1, 0, 0⟩, ⟨11, 0, 0⟩], [⟨0, 0, false, 0, 1, 0⟩], [exD]⟩
theorem ex1_said : (depthsF 1 ex1).at' = 2 ∧ (depthsF 1 ex1).e = 15 := by decide +kernel
theorem ex2_said : (depthsF 1 ex2).at' = 0 ∧ (depthsF 1 ex2).e = 0 := by decide +kernel
theorem ex1_lit : Lit' 1 ex1 := ⟨by decide, by decide, by decide, by decide +kernel⟩
theorem ex2_lit : Lit' 1 ex2 := ⟨by decide, by decide, by decide, by decide +kernel⟩
theorem exD_is {w : World} : IsD w (fun _ => True) 1 [.int .i64 1, .bool false, .slice none 0 0, .bool false, .string ⟨#[]⟩, .slice none 0 0, .slice none 0 0] exD :=
  ⟨none, 0, none, 0, none, 0, rfl, fun i hi => absurd hi (by simp [exD, Dat.limbs]), fun i hi => absurd hi (by simp [exD, Dat.items]), fun i hi => absurd hi (by simp [exD, Dat.tail]), by simp [exD, Dat.limbs, Dat.items, Dat.tail], by simp [exD, Dat.kind], by simp [exD, Dat.limbs], by simp [exD, Dat.limbs], by show ByteArray.empty.size ≤ 140737488351232; decide, by simp [exD, Dat.items], by simp [exD, Dat.tail]⟩
theorem exC {w : World} {g1 g2 : Nat} {aI : Option Addr} {c : CodeV} (hc : c.blks = [⟨0, 0, false, 0, 1, 0⟩] ∧ c.cons = [exD] ∧ (∀ x ∈ c.ins, I64 x.op ∧ I64 x.a ∧ I64 x.b) ∧ c.ins.length ≤ 100) (hI : InsAt w aI c.ins) (hB : Blk w g1 [.int .i64 0, .int .i64 0, .bool false, .int .i64 0, .int .i64 1, .int .i64 0] 45)
    (hD : Blk w g2 [.int .i64 1, .bool false, .slice none 0 0, .bool false, .string ⟨#[]⟩, .slice none 0 0, .slice none 0 0] 56) : IsC w 1 aI (some ⟨g1, 0, none⟩) (some ⟨g2, 0, none⟩) c := by
  obtain ⟨h1, h2, h3, h4⟩ := hc
  refine ⟨hI, ?_, ?_, h3, ?_, by omega, by rw [h1]; simp, by rw [h2]; simp⟩
  · rw [h1]
    exact rowK_blk (fun _ => rfl) hB
  · rw [h2]
    exact row1 exD_is hD
  · rw [h1]
    intro x hx
    rw [List.mem_singleton] at hx
    subst hx
    decide
theorem own_of_blk {w : World} {base g n k : Nat} {t : TypeId} {cs : List Value} (h : Blk w g cs t) (hb : base ≤ g) (hl : cs.length = n * k) (hn : n ≤ 1000000) : w.ownsRow base t k (.slice (some ⟨g, 0, none⟩) n n) n cs :=
  ⟨hl, .inr ⟨g, n, cs.toArray, rfl, hb, h, Nat.le_refl _, by unfold maxLen; omega, by simpa using hl, by rw [← hl]; simp⟩⟩
theorem own_form {w : World} {base k n : Nat} {t : TypeId} {v : Value} {xs : List Value} (h : w.ownsRow base t k v (n + 1) xs) : ∃ g cap, v = .slice (some ⟨g, 0, none⟩) (n + 1) cap := by
  rcases h.2 with ⟨_, h0⟩ | ⟨g, cap, cur, rfl, _⟩
  · omega
  · exact ⟨g, cap, rfl⟩
theorem info_ins : (Tryd.prog.info? 47).map (fun i => (i.zero, i.size, i.bytes)) = some (some (.agg #[.int .i64 0, .int .i64 0, .int .i64 0]), 3, 24) := by kernel_rfl
set_option maxRecDepth 100000 in
set_option maxHeartbeats 3000000 in
theorem lives16_calls {w : World} (hT : Tabs w) : Calls Tryd.prog 7 #[] w fun e w' => e = .returned (.bool true) ∧ Upd [] w w' := by
  have HT := Lib.hid hT
  clear hT
  go_enter Tryd.func7, Tryd.ntmps7
  go_wp2_with fail
  obtain ⟨W1, hW1⟩ : ∃ W1, W1 = ((((w.alloc (.cells #[.int .i64 1, .int .i64 0, .int .i64 0, .int .i64 12, .int .i64 0, .int .i64 0, .int .i64 12, .int .i64 0, .int .i64 0] 47)).alloc (.cells #[.int .i64 0, .int .i64 0, .bool false, .int .i64 0, .int .i64 1, .int .i64 0] 45)).alloc (.cells #[.int .i64 1, .bool false, .slice none 0 0, .bool false, .string ⟨#[]⟩, .slice none 0 0, .slice none 0 0] 56)).alloc (.cells #[.slice (some ⟨w.heap.size, 0, none⟩) 3 3, .slice (some ⟨w.heap.size + 1, 0, none⟩) 1 1, .slice (some ⟨w.heap.size + 1 + 1, 0, none⟩) 1 1] 26)) := ⟨_, rfl⟩
  have hu1 : Upd [] w W1 := by
    rw [hW1]
    exact ((((Upd.refl [] w).alloc _).alloc _).alloc _).alloc _
  have hA1 : Blk W1 w.heap.size [.int .i64 1, .int .i64 0, .int .i64 0, .int .i64 12, .int .i64 0, .int .i64 0, .int .i64 12, .int .i64 0, .int .i64 0] 47 := by
    rw [hW1]
    exact (((Blk.newAt rfl).alloc _).alloc _).alloc _
  have hB1 : Blk W1 (w.heap.size + 1) [.int .i64 0, .int .i64 0, .bool false, .int .i64 0, .int .i64 1, .int .i64 0] 45 := by
    rw [hW1]
    exact ((Blk.newAt (by simp)).alloc _).alloc _
  have hC1 : Blk W1 (w.heap.size + 1 + 1) [.int .i64 1, .bool false, .slice none 0 0, .bool false, .string ⟨#[]⟩, .slice none 0 0, .slice none 0 0] 56 := by
    rw [hW1]
    exact (Blk.newAt (by simp)).alloc _
  have hX1 : Blk W1 (w.heap.size + 1 + 1 + 1) [.slice (some ⟨w.heap.size, 0, none⟩) 3 3, .slice (some ⟨w.heap.size + 1, 0, none⟩) 1 1, .slice (some ⟨w.heap.size + 1 + 1, 0, none⟩) 1 1] 26 := by
    rw [hW1]
    exact Blk.newAt (by simp)
  rw [← hW1]
  have hck := check_calls 3 1 1 (exC (aI := some ⟨w.heap.size, 0, none⟩) (c := ex1) ⟨rfl, rfl, by decide, by decide⟩ (rowK_blk (fun _ => rfl) hA1) hB1 hC1) ex1_lit (HT.out.upd hu1)
  have HCK := Lib.hid hck
  have HU1 := Lib.hid hu1
  have HA1 := Lib.hid hA1
  have HB1 := Lib.hid hB1
  have HC1 := Lib.hid hC1
  have HX1 := Lib.hid hX1
  clear hck hu1 hA1 hB1 hC1 hX1 hW1
  refine HCK.out.mono ?_
  rintro e w2 ⟨rfl, hu2⟩
  rw [ex1_said.1, ex1_said.2]
  have HU2 := Lib.hid (HU1.out.then hu2)
  have HA2 := Lib.hid (hu2.blk HA1.out (by simp))
  have HB2 := Lib.hid (hu2.blk HB1.out (by simp))
  have HC2 := Lib.hid (hu2.blk HC1.out (by simp))
  have HX2 := Lib.hid (hu2.blk HX1.out (by simp))
  clear hu2 HCK HU1 HA1 HB1 HC1 HX1
  have a6 := HA2.out.cell_some (i := 6) rfl
  have a7 := HA2.out.cell_some (i := 7) rfl
  have a8 := HA2.out.cell_some (i := 8) rfl
  have f6 := HA2.out.free 6
  have f7 := HA2.out.free 7
  have f8 := HA2.out.free 8
  have x0 := HX2.out.cell_some (i := 0) rfl
  have x1 := HX2.out.cell_some (i := 1) rfl
  have x2 := HX2.out.cell_some (i := 2) rfl
  have fx := HX2.out.free 0
  have n1 : ¬ w.heap.size + 1 + 1 + 1 = w.heap.size := by omega
  have n2 : ¬ w.heap.size = w.heap.size + 1 + 1 + 1 := by omega
  obtain ⟨W3, hW3⟩ : ∃ W3, W3 = ((w2.setCell ⟨w.heap.size, 6, none⟩ (.int .i64 1)).setCell ⟨w.heap.size, 7, none⟩ (.int .i64 0)).setCell ⟨w.heap.size, 8, none⟩ (.int .i64 0) := ⟨_, rfl⟩
  have hA3 : Blk W3 w.heap.size [.int .i64 1, .int .i64 0, .int .i64 0, .int .i64 12, .int .i64 0, .int .i64 0, .int .i64 1, .int .i64 0, .int .i64 0] 47 := by
    rw [hW3]
    exact ((HA2.out.set 6 (.int .i64 1)).set 7 (.int .i64 0)).set 8 (.int .i64 0)
  have hu3 : Upd [w.heap.size] w2 W3 := by
    rw [hW3]
    exact (((Upd.refl [w.heap.size] w2).setCell _ (.inl (by simp))).setCell _ (.inl (by simp))).setCell _ (.inl (by simp))
  have hW4 : Upd [w.heap.size] w2 (W3.alloc (.cells #[.int .i64 11, .int .i64 0, .int .i64 0] 47)) := hu3.alloc _
  have hO4 := own_of_blk (base := w.heap.size) (n := 3) (k := 3) (hA3.alloc (.cells #[.int .i64 11, .int .i64 0, .int .i64 0] 47)) (Nat.le_refl _) rfl (by omega)
  have hZ4 : Blk (W3.alloc (.cells #[.int .i64 11, .int .i64 0, .int .i64 0] 47)) W3.heap.size [.int .i64 11, .int .i64 0, .int .i64 0] 47 := Blk.newAt rfl
  have hs3 : W3.heap.size = w2.heap.size := by rw [hW3]; simp
  have hw23 : w.heap.size ≤ w2.heap.size := HU2.out.size
  rw [hW3] at hO4 hZ4 hW4
  rw [show (((w2.setCell ⟨w.heap.size, 6, none⟩ (.int .i64 1)).setCell ⟨w.heap.size, 7, none⟩ (.int .i64 0)).setCell ⟨w.heap.size, 8, none⟩ (.int .i64 0)).heap.size = w2.heap.size by simp] at hZ4
  have HX4 := Lib.hid (hW4.blk HX2.out (fun h => by have := List.mem_singleton.1 h; omega))
  have HB4 := Lib.hid (hW4.blk HB2.out (fun h => by have := List.mem_singleton.1 h; omega))
  have HC4 := Lib.hid (hW4.blk HC2.out (fun h => by have := List.mem_singleton.1 h; omega))
  have HO4 := Lib.hid hO4
  have HZ4 := Lib.hid hZ4
  have HW4 := Lib.hid hW4
  clear hA3 hu3 hW4 hO4 hZ4 hs3 hW3
  obtain ⟨i0, hi, hz0, hz1, hz2⟩ := info_parts info_ins
  go_wp2_with (at_builtin; refine wpList_append_own_at _ rfl _ _ 22 rfl w.heap.size 47 i0 _ 3 24 Tryd.underlying22 hi hz0 hz1 hz2 rfl (by decide) _ 3 _ rfl HO4.out ⟨w2.heap.size, 0, none⟩ 1 1 [.int .i64 11, .int .i64 0, .int .i64 0] rfl rfl (World.news_of_block HZ4.out) (by simp [Value.oneCell']) (by unfold maxLen; omega) (by omega) (by simp; omega) ?_; intro v9 w9 hO9 hg9 _ hb9; obtain ⟨g9, cap9, rfl⟩ := own_form (n := 3) hO9; have hX9 := HX4.out.of_eq (hg9.block _ HX4.out.lt (fun e => by have e2 : w.heap.size + 1 + 1 + 1 = w.heap.size := Option.some.inj e; omega)); have y0 := hX9.cell_some (i := 0) rfl; have y1 := hX9.cell_some (i := 1) rfl; have y2 := hX9.cell_some (i := 2) rfl; have fy := hX9.free 0)
  have hW9 : Upd [] w w9 := by
    have h1 : Upd [] w w2 := HU2.out
    have h2 := HW4.out
    have hg8 : World.grownBy _ w9 (some w.heap.size) := hg9
    have h3 : Upd [w.heap.size] _ w9 := Upd.of_grown hg8 (fun k hk => by rw [Option.some.inj hk]; simp)
    exact (h1.onto h2 (fun x hx => by rw [List.mem_singleton.1 hx]; exact Nat.le_refl _)).onto h3 (fun x hx => by rw [List.mem_singleton.1 hx]; exact Nat.le_refl _)
  have hB9 := HB4.out.of_eq (hg9.block _ HB4.out.lt (fun e => by have e2 : w.heap.size + 1 = w.heap.size := Option.some.inj e; omega))
  have hC9 := HC4.out.of_eq (hg9.block _ HC4.out.lt (fun e => by have e2 : w.heap.size + 1 + 1 = w.heap.size := Option.some.inj e; omega))
  have hsz4 := HX4.out.lt
  have hu10 : Upd [w.heap.size + 1 + 1 + 1] w9 (w9.setCell ⟨w.heap.size + 1 + 1 + 1, 0, none⟩ (.slice (some ⟨g9, 0, none⟩) 4 cap9)) := (Upd.refl _ w9).setCell _ (.inl (by simp))
  have hgn : g9 ≠ w.heap.size + 1 + 1 + 1 := by
    rcases hb9 with h | h
    · have e : g9 = w.heap.size := Option.some.inj h
      omega
    · have e : g9 = _ := Option.some.inj h
      omega
  have hO10 := own_upd hO9 hu10 (fun g hg => by
    have e : g9 = g := by simpa [Value.ownBlock] using hg
    subst e
    simpa using hgn)
  have hck := check_calls cap9 1 1 (exC (aI := some ⟨g9, 0, none⟩) (c := ex2) ⟨rfl, rfl, by decide, by decide⟩ (rowK_own (fun _ => rfl) hO10) (hu10.blk hB9 (fun h => by have := List.mem_singleton.1 h; omega)) (hu10.blk hC9 (fun h => by have := List.mem_singleton.1 h; omega))) ex2_lit (HT.out.upd (hW9.onto hu10 (fun x hx => by rw [List.mem_singleton.1 hx]; omega)))
  have HCK := Lib.hid hck
  have HW10 := Lib.hid (hW9.onto hu10 (fun x hx => by rw [List.mem_singleton.1 hx]; omega))
  clear hck hO9 hg9 hb9 hX9 y0 y1 y2 fy hW9 hB9 hC9 hu10 hO10
  refine HCK.out.mono ?_
  rintro e w11 ⟨rfl, hu11⟩
  rw [ex2_said.1, ex2_said.2]
  have HU11 := Lib.hid (HW10.out.then hu11)
  clear hu11 HCK HW10
  go_wp2
  go_ret
  exact ⟨rfl, HU11.out⟩
end Go.Proofs.YtknbgbeepachgaaDoor

/-
  CheckFlows: how many an instruction leaves, walked.
-/
namespace Go.Proofs.YtknbgbeepachgaaDoor
open Go.RowKit Go.Shelf

/-- The document's arities, as the reference writes them. -/
def refAr : List Int := [0, 2, 2, 2, 2, 2, 2, 2, 2, 2, 1, 1, 2, 2, 1, 1, 1, 1, 1, 1, 1, 2, 1, 1, 2, 2, 1, 1, 1, 1, 0, 0, 1, 1, 2, 1, 1, 2, 0]
theorem refAr_at : ∀ k, k < 39 → refAr[k]? = some (arAt k) := by decide +kernel
set_option maxRecDepth 100000 in
theorem run_refAr {k : Nat} (h : k < 39) (w : World) : (Instr.index 85 (.agg #[.int .i64 0, .int .i64 2, .int .i64 2, .int .i64 2, .int .i64 2, .int .i64 2, .int .i64 2, .int .i64 2, .int .i64 2, .int .i64 2, .int .i64 1, .int .i64 1, .int .i64 2, .int .i64 2, .int .i64 1, .int .i64 1, .int .i64 1, .int .i64 1, .int .i64 1, .int .i64 1, .int .i64 1, .int .i64 2, .int .i64 1, .int .i64 1, .int .i64 2, .int .i64 2, .int .i64 1, .int .i64 1, .int .i64 1, .int .i64 1, .int .i64 0, .int .i64 0, .int .i64 1, .int .i64 1, .int .i64 2, .int .i64 1, .int .i64 1, .int .i64 2, .int .i64 0]) (.int .i64 k)).run Tryd.prog w = .ok (.int .i64 (arAt k)) w := by
  refine run_index1 (P := Tryd.prog) (t := 85) (e := 3) (len := 39) rfl (z := .int .i64 0) (bytes := 8) (by kernel_rfl) rfl rfl h ?_ w
  show (refAr.map (Value.int .i64)).toArray[k]? = some (.int .i64 (arAt k))
  rw [List.getElem?_toArray, List.getElem?_map, refAr_at k h]
  rfl
set_option maxRecDepth 100000 in
set_option maxHeartbeats 1500000 in
theorem refArity_in (w : World) (k : Nat) (h1 : 1 ≤ k) (h2 : k < 39) : Calls Tryd.prog 26 #[.int .i64 k] w fun e w' => e = .returned (.int .i64 (arAt k)) ∧ w' = w := by
  have hlo : ¬ (k : Int) < 1 := by omega
  have hhi : ¬ (38 : Int) < (k : Int) := by omega
  have hx := fun w : World => run_refAr h2 w
  go_enter Tryd.func26, Tryd.ntmps26
  go_wp2
  go_ret
  exact ⟨rfl, rfl⟩
theorem refArity_calls (w : World) (p : Int) (h : 0 ≤ arD p) : Calls Tryd.prog 18 #[.int .i64 p] w fun e w' => e = .returned (.int .i64 (arD p)) ∧ w' = w := by
  have hp : 1 ≤ p ∧ p ≤ 38 := by
    unfold arD at h
    split at h
    · assumption
    · omega
  obtain ⟨k, rfl⟩ : ∃ k : Nat, p = k := ⟨p.toNat, by omega⟩
  have e : arD k = arAt k := by
    unfold arD
    rw [if_pos hp]
    rfl
  rw [e]
  have HA := Lib.hid (refArity_in w k (by omega) (by omega))
  clear e h hp
  go_enter Tryd.func18, Tryd.ntmps18
  go_wp2_with fail
  refine HA.out.mono ?_
  rintro e w2 ⟨rfl, rfl⟩
  go_wp2
  go_ret
  exact ⟨rfl, rfl⟩
/-- How many more there are on the stack behind an instruction. -/
theorem leaves_calls {w : World} {x : InsV} (h : InsOk x) (h6 : x.op = 6 → 0 ≤ arD x.a) :
    Calls Tryd.prog 13 #[.agg #[.int .i64 x.op, .int .i64 x.a, .int .i64 x.b]] w fun e w' => e = .returned (.int .i64 (leavesF x)) ∧ Upd [] w w' := by
  have hops := h.ops
  have ha1 := h.a1
  have ha2 := h.a2
  have hb1 := h.b1
  have hb2 := h.b2
  clear h
  obtain ⟨op, a, b⟩ := x
  simp only at hops ha1 ha2 hb1 hb2 h6
  have hu : Upd [] w (w.alloc (.cells #[.int .i64 op, .int .i64 a, .int .i64 b] 47)) := (Upd.refl [] w).alloc _
  have HU := Lib.hid hu
  clear hu
  unfold leavesF needsF
  rcases hops with rfl | rfl | rfl | rfl | rfl | rfl | rfl | rfl | rfl | rfl | rfl | rfl
  case inr.inr.inr.inr.inr.inl =>
    have hr := arD_range a
    have HA := Lib.hid (fun w : World => refArity_calls w a (h6 rfl))
    clear h6
    show Calls _ _ _ w fun e w' => e = .returned (.int .i64 (1 - arD a)) ∧ Upd [] w w'
    generalize arD a = ar at hr HA ⊢
    go_enter Tryd.func13, Tryd.ntmps13
    go_wp2_with fail
    refine (HA.out _).mono ?_
    rintro e w2 ⟨rfl, rfl⟩
    go_wp2
    go_ret
    exact ⟨rfl, HU.out⟩
  all_goals
    clear h6
    go_enter Tryd.func13, Tryd.ntmps13
    go_wp2
    go_ret
    exact ⟨by simp <;> omega, HU.out⟩
theorem wrong_prim {c : CodeV} {n : Nat} {b : BlkV} {hi : Int} {x : InsV} {on : Int} (h : wrongF c n b hi x on = false) (h6 : x.op = 6) : 0 ≤ arD x.a := by
  unfold wrongF thereF at h
  simp only [Bool.or_eq_false_iff, Bool.not_eq_false', h6] at h
  simpa using h.1
/-- What the law asks of an instruction that is come to. -/
structure AskI (dl : List Int) (lo9 : Nat) (hi dp d lv : Int) (i : Nat) (x : InsV) : Prop where
  d0 : 0 ≤ d
  d1 : d ≤ dp
  l0 : 0 ≤ d + lv
  l1 : d + lv ≤ dp
  jmp : x.op = 7 ∨ x.op = 8 → ∃ t : Nat, x.a = t ∧ lo9 ≤ t ∧ (t : Int) < hi ∧ dl.getD t 0 = d + lv
  nxt : x.op ≠ 7 → x.op ≠ 10 → x.op ≠ 11 → (i : Int) + 1 < hi ∧ dl.getD (i + 1) 0 = d + lv
theorem ask_of {c : CodeV} {j : Nat} {b : BlkV} {hi : Int} {dl : List Int} {lo9 i : Nat} {x : InsV} (hx : x = c.ins.getD i default) (hlo : b.lo = lo9) (h : DoneI c j b hi dl i) (hm : dl.getD i 0 ≤ b.dp) : AskI dl lo9 hi b.dp (dl.getD i 0) (leavesF x) i x := by
  have hw := wrong_left h.ok
  have hj := h.jmp
  have hn := h.nxt
  rw [← hx] at hw hj hn
  refine ⟨h.vis, hm, hw.1, hw.2, fun ho => ?_, hn⟩
  obtain ⟨k1, k2, k3⟩ := hj ho
  exact ⟨x.a.toNat, by omega, by omega, by omega, k3⟩
end Go.Proofs.YtknbgbeepachgaaDoor
