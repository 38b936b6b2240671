/-
  The document's heap: what its calls do, said of its blocks.
-/
import Derived.Test.YtkbnkpllbgofhaaHeapO
namespace Go.Proofs.Ytkbnkpllbgofhaa
open Go.RowKit HeapM

/-- The cells of objects from place q + 1 on, their words in blocks bs. -/
def objCells : List HObj → List Nat → Nat → List Value
  | [], _, _ => []
  | o :: L, bs, q => .int .i64 ((q : Int) + 1) :: .int .i64 o.1 :: .slice (some ⟨bs.headD 0, 0, none⟩) o.2.length o.2.length :: objCells L bs.tail (q + 1 + o.2.length)
/-- Each object's words lie in a block of their own. -/
structure Bodies (w : World) (L : List HObj) (bs : List Nat) : Prop where
  len : bs.length = L.length
  nodup : bs.Nodup
  blk : ∀ (i : Nat) (o : HObj) (b : Nat), L[i]? = some o → bs[i]? = some b → Blk w b (o.2.map (.int .u64)) 30
/-- The document's heap at block p, v its list, with blocks from base on. -/
structure RHeap (w : World) (p n base : Nat) (L : List HObj) (v : Value) (bs : List Nat) : Prop where
  hp : Blk w p [.int .i64 n, v] 66
  own : w.ownsRow base 61 3 v L.length (objCells L bs 0)
  bodies : Bodies w L bs
  kinds : Kinds L
  words : Words L
  low : 16 ≤ n
  high : n ≤ 65536
  room : HeapM.used L ≤ n
  isNil : L = [] → v = .slice none 0 0
abbrev rptr (p : Nat) : Value := .pointer (some ⟨p, 0, none⟩)

theorem objCells_length : ∀ (L : List HObj) (bs : List Nat) (q : Nat), (objCells L bs q).length = L.length * 3
  | [], _, _ => rfl
  | o :: L, bs, q => by simp [objCells, objCells_length L]; omega
/-- Where the i-th object begins. -/
def posOf (L : List HObj) (i : Nat) : Nat := HeapM.used (L.take i)
theorem objCells_get {L : List HObj} : ∀ {bs : List Nat} {q i : Nat} {o : HObj}, L[i]? = some o →
    (objCells L bs q)[3 * i]? = some (.int .i64 ((q + posOf L i : Nat) + 1)) ∧ (objCells L bs q)[3 * i + 1]? = some (.int .i64 o.1) ∧ (objCells L bs q)[3 * i + 2]? = some (.slice (some ⟨bs.getD i 0, 0, none⟩) o.2.length o.2.length) := by
  induction L with
  | nil => intro bs q i o h; simp at h
  | cons a L ih =>
    intro bs q i o h
    cases i with
    | zero =>
      simp at h
      subst h
      refine ⟨by simp [objCells, posOf, HeapM.used], by simp [objCells], ?_⟩
      cases bs <;> simp [objCells]
    | succ i =>
      simp at h
      obtain ⟨h1, h2, h3⟩ := ih (bs := bs.tail) (q := q + 1 + a.2.length) h
      refine ⟨?_, ?_, ?_⟩
      · rw [show 3 * (i + 1) = 3 * i + 3 by omega]
        simp only [objCells, List.getElem?_cons_succ]
        rw [h1]
        simp [posOf, HeapM.used]
        omega
      · rw [show 3 * (i + 1) + 1 = (3 * i + 1) + 3 by omega]
        simp only [objCells, List.getElem?_cons_succ]
        exact h2
      · rw [show 3 * (i + 1) + 2 = (3 * i + 2) + 3 by omega]
        simp only [objCells, List.getElem?_cons_succ]
        rw [h3]
        cases bs <;> simp

section
variable {w : World} {p n base : Nat} {L : List HObj} {v : Value} {bs : List Nat}
theorem RHeap.cells (h : RHeap w p n base L v bs) : w.cell? ⟨p, 0, none⟩ = some (.int .i64 n) ∧ w.cell? ⟨p, 1, none⟩ = some v := ⟨h.hp.cell_some rfl, h.hp.cell_some rfl⟩
/-- The list's form, and the cells of each object. -/
theorem RHeap.form (h : RHeap w p n base L v bs) : ∃ a c, v = .slice a L.length c ∧ L.length ≤ 65536 ∧ ∀ (i : Nat) (o : HObj), L[i]? = some o → ∃ g, a = some ⟨g, 0, none⟩ ∧ w.cell? ⟨g, i * 3, none⟩ = some (.int .i64 ((posOf L i : Int) + 1)) ∧
    w.cell? ⟨g, i * 3 + 1, none⟩ = some (.int .i64 o.1) ∧ w.cell? ⟨g, i * 3 + 2, none⟩ = some (.slice (some ⟨bs.getD i 0, 0, none⟩) o.2.length o.2.length) := by
  have hlen : L.length ≤ 65536 := by
    have h1 := h.room
    have h2 := h.high
    have : ∀ L : List HObj, L.length ≤ HeapM.used L := by
      intro L
      induction L with
      | nil => simp
      | cons a L ih => simp only [List.length_cons, HeapM.used]; omega
    have := this L
    omega
  rcases h.own.2 with ⟨hv, h0⟩ | ⟨g, cap, cur, hv, hb, hg, hc, hm, hs, ht⟩
  · refine ⟨none, 0, by rw [hv, h0], hlen, fun i o hi => ?_⟩
    have : i < L.length := (List.getElem?_eq_some_iff.1 hi).1
    omega
  · refine ⟨_, cap, hv, hlen, fun i o hi => ⟨g, rfl, ?_⟩⟩
    have hi' : i < L.length := (List.getElem?_eq_some_iff.1 hi).1
    obtain ⟨h1, h2, h3⟩ := objCells_get (bs := bs) (q := 0) hi
    have hget : ∀ j u, (objCells L bs 0)[j]? = some u → w.cell? ⟨g, j, none⟩ = some u := by
      intro j u hj
      have := h.own.cells (g := g) (by rw [hv]; rfl) j u hj
      rwa [show (⟨g, 0, none⟩ : Addr).add j = ⟨g, j, none⟩ by unfold Addr.add; split <;> simp_all] at this
    rw [Nat.mul_comm i 3]
    refine ⟨?_, hget _ _ h2, hget _ _ h3⟩
    rw [hget _ _ h1]
    simp
theorem RHeap.upd (h : RHeap w p n base L v bs) {S : List Nat} {w' : World} (hu : Upd S w w') (h1 : p ∉ S) (h2 : ∀ g, v.ownBlock = some g → g ∉ S) (h3 : ∀ b, b ∈ bs → b ∉ S) : RHeap w' p n base L v bs := by
  obtain ⟨a1, a2, a3, a4, a5, a6, a7, a8, a9⟩ := h
  refine ⟨hu.blk a1 h1, own_upd a2 hu h2, ⟨a3.len, a3.nodup, fun i o b ho hb => hu.blk (a3.blk i o b ho hb) (h3 b ?_)⟩, a4, a5, a6, a7, a8, a9⟩
  obtain ⟨hlt, rfl⟩ := List.getElem?_eq_some_iff.1 hb
  exact List.getElem_mem hlt
theorem RHeap.upd0 (h : RHeap w p n base L v bs) {w' : World} (hu : Upd [] w w') : RHeap w' p n base L v bs := h.upd hu (by simp) (by simp) (by simp)
end

/-! ### New, Used, At -/
set_option maxHeartbeats 400000 in
theorem rnew_no (n : Int) (w : World) (h : n < 16 ∨ 65536 < n) :
    Calls Try.prog 35 #[.int .i64 n] w fun e w' => e = .returned (.pointer none) ∧ w = w' := by
  rcases h with h | h
  · go_enter Try.func35, Try.ntmps35
    go_wp2
    go_ret
    exact ⟨rfl, rfl⟩
  · have : ¬ n < 16 := by omega
    go_enter Try.func35, Try.ntmps35
    go_wp2
    go_ret
    exact ⟨rfl, rfl⟩
def RNewPost (n : Nat) (w : World) (e : Ending) (w' : World) : Prop := ∃ p, e = .returned (rptr p) ∧ RHeap w' p n w.heap.size [] (.slice none 0 0) [] ∧ w.heap.size ≤ p ∧ Upd [] w w'
set_option maxHeartbeats 400000 in
theorem rnew_yes (n : Nat) (w : World) (h1 : 16 ≤ n) (h2 : n ≤ 65536) : Calls Try.prog 35 #[.int .i64 n] w (RNewPost n w) := by
  have h3 : ¬ (n : Int) < 16 := by omega
  have h4 : ¬ 65536 < (n : Int) := by omega
  go_enter Try.func35, Try.ntmps35
  go_wp2
  go_ret
  exact ⟨_, rfl, ⟨Blk.newAt rfl, World.ownsRow_nil _ _ _ _, ⟨rfl, List.nodup_nil, fun i o b h => by simp at h⟩, (fun _ h => by cases h), (fun _ h => by cases h), by omega, by omega, by simp [HeapM.used], fun _ => rfl⟩, Nat.le_refl _, (Upd.refl [] w).alloc _⟩
theorem posOf_succ (a : HObj) (L : List HObj) (i : Nat) : posOf (a :: L) (i + 1) = posOf L i + 1 + a.2.length := by
  simp [posOf, HeapM.used]
  omega
theorem at_pos {L : List HObj} : ∀ {i : Nat} {o : HObj}, L[i]? = some o → objAt L (posOf L i) = some o := by
  induction L with
  | nil => intro i o h; simp at h
  | cons a L ih =>
    intro i o h
    cases i with
    | zero =>
      simp at h
      subst h
      simp [posOf, HeapM.used, objAt]
    | succ i =>
      simp at h
      rw [posOf_succ, objAt, if_neg (by omega), if_neg (by omega), show posOf L i + 1 + a.2.length - 1 - a.2.length = posOf L i by omega]
      exact ih h
theorem pos_at {L : List HObj} : ∀ {q : Nat} {o : HObj}, objAt L q = some o → ∃ i, L[i]? = some o ∧ posOf L i = q := by
  induction L with
  | nil => intro q o h; cases h
  | cons a L ih =>
    intro q o h
    unfold objAt at h
    split at h
    · rename_i h0
      subst h0
      exact ⟨0, by simpa using h, by simp [posOf, HeapM.used]⟩
    · split at h
      · cases h
      · obtain ⟨i, h1, h2⟩ := ih h
        exact ⟨i + 1, by simpa using h1, by rw [posOf_succ]; omega⟩
theorem posOf_lt {L : List HObj} {i : Nat} {o : HObj} (h : L[i]? = some o) : posOf L i + 1 + o.2.length ≤ HeapM.used L := (at_some (at_pos h)).1
theorem objR_pos {L : List HObj} {i : Nat} {o : HObj} (h : L[i]? = some o) : objR L ((posOf L i : Int) + 1) = some o := objR_at (at_pos h)
theorem objR_none_of {L : List HObj} {r : Int} (h : ∀ (i : Nat) (o : HObj), L[i]? = some o → (posOf L i : Int) + 1 ≠ r) : objR L r = none := by
  cases ho : objR L r with
  | none => rfl
  | some o =>
    obtain ⟨q, rfl, hq⟩ := objR_some ho
    obtain ⟨i, h1, h2⟩ := pos_at hq
    exact absurd (by omega) (h i o h1)
theorem posOf_len (L : List HObj) : posOf L L.length = HeapM.used L := by simp [posOf]
theorem posOf_next {L : List HObj} {i : Nat} {o : HObj} (h : L[i]? = some o) : posOf L (i + 1) = posOf L i + (o.2.length + 1) := by
  unfold posOf
  obtain ⟨hlt, rfl⟩ := List.getElem?_eq_some_iff.1 h
  rw [List.take_succ_eq_append_getElem hlt, used_append]
  simp [HeapM.used]
theorem posOf_mono {L : List HObj} {i j : Nat} (h : i < j) (hj : j ≤ L.length) : posOf L i < posOf L j := by
  induction j with
  | zero => omega
  | succ j ih =>
    have hn := posOf_next (L := L) (i := j) (List.getElem?_eq_getElem (by omega))
    rcases Nat.lt_or_ge i j with h' | h'
    · have := ih h' (by omega)
      omega
    · have : i = j := by omega
      subst this
      omega
theorem starts_pos : ∀ (L : List HObj) (q : Nat), starts L q = (List.range L.length).map (fun i => q + posOf L i)
  | [], _ => rfl
  | a :: L, q => by
    rw [starts, starts_pos L, List.length_cons, List.range_succ_eq_map, List.map_cons, List.map_map]
    congr 1
    apply List.map_congr_left
    intro i _
    simp [posOf_succ]
    omega
theorem objsR_pos (L : List HObj) : objsR L = (List.range L.length).map (fun i : Nat => (posOf L i : Int) + 1) := by
  unfold objsR
  rw [starts_pos, List.map_map]
  apply List.map_congr_left
  intro i _
  simp

/-! ### Used -/
set_option maxRecDepth 100000 in
set_option maxHeartbeats 1000000 in
theorem rused_calls {w : World} {p n base : Nat} {L : List HObj} {v : Value} {bs : List Nat} (h : RHeap w p n base L v bs) : Calls Try.prog 40 #[rptr p] w fun e w' => e = .returned (.int .i64 (HeapM.used L)) ∧ Upd [] w w' := by
  obtain ⟨a, c, rfl, hlen, hf⟩ := h.form
  have c1 := h.cells.2
  have hroom := h.room
  have hhigh := h.high
  have HF := Lib.hid hf
  have HH := Lib.hid h
  clear h hf
  obtain ⟨m, hm⟩ : ∃ m, m = L.length := ⟨_, rfl⟩
  rw [← hm] at c1 hlen
  have HM := Lib.hid hm; clear hm
  unfold rptr
  go_enter Try.func40, Try.ntmps40
  go_wp2_with fail
  go_loopw [3, 11] (fun s i wr => ∃ j : Nat, j ≤ m ∧ i = .int .i64 j ∧ s = .int .i64 (posOf L j) ∧ Upd [] w wr) (fun _ i _ => m - (intOf i).toNat)
  case atStart => exact ⟨0, by omega, rfl, rfl, Upd.refl _ _⟩
  case round =>
    obtain ⟨j, hj, rfl, rfl, hu⟩ := hrel
    by_cases hlt : j < m
    · obtain ⟨o, ho⟩ : ∃ o, L[j]? = some o := ⟨_, List.getElem?_eq_getElem (by rw [← HM.out]; exact hlt)⟩
      obtain ⟨g, rfl, g0, g1, g2⟩ := HF.out j o ho
      have hnx := posOf_next ho
      have hlt2 := posOf_lt ho
      have d0 := hu.cell g0 (by simp)
      have d1 := hu.cell g1 (by simp)
      have d2 := hu.cell g2 (by simp)
      clear g0 g1 g2
      have HN := Lib.hid hnx; clear hnx
      generalize o.2.length = k at *
      generalize bs.getD j 0 = bj at *
      clear ho
      go_wp2
      go_roundw
      case rel => exact ⟨j + 1, by omega, by go_num, by rw [HN.out]; go_num, by first | exact hu.alloc _ | exact (hu.alloc _).setCell _ (.inr (by have := hu.size; simp; omega))⟩
      case measure => simp [intOf]; omega
    · have hjm : j = m := by omega
      subst hjm
      have hp : posOf L j = HeapM.used L := by rw [HM.out]; exact posOf_len L
      have HP := Lib.hid hp; clear hp
      go_wp2
      go_ret
      exact ⟨ret_int (by rw [HP.out]), hu⟩

/-! ### At -/
/-- What At answers. -/
def atVal (L : List HObj) (bs : List Nat) (r : Int) (v : Value) : Prop :=
  (∃ i o, L[i]? = some o ∧ r = (posOf L i : Int) + 1 ∧ objR L r = some o ∧ v = .tuple #[.agg #[.int .i64 r, .int .i64 o.1, .slice (some ⟨bs.getD i 0, 0, none⟩) o.2.length o.2.length], .bool true]) ∨
  (objR L r = none ∧ v = .tuple #[.agg #[.int .i64 0, .int .i64 0, .slice none 0 0], .bool false])
def AtPost (L : List HObj) (bs : List Nat) (r : Int) (w : World) (e : Ending) (w' : World) : Prop := (∃ v, e = .returned v ∧ atVal L bs r v) ∧ Upd [] w w'
set_option maxRecDepth 100000 in
set_option maxHeartbeats 1000000 in
theorem rat_calls {w : World} {p n base : Nat} {L : List HObj} {v : Value} {bs : List Nat} (h : RHeap w p n base L v bs) (r : Int) : Calls Try.prog 39 #[rptr p, .int .i64 r] w (AtPost L bs r w) := by
  obtain ⟨a, c, rfl, hlen, hf⟩ := h.form
  have c1 := h.cells.2
  have hpl := h.hp.lt
  have HF := Lib.hid hf
  clear h hf
  obtain ⟨m, hm⟩ : ∃ m, m = L.length := ⟨_, rfl⟩
  rw [← hm] at c1 hlen
  have HM := Lib.hid hm; clear hm
  unfold rptr
  go_enter Try.func39, Try.ntmps39
  go_wp2_with fail
  obtain ⟨W0, hW0⟩ : ∃ W0, W0 = w.alloc (.cells #[.int .i64 0, .int .i64 0, .slice none 0 0] 61) := ⟨_, rfl⟩
  have hB0 : Blk W0 w.heap.size [.int .i64 0, .int .i64 0, .slice none 0 0] 61 := by rw [hW0]; exact Blk.newAt rfl
  have hU0 : Upd [] w W0 := by rw [hW0]; exact (Upd.refl _ _).alloc _
  rw [← hW0]
  clear hW0
  have HB0 := Lib.hid hB0; clear hB0
  obtain ⟨H, hH⟩ : ∃ H, H = w.heap.size := ⟨_, rfl⟩
  rw [← hH] at HB0 ⊢
  have HHH := Lib.hid hH; clear hH
  go_loopw [13] (fun i wr => ∃ j : Nat, j ≤ m ∧ i = .int .i64 j ∧ Upd [] W0 wr ∧ Hid (∀ (i : Nat) (o : HObj), i < j → L[i]? = some o → (posOf L i : Int) + 1 ≠ r)) (fun i _ => m - (intOf i).toNat)
  case atStart => exact ⟨0, by omega, rfl, Upd.refl _ _, fun i o hi => absurd hi (by omega)⟩
  case round =>
    obtain ⟨j, hj, rfl, hu, hall⟩ := hrel
    have hBr := hu.blk HB0.out (by simp)
    have e0 := hBr.cell_some (i := 0) rfl
    have e1 := hBr.cell_some (i := 1) rfl
    have e2 := hBr.cell_some (i := 2) rfl
    have f0 := hBr.free 0
    have f1 := hBr.free 1
    have f2 := hBr.free 2
    have hHlt := hBr.lt
    have HBR := Lib.hid hBr; clear hBr
    by_cases hlt : j < m
    · obtain ⟨o, ho⟩ : ∃ o, L[j]? = some o := ⟨_, List.getElem?_eq_getElem (by rw [← HM.out]; exact hlt)⟩
      obtain ⟨g, rfl, g0, g1, g2⟩ := HF.out j o ho
      have d0 := hu.cell (hU0.cell g0 (by simp)) (by simp)
      have d1 := hu.cell (hU0.cell g1 (by simp)) (by simp)
      have d2 := hu.cell (hU0.cell g2 (by simp)) (by simp)
      clear g0 g1 g2
      by_cases hr : (posOf L j : Int) + 1 = r
      · have hb : ((posOf L j : Int) + 1 == r) = true := by rw [beq_iff_eq]; exact hr
        have hres : atVal L bs r (.tuple #[.agg #[.int .i64 ((posOf L j : Int) + 1), .int .i64 o.1, .slice (some ⟨bs.getD j 0, 0, none⟩) o.2.length o.2.length], .bool true]) := by
          rw [hr]
          exact .inl ⟨j, o, ho, hr.symm, by rw [← hr]; exact objR_pos ho, rfl⟩
        have HR := Lib.hid hres; clear hres
        have HE := Lib.hid hr; clear hr
        clear hall ho
        generalize o.2.length = k at *
        generalize o.1 = kd at *
        generalize bs.getD j 0 = bj at *
        generalize posOf L j = q at *
        go_wp2
        have hBf := (((HBR.out.set 0 (.int .i64 ((q : Int) + 1))).set 1 (.int .i64 kd)).set 2 (.slice (some ⟨bj, 0, none⟩) k k)).alloc (.cells #[.int .i64 ((q : Int) + 1), .int .i64 kd, .slice (some ⟨bj, 0, none⟩) k k] 61)
        have k0 := hBf.cell_some (i := 0) rfl
        have k1 := hBf.cell_some (i := 1) rfl
        have k2 := hBf.cell_some (i := 2) rfl
        have hUf := (((((hU0.then hu).setCell (.int .i64 ((q : Int) + 1)) (p := ⟨H, 0, none⟩) (.inr (Nat.le_of_eq HHH.out.symm))).setCell (.int .i64 kd) (p := ⟨H, 1, none⟩) (.inr (Nat.le_of_eq HHH.out.symm))).setCell (.slice (some ⟨bj, 0, none⟩) k k) (p := ⟨H, 2, none⟩) (.inr (Nat.le_of_eq HHH.out.symm))).alloc (.cells #[.int .i64 ((q : Int) + 1), .int .i64 kd, .slice (some ⟨bj, 0, none⟩) k k] 61))
        refine bodyPost_ret (v := .tuple #[.agg #[.int .i64 ((q : Int) + 1), .int .i64 kd, .slice (some ⟨bj, 0, none⟩) k k], .bool true]) ?_ rfl ⟨⟨_, rfl, HR.out⟩, hUf⟩
        simp [results, Try.results39, go_sem, k0, k1, k2]
      · have hb : ((posOf L j : Int) + 1 == r) = false := by rw [beq_eq_false_iff_ne]; exact hr
        have hall' : Hid (∀ (i : Nat) (o : HObj), i < j + 1 → L[i]? = some o → (posOf L i : Int) + 1 ≠ r) := by
          intro i o' hi ho'
          rcases Nat.lt_or_ge i j with h | h
          · exact hall.out i o' h ho'
          · have : i = j := by omega
            subst this
            exact hr
        clear hr hall ho
        generalize o.2.length = k at *
        generalize o.1 = kd at *
        generalize bs.getD j 0 = bj at *
        generalize posOf L j = q at *
        go_wp2
        go_roundw
        case rel => exact ⟨j + 1, by omega, by go_num, hu.alloc _, hall'⟩
        case measure => simp [intOf]; omega
    · have hjm : j = m := by omega
      subst hjm
      have hn : objR L r = none := objR_none_of (fun i o ho => hall.out i o (by rw [HM.out]; exact (List.getElem?_eq_some_iff.1 ho).1) ho)
      have HN := Lib.hid hn; clear hn
      go_wp2
      have hBf := (((HBR.out.set 0 (.int .i64 0)).set 1 (.int .i64 0)).set 2 (.slice none 0 0))
      have k0 := hBf.cell_some (i := 0) rfl
      have k1 := hBf.cell_some (i := 1) rfl
      have k2 := hBf.cell_some (i := 2) rfl
      have hUf := ((((hU0.then hu).setCell (.int .i64 0) (p := ⟨H, 0, none⟩) (.inr (Nat.le_of_eq HHH.out.symm))).setCell (.int .i64 0) (p := ⟨H, 1, none⟩) (.inr (Nat.le_of_eq HHH.out.symm))).setCell (.slice none 0 0) (p := ⟨H, 2, none⟩) (.inr (Nat.le_of_eq HHH.out.symm)))
      refine bodyPost_ret (v := .tuple #[.agg #[.int .i64 0, .int .i64 0, .slice none 0 0], .bool false]) ?_ rfl ⟨⟨_, rfl, .inr ⟨HN.out, rfl⟩⟩, hUf⟩
      simp [results, Try.results39, go_sem, k0, k1, k2]

/-! ### Get, Set -/
theorem RHeap.word {w : World} {p n base : Nat} {L : List HObj} {v : Value} {bs : List Nat} (h : RHeap w p n base L v bs) {i k : Nat} {o : HObj} (ho : L[i]? = some o) (hk : k < o.2.length) :
    w.cell? ⟨bs.getD i 0, k, none⟩ = some (.int .u64 (o.2.getD k 0)) ∧ w.frozen? ⟨bs.getD i 0, k, none⟩ = false := by
  have hi : i < bs.length := by rw [h.bodies.len]; exact (List.getElem?_eq_some_iff.1 ho).1
  have hb : bs[i]? = some (bs.getD i 0) := by simp [List.getD_eq_getElem?_getD, hi]
  have B := h.bodies.blk i o _ ho hb
  exact ⟨B.cell_some (by rw [map_int_get, List.getElem?_eq_getElem hk, List.getD_eq_getElem?_getD, List.getElem?_eq_getElem hk]; rfl), B.free _⟩
theorem RHeap.lens {w : World} {p n base : Nat} {L : List HObj} {v : Value} {bs : List Nat} (h : RHeap w p n base L v bs) {i : Nat} {o : HObj} (ho : L[i]? = some o) : o.2.length ≤ 65536 := by
  have := posOf_lt ho
  have := h.room
  have := h.high
  omega
set_option maxHeartbeats 1000000 in
theorem rget_calls {w : World} {p n base : Nat} {L : List HObj} {v : Value} {bs : List Nat} (h : RHeap w p n base L v bs) (r i : Int) :
    Calls Try.prog 38 #[rptr p, .int .i64 r, .int .i64 i] w fun e w' => e = .returned (.tuple #[.int .u64 ((getR L r i).getD 0), .bool (getR L r i).isSome]) ∧ Upd [] w w' := by
  have hA := Lib.hid (rat_calls h r)
  have H := Lib.hid h; clear h
  rcases (show i < 0 ∨ 0 ≤ i by omega) with hi | hi
  · have hg : getR L r i = none := by
      unfold getR
      cases objR L r <;> simp
      omega
    rw [hg]
    clear hg
    go_enter Try.func38, Try.ntmps38
    go_wp2_with fail
    refine hA.out.mono ?_
    rintro e w1 ⟨⟨v, rfl, hv⟩, hu⟩
    rcases hv with ⟨k, o, ho, hr, hro, rfl⟩ | ⟨hro, rfl⟩
    all_goals
      have HU := Lib.hid hu; clear hu
      clear hro
      go_wp2
      go_ret2
      first | exact ⟨rfl, HU.out.alloc _⟩
  · obtain ⟨i, rfl⟩ := Int.eq_ofNat_of_zero_le hi
    cases hro0 : objR L r with
    | none =>
      have hg : getR L r i = none := by unfold getR; rw [hro0]; rfl
      rw [hg]
      clear hg
      go_enter Try.func38, Try.ntmps38
      go_wp2_with fail
      refine hA.out.mono ?_
      rintro e w1 ⟨⟨v, rfl, hv⟩, hu⟩
      rcases hv with ⟨k, o, ho, hr, hro, rfl⟩ | ⟨hro, rfl⟩
      · rw [hro0] at hro
        cases hro
      · have HU := Lib.hid hu; clear hu
        clear hro hro0
        go_wp2
        go_ret2
        exact ⟨rfl, HU.out.alloc _⟩
    | some o0 =>
      have hg : getR L r i = o0.2[i]? := by
        unfold getR
        rw [hro0]
        simp
      rw [hg]
      clear hg
      by_cases hlt : i < o0.2.length
      · have e1 : o0.2[i]? = some (o0.2.getD i 0) := by simp [List.getD_eq_getElem?_getD, hlt]
        rw [e1]
        clear e1
        obtain ⟨X, hX⟩ : ∃ X, o0.2.getD i 0 = X := ⟨_, rfl⟩
        rw [hX]
        have HX := Lib.hid hX; clear hX
        go_enter Try.func38, Try.ntmps38
        go_wp2_with fail
        refine hA.out.mono ?_
        rintro e w1 ⟨⟨v, rfl, hv⟩, hu⟩
        rcases hv with ⟨k, o, ho, hr, hro, rfl⟩ | ⟨hro, rfl⟩
        · obtain rfl : o = o0 := by
            rw [hro0] at hro
            exact (Option.some.inj hro).symm
          obtain ⟨hc, _⟩ := (H.out.upd0 hu).word ho hlt
          rw [HX.out] at hc
          have hlen := H.out.lens ho
          have HU := Lib.hid hu; clear hu
          clear hro hro0 ho hr
          generalize o.2.length = len at *
          generalize o.1 = kd at *
          generalize bs.getD k 0 = bk at *
          have hblt := World.block_lt_of_cell? w1 _ hc
          simp only at hblt
          go_wp2
          go_ret2
          exact ⟨rfl, HU.out.alloc _⟩
        · rw [hro0] at hro
          cases hro
      · have e1 : o0.2[i]? = none := by simp; omega
        rw [e1]
        clear e1
        go_enter Try.func38, Try.ntmps38
        go_wp2_with fail
        refine hA.out.mono ?_
        rintro e w1 ⟨⟨v, rfl, hv⟩, hu⟩
        rcases hv with ⟨k, o, ho, hr, hro, rfl⟩ | ⟨hro, rfl⟩
        · obtain rfl : o = o0 := by
            rw [hro0] at hro
            exact (Option.some.inj hro).symm
          have HU := Lib.hid hu; clear hu
          clear hro hro0 ho hr
          generalize o.2.length = len at *
          generalize o.1 = kd at *
          generalize bs.getD k 0 = bk at *
          go_wp2
          go_ret2
          exact ⟨rfl, HU.out.alloc _⟩
        · rw [hro0] at hro
          cases hro

/-! ### Set -/
theorem set_at {L : List HObj} : ∀ {i : Nat} {o : HObj} (k : Nat) (x : Int), L[i]? = some o → setAt L (posOf L i) k x = L.set i (o.1, o.2.set k x) := by
  induction L with
  | nil => intro i o k x h; simp at h
  | cons a L ih =>
    intro i o k x h
    cases i with
    | zero =>
      simp at h
      subst h
      simp [posOf, HeapM.used, setAt]
    | succ i =>
      simp at h
      rw [posOf_succ, setAt, if_neg (by omega), if_neg (by omega), show posOf L i + 1 + a.2.length - 1 - a.2.length = posOf L i by omega, ih k x h]
      simp
theorem objCells_set {L : List HObj} : ∀ {i : Nat} {o : HObj} (bs : List Nat) (q k : Nat) (x : Int), L[i]? = some o → objCells (L.set i (o.1, o.2.set k x)) bs q = objCells L bs q := by
  induction L with
  | nil => intro i o bs q k x h; simp at h
  | cons a L ih =>
    intro i o bs q k x h
    cases i with
    | zero =>
      simp at h
      subst h
      simp [objCells]
    | succ i =>
      simp at h
      simp [objCells, ih _ _ _ _ h]
theorem RHeap.set {w : World} {p n base : Nat} {L : List HObj} {v : Value} {bs : List Nat} (h : RHeap w p n base L v bs) {i k : Nat} {o : HObj} (ho : L[i]? = some o) {x : Int} (hx : 0 ≤ x ∧ x < 18446744073709551616) :
    RHeap (w.setCell ⟨bs.getD i 0, k, none⟩ (.int .u64 x)) p n base (setAt L (posOf L i) k x) v bs := by
  have hi : i < bs.length := by rw [h.bodies.len]; exact (List.getElem?_eq_some_iff.1 ho).1
  have hb : bs[i]? = some (bs.getD i 0) := by simp [List.getD_eq_getElem?_getD, hi]
  have B := h.bodies.blk i o _ ho hb
  obtain ⟨a1, a2, a3, a4, a5, a6, a7, a8, a9⟩ := h
  have hpb : p ≠ bs.getD i 0 := a1.ne B (by decide)
  have hu := (Upd.refl [bs.getD i 0] w).setCell (p := ⟨bs.getD i 0, k, none⟩) (.int .u64 x) (.inl (by simp))
  refine ⟨a1.set_other _ hpb, ?_, ⟨?_, a3.nodup, ?_⟩, a4.set _ _ _, a5.set _ _ hx, a6, a7, by rw [set_used]; exact a8, fun e => ?_⟩
  rotate_left 3
  · have e2 := congrArg List.length e
    rw [set_at k x ho, List.length_set] at e2
    have := (List.getElem?_eq_some_iff.1 ho).1
    simp at e2
    subst e2
    simp at this
  · rw [set_at k x ho, objCells_set bs 0 k x ho, List.length_set]
    refine own_upd a2 hu (fun g hg => ?_)
    rcases a2.2 with ⟨rfl, _⟩ | ⟨g', cap, cur, rfl, _, hh, _⟩
    · cases hg
    · have : g' = g := by simpa [Value.ownBlock] using hg
      subst this
      have hg2 : Blk w g' cur.toList 61 := by unfold Blk; simpa using hh
      have := hg2.ne B (by decide)
      simpa using this
  · rw [set_at k x ho, List.length_set]
    exact a3.len
  · intro j o' b ho' hb'
    rw [set_at k x ho] at ho'
    by_cases hij : j = i
    · subst hij
      have e1 : b = bs.getD j 0 := by
        rw [hb] at hb'
        exact (Option.some.inj hb').symm
      have hlt : j < L.length := (List.getElem?_eq_some_iff.1 ho).1
      have e2 : o' = (o.1, o.2.set k x) := by
        rw [List.getElem?_set_self hlt] at ho'
        exact (Option.some.inj ho').symm
      rw [e1, e2]
      show Blk _ _ ((o.2.set k x).map _) _
      rw [← map_int_set]
      exact B.set _ _
    · rw [List.getElem?_set_ne (by omega)] at ho'
      have hne : b ≠ bs.getD i 0 := by
        intro e
        subst e
        obtain ⟨h1, h2⟩ := List.getElem?_eq_some_iff.1 hb
        obtain ⟨h3, h4⟩ := List.getElem?_eq_some_iff.1 hb'
        exact hij ((List.getElem_inj a3.nodup).1 (h4.trans h2.symm))
      exact (a3.blk j o' b ho' hb').set_other _ hne
set_option maxHeartbeats 1000000 in
theorem rset_calls {w : World} {p n base : Nat} {L : List HObj} {v : Value} {bs : List Nat} (h : RHeap w p n base L v bs) (r i x : Int) (hx : 0 ≤ x ∧ x < 18446744073709551616) :
    Calls Try.prog 37 #[rptr p, .int .i64 r, .int .i64 i, .int .u64 x] w fun e w' => e = .returned (.bool (getR L r i).isSome) ∧ RHeap w' p n base (setR L r i x) v bs ∧ Upd bs w w' := by
  have hG := Lib.hid (rget_calls h r i)
  unfold setR
  cases hg : getR L r i with
  | none =>
    have hH := Lib.hid h; clear h
    rw [hg] at hG
    clear hg
    simp only [Option.isSome_none, Bool.false_eq_true, if_false]
    go_enter Try.func37, Try.ntmps37
    go_wp2_with fail
    refine hG.out.mono ?_
    rintro e w1 ⟨rfl, hu⟩
    have HU := Lib.hid hu; clear hu
    go_wp2
    go_ret
    exact ⟨rfl, hH.out.upd0 HU.out, HU.out.mono (by simp)⟩
  | some y =>
    rw [hg] at hG
    obtain ⟨q, j, o, rfl, rfl, hq, hj, hy⟩ := getR_some hg
    obtain ⟨k, hk, rfl⟩ := pos_at hq
    simp only [Option.isSome_some, if_true, show ((posOf L k : Int) + 1 - 1).toNat = posOf L k by omega, Int.toNat_natCast]
    have hH := Lib.hid h
    have hlen := h.lens hk
    clear h hg hy
    obtain ⟨L', hL'⟩ : ∃ L', L' = setAt L (posOf L k) j x := ⟨_, rfl⟩
    rw [← hL']
    have HL := Lib.hid hL'; clear hL'
    go_enter Try.func37, Try.ntmps37
    go_wp2_with fail
    refine hG.out.mono ?_
    rintro e w1 ⟨rfl, hu1⟩
    have hH1 := Lib.hid (hH.out.upd0 hu1)
    have HU1 := Lib.hid hu1; clear hu1
    go_wp2_with fail
    refine (rat_calls hH1.out _).mono ?_
    rintro e w2 ⟨⟨v, rfl, hv⟩, hu2⟩
    rcases hv with ⟨k', o', ho', hr', hro', rfl⟩ | ⟨hro', rfl⟩
    · have hro := objR_pos hk
      have eo : o' = o := by
        rw [hro] at hro'
        exact (Option.some.inj hro').symm
      have ek : k' = k := by
        have h1 := (List.getElem?_eq_some_iff.1 ho').1
        have h2 := (List.getElem?_eq_some_iff.1 hk).1
        rcases Nat.lt_trichotomy k' k with h | h | h
        · have := posOf_mono (L := L) h (by omega)
          omega
        · exact h
        · have := posOf_mono (L := L) h (by omega)
          omega
      subst eo
      subst ek
      have hH2 := hH1.out.upd0 hu2
      obtain ⟨hc, hfz⟩ := hH2.word hk hj
      have hset := (hH2.set hk (k := j) hx).upd0 ((Upd.refl [] _).alloc (.cells #[.int .i64 ((posOf L k' : Int) + 1), .int .i64 o'.1, .slice (some ⟨bs.getD k' 0, 0, none⟩) o'.2.length o'.2.length] 61))
      have hmem : bs.getD k' 0 ∈ bs := by
        have hi : k' < bs.length := by rw [hH2.bodies.len]; exact (List.getElem?_eq_some_iff.1 hk).1
        simp [List.getD_eq_getElem?_getD, hi]
      have hup := (((HU1.out.then hu2).mono (T := bs) (by simp)).setCell (p := ⟨bs.getD k' 0, j, none⟩) (.int .u64 x) (.inl hmem)).alloc (.cells #[.int .i64 ((posOf L k' : Int) + 1), .int .i64 o'.1, .slice (some ⟨bs.getD k' 0, 0, none⟩) o'.2.length o'.2.length] 61)
      rw [← HL.out] at hset
      have HSET := Lib.hid hset
      have HUP := Lib.hid hup
      have hblt := World.block_lt_of_cell? w2 _ hc
      simp only at hblt
      clear hset hup hmem hH2 hro hro' hr' ho' hk hq hG hu2
      generalize o'.2.getD j 0 = y2 at *
      generalize o'.2.length = len at *
      generalize o'.1 = kd at *
      generalize bs.getD k' 0 = bk at *
      generalize posOf L k' = q at *
      go_wp2
      go_ret
      exact ⟨rfl, HSET.out, HUP.out⟩
    · rw [objR_pos hk] at hro'
      cases hro'
end Go.Proofs.Ytkbnkpllbgofhaa
