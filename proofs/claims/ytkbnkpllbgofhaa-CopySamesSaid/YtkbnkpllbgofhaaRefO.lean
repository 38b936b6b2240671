/-
  The document's heap: Objects, Ints, Alloc.
-/
import Derived.Test.YtkbnkpllbgofhaaRefH
import Derived.Deep.RegionLaw
import Derived.Deep.RegionHeld3
import Derived.Deep.AppendLies
namespace Go.Proofs.Ytkbnkpllbgofhaa
open Go.RowKit HeapM

/-- The first so many places. -/
def posTo (L : List HObj) (i : Nat) : List Int := (List.range i).map (fun t : Nat => (posOf L t : Int) + 1)
theorem posTo_succ (L : List HObj) (i : Nat) : posTo L (i + 1) = posTo L i ++ [(posOf L i : Int) + 1] := by
  simp [posTo, List.range_succ]
theorem posTo_len (L : List HObj) (i : Nat) : (posTo L i).length = i := by simp [posTo]
set_option maxRecDepth 100000 in
set_option maxHeartbeats 1000000 in
theorem robjects_calls {w : World} {p n base : Nat} {L : List HObj} {v : Value} {bs : List Nat} (h : RHeap w p n base L v bs) : Calls Try.prog 44 #[rptr p] w (ObjPost L w) := by
  obtain ⟨a, c, rfl, hlen, hf⟩ := h.form
  have c1 := h.cells.2
  have hroom := h.room
  have hhigh := h.high
  have HF := Lib.hid hf
  clear h hf
  obtain ⟨m, hm⟩ : ∃ m, m = L.length := ⟨_, rfl⟩
  rw [← hm] at c1 hlen
  have HM := Lib.hid hm; clear hm
  unfold rptr
  go_enter Try.func44, Try.ntmps44
  go_wp2_with fail
  go_loopw [3, 11] (fun lv i wr => ∃ j : Nat, j ≤ m ∧ i = .int .i64 j ∧ Upd [] w wr ∧ Hid (wr.ownsRow w.heap.size 3 1 lv j ((posTo L j).map (.int .i64)))) (fun _ i _ => m - (intOf i).toNat)
  case atStart => exact ⟨0, by omega, rfl, Upd.refl _ _, World.ownsRow_nil _ _ _ _⟩
  case round =>
    obtain ⟨j, hj, rfl, hu, hown⟩ := hrel
    by_cases hlt : j < m
    · obtain ⟨o, ho⟩ : ∃ o, L[j]? = some o := ⟨_, List.getElem?_eq_getElem (by rw [← HM.out]; exact hlt)⟩
      obtain ⟨g, rfl, g0, g1, g2⟩ := HF.out j o ho
      have hlt2 := posOf_lt ho
      have d0 := hu.cell g0 (by simp)
      have d1 := hu.cell g1 (by simp)
      have d2 := hu.cell g2 (by simp)
      clear g0 g1 g2
      have hs := posTo_succ L j
      have HS := Lib.hid hs; clear hs
      have hsz := hu.size
      generalize hq : posOf L j = q at *
      have HQ := Lib.hid hq; clear hq
      generalize o.2.length = k at *
      generalize o.1 = kd at *
      generalize bs.getD j 0 = bj at *
      clear ho
      go_wp2_with (at_builtin; refine wpList_app rfl _ _ 41 rfl w.heap.size 3 (.int .i64 0) 1 8 Try.underlying41 info_int rfl (by decide) _ _ _ rfl (hown.out.alloc _) [.int .i64 ((q : Int) + 1)] 1 (by simp; rfl) rfl (one1 rfl) (by unfold maxLen; omega) (by omega) (by simp; omega) ?_; intro g1 cap1 w3 S1 hown1 hu1 hS1 hg1)
      have hup := (hu.alloc (.cells #[.int .i64 ((q : Int) + 1), .int .i64 kd, .slice (some ⟨bj, 0, none⟩) k k] 61)).fresh hu1 (fun x hx => (hown.out.lt x (hS1 x hx)).1)
      have hown2 : Hid (w3.ownsRow w.heap.size 3 1 (.slice (some ⟨g1, 0, none⟩) (j + 1) cap1) (j + 1) ((posTo L (j + 1)).map (.int .i64))) := by
        rw [HS.out, List.map_append]
        exact hown1
      clear hown1 hu1 hS1 hg1 hown hu
      go_roundw
      case rel => exact ⟨j + 1, by omega, by go_num, hup, hown2⟩
      case measure => simp [intOf]; omega
    · have hjm : j = m := by omega
      subst hjm
      have hall : posTo L j = objsR L := by rw [objsR_pos, HM.out]; rfl
      have hl := posTo_len L j
      obtain ⟨a2, c2, rfl, hl2, hs2⟩ := own_SlI hown.out
      rw [hall] at hl hs2
      have HP : Hid (ObjPost L w (.returned (.slice a2 j c2)) wr) := ⟨a2, c2, by rw [hl], hs2, hu⟩
      clear hown hu hl hl2 hs2 hall
      go_wp2
      go_ret
      exact HP.out

/-! ### Ints -/
set_option maxHeartbeats 1000000 in
theorem ints_calls {w : World} {a b : Option Addr} {xs ys : List Int} (n m c d : Nat) (hn : xs.length = n) (hm : ys.length = m) (hx : SlI w .i64 a xs) (hy : SlI w .i64 b ys) (h1 : n ≤ 9223372036854775807) (h2 : m ≤ 9223372036854775807) (he : xs = ys) :
    Calls Try.prog 42 #[.slice a n c, .slice b m d] w fun e w' => e = .returned (.bool true) ∧ Upd [] w w' := by
  subst he
  have hnm : n = m := by omega
  subst hnm
  have HN := Lib.hid hn; clear hn hm
  have HX := Lib.hid hx; clear hx
  have HY := Lib.hid hy; clear hy
  have hb : ((n : Int) != (n : Int)) = false := by simp
  go_enter Try.func42, Try.ntmps42
  go_wp2
  go_loopw [13] (fun i wr => ∃ j : Nat, j ≤ n ∧ i = .int .i64 j ∧ Upd [] w wr) (fun i _ => n - (intOf i).toNat)
  case atStart => exact ⟨0, by omega, rfl, Upd.refl _ _⟩
  case round =>
    obtain ⟨j, hj, rfl, hu⟩ := hrel
    by_cases hlt : j < n
    · obtain ⟨b1, o1, rfl, hc1⟩ := (HX.out.upd0 hu) j (by rw [HN.out]; exact hlt)
      obtain ⟨b2, o2, rfl, hc2⟩ := (HY.out.upd0 hu) j (by rw [HN.out]; exact hlt)
      generalize xs.getD j 0 = z at *
      have h0 : (0 : Int) ≤ j := by omega
      have h0' : (j : Int) < n := by omega
      have HU := Lib.hid hu; clear hu
      go_wp2
      go_quiet (fail)
      go_wp2
      go_roundw
      case rel => exact ⟨j + 1, by omega, by go_num, HU.out.drewN _⟩
      case measure => simp [intOf]; omega
    · go_wp2
      go_ret
      exact ⟨rfl, hu⟩

/-! ### Alloc -/
set_option maxRecDepth 100000 in
set_option maxHeartbeats 1000000 in
theorem ralloc_full {w : World} {p n base : Nat} {L : List HObj} {v : Value} {bs : List Nat} (h : RHeap w p n base L v bs) (k m : Int) (hf : ¬ fits L n k m) :
    Calls Try.prog 36 #[rptr p, .int .i64 k, .int .i64 m] w fun e w' => e = .returned (.tuple #[.int .i64 0, .bool false]) ∧ Upd [] w w' := by
  have hx : decide (m < 0) = true ∨ (decide (m < 0) = false ∧ decide (k < 1) = true) ∨ (decide (m < 0) = false ∧ decide (k < 1) = false ∧ decide (8 < k) = true) ∨ (decide (m < 0) = false ∧ decide (k < 1) = false ∧ decide (8 < k) = false ∧ decide ((n : Int) - (HeapM.used L : Int) ≤ m) = true) := by
    unfold fits at hf
    simp only [decide_eq_true_eq, decide_eq_false_iff_not]
    omega
  clear hf
  have c0 := h.cells.1
  have hr := h.room
  have hh := h.high
  have H := Lib.hid h; clear h
  unfold rptr at *
  rcases hx with h1 | ⟨h1, h2⟩ | ⟨h1, h2, h3⟩ | ⟨h1, h2, h3, h4⟩
  · go_enter Try.func36, Try.ntmps36
    go_wp2_with fail
    go_quiet (fail)
    go_wp2
    go_ret2
    exact ⟨rfl, (Upd.refl [] w).drewN _⟩
  · go_enter Try.func36, Try.ntmps36
    go_wp2_with fail
    go_quiet (fail)
    go_wp2
    go_ret2
    exact ⟨rfl, (Upd.refl [] w).drewN _⟩
  · go_enter Try.func36, Try.ntmps36
    go_wp2_with fail
    go_quiet (fail)
    go_wp2
    go_ret2
    exact ⟨rfl, (Upd.refl [] w).drewN _⟩
  · have hd := Lib.hid (H.out.upd0 (Upd.refl [] w).drew)
    obtain ⟨u, hu⟩ : ∃ u, u = HeapM.used L := ⟨_, rfl⟩
    rw [← hu] at h4 hr
    have HUu := Lib.hid hu; clear hu
    have hw : IntKind.i64.wrap ((n : Int) - (u : Int)) = (n : Int) - (u : Int) := IntWalk.i64_in _ (by omega)
    have huse := Lib.hid (rused_calls hd.out)
    rw [← HUu.out] at huse
    go_enter Try.func36, Try.ntmps36
    go_wp2_with fail
    go_region_held3 (fun w' => w'.cell? ⟨p, 0, none⟩ = some (.int .i64 n)) (first | assumption | go_keep | exact (Upd.cell (by assumption) (by assumption) (by simp))) (first | (go_at_call 40; refine huse.out.mono ?_; rintro e w' ⟨rfl, hu⟩))
    clear hw
    go_wp2
    go_ret2
    exact ⟨rfl, ((Upd.refl [] w).drew).then hu⟩
theorem info_obj : (Try.prog.info? 61).map (fun i => (i.zero, i.size, i.bytes)) = some (some (.agg #[.int .i64 0, .int .i64 0, .slice none 0 0]), 3, 40) := by kernel_rfl
theorem own_lit (base : Nat) (e : TypeId) (size : Nat) (W : World) (n : Nat) (hn : n = W.heap.size) (hb : base ≤ n) : (W.alloc (.cells #[] e)).ownsRow base e size (.slice (some ⟨n, 0, none⟩) 0 0) 0 [] := by
  subst hn
  exact World.ownsRow_made W #[] 0 hb (by unfold maxLen; omega) (by simp)
theorem heap_new {W : World} {o : Obj} {n : Nat} (hn : n = W.heap.size) : (W.alloc o).heap[n]? = some o := by
  subst hn
  simp [-World.alloc_eq, World.alloc]
theorem heap_old {W : World} {o o' : Obj} {n : Nat} (h : W.heap[n]? = some o') : (W.alloc o).heap[n]? = some o' := by
  have := (Array.getElem?_eq_some_iff.1 h).1
  simp only [World.alloc]
  rw [Array.getElem?_push_lt this]
  simpa [Array.getElem?_eq_some_iff] using (Array.getElem?_eq_some_iff.1 h).2
theorem heap_drew {W : World} {o' : Obj} {n : Nat} (h : W.heap[n]? = some o') : W.drew.heap[n]? = some o' := h
theorem own_at {base n : Nat} {e : TypeId} {size : Nat} {W : World} (h : W.heap[n]? = some (.cells #[] e (0, 0))) (hb : base ≤ n) : W.ownsRow base e size (.slice (some ⟨n, 0, none⟩) 0 0) 0 [] :=
  ⟨by simp, .inr ⟨n, 0, #[], rfl, hb, h, Nat.le_refl _, by unfold maxLen; omega, by simp, by simp⟩⟩
theorem up_grown {w2 Y w3 : World} {row : Option Nat} (h : Upd [] w2 Y) (hg : Y.grownBy w3 row) (hr : ∀ k, row = some k → w2.heap.size ≤ k) : Upd [] w2 w3 :=
  h.trans (Upd.of_grown hg (S := row.toList) (fun k hk => by simp [hk])) (fun x hx hlt => by
    have := hr x (by simpa using hx)
    omega)
theorem blk_grown {Y w3 : World} {row : Option Nat} {b : Nat} {cs : List Value} {t : TypeId} (h : Blk Y b cs t) (hg : Y.grownBy w3 row) (hr : row ≠ some b) : Blk w3 b cs t :=
  h.of_eq (hg.block b h.lt (fun e => hr e.symm))
theorem add0 (b j : Nat) : (⟨b, 0, none⟩ : Addr).add j = ⟨b, j, none⟩ := by unfold Addr.add; split <;> simp_all
theorem news_of {W : World} {b : Nat} {cs rest : List Value} {t : TypeId} (h : Blk W b (cs ++ rest) t) : ∀ j u, cs[j]? = some u → W.cell? ((⟨b, 0, none⟩ : Addr).add j) = some u := by
  intro j u hj
  rw [add0, h.cell, List.getElem?_append_left (List.getElem?_eq_some_iff.1 hj).1, hj]
theorem news_up {w W : World} {b : Nat} {cs : List Value} (h : ∀ j u, cs[j]? = some u → w.cell? ((⟨b, 0, none⟩ : Addr).add j) = some u) (hu : Upd [] w W) : ∀ j u, cs[j]? = some u → W.cell? ((⟨b, 0, none⟩ : Addr).add j) = some u :=
  fun j u hj => hu.cell (h j u hj) (by simp)
theorem objCells_one (L : List HObj) : ∀ (bs : List Nat) (q : Nat), ∀ u ∈ objCells L bs q, u.oneCell' = true := by
  induction L with
  | nil => intro bs q u h; cases h
  | cons a L ih =>
    intro bs q u h
    simp only [objCells, List.mem_cons] at h
    rcases h with rfl | rfl | rfl | h
    · rfl
    · rfl
    · rfl
    · exact ih _ _ u h
theorem three_one (x y : Int) (a : Option Addr) (n c : Nat) : ∀ u ∈ [Value.int .i64 x, .int .i64 y, .slice a n c], u.oneCell' = true := by
  intro u h
  simp only [List.mem_cons, List.not_mem_nil, or_false] at h
  rcases h with rfl | rfl | rfl <;> rfl
theorem up_both {w W : World} {a : Addr} {v : Value} (hu : Upd [] w W) (h : w.cell? a = some v ∧ w.frozen? a = false) : W.cell? a = some v ∧ W.frozen? a = false :=
  ⟨hu.cell h.1 (by simp), (hu.frozen (World.block_lt_of_cell? w a h.1) (by simp)).trans h.2⟩
theorem own_mono {w : World} {b b' : Nat} {e : TypeId} {size : Nat} {v : Value} {n : Nat} {xs : List Value} (h : w.ownsRow b e size v n xs) (hb : b' ≤ b) : w.ownsRow b' e size v n xs :=
  ⟨h.1, h.2.imp id fun ⟨g, cap, cur, h1, h2, h3⟩ => ⟨g, cap, cur, h1, Nat.le_trans hb h2, h3⟩⟩
theorem made_at {W : World} {b m : Nat} {t : TypeId} (hb : b = W.heap.size) : Blk (W.alloc (.cells (madeCells #[.int .u64 0] m) t)) b (List.replicate m (.int .u64 0)) t := by
  have := Blk.newAt (c := madeCells #[.int .u64 0] m) (t := t) hb
  rwa [toList_madeCells_one] at this
theorem objCells_snoc : ∀ (L : List HObj) (bs : List Nat) (q mk : Nat) (o : HObj), bs.length = L.length →
    objCells (L ++ [o]) (bs ++ [mk]) q = objCells L bs q ++ [.int .i64 (((q + HeapM.used L : Nat) : Int) + 1), .int .i64 o.1, .slice (some ⟨mk, 0, none⟩) o.2.length o.2.length]
  | [], [], q, mk, o, _ => by simp [objCells, HeapM.used]
  | a :: L, b :: bs, q, mk, o, h => by
    have := objCells_snoc L bs (q + 1 + a.2.length) mk o (by simpa using h)
    have e : q + 1 + a.2.length + HeapM.used L = q + HeapM.used (a :: L) := by simp [HeapM.used]; omega
    simp only [List.cons_append, objCells, List.headD_cons, List.tail_cons, this, e]
/-- What Alloc has behind its second append. -/
structure AllocMem (w w4 : World) (L : List HObj) (bs : List Nat) (k u m g cap mk : Nat) : Prop where
  own : w4.ownsRow w.heap.size 61 3 (.slice (some ⟨g, 0, none⟩) (L.length + 1) cap) (L.length + 1) (objCells L bs 0 ++ [.int .i64 ((u : Int) + 1), .int .i64 k, .slice (some ⟨mk, 0, none⟩) m m])
  body : Blk w4 mk (List.replicate m (.int .u64 0)) 30
  new : w.heap.size ≤ mk
  upd : Upd [] w w4
/-- What Alloc gives where there is room. -/
def RAllocPost (p n base : Nat) (L : List HObj) (bs : List Nat) (k m : Nat) (w : World) (e : Ending) (w' : World) : Prop :=
  ∃ v' mk, e = .returned (.tuple #[.int .i64 ((HeapM.used L : Int) + 1), .bool true]) ∧ RHeap w' p n base (L ++ [((k : Int), List.replicate m 0)]) v' (bs ++ [mk]) ∧ Upd [p] w w' ∧ w.heap.size ≤ mk ∧ ∀ g, v'.ownBlock = some g → w.heap.size ≤ g
theorem AllocMem.post {w w2 w4 : World} {p n base : Nat} {L : List HObj} {v : Value} {bs : List Nat} {k u m g cap mk : Nat} (h2 : RHeap w2 p n base L v bs) (hu2 : Upd [] w w2) (hb : base ≤ w.heap.size) (hu : u = HeapM.used L) (M : AllocMem w2 w4 L bs k u m g cap mk) (hf : fits L n k m) :
    RAllocPost p n base L bs k m w (.returned (.tuple #[.int .i64 ((u : Int) + 1), .bool true])) (w4.setCell ⟨p, 1, none⟩ (.slice (some ⟨g, 0, none⟩) (L.length + 1) cap)) := by
  subst hu
  obtain ⟨f1, f2, f3, f4⟩ := hf
  have hs := hu2.size
  have hp4 := M.upd.blk h2.hp (by simp)
  have hup := (M.upd.mono (fun _ h => by cases h) : Upd [p] w2 w4).setCell (p := ⟨p, 1, none⟩) (.slice (some ⟨g, 0, none⟩) (L.length + 1) cap) (.inl (by simp))
  refine ⟨.slice (some ⟨g, 0, none⟩) (L.length + 1) cap, mk, rfl, ⟨?_, ?_, ⟨?_, ?_, ?_⟩, ?_, ?_, h2.low, h2.high, ?_, ?_⟩, ?_, by have := M.new; omega, ?_⟩
  · exact hp4.set 1 _
  · have := own_mono M.own (b' := base) (by omega)
    rw [objCells_snoc L bs 0 mk _ h2.bodies.len]
    simp only [List.length_append, List.length_replicate, List.length_cons, List.length_nil, Nat.zero_add]
    refine own_upd this ((Upd.refl [p] w4).setCell (p := ⟨p, 1, none⟩) _ (.inl (by simp))) (fun x hx => ?_)
    have e : g = x := by simpa [Value.ownBlock] using hx
    subst e
    rcases M.own.2 with ⟨h, _⟩ | ⟨g', cap', cur, h, hge, _⟩
    · cases h
    · cases h
      have := h2.hp.lt
      simp; omega
  · simp [h2.bodies.len]
  · refine List.nodup_append.2 ⟨h2.bodies.nodup, by simp, fun a ha b hb => ?_⟩
    obtain ⟨i, hi, rfl⟩ := List.getElem_of_mem ha
    have hi2 : i < L.length := by rw [← h2.bodies.len]; exact hi
    have := (h2.bodies.blk i _ _ (List.getElem?_eq_getElem hi2) (List.getElem?_eq_getElem hi)).lt
    have := M.new
    simp at hb
    omega
  · intro i o b ho hb
    rcases Nat.lt_or_ge i L.length with hi | hi
    · rw [List.getElem?_append_left hi] at ho
      rw [List.getElem?_append_left (by rw [h2.bodies.len]; exact hi)] at hb
      have B := h2.bodies.blk i o b ho hb
      exact (M.upd.blk B (by simp)).set_other _ (fun e => h2.hp.ne B (by decide) e.symm)
    · have hi2 : i = L.length := by
        have := (List.getElem?_eq_some_iff.1 ho).1
        simp at this
        omega
      subst hi2
      rw [List.getElem?_append_right (Nat.le_refl _)] at ho
      rw [List.getElem?_append_right (by rw [h2.bodies.len]; exact Nat.le_refl _), h2.bodies.len] at hb
      simp at ho hb
      subst hb
      rw [← ho]
      simp only [List.map_replicate]
      have := h2.hp.lt
      have := M.new
      exact M.body.set_other _ (by simp; omega)
  · intro o ho
    simp at ho
    rcases ho with ho | rfl
    · exact h2.kinds o ho
    · exact ⟨f1, f2⟩
  · intro o ho x hx
    simp at ho
    rcases ho with ho | rfl
    · exact h2.words o ho x hx
    · simp at hx
      omega
  · rw [used_append]
    simp [HeapM.used]
    omega
  · intro e
    simp at e
  · exact (hu2.mono (fun _ h => by cases h) : Upd [p] w w2).then hup
  · intro x hx
    have e : g = x := by simpa [Value.ownBlock] using hx
    subst e
    rcases M.own.2 with ⟨h, _⟩ | ⟨g', cap', cur, h, hge, _⟩
    · cases h
    · cases h
      omega
end Go.Proofs.Ytkbnkpllbgofhaa
