/-
  Objects: where a heap's objects begin.
-/
import Derived.Test.YtkbnkpllbgofhaaHeapL
namespace Go.Proofs.Ytkbnkpllbgofhaa
open Go.RowKit HeapM

theorem info_int : (Try.prog.info? 3).map (fun i => (i.zero, i.size, i.bytes)) = some (some (.int .i64 0), 1, 8) := by kernel_rfl
/-- What Objects holds in its rounds: block B0: the heap; block B1: the list so far. -/
structure ObjRel (w wr : World) (B0 B1 p bw bk n : Nat) (L : List HObj) (xs : List Int) : Prop where
  heap : HeapA wr p bw bk n L
  b0 : Blk wr B0 [hptr p] 23
  list : ∃ v, Blk wr B1 [v] 41 ∧ wr.ownsRow (w.heap.size + 2) 3 1 v xs.length (xs.map (.int .i64))
  upd : Upd [] w wr
  e0 : B0 = w.heap.size
  e1 : B1 = w.heap.size + 1
  lt : p < w.heap.size ∧ bw < w.heap.size ∧ bk < w.heap.size

set_option maxHeartbeats 1000000 in
theorem each_no {w : World} {B0 B1 p bk n i : Nat} (b0 : w.cell? ⟨B0, 0, none⟩ = some (hptr p)) (hc1 : w.cell? ⟨p, 1, none⟩ = some (.slice (some ⟨bk, 0, none⟩) n n)) (hi : i < n) (hk : w.cell? ⟨bk, i, none⟩ = some (.int .u8 0)) :
    Calls Try.prog 77 #[.int .i64 i, .pointer (some ⟨B0, 0, none⟩), .pointer (some ⟨B1, 0, none⟩)] w fun e w' => e = .returned (.tuple #[]) ∧ w = w' := by
  go_enter Try.func77, Try.ntmps77
  go_wp2
  go_end0
  exact ⟨rfl, rfl⟩
/-- Behind one more: the list is longer by it. -/
def EachPost (w : World) (B1 base : Nat) (xs : List Int) (i : Nat) (e : Ending) (w' : World) : Prop :=
  e = .returned (.tuple #[]) ∧ ∃ v S, Blk w' B1 [v] 41 ∧ w'.ownsRow base 3 1 v (xs ++ [((i : Int) + 1)]).length ((xs ++ [((i : Int) + 1)]).map (.int .i64)) ∧ Upd (B1 :: S) w w' ∧ ∀ k, k ∈ S → base ≤ k
theorem each_post {w w1 : World} {B1 base : Nat} {S : List Nat} {xs : List Int} {i : Nat} {v v' : Value} (hb1 : Blk w B1 [v] 41) (hB : B1 < base)
    (hown : w1.ownsRow base 3 1 v' (xs.length + 1) (xs.map (.int .i64) ++ [.int .i64 ((i : Int) + 1)])) (hu : Upd S w w1) (hrow : ∀ k, k ∈ S → base ≤ k) :
    EachPost w B1 base xs i (.returned (.tuple #[])) (w1.setCell ⟨B1, 0, none⟩ v') := by
  have h1 : Blk w1 B1 [v] 41 := hu.blk hb1 (fun h => by have := hrow _ h; omega)
  refine ⟨rfl, v', S, by simpa using h1.set 0 v', ?_, (hu.mono (fun x hx _ => List.mem_cons_of_mem _ hx)).setCell v' (.inl (by simp)), hrow⟩
  rw [List.map_append, List.length_append]
  exact ownsRow_setCell_below hown hB v'
set_option maxRecDepth 100000 in
set_option maxHeartbeats 1000000 in
theorem each_yes {w : World} {B0 B1 p bk n i base : Nat} {k : Int} {v : Value} {xs : List Int} (b0 : w.cell? ⟨B0, 0, none⟩ = some (hptr p)) (hc1 : w.cell? ⟨p, 1, none⟩ = some (.slice (some ⟨bk, 0, none⟩) n n)) (hi : i < n) (hn : n ≤ 65536)
    (hk : w.cell? ⟨bk, i, none⟩ = some (.int .u8 k)) (hk1 : 1 ≤ k) (hb1 : Blk w B1 [v] 41) (hB : B1 < base) (hbase : base ≤ w.heap.size)
    (hown : w.ownsRow base 3 1 v xs.length (xs.map (.int .i64))) (hlen : xs.length ≤ 65536) :
    Calls Try.prog 77 #[.int .i64 i, .pointer (some ⟨B0, 0, none⟩), .pointer (some ⟨B1, 0, none⟩)] w (EachPost w B1 base xs i) := by
  have c1 := hb1.cell_some (i := 0) rfl
  have hBs : B1 < w.heap.size := by omega
  have HB := Lib.hid hb1; clear hb1
  go_enter Try.func77, Try.ntmps77
  go_wp2_with (at_builtin; refine wpList_app rfl _ _ 41 rfl base 3 (.int .i64 0) 1 8 Try.underlying41 info_int rfl (by decide) _ _ _ rfl hown [.int .i64 ((i : Int) + 1)] 1 rfl rfl (one1 rfl) (by unfold maxLen; omega) (by omega) hbase ?_; intro g cap w1 S hown' hu hS _; have hrow := fun k hk => (hown.lt k (hS k hk)).1; have hBS : B1 ∉ S := fun h => (by have := hrow _ h; omega); have hc2 : w1.cell? ⟨B1, 0, none⟩ = some v := hu.cell c1 hBS; have hf2 : w1.frozen? ⟨B1, 0, none⟩ = false := by (rw [hu.frozen hBs hBS]; exact HB.out.free 0))
  go_end0
  exact each_post HB.out hB hown' hu hrow

/-! ### Objects -/
theorem ObjRel.step {w wr w' : World} {B0 B1 p bw bk n i : Nat} {S : List Nat} {L : List HObj} {xs : List Int} {v : Value} (h : ObjRel w wr B0 B1 p bw bk n L xs)
    (hb : Blk w' B1 [v] 41) (hown : w'.ownsRow (w.heap.size + 2) 3 1 v (xs ++ [((i : Int) + 1)]).length ((xs ++ [((i : Int) + 1)]).map (.int .i64))) (hu : Upd (B1 :: S) wr w') (hrow : ∀ k, k ∈ S → w.heap.size + 2 ≤ k) :
    ObjRel w w' B0 B1 p bw bk n L (xs ++ [((i : Int) + 1)]) := by
  obtain ⟨h1, h2, h3, h4, h5, h6, h7, h8, h9⟩ := h
  have hn : ∀ x, x < w.heap.size + 1 → x ∉ B1 :: S := by
    intro x hx hm
    rcases List.mem_cons.1 hm with h | h
    · omega
    · have := hrow x h
      omega
  refine ⟨h1.upd hu (hn _ (by omega)) (hn _ (by omega)) (hn _ (by omega)), hu.blk h2 (hn _ (by omega)), ⟨v, hb, hown⟩, h4.fresh hu (fun x hx => ?_), h5, h6, h7, h8, h9⟩
  rcases List.mem_cons.1 hx with h | h
  · omega
  · have := hrow x h
    omega
def ObjPost (L : List HObj) (w : World) (e : Ending) (w' : World) : Prop :=
  ∃ a c, e = .returned (.slice a (objsR L).length c) ∧ SlI w' .i64 a (objsR L) ∧ Upd [] w w'
theorem obj_post {w wr : World} {B0 B1 p bw bk n : Nat} {L : List HObj} (h : ObjRel w wr B0 B1 p bw bk n L (upto (kindsOf L) (HeapM.used L))) {v : Value} (hv : wr.cell? ⟨B1, 0, none⟩ = some v) : ObjPost L w (.returned v) wr := by
  obtain ⟨v', hb, hown⟩ := h.list
  have : v = v' := by
    rw [hb.cell_some (i := 0) rfl] at hv
    exact (Option.some.inj hv).symm
  subst this
  rw [upto_all h.heap.kinds] at hown
  obtain ⟨a, c, rfl, hl, hs⟩ := own_SlI hown
  exact ⟨a, c, rfl, hs, h.upd⟩
theorem HeapA.kindOf {w : World} {p bw bk n : Nat} {L : List HObj} (h : HeapA w p bw bk n L) {i : Nat} (hi : i < HeapM.used L) :
    w.cell? ⟨bk, i, none⟩ = some (.int .u8 ((kindsOf L).getD i 0)) ∧ i < n ∧ 0 ≤ (kindsOf L).getD i 0 := by
  obtain ⟨hk, hw, hl, ws, hm, e⟩ := h
  have hu := hm.hu
  refine ⟨?_, by omega, ?_⟩
  · rw [hm.ck _ (by omega), getD_app _ _ _ (by rw [length_kinds]; omega)]
  · cases ho : objAt L i with
    | none => rw [at_none ho]; omega
    | some o =>
      rw [(at_some ho).2.1]
      have := hk o (at_mem ho)
      omega
set_option maxRecDepth 100000 in
set_option maxHeartbeats 1000000 in
theorem objects_calls {w : World} {p bw bk n : Nat} {L : List HObj} (h : HeapA w p bw bk n L) : Calls Try.prog 43 #[hptr p] w (ObjPost L w) := by
  have hlt := h.lt
  have hroom := h.room
  obtain ⟨W1, hW1⟩ : ∃ W1, W1 = (w.alloc (.cells #[hptr p] 23)).alloc (.cells #[.slice none 0 0] 41) := ⟨_, rfl⟩
  have hr0 : ObjRel w W1 w.heap.size (w.heap.size + 1) p bw bk n L (upto (kindsOf L) 0) := by
    subst hW1
    exact ⟨h.upd0 (((Upd.refl [] w).alloc _).alloc _), (Blk.newAt rfl).alloc _, ⟨_, Blk.newAt (by simp), World.ownsRow_nil _ _ _ _⟩, ((Upd.refl [] w).alloc _).alloc _, rfl, rfl, hlt⟩
  have hm : Calls Try.prog 72 #[hptr p] W1 fun e w' => e = .returned (.bool true) ∧ W1 = w' := by
    obtain ⟨_, _, _, ws, hm, _⟩ := hr0.heap
    exact made_yes hm
  have d0 := hr0.b0.cell_some (i := 0) rfl
  have d2 := hr0.heap.cells.2.2
  have H0 := Lib.hid hr0; clear hr0
  obtain ⟨u, hu⟩ : ∃ u, u = HeapM.used L := ⟨_, rfl⟩
  rw [← hu] at d2 hroom
  have HU := Lib.hid hu; clear hu h
  go_enter Try.func43, Try.ntmps43
  go_wp2_with fail
  rw [← hW1]
  clear hW1
  refine hm.mono ?_
  rintro e w' ⟨rfl, rfl⟩
  clear hm
  go_wp2_with fail
  go_loopw [13] (fun i wr => ∃ j : Nat, j ≤ u ∧ i = .int .i64 j ∧ ObjRel w wr w.heap.size (w.heap.size + 1) p bw bk n L (upto (kindsOf L) j)) (fun i _ => u - (intOf i).toNat)
  case atStart => exact ⟨0, by omega, rfl, H0.out⟩
  case round =>
    obtain ⟨j, hj, rfl, hr⟩ := hrel
    by_cases hlt2 : j < u
    · obtain ⟨k1, k2, k3⟩ := hr.heap.kindOf (i := j) (by rw [← HU.out]; exact hlt2)
      have e0 := hr.b0.cell_some (i := 0) rfl
      have e1 := hr.heap.cells.2.1
      by_cases hk : (kindsOf L).getD j 0 = 0
      · rw [hk] at k1
        have hr' : ObjRel w wr w.heap.size (w.heap.size + 1) p bw bk n L (upto (kindsOf L) (j + 1)) := by rw [upto_step_no hk]; exact hr
        clear hk hr
        go_wp2_with (go_at_call 77; refine (each_no e0 e1 k2 k1).mono ?_; rintro e w' ⟨rfl, rfl⟩)
        go_roundw
        case rel => exact ⟨j + 1, by omega, by go_num, hr'⟩
        case measure => simp [intOf]; omega
      · have hs := upto_step_yes hk
        have hlen := upto_length (kindsOf L) j
        obtain ⟨v, hb, hown⟩ := hr.list
        have hsz := hr.upd.size
        have hsz2 := hb.lt
        have hc := each_yes (i := j) e0 e1 k2 (by omega) k1 (by omega) hb (base := w.heap.size + 2) (by omega) (by omega) hown (by omega)
        have HS := Lib.hid hs
        have HR := Lib.hid hr
        have HC := Lib.hid hc
        clear hs hr hc hown hb hk hsz hsz2 k1 k3 e0 e1
        go_wp2_with fail
        refine HC.out.mono ?_
        rintro e w' ⟨rfl, v', row, hb', hown', hu', hrow⟩
        have hr' : ObjRel w w' w.heap.size (w.heap.size + 1) p bw bk n L (upto (kindsOf L) (j + 1)) := by
          rw [HS.out]
          exact HR.out.step hb' hown' hu' hrow
        clear hb' hown' hu' hrow
        go_wp2
        go_roundw
        case rel => exact ⟨j + 1, by omega, by go_num, hr'⟩
        case measure => simp [intOf]; omega
    · have hju : j = u := by omega
      subst hju
      rw [HU.out] at hr
      obtain ⟨v, hb, hown⟩ := hr.list
      have hc := hb.cell_some (i := 0) rfl
      have HP := Lib.hid (obj_post hr hc)
      clear hr hown hb
      go_wp2
      go_ret
      exact HP.out

theorem NoHeap.upd {w w' : World} {v : Value} {S : List Nat} (h : NoHeap w v) (hu : Upd S w w') (hS : ∀ p, v = .pointer (some ⟨p, 0, none⟩) → p ∉ S) : NoHeap w' v := by
  rcases h with rfl | ⟨p, rfl, hc⟩
  · exact .inl rfl
  · exact .inr ⟨p, rfl, hu.cell hc (hS p rfl)⟩
theorem NoHeap.upd0 {w w' : World} {v : Value} (h : NoHeap w v) (hu : Upd [] w w') : NoHeap w' v := h.upd hu (by simp)
set_option maxHeartbeats 1000000 in
theorem objects_no (v : Value) (w : World) (h : NoHeap w v) : Calls Try.prog 43 #[v] w fun e w' => e = .returned (.slice none 0 0) ∧ Upd [] w w' := by
  have hU : Upd [] w ((w.alloc (.cells #[v] 23)).alloc (.cells #[.slice none 0 0] 41)) := ((Upd.refl [] w).alloc _).alloc _
  have hm := made_no v _ (h.upd0 hU)
  have HU := Lib.hid hU; clear hU
  have hf : v = .pointer none ∨ ∃ p, v = .pointer (some ⟨p, 0, none⟩) := by
    rcases h with h | ⟨p, h, _⟩
    · exact .inl h
    · exact .inr ⟨p, h⟩
  clear h
  rcases hf with rfl | ⟨p, rfl⟩
  all_goals
    go_enter Try.func43, Try.ntmps43
    go_wp2_with fail
    refine hm.mono ?_
    rintro e w' ⟨rfl, rfl⟩
    go_wp2
    go_ret
    exact ⟨rfl, HU.out⟩

end Go.Proofs.Ytkbnkpllbgofhaa
