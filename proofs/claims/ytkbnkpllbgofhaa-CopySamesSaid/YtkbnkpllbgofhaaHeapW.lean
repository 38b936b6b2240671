/-
  Package heap: what its calls do, said of the blocks of a heap.
-/
import Derived.Test.YtkbnkpllbgofhaaRows
import Derived.Test.YtkbnkpllbgofhaaBase
import Derived.Test.YtkbnkpllbgofhaaHeapM
import Derived.Lib.SliceRun
namespace Go.Proofs.Ytkbnkpllbgofhaa
open Go.RowKit

/-- The heap at block p: its words in block bw, its kinds in block bk, n of each. -/
structure HeapC (w : World) (p bw bk n : Nat) (ws ks : List Int) (used : Nat) : Prop where
  hp : Blk w p [.slice (some ⟨bw, 0, none⟩) n n, .slice (some ⟨bk, 0, none⟩) n n, .int .i64 used] 72
  hw : Blk w bw (ws.map (.int .u64)) 31
  hk : Blk w bk (ks.map (.int .u8)) 5
  lw : ws.length = n
  lk : ks.length = n
  hn : n ≤ 65536
  hu : used ≤ n
/-- A heap that no call made. -/
def NoHeap (w : World) (v : Value) : Prop := v = .pointer none ∨ ∃ p, v = .pointer (some ⟨p, 0, none⟩) ∧ w.cell? ⟨p, 0, none⟩ = some (.slice none 0 0)
abbrev hptr (p : Nat) : Value := .pointer (some ⟨p, 0, none⟩)

section
variable {w : World} {p bw bk n used : Nat} {ws ks : List Int}
theorem HeapC.c0 (h : HeapC w p bw bk n ws ks used) : w.cell? ⟨p, 0, none⟩ = some (.slice (some ⟨bw, 0, none⟩) n n) := h.hp.cell_some rfl
theorem HeapC.c1 (h : HeapC w p bw bk n ws ks used) : w.cell? ⟨p, 1, none⟩ = some (.slice (some ⟨bk, 0, none⟩) n n) := h.hp.cell_some rfl
theorem HeapC.c2 (h : HeapC w p bw bk n ws ks used) : w.cell? ⟨p, 2, none⟩ = some (.int .i64 used) := h.hp.cell_some rfl
theorem HeapC.cw (h : HeapC w p bw bk n ws ks used) (i : Nat) (hi : i < n) : w.cell? ⟨bw, i, none⟩ = some (.int .u64 (ws.getD i 0)) :=
  h.hw.cell_some (by rw [map_int_get, List.getD_eq_getElem?_getD, List.getElem?_eq_getElem (by have := h.lw; omega)]; rfl)
theorem HeapC.ck (h : HeapC w p bw bk n ws ks used) (i : Nat) (hi : i < n) : w.cell? ⟨bk, i, none⟩ = some (.int .u8 (ks.getD i 0)) :=
  h.hk.cell_some (by rw [map_int_get, List.getD_eq_getElem?_getD, List.getElem?_eq_getElem (by have := h.lk; omega)]; rfl)
end

/-! ### made, Words, Used -/
set_option maxHeartbeats 400000 in
theorem made_no (v : Value) (w : World) (h : NoHeap w v) : Calls Try.prog 72 #[v] w fun e w' => e = .returned (.bool false) ∧ w = w' := by
  rcases h with rfl | ⟨p, rfl, hc⟩
  all_goals
    go_enter Try.func72, Try.ntmps72
    go_wp2
    go_ret
    exact ⟨rfl, rfl⟩
set_option maxHeartbeats 400000 in
theorem made_yes {w : World} {p bw bk n used : Nat} {ws ks : List Int} (h : HeapC w p bw bk n ws ks used) :
    Calls Try.prog 72 #[hptr p] w fun e w' => e = .returned (.bool true) ∧ w = w' := by
  have c0 := h.c0
  clear h
  unfold hptr
  go_enter Try.func72, Try.ntmps72
  go_wp2
  go_ret
  exact ⟨rfl, rfl⟩
set_option maxHeartbeats 400000 in
theorem words_no (v : Value) (w : World) (h : NoHeap w v) : Calls Try.prog 41 #[v] w fun e w' => e = .returned (.int .i64 0) ∧ w = w' := by
  go_enter Try.func41, Try.ntmps41
  go_wp2_with (go_at_call 72; refine (made_no _ _ h).mono ?_; rintro e w' ⟨rfl, rfl⟩)
  go_ret
  exact ⟨rfl, rfl⟩
set_option maxHeartbeats 400000 in
theorem words_yes {w : World} {p bw bk n used : Nat} {ws ks : List Int} (h : HeapC w p bw bk n ws ks used) :
    Calls Try.prog 41 #[hptr p] w fun e w' => e = .returned (.int .i64 n) ∧ w = w' := by
  have c0 := h.c0
  have hm := made_yes h
  clear h
  unfold hptr at *
  go_enter Try.func41, Try.ntmps41
  go_wp2_with (go_at_call 72; refine hm.mono ?_; rintro e w' ⟨rfl, rfl⟩)
  go_ret
  exact ⟨rfl, rfl⟩
set_option maxHeartbeats 400000 in
theorem used_no (v : Value) (w : World) (h : NoHeap w v) : Calls Try.prog 17 #[v] w fun e w' => e = .returned (.int .i64 0) ∧ w = w' := by
  go_enter Try.func17, Try.ntmps17
  go_wp2_with (go_at_call 72; refine (made_no _ _ h).mono ?_; rintro e w' ⟨rfl, rfl⟩)
  go_ret
  exact ⟨rfl, rfl⟩
set_option maxHeartbeats 400000 in
theorem used_yes {w : World} {p bw bk n used : Nat} {ws ks : List Int} (h : HeapC w p bw bk n ws ks used) :
    Calls Try.prog 17 #[hptr p] w fun e w' => e = .returned (.int .i64 used) ∧ w = w' := by
  have c2 := h.c2
  have hm := made_yes h
  clear h
  unfold hptr at *
  go_enter Try.func17, Try.ntmps17
  go_wp2_with (go_at_call 72; refine hm.mono ?_; rintro e w' ⟨rfl, rfl⟩)
  go_ret
  exact ⟨rfl, rfl⟩

/-! ### New -/
set_option maxHeartbeats 400000 in
theorem new_no (n : Int) (w : World) (h : n < 16 ∨ 65536 < n) :
    Calls Try.prog 15 #[.int .i64 n] w fun e w' => e = .returned (.pointer none) ∧ w = w' := by
  rcases h with h | h
  · go_enter Try.func15, Try.ntmps15
    go_wp2
    go_ret
    exact ⟨rfl, rfl⟩
  · have : ¬ n < 16 := by omega
    go_enter Try.func15, Try.ntmps15
    go_wp2
    go_ret
    exact ⟨rfl, rfl⟩
/-- A new heap: in three new blocks. -/
def NewPost (n : Nat) (w : World) (e : Ending) (w' : World) : Prop :=
  ∃ p bw bk, e = .returned (hptr p) ∧ HeapC w' p bw bk n (List.replicate n 0) (List.replicate n 0) 0 ∧ w.heap.size ≤ p ∧ w.heap.size ≤ bw ∧ w.heap.size ≤ bk ∧ Upd [] w w'
theorem new_post {n : Nat} {w w' : World} {p bw bk : Nat} (h2 : n ≤ 65536) (hp : Blk w' p [.slice (some ⟨bw, 0, none⟩) n n, .slice (some ⟨bk, 0, none⟩) n n, .int .i64 0] 72)
    (hw : Blk w' bw (madeCells #[.int .u64 0] n).toList 31) (hk : Blk w' bk (madeCells #[.int .u8 0] n).toList 5)
    (p0 : w.heap.size ≤ p) (w0 : w.heap.size ≤ bw) (k0 : w.heap.size ≤ bk) (hu : Upd [] w w') : NewPost n w (.returned (hptr p)) w' := by
  rw [toList_madeCells_one] at hw hk
  exact ⟨p, bw, bk, rfl, ⟨hp, by simpa using hw, by simpa using hk, by simp, by simp, h2, by omega⟩, p0, w0, k0, hu⟩
set_option maxHeartbeats 1000000 in
theorem new_yes (n : Nat) (w : World) (h1 : 16 ≤ n) (h2 : n ≤ 65536) : Calls Try.prog 15 #[.int .i64 n] w (NewPost n w) := by
  have h3 : ¬ (n : Int) < 16 := by omega
  have h4 : ¬ 65536 < (n : Int) := by omega
  have hm1 := run_make_row' (P := Try.prog) 37 31 (.int .u64 0) 8 Try.underlying37 (by kernel_rfl) rfl .i64 .i64 n (by omega) (by omega)
  have hm2 := run_make_row' (P := Try.prog) 70 5 (.int .u8 0) 1 Try.underlying70 (by kernel_rfl) rfl .i64 .i64 n (by omega) (by omega)
  go_enter Try.func15, Try.ntmps15
  go_wp2
  go_region
  all_goals go_wp2
  all_goals go_ret
  all_goals
    refine new_post (p := w.heap.size + 1 + 1) h2 (Blk.newAt (by simp)).drew ?_ ?_ (by omega) ?_ ?_ ((((Upd.refl [] w).alloc _).alloc _).alloc _).drew
  · exact (((Blk.newAt rfl).alloc _).alloc _).drew
  · exact ((Blk.newAt (by simp)).alloc _).drew
  · omega
  · omega
  · exact ((Blk.newAt (by simp)).alloc _).drew
  · exact (((Blk.newAt rfl).alloc _).alloc _).drew
  · omega
  · omega

/-! ### body -/
set_option maxHeartbeats 400000 in
theorem body_no0 (v : Value) (r : Int) (w : World) (h : NoHeap w v) : Calls Try.prog 74 #[v, .int .i64 r] w fun e w' => e = .returned (.tuple #[.slice none 0 0, .bool false]) ∧ w = w' := by
  go_enter Try.func74, Try.ntmps74
  go_wp2_with (go_at_call 72; refine (made_no _ _ h).mono ?_; rintro e w' ⟨rfl, rfl⟩)
  go_ret2
  exact ⟨rfl, rfl⟩
/-- No object begins at r. -/
def NoObj (ks : List Int) (used : Nat) (r : Int) : Prop := r < 1 ∨ (used : Int) < r ∨ (1 ≤ r ∧ r ≤ used ∧ ks.getD (r - 1).toNat 0 = 0)
set_option maxHeartbeats 400000 in
theorem body_no {w : World} {p bw bk n used : Nat} {ws ks : List Int} (h : HeapC w p bw bk n ws ks used) (r : Int) (hr : NoObj ks used r) :
    Calls Try.prog 74 #[hptr p, .int .i64 r] w fun e w' => e = .returned (.tuple #[.slice none 0 0, .bool false]) ∧ w = w' := by
  have hm := made_yes h
  have c1 := h.c1
  have c2 := h.c2
  have hu := h.hu
  have hn := h.hn
  unfold hptr at *
  rcases hr with hr | hr | ⟨hr0, hr1, hr2⟩
  · clear h
    go_enter Try.func74, Try.ntmps74
    go_wp2_with (go_at_call 72; refine hm.mono ?_; rintro e w' ⟨rfl, rfl⟩)
    go_ret2
    exact ⟨rfl, rfl⟩
  · clear h
    have : ¬ r < 1 := by omega
    go_enter Try.func74, Try.ntmps74
    go_wp2_with (go_at_call 72; refine hm.mono ?_; rintro e w' ⟨rfl, rfl⟩)
    go_ret2
    exact ⟨rfl, rfl⟩
  · obtain ⟨q, rfl⟩ : ∃ q : Nat, r = (q : Int) + 1 := ⟨(r - 1).toNat, by omega⟩
    have ck := h.ck q (by omega)
    have e1 : ((q : Int) + 1 - 1).toNat = q := by omega
    rw [e1] at hr2
    rw [hr2] at ck
    clear h hr2 e1
    have : ¬ (q : Int) + 1 < 1 := by omega
    have : ¬ (used : Int) < (q : Int) + 1 := by omega
    go_enter Try.func74, Try.ntmps74
    go_wp2_with (go_at_call 72; refine hm.mono ?_; rintro e w' ⟨rfl, rfl⟩)
    go_ret2
    exact ⟨rfl, rfl⟩
/-- The words of an object of so many, from word r of block bw on. -/
def IsBody (bw r len : Nat) (v : Value) : Prop := ∃ a, v = .slice (some a) len len ∧ (0 < len → a = ⟨bw, r, none⟩)
set_option maxHeartbeats 400000 in
theorem body_yes {w : World} {p bw bk n used : Nat} {ws ks : List Int} (h : HeapC w p bw bk n ws ks used) (q len : Nat) (hr : q < used) (hk : ks.getD q 0 ≠ 0) (hl : ws.getD q 0 = (len : Int)) (hlen : q + 1 + len ≤ n) :
    Calls Try.prog 74 #[hptr p, .int .i64 ((q : Int) + 1)] w fun e w' => (∃ v, e = .returned (.tuple #[v, .bool true]) ∧ IsBody bw (q + 1) len v) ∧ w = w' := by
  have hm := made_yes h
  have c0 := h.c0
  have c1 := h.c1
  have c2 := h.c2
  have hu := h.hu
  have hn := h.hn
  have ck := h.ck q (by omega)
  have cw := h.cw q (by omega)
  have hk' : (ks.getD q 0 == 0) = false := by simpa using hk
  rw [hl] at cw
  generalize ks.getD q 0 = k at *
  unfold hptr at *
  clear h hl hk
  have : ¬ (q : Int) + 1 < 1 := by omega
  have : ¬ (used : Int) < (q : Int) + 1 := by omega
  go_enter Try.func74, Try.ntmps74
  go_wp2_with (go_at_call 72; refine hm.mono ?_; rintro e w' ⟨rfl, rfl⟩)
  all_goals go_ret2
  · obtain rfl : len = 0 := by omega
    exact ⟨⟨_, rfl, _, rfl, fun h => absurd h (by omega)⟩, rfl⟩
  · exact ⟨⟨_, rfl, _, rfl, fun _ => rfl⟩, rfl⟩

/-! ### A heap by its objects -/
open HeapM
structure HeapA (w : World) (p bw bk n : Nat) (L : List HObj) : Prop where
  kinds : Kinds L
  words : Words L
  low : 16 ≤ n
  mem : ∃ ws, HeapC w p bw bk n ws (kindsOf L ++ List.replicate (n - HeapM.used L) 0) (HeapM.used L) ∧ ws.take (HeapM.used L) = wordsOf L

section
variable {w : World} {p bw bk n : Nat} {L : List HObj}
theorem HeapA.room (h : HeapA w p bw bk n L) : HeapM.used L ≤ n ∧ n ≤ 65536 := by
  obtain ⟨ws, h, _⟩ := h.mem
  exact ⟨h.hu, h.hn⟩
theorem HeapA.upd (h : HeapA w p bw bk n L) {S : List Nat} {w' : World} (hu : Upd S w w') (h1 : p ∉ S) (h2 : bw ∉ S) (h3 : bk ∉ S) : HeapA w' p bw bk n L := by
  obtain ⟨hk, hw, hl, ws, h, e⟩ := h
  exact ⟨hk, hw, hl, ws, ⟨hu.blk h.hp h1, hu.blk h.hw h2, hu.blk h.hk h3, h.lw, h.lk, h.hn, h.hu⟩, e⟩
theorem HeapA.upd0 (h : HeapA w p bw bk n L) {w' : World} (hu : Upd [] w w') : HeapA w' p bw bk n L := h.upd hu (by simp) (by simp) (by simp)
theorem HeapA.drew (h : HeapA w p bw bk n L) : HeapA w.drew p bw bk n L := h.upd0 (Upd.refl [] w).drew
theorem HeapA.lt (h : HeapA w p bw bk n L) : p < w.heap.size ∧ bw < w.heap.size ∧ bk < w.heap.size := by
  obtain ⟨_, _, _, ws, h, e⟩ := h
  exact ⟨h.hp.lt, h.hw.lt, h.hk.lt⟩
theorem HeapA.ne (h : HeapA w p bw bk n L) : p ≠ bw ∧ p ≠ bk ∧ bw ≠ bk := by
  obtain ⟨_, _, _, ws, h, e⟩ := h
  exact ⟨h.hp.ne h.hw (by decide), h.hp.ne h.hk (by decide), h.hw.ne h.hk (by decide)⟩
end
theorem getD_take (l : List Int) (n i : Nat) (h : i < n) : l.getD i 0 = (l.take n).getD i 0 := by
  simp [List.getD_eq_getElem?_getD, h]
theorem getD_app (l m : List Int) (i : Nat) (h : i < l.length) : (l ++ m).getD i 0 = l.getD i 0 := by
  simp [List.getD_eq_getElem?_getD, List.getElem?_append_left h]

/-- The object at a place, r, whatever number that is. -/
def objR (L : List HObj) (r : Int) : Option HObj := if 1 ≤ r then objAt L (r - 1).toNat else none
theorem objR_none {L : List HObj} {r : Int} (n : Nat) (h : objR L r = none) : NoObj (kindsOf L ++ List.replicate n 0) (HeapM.used L) r := by
  unfold objR at h
  split at h
  · by_cases hr : (HeapM.used L : Int) < r
    · exact .inr (.inl hr)
    · exact .inr (.inr ⟨by omega, by omega, by rw [getD_app _ _ _ (by rw [length_kinds]; omega)]; exact at_none h⟩)
  · exact .inl (by omega)
theorem objR_some {L : List HObj} {r : Int} {o : HObj} (h : objR L r = some o) : ∃ q : Nat, r = (q : Int) + 1 ∧ objAt L q = some o := by
  unfold objR at h
  split at h
  · exact ⟨(r - 1).toNat, by omega, h⟩
  · cases h

/-- What body answers. -/
def BodyIs (bw : Nat) (L : List HObj) (r : Int) (e : Ending) : Prop :=
  match objR L r with
  | none => e = .returned (.tuple #[.slice none 0 0, .bool false])
  | some o => ∃ v, e = .returned (.tuple #[v, .bool true]) ∧ IsBody bw r.toNat o.2.length v
theorem body_calls {w : World} {p bw bk n : Nat} {L : List HObj} (h : HeapA w p bw bk n L) (r : Int) :
    Calls Try.prog 74 #[hptr p, .int .i64 r] w fun e w' => BodyIs bw L r e ∧ w = w' := by
  obtain ⟨hk, hw, hl, ws, hm, e⟩ := h
  unfold BodyIs
  cases ho : objR L r with
  | none => exact body_no hm r (objR_none _ ho)
  | some o =>
    obtain ⟨q, rfl, hq⟩ := objR_some ho
    obtain ⟨g1, g2, g3, g4⟩ := at_some hq
    have hu := hm.hu
    refine (body_yes hm q o.2.length (by omega) ?_ ?_ (by omega)).mono ?_
    · rw [getD_app _ _ _ (by rw [length_kinds]; omega), g2]
      have := hk o (at_mem hq)
      omega
    · rw [getD_take _ (HeapM.used L) _ (by omega), e, g3]
    · rintro e w' ⟨⟨v, h1, h2⟩, h3⟩
      exact ⟨⟨v, h1, by rwa [show ((q : Int) + 1).toNat = q + 1 by omega]⟩, h3⟩

/-! ### Get, Set, Kind, Len -/
/-- Word i of the object at r. -/
def getR (L : List HObj) (r i : Int) : Option Int := (objR L r).bind fun o => if 0 ≤ i then o.2[i.toNat]? else none
theorem HeapA.word {w : World} {p bw bk n : Nat} {L : List HObj} (h : HeapA w p bw bk n L) {q : Nat} {o : HObj} (hq : objAt L q = some o) {i : Nat} (hi : i < o.2.length) :
    w.cell? ⟨bw, q + 1 + i, none⟩ = some (.int .u64 (o.2.getD i 0)) := by
  obtain ⟨hk, hw, hl, ws, hm, e⟩ := h
  obtain ⟨g1, g2, g3, g4⟩ := at_some hq
  have hu := hm.hu
  rw [hm.cw _ (by omega), getD_take _ (HeapM.used L) _ (by omega), e, List.getD_eq_getElem?_getD, g4 i hi, List.getD_eq_getElem?_getD]
set_option maxHeartbeats 400000 in
theorem get_calls {w : World} {p bw bk n : Nat} {L : List HObj} (h : HeapA w p bw bk n L) (r i : Int) :
    Calls Try.prog 26 #[hptr p, .int .i64 r, .int .i64 i] w fun e w' => e = .returned (.tuple #[.int .u64 ((getR L r i).getD 0), .bool (getR L r i).isSome]) ∧ w = w' := by
  have hb := body_calls h r
  unfold BodyIs at hb
  unfold getR
  cases ho : objR L r with
  | none =>
    simp only [ho] at hb
    clear h ho
    by_cases hi : i < 0
    all_goals
      go_enter Try.func26, Try.ntmps26
      go_wp2_with (go_at_call 74; refine hb.mono ?_; rintro e w' ⟨rfl, rfl⟩)
      go_ret2
      exact ⟨rfl, rfl⟩
  | some o =>
    simp only [ho] at hb
    obtain ⟨q, rfl, hq⟩ := objR_some ho
    simp only [Option.bind_some]
    by_cases h0 : i < 0
    · rw [if_neg (by omega)]
      clear ho h
      go_enter Try.func26, Try.ntmps26
      go_wp2_with (go_at_call 74; refine hb.mono ?_; rintro e w' ⟨⟨v, rfl, a, rfl, ha⟩, rfl⟩)
      go_ret2
      exact ⟨rfl, rfl⟩
    · obtain ⟨i, rfl⟩ := Int.eq_ofNat_of_zero_le (show 0 ≤ i by omega)
      rw [if_pos (by omega), Int.toNat_natCast]
      by_cases hi : i < o.2.length
      · have hc := h.word hq hi
        have e1 : o.2[i]? = some (o.2.getD i 0) := by simp [List.getD_eq_getElem?_getD, hi]
        have hm : o.2.length ≤ 65536 := by
          have := (at_some hq).1
          have := h.room
          omega
        rw [e1]
        generalize o.2.getD i 0 = x at *
        generalize o.2.length = len at *
        clear ho h e1 hq
        go_enter Try.func26, Try.ntmps26
        go_wp2_with (go_at_call 74; refine hb.mono ?_; rintro e w' ⟨⟨v, rfl, a, rfl, ha⟩, rfl⟩; obtain rfl := ha (by omega))
        go_ret2
        exact ⟨rfl, rfl⟩
      · have e1 : o.2[i]? = none := by simp; omega
        rw [e1]
        clear ho h e1
        go_enter Try.func26, Try.ntmps26
        go_wp2_with (go_at_call 74; refine hb.mono ?_; rintro e w' ⟨⟨v, rfl, a, rfl, ha⟩, rfl⟩)
        go_ret2
        exact ⟨rfl, rfl⟩

theorem get_no (v : Value) (r i : Int) (w : World) (h : NoHeap w v) : Calls Try.prog 26 #[v, .int .i64 r, .int .i64 i] w fun e w' => e = .returned (.tuple #[.int .u64 0, .bool false]) ∧ w = w' := by
  by_cases hi : i < 0
  all_goals
    go_enter Try.func26, Try.ntmps26
    go_wp2_with (go_at_call 74; refine (body_no0 _ _ _ h).mono ?_; rintro e w' ⟨rfl, rfl⟩)
    go_ret2
    exact ⟨rfl, rfl⟩
theorem set_no (v : Value) (r i x : Int) (w : World) (h : NoHeap w v) : Calls Try.prog 27 #[v, .int .i64 r, .int .i64 i, .int .u64 x] w fun e w' => e = .returned (.bool false) ∧ w = w' := by
  by_cases hi : i < 0
  all_goals
    go_enter Try.func27, Try.ntmps27
    go_wp2_with (go_at_call 74; refine (body_no0 _ _ _ h).mono ?_; rintro e w' ⟨rfl, rfl⟩)
    go_ret
    exact ⟨rfl, rfl⟩
theorem kind_no (v : Value) (r : Int) (w : World) (h : NoHeap w v) : Calls Try.prog 25 #[v, .int .i64 r] w fun e w' => e = .returned (.int .i64 0) ∧ w = w' := by
  go_enter Try.func25, Try.ntmps25
  go_wp2_with (go_at_call 74; refine (body_no0 _ _ _ h).mono ?_; rintro e w' ⟨rfl, rfl⟩)
  go_ret
  exact ⟨rfl, rfl⟩
theorem len_no (v : Value) (r : Int) (w : World) (h : NoHeap w v) : Calls Try.prog 24 #[v, .int .i64 r] w fun e w' => e = .returned (.int .i64 0) ∧ w = w' := by
  go_enter Try.func24, Try.ntmps24
  go_wp2_with (go_at_call 74; refine (body_no0 _ _ _ h).mono ?_; rintro e w' ⟨rfl, rfl⟩)
  go_ret
  exact ⟨rfl, rfl⟩

def kindR (L : List HObj) (r : Int) : Int := ((objR L r).map (·.1)).getD 0
def lenR (L : List HObj) (r : Int) : Nat := ((objR L r).map (·.2.length)).getD 0
set_option maxHeartbeats 400000 in
theorem len_calls {w : World} {p bw bk n : Nat} {L : List HObj} (h : HeapA w p bw bk n L) (r : Int) :
    Calls Try.prog 24 #[hptr p, .int .i64 r] w fun e w' => e = .returned (.int .i64 (lenR L r)) ∧ w = w' := by
  have hb := body_calls h r
  unfold BodyIs at hb
  unfold lenR
  cases ho : objR L r with
  | none =>
    simp only [ho] at hb
    clear h ho
    go_enter Try.func24, Try.ntmps24
    go_wp2_with (go_at_call 74; refine hb.mono ?_; rintro e w' ⟨rfl, rfl⟩)
    go_ret
    exact ⟨rfl, rfl⟩
  | some o =>
    simp only [ho] at hb
    clear h ho
    go_enter Try.func24, Try.ntmps24
    go_wp2_with (go_at_call 74; refine hb.mono ?_; rintro e w' ⟨⟨v, rfl, a, rfl, ha⟩, rfl⟩)
    go_ret
    exact ⟨rfl, rfl⟩
theorem HeapA.kindAt {w : World} {p bw bk n : Nat} {L : List HObj} (h : HeapA w p bw bk n L) {q : Nat} {o : HObj} (hq : objAt L q = some o) :
    w.cell? ⟨bk, q, none⟩ = some (.int .u8 o.1) ∧ w.cell? ⟨p, 1, none⟩ = some (.slice (some ⟨bk, 0, none⟩) n n) ∧ q < n := by
  obtain ⟨hk, hw, hl, ws, hm, e⟩ := h
  obtain ⟨g1, g2, g3, g4⟩ := at_some hq
  have hu := hm.hu
  refine ⟨?_, hm.c1, by omega⟩
  rw [hm.ck _ (by omega), getD_app _ _ _ (by rw [length_kinds]; omega), g2]
set_option maxHeartbeats 400000 in
theorem kind_calls {w : World} {p bw bk n : Nat} {L : List HObj} (h : HeapA w p bw bk n L) (r : Int) :
    Calls Try.prog 25 #[hptr p, .int .i64 r] w fun e w' => e = .returned (.int .i64 (kindR L r)) ∧ w = w' := by
  have hb := body_calls h r
  unfold BodyIs at hb
  unfold kindR
  cases ho : objR L r with
  | none =>
    simp only [ho] at hb
    clear h ho
    go_enter Try.func25, Try.ntmps25
    go_wp2_with (go_at_call 74; refine hb.mono ?_; rintro e w' ⟨rfl, rfl⟩)
    go_ret
    exact ⟨rfl, rfl⟩
  | some o =>
    simp only [ho] at hb
    obtain ⟨q, rfl, hq⟩ := objR_some ho
    obtain ⟨hc, c1, hqn⟩ := h.kindAt hq
    obtain ⟨k1, k2⟩ := h.kinds o (at_mem hq)
    have hr := h.room
    simp only [Option.map_some, Option.getD_some]
    generalize o.1 = k at *
    unfold hptr at *
    clear h ho
    go_enter Try.func25, Try.ntmps25
    go_wp2_with (go_at_call 74; refine hb.mono ?_; rintro e w' ⟨⟨v, rfl, a, rfl, ha⟩, rfl⟩)
    go_ret
    exact ⟨rfl, rfl⟩
/-- The objects behind Set. -/
def setR (L : List HObj) (r i x : Int) : List HObj := if (getR L r i).isSome then setAt L (r - 1).toNat i.toNat x else L
theorem getR_some {L : List HObj} {r i y : Int} (h : getR L r i = some y) : ∃ (q j : Nat) (o : HObj), r = (q : Int) + 1 ∧ i = (j : Int) ∧ objAt L q = some o ∧ j < o.2.length ∧ o.2[j]? = some y := by
  unfold getR at h
  cases ho : objR L r with
  | none => simp [ho] at h
  | some o =>
    obtain ⟨q, e, hq⟩ := objR_some ho
    simp only [ho, Option.bind_some] at h
    split at h
    · exact ⟨q, i.toNat, o, e, by omega, hq, (List.getElem?_eq_some_iff.1 h).1, h⟩
    · cases h
theorem HeapA.set {w : World} {p bw bk n : Nat} {L : List HObj} (h : HeapA w p bw bk n L) {q j : Nat} {o : HObj} (hq : objAt L q = some o) (hj : j < o.2.length) {x : Int} (hx : 0 ≤ x ∧ x < 18446744073709551616) :
    HeapA (w.setCell ⟨bw, q + 1 + j, none⟩ (.int .u64 x)) p bw bk n (setAt L q j x) := by
  have hne := h.ne
  obtain ⟨hk, hw, hl, ws, hm, e⟩ := h
  have g1 := (at_some hq).1
  have hu := hm.hu
  refine ⟨hk.set _ _ _, hw.set _ _ hx, hl, ws.set (q + 1 + j) x, ?_, ?_⟩
  · rw [set_kinds, set_used]
    exact ⟨hm.hp.set_other _ hne.1, by rw [← map_int_set]; exact hm.hw.set _ _, hm.hk.set_other _ (Ne.symm hne.2.2), by simpa using hm.lw, hm.lk, hm.hn, hm.hu⟩
  · rw [set_used, set_words j x hq hj, ← e, List.take_set]
set_option maxHeartbeats 400000 in
theorem set_calls {w : World} {p bw bk n : Nat} {L : List HObj} (h : HeapA w p bw bk n L) (r i x : Int) (hx : 0 ≤ x ∧ x < 18446744073709551616) :
    Calls Try.prog 27 #[hptr p, .int .i64 r, .int .i64 i, .int .u64 x] w fun e w' => e = .returned (.bool (getR L r i).isSome) ∧ HeapA w' p bw bk n (setR L r i x) ∧ Upd [bw] w w' := by
  have hb := body_calls h r
  unfold BodyIs at hb
  unfold setR
  cases hg : getR L r i with
  | none =>
    have hA : HeapA w p bw bk n (if (none : Option Int).isSome then setAt L (r - 1).toNat i.toNat x else L) := h
    have hU := Upd.refl [bw] w
    generalize (if (none : Option Int).isSome then setAt L (r - 1).toNat i.toNat x else L) = L' at *
    unfold getR at hg
    cases ho : objR L r with
    | none =>
      simp only [ho] at hb
      clear h ho hg
      have HA := Lib.hid hA; clear hA
      have HU := Lib.hid hU; clear hU
      by_cases hi : i < 0
      all_goals
        go_enter Try.func27, Try.ntmps27
        go_wp2_with (go_at_call 74; refine hb.mono ?_; rintro e w' ⟨rfl, rfl⟩)
        go_ret
        exact ⟨rfl, HA.out, HU.out⟩
    | some o =>
      simp only [ho] at hb
      simp only [ho, Option.bind_some] at hg
      have hlen : i < 0 ∨ (0 ≤ i ∧ (o.2.length : Int) ≤ i) := by
        split at hg
        · have := List.getElem?_eq_none_iff.1 hg
          omega
        · omega
      clear h ho hg
      have HA := Lib.hid hA; clear hA
      have HU := Lib.hid hU; clear hU
      generalize o.2.length = len at *
      rcases hlen with hi | ⟨hi0, hi⟩
      · go_enter Try.func27, Try.ntmps27
        go_wp2_with (go_at_call 74; refine hb.mono ?_; rintro e w' ⟨⟨v, rfl, a, rfl, ha⟩, rfl⟩)
        go_ret
        exact ⟨rfl, HA.out, HU.out⟩
      · have : ¬ i < 0 := by omega
        go_enter Try.func27, Try.ntmps27
        go_wp2_with (go_at_call 74; refine hb.mono ?_; rintro e w' ⟨⟨v, rfl, a, rfl, ha⟩, rfl⟩)
        go_ret
        exact ⟨rfl, HA.out, HU.out⟩
  | some y =>
    obtain ⟨q, j, o, rfl, rfl, hq, hj, hy⟩ := getR_some hg
    have ho : objR L ((q : Int) + 1) = some o := by
      unfold objR
      rw [if_pos (by omega), show ((q : Int) + 1 - 1).toNat = q by omega, hq]
    simp only [ho, show ((q : Int) + 1).toNat = q + 1 by omega] at hb
    have hA := h.set hq hj hx
    have hU := (Upd.refl [bw] w).setCell (p := ⟨bw, q + 1 + j, none⟩) (.int .u64 x) (.inl (by simp))
    have hc := h.word hq hj
    have hf : w.frozen? ⟨bw, q + 1 + j, none⟩ = false := by
      obtain ⟨_, _, _, ws, hm, _⟩ := h
      exact hm.hw.free _
    have hm : o.2.length ≤ 65536 := by
      have := (at_some hq).1
      have := h.room
      omega
    simp only [Option.isSome_some, if_true, show ((q : Int) + 1 - 1).toNat = q by omega, Int.toNat_natCast]
    generalize setAt L q j x = L' at *
    have HA := Lib.hid hA; clear hA
    have HU := Lib.hid hU; clear hU
    generalize o.2.getD j 0 = y' at *
    generalize o.2.length = len at *
    clear ho h hq hy hg
    go_enter Try.func27, Try.ntmps27
    go_wp2_with (go_at_call 74; refine hb.mono ?_; rintro e w' ⟨⟨v, rfl, a, rfl, ha⟩, rfl⟩; obtain rfl := ha (by omega))
    go_ret
    exact ⟨rfl, HA.out, HU.out⟩


/-! ### Alloc -/
theorem alloc_no (v : Value) (k n : Int) (w : World) (h : NoHeap w v) : Calls Try.prog 16 #[v, .int .i64 k, .int .i64 n] w fun e w' => e = .returned (.tuple #[.int .i64 0, .bool false]) ∧ ∃ m, w' = w.drewN m := by
  go_enter Try.func16, Try.ntmps16
  go_wp2_with fail
  go_quiet ((go_at_call 72; exact Calls.quiet_of_same ((made_no _ _ (by first | exact h | (rcases h with h | ⟨p, h, hc⟩; exact .inl h; exact .inr ⟨p, h, hc⟩))).mono fun _ _ ⟨a, b⟩ => ⟨a, b.symm⟩)))
  go_wp2
  go_ret2
  exact ⟨rfl, _, rfl⟩
theorem quiet_made {w : World} {p bw bk n : Nat} {L : List HObj} (h : HeapA w p bw bk n L) (k : Nat) : Calls Try.prog 72 #[hptr p] (w.drewN k) fun e w' => e = .returned (.bool true) ∧ w' = w.drewN k := by
  obtain ⟨_, _, _, ws, hm, _⟩ := h.upd0 ((Upd.refl [] w).drewN k)
  exact (made_yes hm).mono fun _ _ ⟨a, b⟩ => ⟨a, b.symm⟩
theorem HeapA.cells {w : World} {p bw bk n : Nat} {L : List HObj} (h : HeapA w p bw bk n L) : w.cell? ⟨p, 0, none⟩ = some (.slice (some ⟨bw, 0, none⟩) n n) ∧ w.cell? ⟨p, 1, none⟩ = some (.slice (some ⟨bk, 0, none⟩) n n) ∧ w.cell? ⟨p, 2, none⟩ = some (.int .i64 (HeapM.used L)) := by
  obtain ⟨_, _, _, ws, hm, _⟩ := h
  exact ⟨hm.c0, hm.c1, hm.c2⟩
/-- Is there an object's room? -/
def fits (L : List HObj) (n : Nat) (k m : Int) : Prop := 1 ≤ k ∧ k ≤ 8 ∧ 0 ≤ m ∧ m < (n : Int) - HeapM.used L
set_option maxHeartbeats 1000000 in
theorem alloc_full {w : World} {p bw bk n : Nat} {L : List HObj} (h : HeapA w p bw bk n L) (k m : Int) (hf : ¬ fits L n k m) :
    Calls Try.prog 16 #[hptr p, .int .i64 k, .int .i64 m] w fun e w' => e = .returned (.tuple #[.int .i64 0, .bool false]) ∧ ∃ m, w' = w.drewN m := by
  have hm := quiet_made h
  obtain ⟨c0, c1, c2⟩ := h.cells
  obtain ⟨r1, r2⟩ := h.room
  unfold hptr at *
  clear h
  have hx : decide (k < 1) = true ∨ (decide (k < 1) = false ∧ decide (8 < k) = true) ∨ (decide (k < 1) = false ∧ decide (8 < k) = false ∧ decide (m < 0) = true) ∨ (decide (k < 1) = false ∧ decide (8 < k) = false ∧ decide (m < 0) = false ∧ decide ((n : Int) - (HeapM.used L : Int) ≤ m) = true) := by
    unfold fits at hf
    simp only [decide_eq_true_eq, decide_eq_false_iff_not]
    omega
  clear hf
  generalize HeapM.used L = u at *
  rcases hx with h1 | ⟨h1, h2⟩ | ⟨h1, h2, h3⟩ | ⟨h1, h2, h3, h4⟩
  all_goals
    go_enter Try.func16, Try.ntmps16
    go_wp2_with fail
    go_quiet ((go_at_call 72; exact Calls.quiet_of_same (hm _)))
    go_wp2
    go_ret2
    exact ⟨rfl, _, rfl⟩
theorem zeroWord (w : World) : (zeroValue 31).run Try.prog w = .ok (.int .u64 0) w := by kernel_rfl
theorem alloc_mem {w W1 W2 : World} {p bw bk n u : Nat} {L : List HObj} {k m nq : Nat} (h : HeapA w p bw bk n L) (hu : HeapM.used L = u) (k1 : 1 ≤ (k : Int)) (k2 : (k : Int) ≤ 8) (hfit : u + m + 1 ≤ n)
    (h1 : W1 = (((w.drewN nq).setCell ⟨bk, u, none⟩ (.int .u8 k)).setCell ⟨bw, u, none⟩ (.int .u64 m))) (h2 : W2 = W1.setCells bw (u + 1) (List.replicate m (.int .u64 0))) :
    HeapA (W2.setCell ⟨p, 2, none⟩ (.int .i64 (u + (m + 1)))) p bw bk n (L ++ [((k : Int), List.replicate m 0)]) ∧ W2.cell? ⟨p, 2, none⟩ = some (.int .i64 u) ∧ W2.frozen? ⟨p, 2, none⟩ = false ∧
    Upd [p, bw, bk] w (W2.setCell ⟨p, 2, none⟩ (.int .i64 (u + (m + 1)))) ∧
    ∀ a c, (m = 0 ∨ a = some ⟨bw, u + 1, none⟩) → (Builtin.clear_ #[37] 0 #[.slice a m c]).run Try.prog W1 = .ok (.tuple #[]) W2 := by
  obtain ⟨n1, n2, n3⟩ := h.ne
  obtain ⟨hk, hw, hl, ws, hm, e⟩ := h
  subst hu
  have U1 : Upd [p, bw, bk] w W1 := by
    rw [h1]
    exact (((Upd.refl _ w).drewN nq).setCell _ (.inl (by simp))).setCell _ (.inl (by simp))
  have Bp := ((hm.hp.drewN nq).set_other (a := ⟨bk, HeapM.used L, none⟩) (.int .u8 k) n2).set_other (a := ⟨bw, HeapM.used L, none⟩) (.int .u64 m) n1
  have Bk := (Blk.set (hm.hk.drewN nq) (HeapM.used L) (.int .u8 k)).set_other (a := ⟨bw, HeapM.used L, none⟩) (.int .u64 m) (Ne.symm n3)
  have Bw := Blk.set ((hm.hw.drewN nq).set_other (a := ⟨bk, HeapM.used L, none⟩) (.int .u8 k) n3) (HeapM.used L) (.int .u64 m)
  rw [← h1] at Bp Bk Bw
  have Bp2 := Bp.setCells_other (List.replicate m (.int .u64 0)) (HeapM.used L + 1) n1
  have Bk2 := Bk.setCells_other (List.replicate m (.int .u64 0)) (HeapM.used L + 1) (Ne.symm n3)
  have lw := hm.lw
  have Bw2 := Bw.setCells (List.replicate m (.int .u64 0)) (HeapM.used L + 1) (by simp; omega)
  rw [← h2] at Bp2 Bk2 Bw2
  have U2 : Upd [p, bw, bk] w W2 := by rw [h2]; exact U1.setCells _ _ (.inl (by simp))
  refine ⟨?_, Bp2.cell_some rfl, Bp2.free _, U2.setCell _ (.inl (by simp)), fun a c hac => ?_⟩
  · have eu : HeapM.used (L ++ [((k : Int), List.replicate m 0)]) = HeapM.used L + (m + 1) := by rw [used_append]; simp [HeapM.used]
    refine ⟨?_, ?_, hl, ws.take (HeapM.used L) ++ ((m : Int) :: List.replicate m 0) ++ ws.drop (HeapM.used L + (m + 1)), ⟨?_, ?_, ?_, by simp; omega, by rw [eu]; simp [length_kinds, used_append, HeapM.used]; omega, hm.hn, by omega⟩, ?_⟩
    · intro o ho
      rcases List.mem_append.1 ho with ho | ho
      · exact hk o ho
      · obtain rfl : o = ((k : Int), List.replicate m 0) := by simpa using ho
        exact ⟨k1, k2⟩
    · intro o ho x hx
      rcases List.mem_append.1 ho with ho | ho
      · exact hw o ho x hx
      · obtain rfl : o = ((k : Int), List.replicate m 0) := by simpa using ho
        have := List.eq_of_mem_replicate hx
        omega
    · rw [eu]
      have := Bp2.set 2 (.int .i64 (HeapM.used L + (m + 1)))
      simpa using this
    · have := Bw2.set_other (a := ⟨p, 2, none⟩) (.int .i64 (HeapM.used L + (m + 1))) (Ne.symm n1)
      rw [set_over _ _ _ _ (by simp; omega)] at this
      simpa [over, List.map_take, List.map_drop] using this
    · have := Bk2.set_other (a := ⟨p, 2, none⟩) (.int .i64 (HeapM.used L + (m + 1))) (Ne.symm n2)
      rw [eu, kinds_append]
      rw [map_int_set, List.set_append_right _ _ (by rw [length_kinds]; omega), length_kinds, Nat.sub_self, show n - HeapM.used L = (m + (n - (HeapM.used L + (m + 1)))) + 1 by omega, List.replicate_succ, List.set_cons_zero, replicate_plus] at this
      simpa [kindsOf] using this
    · have l1 : (ws.take (HeapM.used L)).length = HeapM.used L := by rw [List.length_take]; omega
      rw [eu, words_append, ← e, List.append_assoc, List.take_append, l1]
      rw [List.take_of_length_le (by omega), show HeapM.used L + (m + 1) - HeapM.used L = m + 1 by omega, List.take_append_of_le_length (by simp)]
      simp [wordsOf]
  · rcases Nat.eq_zero_or_pos m with rfl | hpos
    · rw [h2]
      exact run_clear_none _ _ _ Try.underlying37 a c W1
    · obtain rfl : a = some ⟨bw, HeapM.used L + 1, none⟩ := by
        rcases hac with h | h
        · omega
        · exact h
      rw [h2]
      exact Lib.run_clear_slice W1 _ _ _ _ Try.underlying37 zeroWord rfl rfl bw _ m c hpos (fun j hj => by rw [Bw.cell]; simp; omega) (fun j hj => Bw.free _)
set_option maxRecDepth 100000 in
set_option maxHeartbeats 1000000 in
theorem alloc_fits {w : World} {p bw bk n : Nat} {L : List HObj} (h : HeapA w p bw bk n L) (k m : Nat) (hf : fits L n k m) :
    Calls Try.prog 16 #[hptr p, .int .i64 k, .int .i64 m] w fun e w' => e = .returned (.tuple #[.int .i64 (HeapM.used L + 1), .bool true]) ∧ HeapA w' p bw bk n (L ++ [((k : Int), List.replicate m 0)]) ∧ Upd [p, bw, bk] w w' := by
  have hm := quiet_made h
  obtain ⟨c0, c1, c2⟩ := h.cells
  obtain ⟨r1, r2⟩ := h.room
  obtain ⟨n1, n2, n3⟩ := h.ne
  have f3 : w.frozen? ⟨p, 2, none⟩ = false := by
    obtain ⟨_, _, _, ws, hm, _⟩ := h
    exact hm.hp.free _
  obtain ⟨g1, g2, g3, g4⟩ := hf
  have fk : w.frozen? ⟨bk, HeapM.used L, none⟩ = false := by
    obtain ⟨_, _, _, ws, hm, _⟩ := h
    exact hm.hk.free _
  have fw : w.frozen? ⟨bw, HeapM.used L, none⟩ = false := by
    obtain ⟨_, _, _, ws, hm, _⟩ := h
    exact hm.hw.free _
  obtain ⟨ck, cw⟩ : (∃ x, w.cell? ⟨bk, HeapM.used L, none⟩ = some (.int .u8 x)) ∧ ∃ x, w.cell? ⟨bw, HeapM.used L, none⟩ = some (.int .u64 x) := by
    obtain ⟨_, _, _, ws, hm, _⟩ := h
    exact ⟨⟨_, hm.ck _ (by omega)⟩, _, hm.cw _ (by omega)⟩
  obtain ⟨xk, ck⟩ := ck
  obtain ⟨xw, cw⟩ := cw
  have H := Lib.hid h; clear h
  unfold hptr at *
  generalize hHu : HeapM.used L = u at *
  have HHu := Lib.hid hHu; clear hHu
  have h1 : decide ((k : Int) < 1) = false := by simp; omega
  have h2 : decide (8 < (k : Int)) = false := by simp; omega
  have h3 : decide ((m : Int) < 0) = false := by simp
  have h4 : decide ((n : Int) - (u : Int) ≤ m) = false := by simp; omega
  go_enter Try.func16, Try.ntmps16
  go_wp2_with fail
  go_quiet ((go_at_call 72; exact Calls.quiet_of_same (hm _)))
  obtain ⟨W1, hW1⟩ : ∃ W1, W1 = (((w.drewN nq).setCell ⟨bk, u, none⟩ (.int .u8 k)).setCell ⟨bw, u, none⟩ (.int .u64 m)) := ⟨_, rfl⟩
  obtain ⟨W2, hW2⟩ : ∃ W2, W2 = W1.setCells bw (u + 1) (List.replicate m (.int .u64 0)) := ⟨_, rfl⟩
  obtain ⟨hA, d2, d3, hU, hcl⟩ := alloc_mem (w := w) (nq := nq) H.out HHu.out g1 g2 (by omega) hW1 hW2
  have hcl1 := fun c => hcl (some ⟨bw, u + 1, none⟩) c (.inr rfl)
  have HA := Lib.hid hA
  have HU := Lib.hid hU
  clear hA hU
  rcases Nat.eq_zero_or_pos m with h0 | h0
  · have hcl2 := hcl (some ⟨bw, 0, none⟩) 0 (.inl h0)
    rw [hW1] at hcl1 hcl2
    clear hcl hW1 hW2 h0
    go_wp2
    all_goals
      go_ret2
      exact ⟨rfl, HA.out, HU.out⟩
  · have hne : ¬ n = u + 1 := by omega
    rw [hW1] at hcl1
    clear hcl hW1 hW2 h0
    go_wp2
    all_goals
      go_ret2
      exact ⟨rfl, HA.out, HU.out⟩

end Go.Proofs.Ytkbnkpllbgofhaa
