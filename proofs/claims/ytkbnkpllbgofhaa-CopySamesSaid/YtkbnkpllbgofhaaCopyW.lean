/-
  Copy: to, meet.
-/
import Derived.Test.YtkbnkpllbgofhaaCopyQ
import Derived.Test.YtkbnkpllbgofhaaHeapL2
import Derived.StillTailTactics
import Derived.Deep.RegionHeld3
namespace Go.Proofs.Ytkbnkpllbgofhaa
open Go.RowKit HeapM

/-- A heap, made or not, by its objects. -/
def HV (w : World) (v : Value) (L : List HObj) : Prop := (NoHeap w v ∧ L = []) ∨ ∃ p bw bk n, v = hptr p ∧ HeapA w p bw bk n L
theorem HV.upd0 {w w' : World} {v : Value} {L : List HObj} (h : HV w v L) (hu : Upd [] w w') : HV w' v L := by
  rcases h with ⟨h, e⟩ | ⟨p, bw, bk, n, e, h⟩
  · exact .inl ⟨h.upd0 hu, e⟩
  · exact .inr ⟨p, bw, bk, n, e, h.upd0 hu⟩
theorem objR_nil (r : Int) : objR [] r = none := by
  unfold objR objAt
  split <;> rfl
theorem HV.kind {w : World} {v : Value} {L : List HObj} (h : HV w v L) (r : Int) :
    Calls Try.prog 25 #[v, .int .i64 r] w fun e w' => e = .returned (.int .i64 (kindR L r)) ∧ w = w' := by
  rcases h with ⟨h, rfl⟩ | ⟨p, bw, bk, n, rfl, h⟩
  · have e : kindR [] r = 0 := by unfold kindR; rw [objR_nil]; rfl
    rw [e]
    exact kind_no v r w h
  · exact kind_calls h r
theorem HV.len {w : World} {v : Value} {L : List HObj} (h : HV w v L) (r : Int) :
    Calls Try.prog 24 #[v, .int .i64 r] w fun e w' => e = .returned (.int .i64 (lenR L r)) ∧ w = w' := by
  rcases h with ⟨h, rfl⟩ | ⟨p, bw, bk, n, rfl, h⟩
  · have e : lenR [] r = 0 := by unfold lenR; rw [objR_nil]; rfl
    rw [e]
    exact len_no v r w h
  · exact len_calls h r
theorem HV.get {w : World} {v : Value} {L : List HObj} (h : HV w v L) (r i : Int) :
    Calls Try.prog 26 #[v, .int .i64 r, .int .i64 i] w fun e w' => e = .returned (.tuple #[.int .u64 ((getR L r i).getD 0), .bool (getR L r i).isSome]) ∧ w = w' := by
  rcases h with ⟨h, rfl⟩ | ⟨p, bw, bk, n, rfl, h⟩
  · have e : getR [] r i = none := by unfold getR; rw [objR_nil]; rfl
    rw [e]
    exact get_no v r i w h
  · exact get_calls h r i
theorem HV.small {w : World} {v : Value} {L : List HObj} (h : HV w v L) : HeapM.used L ≤ 65536 := by
  rcases h with ⟨h, rfl⟩ | ⟨p, bw, bk, n, rfl, h⟩
  · simp [HeapM.used]
  · have := h.room; omega
theorem HV.lens {w : World} {v : Value} {L : List HObj} (h : HV w v L) (r : Int) : lenR L r ≤ 65536 := by
  have hs := h.small
  unfold lenR
  cases ho : objR L r with
  | none => simp
  | some o =>
    obtain ⟨q, e, hq⟩ := objR_some ho
    have := (at_some hq).1
    simp
    omega
theorem HV.kinds {w : World} {v : Value} {L : List HObj} (h : HV w v L) : Kinds L := by
  rcases h with ⟨h, rfl⟩ | ⟨p, bw, bk, n, rfl, h⟩
  · exact fun _ h => by cases h
  · exact h.kinds
theorem HV.words {w : World} {v : Value} {L : List HObj} (h : HV w v L) : Words L := by
  rcases h with ⟨h, rfl⟩ | ⟨p, bw, bk, n, rfl, h⟩
  · exact fun _ h => by cases h
  · exact h.words
theorem kindR_le {L : List HObj} (h : Kinds L) (r : Int) : 0 ≤ kindR L r ∧ kindR L r ≤ 8 := by
  unfold kindR
  cases ho : objR L r with
  | none => simp
  | some o =>
    obtain ⟨q, e, hq⟩ := objR_some ho
    have := h o (at_mem hq)
    simp
    omega
theorem lead_le {L : List HObj} (h : HeapM.used L ≤ 65536) (x : Int) (hx : 0 < leadR L x) : leadR L x ≤ 65536 := by
  have := lead_obj hx
  rw [objsR_pos] at this
  simp only [List.mem_map, List.mem_range] at this
  obtain ⟨i, hi, e⟩ := this
  have := posOf_lt (List.getElem?_eq_getElem hi)
  omega
theorem lead_or {L : List HObj} (x : Int) : leadR L x = 0 ∨ 0 < leadR L x := by
  unfold leadR
  split
  · rename_i h
    have h2 := h.2
    unfold kindR objR at h2
    split at h2
    · omega
    · simp at h2
  · exact .inl rfl

/-! ### to -/
set_option maxHeartbeats 400000 in
theorem to_calls {w : World} {v : Value} {L : List HObj} (h : HV w v L) (x : Int) (h0 : 0 ≤ x) (h1 : x ≤ 18446744073709551615) :
    Calls Try.prog 90 #[v, .int .u64 x] w fun e w' => e = .returned (.int .i64 (leadR L x)) ∧ w = w' := by
  have hi := Lib.hid (is_calls x w h0 h1)
  have hk := Lib.hid (h.kind (isNum x))
  unfold leadR
  clear h
  generalize isKind x = k at *
  generalize isNum x = r at *
  generalize kindR L r = kd at *
  by_cases hk1 : k = 1
  · by_cases hk0 : kd = 0
    · rw [if_neg (by omega)]
      have e1 : (k != 1) = false := by rw [bne_eq_false_iff_eq]; exact hk1
      have e2 : (kd == 0) = true := by rw [beq_iff_eq]; exact hk0
      clear hk1 hk0
      go_enter Try.func90, Try.ntmps90
      go_wp2_with fail
      refine hi.out.mono ?_
      rintro e w' ⟨rfl, rfl⟩
      go_wp2_with fail
      refine hk.out.mono ?_
      rintro e w' ⟨rfl, rfl⟩
      go_wp2
      go_ret
      exact ⟨rfl, rfl⟩
    · rw [if_pos ⟨hk1, hk0⟩]
      have e1 : (k != 1) = false := by rw [bne_eq_false_iff_eq]; exact hk1
      have e2 : (kd == 0) = false := by rw [beq_eq_false_iff_ne]; exact hk0
      clear hk1 hk0
      go_enter Try.func90, Try.ntmps90
      go_wp2_with fail
      refine hi.out.mono ?_
      rintro e w' ⟨rfl, rfl⟩
      go_wp2_with fail
      refine hk.out.mono ?_
      rintro e w' ⟨rfl, rfl⟩
      go_wp2
      go_ret
      exact ⟨rfl, rfl⟩
  · rw [if_neg (by omega)]
    have e1 : (k != 1) = true := by rw [bne_iff_ne]; exact hk1
    clear hk1
    go_enter Try.func90, Try.ntmps90
    go_wp2_with fail
    refine hi.out.mono ?_
    rintro e w' ⟨rfl, rfl⟩
    go_wp2
    go_ret
    exact ⟨rfl, rfl⟩

/-! ### meet -/
/-- Objects that were met, in order, with their numbers. -/
structure Que (w0 w : World) (q mb : Nat) (v : Value) (L : List HObj) (l : List Int) : Prop where
  blk : ∃ lv, Blk w q [v, lv, .map (some mb)] 133 ∧ w.ownsRow w0.heap.size 3 1 lv l.length (l.map (.int .i64))
  num : NumMap w mb l
  met : Met L l
  upd : Upd [] w0 w
  hv : HV w0 v L
  fq : w0.heap.size ≤ q
  fm : w0.heap.size ≤ mb

theorem Met.few {L : List HObj} {l : List Int} (h : Met L l) (hs : HeapM.used L ≤ 65536) : l.length ≤ 65535 + 1 := by
  have := h.len
  have e : ∀ L : List HObj, L.length ≤ HeapM.used L := by
    intro L
    induction L with
    | nil => simp
    | cons a L ih => simp only [List.length_cons, HeapM.used]; omega
  have := e L
  omega
theorem numMap_ne {w : World} {mb b : Nat} {l : List Int} {cs : List Value} {t : TypeId} (h : NumMap w mb l) (hb : Blk w b cs t) : b ≠ mb := by
  rintro rfl
  obtain ⟨D, ⟨es, c, h1, _⟩, _⟩ := h
  unfold Blk at hb
  rw [hb] at h1
  cases h1
theorem own_blk {w : World} {base n size k : Nat} {e : TypeId} {v : Value} {xs : List Value} (h : w.ownsRow base e size v n xs) (hk : v.ownBlock = some k) : ∃ cs, Blk w k cs e := by
  rcases h.2 with ⟨rfl, _⟩ | ⟨g, cap, cur, rfl, _, hh, _⟩
  · cases hk
  · have : g = k := by simpa [Value.ownBlock] using hk
    subst this
    exact ⟨cur.toList, by unfold Blk; simpa using hh⟩
/-- Blocks of words stay. -/
def KeepW (w w' : World) : Prop := ∀ b cs, Blk w b cs 31 → Blk w' b cs 31
theorem KeepW.refl (w : World) : KeepW w w := fun _ _ h => h
theorem KeepW.trans {a b c : World} (h : KeepW a b) (k : KeepW b c) : KeepW a c := fun _ _ hb => k _ _ (h _ _ hb)
theorem KeepW.of_upd {a b : World} (h : Upd [] a b) : KeepW a b := fun _ _ hb => h.blk hb (by simp)
theorem Que.grow {w0 w w1 W2 : World} {q mb g cap : Nat} {v lv : Value} {L : List HObj} {l : List Int} {r : Int} {S : List Nat} (h : Que w0 w q mb v L l) (hb : Blk w q [v, lv, .map (some mb)] 133)
    (hown : w.ownsRow w0.heap.size 3 1 lv l.length (l.map (.int .i64)))
    (hown1 : w1.ownsRow w0.heap.size 3 1 (.slice (some ⟨g, 0, none⟩) (l.length + 1) cap) (l.length + 1) (l.map (.int .i64) ++ [.int .i64 r]))
    (hu : Upd S w w1) (hS : ∀ k, k ∈ S → lv.ownBlock = some k) (hW : W2 = w1.setCell ⟨q, 1, none⟩ (.slice (some ⟨g, 0, none⟩) (l.length + 1) cap)) :
    Blk W2 q [v, .slice (some ⟨g, 0, none⟩) (l.length + 1) cap, .map (some mb)] 133 ∧ NumMap W2 mb l ∧
    ∀ W3, NumMap W3 mb (l ++ [r]) → W2.drew.grownBy W3 (some mb) → Met L (l ++ [r]) → Que w0 W3 q mb v L (l ++ [r]) ∧ KeepW w W3 := by
  subst hW
  have hn : ∀ k, k ∈ S → w0.heap.size ≤ k := fun k hk => (hown.lt k (hS k hk)).1
  have hq : q ∉ S := fun hk => by
    obtain ⟨cs, B⟩ := own_blk hown (hS _ hk)
    exact hb.ne B (by decide) rfl
  have hm : mb ∉ S := fun hk => by
    obtain ⟨cs, B⟩ := own_blk hown (hS _ hk)
    exact numMap_ne h.num B rfl
  have hqm : q ≠ mb := numMap_ne h.num hb
  have hb1 := (hu.blk hb hq).set 1 (.slice (some ⟨g, 0, none⟩) (l.length + 1) cap)
  have hB2 : Blk (w1.setCell ⟨q, 1, none⟩ (.slice (some ⟨g, 0, none⟩) (l.length + 1) cap)) q [v, .slice (some ⟨g, 0, none⟩) (l.length + 1) cap, .map (some mb)] 133 := by simpa using hb1
  have hUq : Upd [q] w1 (w1.setCell ⟨q, 1, none⟩ (.slice (some ⟨g, 0, none⟩) (l.length + 1) cap)) := (Upd.refl _ _).setCell _ (.inl (by simp))
  have hnum2 : NumMap (w1.setCell ⟨q, 1, none⟩ (.slice (some ⟨g, 0, none⟩) (l.length + 1) cap)) mb l := by
    have h1 := h.num.kept (hu.block mb h.num.lt hm)
    exact h1.kept (hUq.block mb h1.lt (by simp; omega))
  refine ⟨hB2, hnum2, fun W3 hn3 hg hmet => ?_⟩
  have hU3 : Upd [mb] (w1.setCell ⟨q, 1, none⟩ (.slice (some ⟨g, 0, none⟩) (l.length + 1) cap)) W3 := ((Upd.refl [mb] _).drew).then (Upd.of_grown hg (fun k hk => by simp at hk; simp [hk]))
  have hgb : ∃ cs, Blk w1 g cs 3 := own_blk hown1 rfl
  obtain ⟨cs, hgb⟩ := hgb
  have hgq : g ≠ q := fun e => by subst e; exact (hu.blk hb hq).ne hgb (by decide) rfl
  have hgm : g ≠ mb := numMap_ne (h.num.kept (hu.block mb h.num.lt hm)) hgb
  refine ⟨⟨⟨_, hU3.blk hB2 (by simp; omega), ?_⟩, hn3, hmet, ((h.upd.fresh hu hn).fresh hUq (by simp; exact h.fq)).fresh hU3 (by simp; exact h.fm), h.hv, h.fq, h.fm⟩, ?_⟩
  rotate_left
  · intro b cs B
    have B1 := hu.blk B (fun hk => by
      obtain ⟨cs', B'⟩ := own_blk hown (hS _ hk)
      exact B.ne B' (by decide) rfl)
    have B2 := hUq.blk B1 (fun hk => by
      simp at hk
      subst hk
      exact (hu.blk hb hq).ne B1 (by decide) rfl)
    exact hU3.blk B2 (fun hk => by
      simp at hk
      exact numMap_ne hnum2 B2 hk)
  have e : (l ++ [r]).length = l.length + 1 := by simp
  rw [e, List.map_append]
  exact own_upd (own_upd hown1 hUq (fun x hx => by simp [Value.ownBlock] at hx; simp; omega)) hU3 (fun x hx => by simp [Value.ownBlock] at hx; simp; omega)
set_option maxRecDepth 100000 in
set_option maxHeartbeats 1000000 in
theorem meet_calls {w0 w : World} {q mb : Nat} {v : Value} {L : List HObj} {l : List Int} (h : Que w0 w q mb v L l) (x : Int) (h0 : 0 ≤ x) (h1 : x ≤ 18446744073709551615) :
    Calls Try.prog 108 #[.pointer (some ⟨q, 0, none⟩), .int .u64 x] w fun e w' => e = .returned (.tuple #[]) ∧ Que w0 w' q mb v L (meetR L l x) ∧ KeepW w w' := by
  obtain ⟨lv, hb, hown⟩ := h.blk
  have hto := Lib.hid (to_calls (h.hv.upd0 h.upd) x h0 h1)
  have c0 := hb.cell_some (i := 0) rfl
  have c1 := hb.cell_some (i := 1) rfl
  have c2 := hb.cell_some (i := 2) rfl
  have f1 := hb.free 1
  have hq := hb.lt
  have hsm := h.hv.small
  have hle := lead_le hsm x
  unfold meetR
  by_cases hr : 0 < leadR L x
  · have hlk := h.num.look (leadR L x) (WalkArith.wf_i64 (by have := hle hr; omega))
    by_cases hm : leadR L x ∈ l
    · have e0 : (numOf l (leadR L x) == 0) = false := by rw [beq_eq_false_iff_ne]; exact fun e => (numOf_zero.1 e) hm
      rw [if_neg (fun hh => hh.2 hm)]
      have H := Lib.hid h; clear h
      clear hm hle
      generalize leadR L x = r at *
      go_enter Try.func108, Try.ntmps108
      go_wp2_with fail
      refine hto.out.mono ?_
      rintro e w' ⟨rfl, rfl⟩
      go_wp2
      go_end0
      exact ⟨rfl, H.out, KeepW.refl _⟩
    · have e0 : (numOf l (leadR L x) == 0) = true := by rw [beq_iff_eq]; exact numOf_zero.2 hm
      rw [if_pos ⟨hr, hm⟩]
      have hlen := h.met.few hsm
      have hrle := hle hr
      have H := Lib.hid h; clear h
      have HM := Lib.hid hm; clear hm
      have HB := Lib.hid hb; clear hb
      clear hle
      have hmet := H.out.met.meet x
      unfold meetR at hmet
      rw [if_pos ⟨hr, HM.out⟩] at hmet
      have HMET := Lib.hid hmet; clear hmet
      generalize leadR L x = r at *
      go_enter Try.func108, Try.ntmps108
      go_wp2_with fail
      refine hto.out.mono ?_
      rintro e w' ⟨rfl, rfl⟩
      have hs0 := H.out.upd.size
      go_wp2_with (at_builtin; refine wpList_app rfl _ _ 41 rfl w0.heap.size 3 (.int .i64 0) 1 8 Try.underlying41 info_int rfl (by decide) _ _ _ rfl hown [.int .i64 r] 1 rfl rfl (one1 rfl) (by unfold maxLen; omega) (by omega) (by omega) ?_; intro g cap w1 S hown1 hu1 hS1 hg1; have hS1' : ∀ k, k ∈ S → lv.ownBlock = some k := hS1; clear hS1 hg1; have hqS : q ∉ S := (fun hk => by obtain ⟨cs, B⟩ := own_blk hown (hS1' _ hk); exact HB.out.ne B (by decide) rfl); have hc1 := hu1.cell c1 hqS; have hf1 := (hu1.frozen (p := ⟨q, 1, none⟩) hq hqS).trans f1)
      have hq1 : q < w1.heap.size := by have := hu1.size; omega
      obtain ⟨W2, hW2⟩ : ∃ W2, W2 = w1.setCell ⟨q, 1, none⟩ (.slice (some ⟨g, 0, none⟩) (l.length + 1) cap) := ⟨_, rfl⟩
      have hQ := Que.grow H.out HB.out hown hown1 hu1 hS1' hW2
      rw [← hW2]
      have d1 := hQ.1.cell_some (i := 1) rfl
      have d2 := hQ.1.cell_some (i := 2) rfl
      obtain ⟨W3, hrun, hnum, hgr⟩ := NumMap.put (w := W2.drew) hQ.2.1 r HM.out (WalkArith.wf_i64 (by omega)) (by have := HMET.out.few hsm; simp at this; omega)
      have hfin := Lib.hid (hQ.2.2 W3 hnum hgr HMET.out)
      clear hQ hnum hgr hc1 hf1 hq1 hown hown1 hu1 hS1' hqS c0 c1 c2 f1 hW2
      go_still_tail 10, (by kernel_rfl)
      change wpList _ _ _ _ _ W2.drew
      go_wp2
      go_end0
      exact ⟨rfl, hfin.out.1, hfin.out.2⟩
  · rw [if_neg (fun hh => hr hh.1)]
    have H := Lib.hid h; clear h
    clear hle
    generalize leadR L x = r at *
    go_enter Try.func108, Try.ntmps108
    go_wp2_with fail
    refine hto.out.mono ?_
    rintro e w' ⟨rfl, rfl⟩
    go_wp2
    go_end0
    exact ⟨rfl, H.out, KeepW.refl _⟩
end Go.Proofs.Ytkbnkpllbgofhaa
