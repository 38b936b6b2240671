/-
  HeapActs.
-/
import Derived.Test.YtkbnkpllbgofhaaAlloc
import Derived.Test.YtkbnkpllbgofhaaArgs
import Derived.Deep.RegionHeld3
namespace Go.Proofs.Ytkbnkpllbgofhaa
open Go.RowKit HeapM

/-- One act of a list. -/
def ActAt (w : World) (a : Option Addr) (i : Nat) (K A B W : Int) : Prop := ∃ b o, a = some ⟨b, o, none⟩ ∧ w.cell? ⟨b, o + i * 4, none⟩ = some (.int .i64 K) ∧ w.cell? ⟨b, o + i * 4 + 1, none⟩ = some (.int .i64 A) ∧ w.cell? ⟨b, o + i * 4 + 2, none⟩ = some (.int .i64 B) ∧ w.cell? ⟨b, o + i * 4 + 3, none⟩ = some (.int .u64 W)
theorem ActAt.upd {w w' : World} {a : Option Addr} {i : Nat} {K A B W : Int} (h : ActAt w a i K A B W) (hu : Upd [] w w') : ActAt w' a i K A B W := by
  obtain ⟨b, o, e, h0, h1, h2, h3⟩ := h
  exact ⟨b, o, e, hu.cell h0 (by simp), hu.cell h1 (by simp), hu.cell h2 (by simp), hu.cell h3 (by simp)⟩
set_option maxRecDepth 100000 in
theorem acts_open {w : World} {n : Nat} {a : Option Addr} {len cap : Nat} (h : RdN Try.prog w n 52 [.slice a len cap]) :
    len ≤ maxLen ∧ ∀ i, i < len → ∃ K A B W, ActAt w a i K A B W ∧ 0 ≤ W ∧ W < 18446744073709551616 := by
  have hc : Program.cellsOf Try.prog 56 = 4 := by kernel_rfl
  rcases h.slice Try.underlying52 (by rw [hc]; omega) with e | ⟨a', len', cap', m, _, e, h2, h3, h4⟩
  · injection e with e _
    injection e with e1 e2 e3
    subst e1; subst e2
    exact ⟨by simp, fun i hi => absurd hi (by omega)⟩
  · injection e with e _
    injection e with e1 e2 e3
    subst e1; subst e2; subst e3
    refine ⟨Nat.le_trans h2 h3, fun i hi => ?_⟩
    obtain ⟨b, o, cs, rfl, hl, hcell, hr⟩ := h4 i (by omega)
    rw [hc] at hl hcell
    obtain ⟨m', _, _, hf⟩ := hr.struct Try.underlying56
    match cs, hl with
    | [x0, x1, x2, x3], _ =>
      obtain ⟨K, e0, _⟩ := RdN.int Try.underlying3 (hf 0 _ rfl)
      obtain ⟨A, e1, _⟩ := RdN.int Try.underlying3 (hf 1 _ rfl)
      obtain ⟨B, e2, _⟩ := RdN.int Try.underlying3 (hf 2 _ rfl)
      obtain ⟨W, e3, hW⟩ := RdN.int Try.underlying30 (hf 3 _ rfl)
      have c1 : Program.cellsOf Try.prog 3 = 1 := by kernel_rfl
      have c2 : Program.cellsOf Try.prog 30 = 1 := by kernel_rfl
      simp [c1, c2] at e0 e1 e2 e3
      subst e0; subst e1; subst e2; subst e3
      have hb := bounds_u64 hW
      have g0 := hcell 0 (by omega)
      have g1 := hcell 1 (by omega)
      have g2 := hcell 2 (by omega)
      have g3 := hcell 3 (by omega)
      exact ⟨K, A, B, W, ⟨b, o, rfl, by simpa using g0, by simpa using g1, by simpa using g2, by simpa using g3⟩, by omega, by omega⟩

theorem Two.act {w0 w : World} {p bw bk pr n ba : Nat} {X : List (Nat × List Value × TypeId)} {LA LR : List HObj} {K A B W : Int} (h : Two w0 w p bw bk pr n ((ba, [.int .i64 K, .int .i64 A, .int .i64 B, .int .u64 W], 56) :: X) LA LR) :
    w.cell? ⟨ba, 1, none⟩ = some (.int .i64 A) ∧ w.cell? ⟨ba, 2, none⟩ = some (.int .i64 B) ∧ w.cell? ⟨ba, 3, none⟩ = some (.int .u64 W) := by
  have b := h.box (List.mem_cons_self ..)
  exact ⟨b.cell_some rfl, b.cell_some rfl, b.cell_some rfl⟩
theorem Two.few {w0 w : World} {p bw bk pr n : Nat} {X : List (Nat × List Value × TypeId)} {LA LR : List HObj} (h : Two w0 w p bw bk pr n X LA LR) : (objsR LR).length ≤ 9223372036854775807 := by
  obtain ⟨v, bs, hr, hb⟩ := h.R
  obtain ⟨_, _, _, hl, _⟩ := hr.form
  rw [objsR_pos]
  simp
  omega
theorem Two.all {w0 w : World} {p bw bk pr n ba ob : Nat} {X : List (Nat × List Value × TypeId)} {LA LR : List HObj} {K A B W : Int} {x y z : Value} (h : Two w0 w p bw bk pr n ((ob, [x, y, z], 61) :: (ba, [.int .i64 K, .int .i64 A, .int .i64 B, .int .u64 W], 56) :: X) LA LR) :
    w.cell? ⟨ba, 1, none⟩ = some (.int .i64 A) ∧ w.cell? ⟨ob, 1, none⟩ = some y ∧ w.cell? ⟨ob, 2, none⟩ = some z ∧ w.cell? ⟨pr, 0, none⟩ = some (.int .i64 n) := by
  have b := h.box (List.mem_cons_self ..)
  have b2 := h.box (List.mem_cons_of_mem _ (List.mem_cons_self ..))
  exact ⟨b2.cell_some rfl, b.cell_some rfl, b.cell_some rfl, h.c0⟩
set_option maxRecDepth 100000 in
set_option maxHeartbeats 20000000 in
theorem acts_walk (m : Int) (a : Option Addr) (len cap : Nat) (w : World) (hl : len ≤ maxLen) (HA : Hid (∀ i, i < len → ∃ K A B W, ActAt w a i K A B W ∧ 0 ≤ W ∧ W < 18446744073709551616)) :
    Calls Try.prog 7 #[.int .i64 m, .slice a len cap] w fun e w' => e = .returned (.bool true) ∧ Upd [] w w' := by
  unfold maxLen at hl
  by_cases h60 : 60 < (len : Int)
  · go_enter Try.func7, Try.ntmps7
    go_wp2_with fail
    refine (lives17 _).mono ?_
    rintro e w2 ⟨rfl, hL⟩
    go_wp2
    go_ret
    exact ⟨rfl, hL⟩
  by_cases hbad : m < 16 ∨ 65536 < m
  · go_enter Try.func7, Try.ntmps7
    go_wp2_with fail
    refine (new_no m _ hbad).mono ?_
    rintro e w2 ⟨rfl, rfl⟩
    go_wp2_with fail
    refine (rnew_no m _ hbad).mono ?_
    rintro e w2 ⟨rfl, rfl⟩
    go_wp2_with fail
    refine (lives17 _).mono ?_
    rintro e w2 ⟨rfl, hL⟩
    go_wp2
    go_ret
    exact ⟨rfl, hL⟩
  obtain ⟨n, rfl⟩ : ∃ n : Nat, m = n := ⟨m.toNat, by omega⟩
  have hn1 : 16 ≤ n := by omega
  have hn2 : n ≤ 65536 := by omega
  clear hbad
  go_enter Try.func7, Try.ntmps7
  go_wp2_with fail
  refine (new_A n _ hn1 hn2).mono ?_
  rintro e w1 ⟨p, bw, bk, rfl, hA, hp, hbw, hbk, hu1⟩
  have HA1 := Lib.hid hA; clear hA
  go_wp2_with fail
  refine (rnew_yes n _ hn1 hn2).mono ?_
  rintro e w2 ⟨pr, rfl, hR, hpr, hu2⟩
  have hs1 := hu1.size
  have hT0 : Two w w2 p bw bk pr n [] [] [] := by
    refine ⟨HA1.out.upd0 hu2, ⟨.slice none 0 0, [], ?_, fun _ h => by cases h⟩, hu1.then hu2, hp, hbw, hbk, by omega, fun _ h => by cases h⟩
    exact ⟨hR.hp, own_mono hR.own hs1, hR.bodies, hR.kinds, hR.words, hR.low, hR.high, hR.room, hR.isNil⟩
  clear hR hu1 hu2 hpr hs1 hp hbw hbk HA1
  go_wp2_with fail
  go_loopw [38] (fun i wr => ∃ (j : Nat) (L : List HObj), j ≤ len ∧ i = .int .i64 j ∧ Two w wr p bw bk pr n [] L L) (fun i _ => len - (intOf i).toNat)
  case atStart => exact ⟨0, [], by omega, rfl, hT0⟩
  case round =>
    obtain ⟨j, L, hj, rfl, hr⟩ := hrel
    by_cases hlt : j < len
    · obtain ⟨K, A, B, W, hact, hW⟩ := HA.out j hlt
      obtain ⟨b, o, rfl, d0, d1, d2, d3⟩ := hact.upd hr.upd
      clear hact
      have HP := Lib.hid ((hr.step ((Upd.refl [] wr).alloc (.cells #[.int .i64 K, .int .i64 A, .int .i64 B, .int .u64 W] 56))).put (b := wr.heap.size) (cs := [.int .i64 K, .int .i64 A, .int .i64 B, .int .u64 W]) (t := 56) (Blk.newAt rfl) (by decide))
      clear hr
      obtain hk | hk | ⟨hk, hk1⟩ : K = 0 ∨ K = 1 ∨ (¬ K = 0 ∧ ¬ K = 1) := by omega
      · subst hk
        go_wp2_with fail
        refine (two_alloc HP.out A B).mono ?_
        rintro e w3 ⟨rfl, h3⟩
        have H3 := Lib.hid h3; clear h3 d0 d1 d2 d3 HP
        obtain ⟨c1, c2, c3⟩ := H3.out.act
        go_wp2_with fail
        refine (two_ralloc H3.out A B).mono ?_
        rintro e w4 ⟨rfl, h4⟩
        have H4 := Lib.hid h4; clear h4 c1 c2 c3
        obtain ⟨c1, c2, c3⟩ := H4.out.act
        generalize allocN L n A B = an
        generalize allocB L n A B = ab
        generalize allocL L n A B = L2 at *
        go_wp2_with fail
        clear c1 c2 c3
        refine (two_get H4.out A B).mono ?_
        rintro e w5 ⟨rfl, h5⟩
        have H5 := Lib.hid h5; clear h5
        obtain ⟨c1, c2, c3⟩ := H5.out.act
        go_wp2_with fail
        refine (two_rget H5.out A B).mono ?_
        rintro e w6 ⟨rfl, h6⟩
        have H6 := Lib.hid h6; clear h6
        clear c1 c2 c3
        obtain ⟨c1, c2, c3⟩ := H6.out.act
        go_wp2_with fail
        refine (two_rat H6.out A).mono ?_
        rintro e w7 ⟨⟨z7, a7, ok7, rfl⟩, h7⟩
        have h8 := ((h7.step ((Upd.refl [] w7).alloc (.cells #[.int .i64 z7, .int .i64 (kindR L2 A), .slice a7 (lenR L2 A) (lenR L2 A)] 61))).put (b := w7.heap.size) (Blk.newAt rfl) (by decide))
        have hd := h8.step (Upd.refl [] _).drew
        have hfew := h8.few
        clear c1 c2 c3 h7 H5 H6
        generalize getR L2 A B = gx at *
        go_wp2_with fail
        go_region_held3 (fun w' => w'.cell? ⟨wr.heap.size, 1, none⟩ = some (.int .i64 A) ∧ w'.cell? ⟨w7.heap.size, 1, none⟩ = some (.int .i64 (kindR L2 A)) ∧ w'.cell? ⟨w7.heap.size, 2, none⟩ = some (.slice a7 (lenR L2 A) (lenR L2 A)) ∧ w'.cell? ⟨pr, 0, none⟩ = some (.int .i64 n)) (first | exact Two.all (by assumption)) (first
          | (go_at_call 25; refine (two_kind (by assumption) A).mono ?_; rintro e w8 ⟨rfl, hT8⟩)
          | (go_at_call 24; refine (two_len (by assumption) A).mono ?_; rintro e w8 ⟨rfl, hT8⟩)
          | (go_at_call 17; refine (two_used (by assumption)).mono ?_; rintro e w8 ⟨rfl, hT8⟩)
          | (go_at_call 40; refine (two_rused (by assumption)).mono ?_; rintro e w8 ⟨rfl, hT8⟩)
          | (go_at_call 41; refine (two_words (by assumption)).mono ?_; rintro e w8 ⟨rfl, hT8⟩)
          | (go_at_call 43; refine (two_objects (by assumption)).mono ?_; rintro e w8 ⟨oa, oc, rfl, hOA, hUA⟩; have hTA := Two.step (by assumption) hUA)
          | (go_at_call 44; refine (two_robjects (by assumption)).mono ?_; rintro e w8 ⟨oa, oc, rfl, hOB, hUB⟩; have hTB := Two.step (by assumption) hUB)
          | (go_at_call 42; refine (ints_calls _ _ _ _ rfl rfl (by first | exact hOA | exact hOA.upd0 hUB) (by first | exact hOB | exact hOB.upd0 hUA) hfew hfew rfl).mono ?_; rintro e w8 ⟨rfl, hUI⟩; have hTI := Two.step (by assumption) hUI))
        all_goals (
          have hfin := Lib.hid hTI.drop
          clear hTI hfew
          go_wp2
          go_roundw)
        case rel => exact ⟨j + 1, L2, by omega, by go_num, hfin.out⟩
        case measure => simp [intOf]; omega
      · subst hk
        have hd := HP.out.step (Upd.refl [] _).drew
        go_wp2_with fail
        go_region_held3 (fun w' => w'.cell? ⟨wr.heap.size, 1, none⟩ = some (.int .i64 A) ∧ w'.cell? ⟨wr.heap.size, 2, none⟩ = some (.int .i64 B) ∧ w'.cell? ⟨wr.heap.size, 3, none⟩ = some (.int .u64 W)) (first | exact Two.act (by assumption)) (first
          | (go_at_call 27; refine (two_set (by assumption) A B W hW).mono ?_; rintro e w3 ⟨rfl, hT3⟩)
          | (go_at_call 37; refine (two_rset (by assumption) A B W hW).mono ?_; rintro e w3 ⟨rfl, hT3⟩))
        all_goals (
          have H4 := Lib.hid hT3
          clear hT3 d0 d1 d2 d3 HP hd
          generalize setR L A B W = L2 at *
          generalize getR L A B = gg at *
          obtain ⟨c1, c2, c3⟩ := H4.out.act
          go_wp2_with fail
          clear c1 c2 c3
          refine (two_get H4.out A B).mono ?_
          rintro e w5 ⟨rfl, h5⟩
          have H5 := Lib.hid h5; clear h5
          obtain ⟨c1, c2, c3⟩ := H5.out.act
          go_wp2_with fail
          refine (two_rget H5.out A B).mono ?_
          rintro e w6 ⟨rfl, h6⟩
          have H6 := Lib.hid h6; clear h6
          clear c1 c2 c3
          obtain ⟨c1, c2, c3⟩ := H6.out.act
          go_wp2_with fail
          refine (two_rat H6.out A).mono ?_
          rintro e w7 ⟨⟨z7, a7, ok7, rfl⟩, h7⟩
          have h8 := ((h7.step ((Upd.refl [] w7).alloc (.cells #[.int .i64 z7, .int .i64 (kindR L2 A), .slice a7 (lenR L2 A) (lenR L2 A)] 61))).put (b := w7.heap.size) (Blk.newAt rfl) (by decide))
          have hd := h8.step (Upd.refl [] _).drew
          have hfew := h8.few
          clear c1 c2 c3 h7 H5 H6
          generalize getR L2 A B = gx at *
          go_wp2_with fail
          go_region_held3 (fun w' => w'.cell? ⟨wr.heap.size, 1, none⟩ = some (.int .i64 A) ∧ w'.cell? ⟨w7.heap.size, 1, none⟩ = some (.int .i64 (kindR L2 A)) ∧ w'.cell? ⟨w7.heap.size, 2, none⟩ = some (.slice a7 (lenR L2 A) (lenR L2 A)) ∧ w'.cell? ⟨pr, 0, none⟩ = some (.int .i64 n)) (first | exact Two.all (by assumption)) (first
            | (go_at_call 25; refine (two_kind (by assumption) A).mono ?_; rintro e w8 ⟨rfl, hT8⟩)
            | (go_at_call 24; refine (two_len (by assumption) A).mono ?_; rintro e w8 ⟨rfl, hT8⟩)
            | (go_at_call 17; refine (two_used (by assumption)).mono ?_; rintro e w8 ⟨rfl, hT8⟩)
            | (go_at_call 40; refine (two_rused (by assumption)).mono ?_; rintro e w8 ⟨rfl, hT8⟩)
            | (go_at_call 41; refine (two_words (by assumption)).mono ?_; rintro e w8 ⟨rfl, hT8⟩)
            | (go_at_call 43; refine (two_objects (by assumption)).mono ?_; rintro e w8 ⟨oa, oc, rfl, hOA, hUA⟩; have hTA := Two.step (by assumption) hUA)
            | (go_at_call 44; refine (two_robjects (by assumption)).mono ?_; rintro e w8 ⟨oa, oc, rfl, hOB, hUB⟩; have hTB := Two.step (by assumption) hUB)
            | (go_at_call 42; refine (ints_calls _ _ _ _ rfl rfl (by first | exact hOA | exact hOA.upd0 hUB) (by first | exact hOB | exact hOB.upd0 hUA) hfew hfew rfl).mono ?_; rintro e w8 ⟨rfl, hUI⟩; have hTI := Two.step (by assumption) hUI))
          all_goals (
            have hfin := Lib.hid hTI.drop
            clear hTI hfew
            go_wp2
            go_roundw)
          case rel => exact ⟨j + 1, L2, by omega, by go_num, hfin.out⟩
          case measure => simp [intOf]; omega
        )
      · have e0 : decide (K = 0) = false := by simp [hk]
        have e1 : decide (K = 1) = false := by simp [hk1]
        obtain ⟨c1, c2, c3⟩ := HP.out.act
        go_wp2_with fail
        clear c1 c2 c3
        refine (two_get HP.out A B).mono ?_
        rintro e w5 ⟨rfl, h5⟩
        have H5 := Lib.hid h5; clear h5
        obtain ⟨c1, c2, c3⟩ := H5.out.act
        go_wp2_with fail
        refine (two_rget H5.out A B).mono ?_
        rintro e w6 ⟨rfl, h6⟩
        have H6 := Lib.hid h6; clear h6
        clear c1 c2 c3
        obtain ⟨c1, c2, c3⟩ := H6.out.act
        go_wp2_with fail
        refine (two_rat H6.out A).mono ?_
        rintro e w7 ⟨⟨z7, a7, ok7, rfl⟩, h7⟩
        have h8 := ((h7.step ((Upd.refl [] w7).alloc (.cells #[.int .i64 z7, .int .i64 (kindR L A), .slice a7 (lenR L A) (lenR L A)] 61))).put (b := w7.heap.size) (Blk.newAt rfl) (by decide))
        have hd := h8.step (Upd.refl [] _).drew
        have hfew := h8.few
        clear c1 c2 c3 h7 H5 H6
        generalize getR L A B = gx at *
        go_wp2_with fail
        go_region_held3 (fun w' => w'.cell? ⟨wr.heap.size, 1, none⟩ = some (.int .i64 A) ∧ w'.cell? ⟨w7.heap.size, 1, none⟩ = some (.int .i64 (kindR L A)) ∧ w'.cell? ⟨w7.heap.size, 2, none⟩ = some (.slice a7 (lenR L A) (lenR L A)) ∧ w'.cell? ⟨pr, 0, none⟩ = some (.int .i64 n)) (first | exact Two.all (by assumption)) (first
          | (go_at_call 25; refine (two_kind (by assumption) A).mono ?_; rintro e w8 ⟨rfl, hT8⟩)
          | (go_at_call 24; refine (two_len (by assumption) A).mono ?_; rintro e w8 ⟨rfl, hT8⟩)
          | (go_at_call 17; refine (two_used (by assumption)).mono ?_; rintro e w8 ⟨rfl, hT8⟩)
          | (go_at_call 40; refine (two_rused (by assumption)).mono ?_; rintro e w8 ⟨rfl, hT8⟩)
          | (go_at_call 41; refine (two_words (by assumption)).mono ?_; rintro e w8 ⟨rfl, hT8⟩)
          | (go_at_call 43; refine (two_objects (by assumption)).mono ?_; rintro e w8 ⟨oa, oc, rfl, hOA, hUA⟩; have hTA := Two.step (by assumption) hUA)
          | (go_at_call 44; refine (two_robjects (by assumption)).mono ?_; rintro e w8 ⟨oa, oc, rfl, hOB, hUB⟩; have hTB := Two.step (by assumption) hUB)
          | (go_at_call 42; refine (ints_calls _ _ _ _ rfl rfl (by first | exact hOA | exact hOA.upd0 hUB) (by first | exact hOB | exact hOB.upd0 hUA) hfew hfew rfl).mono ?_; rintro e w8 ⟨rfl, hUI⟩; have hTI := Two.step (by assumption) hUI))
        all_goals (
          have hfin := Lib.hid hTI.drop
          clear hTI hfew
          go_wp2
          go_roundw)
        case rel => exact ⟨j + 1, L, by omega, by go_num, hfin.out⟩
        case measure => simp [intOf]; omega
    · go_wp2_with fail
      refine (lives17 _).mono ?_
      rintro e w3 ⟨rfl, hL⟩
      go_wp2
      go_ret
      exact ⟨rfl, hr.upd.then hL⟩
theorem law_HeapActs (m : Int) (v : Value) (w : World) (_hm : (Lit.int .i64 m).wf = true) (h : ArgIs Try.prog w 52 v) :
    Calls Try.prog 7 #[.int .i64 m, v] w fun e w' => e = .returned (.bool true) ∧ Upd [] w w' := by
  obtain ⟨a, len, cap, n, rfl, hr⟩ := h.slice Try.underlying52
  obtain ⟨h1, h2⟩ := acts_open hr
  exact acts_walk m a len cap w h1 (Lib.hid h2)
end Go.Proofs.Ytkbnkpllbgofhaa
