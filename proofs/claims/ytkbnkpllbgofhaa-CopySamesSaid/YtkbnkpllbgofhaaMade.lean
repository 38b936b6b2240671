/-
  Copy's statements: what their arguments have, and the heaps that are made of them.
-/
import Derived.Test.YtkbnkpllbgofhaaFill
import Derived.Test.YtkbnkpllbgofhaaSized
import Derived.Test.YtkbnkpllbgofhaaCopyE
import Derived.Test.YtkbnkpllbgofhaaAlloc
namespace Go.Proofs.Ytkbnkpllbgofhaa
open Go.RowKit HeapM

abbrev WordD := Bool × Int
abbrev ObjD := Int × List WordD
def MemW (w : World) (a : Option Addr) (l : List WordD) : Prop := ∀ i, i < l.length → ∃ b o, a = some ⟨b, o, none⟩ ∧ w.cell? ⟨b, o + i * 2, none⟩ = some (.bool (l.getD i (false, 0)).1) ∧ w.cell? ⟨b, o + i * 2 + 1, none⟩ = some (.int .u64 (l.getD i (false, 0)).2)
def RngW (l : List WordD) : Prop := ∀ x, x ∈ l → 0 ≤ x.2 ∧ x.2 < 18446744073709551616
def MemO (w : World) (a : Option Addr) (l : List ObjD) : Prop := ∀ i, i < l.length → ∃ b o a' c', a = some ⟨b, o, none⟩ ∧ w.cell? ⟨b, o + i * 2, none⟩ = some (.int .u64 (l.getD i (0, [])).1) ∧ w.cell? ⟨b, o + i * 2 + 1, none⟩ = some (.slice a' (l.getD i (0, [])).2.length c') ∧ MemW w a' (l.getD i (0, [])).2
def RngO (l : List ObjD) : Prop := ∀ x, x ∈ l → 0 ≤ x.1 ∧ x.1 < 18446744073709551616 ∧ RngW x.2 ∧ x.2.length ≤ 140737488351232
theorem MemW.upd {w w' : World} {a : Option Addr} {l : List WordD} (h : MemW w a l) (hu : Upd [] w w') : MemW w' a l := by
  intro i hi
  obtain ⟨b, o, e, h1, h2⟩ := h i hi
  exact ⟨b, o, e, hu.cell h1 (by simp), hu.cell h2 (by simp)⟩
theorem MemO.upd {w w' : World} {a : Option Addr} {l : List ObjD} (h : MemO w a l) (hu : Upd [] w w') : MemO w' a l := by
  intro i hi
  obtain ⟨b, o, a', c', e, h1, h2, h3⟩ := h i hi
  exact ⟨b, o, a', c', e, hu.cell h1 (by simp), hu.cell h2 (by simp), h3.upd hu⟩
theorem cells_word : Try.prog.cellsOf 140 = 2 := by kernel_rfl
theorem cells_objd : Try.prog.cellsOf 138 = 2 := by kernel_rfl
theorem bytes_word : Try.prog.bytesOf 140 = 16 := by kernel_rfl
set_option maxRecDepth 100000 in
theorem words_open {w : World} {n : Nat} {a : Option Addr} {len cap : Nat} (h : RdS Try.prog w n 93 [.slice a len cap]) : ∃ l : List WordD, l.length = len ∧ MemW w a l ∧ RngW l ∧ len ≤ 140737488351232 := by
  rcases h.slice Try.underlying93 (by rw [cells_word]; omega) with e | ⟨a', len', cap', m, _, e, h2, h3, h5, h4⟩
  · injection e with e _
    injection e with e1 e2 e3
    subst e1; subst e2
    exact ⟨[], rfl, fun i hi => absurd hi (by simp), by simp [RngW], by omega⟩
  · injection e with e _
    injection e with e1 e2 e3
    subst e1; subst e2; subst e3
    rw [bytes_word] at h5
    have hx : ∀ i, i < len → ∃ x : WordD, (0 ≤ x.2 ∧ x.2 < 18446744073709551616) ∧ ∃ b o, a' = ⟨b, o, none⟩ ∧ w.cell? ⟨b, o + i * 2, none⟩ = some (.bool x.1) ∧ w.cell? ⟨b, o + i * 2 + 1, none⟩ = some (.int .u64 x.2) := by
      intro i hi
      obtain ⟨b, o, cs, e, hl, hcell, hr⟩ := h4 i (by omega)
      rw [cells_word] at hl hcell
      obtain ⟨m', _, _, hf⟩ := hr.struct Try.underlying140
      match cs, hl with
      | [x0, x1], _ =>
        obtain ⟨p, e0⟩ := RdS.bool Try.underlying4 (hf 0 _ rfl)
        obtain ⟨N, e1, hN⟩ := RdS.int Try.underlying22 (hf 1 _ rfl)
        have c1 : Program.cellsOf Try.prog 4 = 1 := by kernel_rfl
        have c2 : Program.cellsOf Try.prog 22 = 1 := by kernel_rfl
        simp [c1, c2] at e0 e1
        subst e0; subst e1
        have hb := bounds_u64 hN
        have g0 := hcell 0 (by omega)
        have g1 := hcell 1 (by omega)
        exact ⟨(p, N), by simp; omega, b, o, e, by simpa using g0, by simpa using g1⟩
    obtain ⟨f, hf⟩ := Deep.choose_lt hx
    refine ⟨(List.range len).map f, by simp, fun i hi => ?_, fun x hx => ?_, by omega⟩
    · have hi' : i < len := by simpa using hi
      obtain ⟨_, b, o, e, g0, g1⟩ := hf i hi'
      have e2 : ((List.range len).map f).getD i (false, 0) = f i := by simp [List.getD_eq_getElem?_getD, hi']
      exact ⟨b, o, by rw [e], by rw [e2, g0], by rw [e2, g1]⟩
    · obtain ⟨i, hi, rfl⟩ := List.mem_map.1 hx
      exact (hf i (by simpa using hi)).1
set_option maxRecDepth 100000 in
theorem objs_open {w : World} {n : Nat} {a : Option Addr} {len cap : Nat} (h : RdS Try.prog w n 92 [.slice a len cap]) : ∃ l : List ObjD, l.length = len ∧ MemO w a l ∧ RngO l ∧ len ≤ maxLen := by
  rcases h.slice Try.underlying92 (by rw [cells_objd]; omega) with e | ⟨a', len', cap', m, _, e, h2, h3, h5, h4⟩
  · injection e with e _
    injection e with e1 e2 e3
    subst e1; subst e2
    exact ⟨[], rfl, fun i hi => absurd hi (by simp), by simp [RngO], by unfold maxLen; omega⟩
  · injection e with e _
    injection e with e1 e2 e3
    subst e1; subst e2; subst e3
    have hx : ∀ i, i < len → ∃ x : ObjD, (0 ≤ x.1 ∧ x.1 < 18446744073709551616 ∧ RngW x.2 ∧ x.2.length ≤ 140737488351232) ∧ ∃ b o a2 c2, a' = ⟨b, o, none⟩ ∧ w.cell? ⟨b, o + i * 2, none⟩ = some (.int .u64 x.1) ∧ w.cell? ⟨b, o + i * 2 + 1, none⟩ = some (.slice a2 x.2.length c2) ∧ MemW w a2 x.2 := by
      intro i hi
      obtain ⟨b, o, cs, e, hl, hcell, hr⟩ := h4 i (by omega)
      rw [cells_objd] at hl hcell
      obtain ⟨m', _, _, hf⟩ := hr.struct Try.underlying138
      match cs, hl with
      | [x0, x1], _ =>
        obtain ⟨K, e0, hK⟩ := RdS.int Try.underlying22 (hf 0 _ rfl)
        have c1 : Program.cellsOf Try.prog 22 = 1 := by kernel_rfl
        have c2 : Program.cellsOf Try.prog 93 = 1 := by kernel_rfl
        have hs := hf 1 _ rfl
        simp [c1] at e0
        subst e0
        simp [c2] at hs
        have hb := bounds_u64 hK
        have g0 := hcell 0 (by omega)
        have g1 := hcell 1 (by omega)
        rcases hs.slice Try.underlying93 (by rw [cells_word]; omega) with e2 | ⟨a2, len2, cap2, _, _, e2, _, _, _, _⟩
        · injection e2 with e2 _
          subst e2
          obtain ⟨l, hl1, hl2, hl3, hl4⟩ := words_open hs
          exact ⟨(K, l), ⟨by simp; omega, by simp; omega, hl3, by simp; omega⟩, b, o, _, _, e, by simpa using g0, by simpa [hl1] using g1, hl2⟩
        · injection e2 with e2 _
          subst e2
          obtain ⟨l, hl1, hl2, hl3, hl4⟩ := words_open hs
          exact ⟨(K, l), ⟨by simp; omega, by simp; omega, hl3, by simp; omega⟩, b, o, _, _, e, by simpa using g0, by simpa [hl1] using g1, hl2⟩
    obtain ⟨f, hf⟩ := Deep.choose_lt hx
    refine ⟨(List.range len).map f, by simp, fun i hi => ?_, fun x hx => ?_, by omega⟩
    · have hi' : i < len := by simpa using hi
      obtain ⟨_, b, o, a2, c2, e, g0, g1, g2⟩ := hf i hi'
      have e2 : ((List.range len).map f).getD i (0, []) = f i := by simp [List.getD_eq_getElem?_getD, hi']
      exact ⟨b, o, a2, c2, by rw [e], by rw [e2, g0], by rw [e2, g1], by rw [e2]; exact g2⟩
    · obtain ⟨i, hi, rfl⟩ := List.mem_map.1 hx
      exact (hf i (by simpa using hi)).1

/-! ### light -/
def sizeTo (l : List ObjD) (j : Nat) : Nat := ((l.take j).map (fun x => 1 + x.2.length)).sum
theorem sizeTo_succ {l : List ObjD} {j : Nat} (h : j < l.length) : sizeTo l (j + 1) = sizeTo l j + (1 + (l.getD j (0, [])).2.length) := by
  unfold sizeTo
  rw [List.take_succ_eq_append_getElem h, List.map_append, List.sum_append]
  simp [List.getD_eq_getElem?_getD, h]
theorem sizeTo_mono {l : List ObjD} {i j : Nat} (h : i ≤ j) (hj : j ≤ l.length) : sizeTo l i ≤ sizeTo l j := by
  induction j with
  | zero => have : i = 0 := by omega
            subst this; exact Nat.le_refl _
  | succ j ih =>
    rcases Nat.lt_or_ge j i with h1 | h1
    · have : i = j + 1 := by omega
      subst this
      exact Nat.le_refl _
    · rw [sizeTo_succ (by omega)]
      have := ih h1 (by omega)
      omega
def lightB (l : List ObjD) (ws : List WordD) : Bool := decide (l.length ≤ 40 ∧ ws.length ≤ 40 ∧ ws.length + sizeTo l l.length ≤ 300)
set_option maxHeartbeats 1000000 in
theorem light_calls {w : World} {a a2 : Option Addr} {l : List ObjD} {ws : List WordD} (n n2 c c2 : Nat) (hn : l.length = n) (hn2 : ws.length = n2) (hl : MemO w a l) (hr : RngO l) (h1 : n ≤ 9223372036854775807) (h2 : n2 ≤ 9223372036854775807) :
    Calls Try.prog 57 #[.slice a n c, .slice a2 n2 c2] w fun e w' => e = .returned (.bool (lightB l ws)) ∧ Upd [] w w' := by
  by_cases h40 : 40 < n
  · have hB : lightB l ws = false := decide_eq_false (by omega)
    rw [hB]
    clear hB
    go_enter Try.func57, Try.ntmps57
    go_wp2
    go_ret
    exact ⟨rfl, Upd.refl _ _⟩
  by_cases h40' : 40 < n2
  · have hB : lightB l ws = false := decide_eq_false (by omega)
    rw [hB]
    clear hB
    go_enter Try.func57, Try.ntmps57
    go_wp2
    go_ret
    exact ⟨rfl, Upd.refl _ _⟩
  have HL := Lib.hid hl
  have HR := Lib.hid hr
  have HN := Lib.hid hn
  have HN2 := Lib.hid hn2
  clear hl hr hn hn2
  obtain ⟨B, hB⟩ : ∃ B, B = lightB l ws := ⟨_, rfl⟩
  rw [← hB]
  have HB := Lib.hid hB
  clear hB
  go_enter Try.func57, Try.ntmps57
  go_wp2_with fail
  go_loopw [5, 19] (fun s i wr => ∃ j : Nat, j ≤ n ∧ i = .int .i64 j ∧ s = .int .i64 ((n2 + sizeTo l j : Nat) : Int) ∧ n2 + sizeTo l j ≤ 300 ∧ Hid (Upd [] w wr)) (fun _ i _ => n - (intOf i).toNat)
  case atStart => exact ⟨0, by omega, rfl, by simp [sizeTo], by simp [sizeTo]; omega, Upd.refl _ _⟩
  case round =>
    obtain ⟨j, hj, rfl, rfl, h300, hU⟩ := hrel
    by_cases hlt : j < n
    · have hjl : j < l.length := by rw [HN.out]; exact hlt
      obtain ⟨b, o, a', c', rfl, g0, g1, -⟩ := (HL.out.upd hU.out) j hjl
      obtain ⟨-, -, -, hlen⟩ := HR.out (l.getD j (0, [])) (by simp [List.getD_eq_getElem?_getD, hjl])
      have hs := sizeTo_succ hjl
      have HS := Lib.hid hs
      have hmono := sizeTo_mono (l := l) (show j + 1 ≤ l.length by omega) (Nat.le_refl _)
      clear hjl hs
      generalize (l.getD j (0, [])).1 = kd at *
      generalize (l.getD j (0, [])).2.length = ln at *
      generalize sizeTo l j = s at *
      by_cases hbig : 300 < n2 + (s + (1 + ln))
      · have hB : B = false := by
          rw [HB.out]
          refine decide_eq_false (fun hh => ?_)
          have e1 := HN2.out
          have e2 := HS.out
          omega
        have HBf := Lib.hid hB
        have hbig2 : (300 : Int) < ((n2 : Int) + (s : Int)) + (1 + (ln : Int)) := by omega
        clear hmono hB
        go_wp2
        all_goals
          go_ret
          exact ⟨by rw [HBf.out]; rfl, hU.out.alloc _⟩
      · have hbig2 : ¬ (300 : Int) < ((n2 : Int) + (s : Int)) + (1 + (ln : Int)) := by omega
        have hU2 := Lib.hid (hU.out.alloc (.cells #[.int .u64 kd, .slice a' ln c'] 138))
        clear hmono
        go_wp2
        go_roundw
        case rel => exact ⟨j + 1, by omega, by go_num, by rw [HS.out]; go_num, by rw [HS.out]; omega, hU2⟩
        case measure => simp [intOf]; omega
    · have hjn : j = n := by omega
      have hB : B = true := by
        rw [HB.out]
        refine decide_eq_true ?_
        have e1 := HN2.out
        have e2 := HN.out
        rw [e1, e2, ← hjn]
        omega
      have HBf := Lib.hid hB
      clear hB
      go_wp2
      go_ret
      exact ⟨by rw [HBf.out]; rfl, hU.out⟩
end Go.Proofs.Ytkbnkpllbgofhaa
