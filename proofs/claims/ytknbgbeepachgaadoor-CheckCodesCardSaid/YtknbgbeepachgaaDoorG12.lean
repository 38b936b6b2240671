/-
  Texts of this claim, merged: ChM, ChA, ChH. Lemmas and contracts; no conditions of our own.
-/
import Derived.Test.YtknbgbeepachgaaDoorG2
import Derived.Deep.MidRow

/-
  Code in memory: its instructions, its blocks, its constants.
-/
namespace Go.Proofs.YtknbgbeepachgaaDoor
open Go.RowKit

/-- An instruction. -/
structure InsV where
  op : Int
  a : Int
  b : Int
instance : Inhabited InsV := ⟨⟨0, 0, 0⟩⟩
/-- A block. -/
structure BlkV where
  lo : Int
  pr : Int
  rest : Bool
  sl : Int
  dp : Int
  ou : Int
instance : Inhabited BlkV := ⟨⟨0, 0, false, 0, 0, 0⟩⟩
/-- All of it. -/
structure CodeV where
  ins : List InsV
  blks : List BlkV
  cons : List Dat
def insCells (x : InsV) : List Value := [.int .i64 x.op, .int .i64 x.a, .int .i64 x.b]
def blkCells (x : BlkV) : List Value := [.int .i64 x.lo, .int .i64 x.pr, .bool x.rest, .int .i64 x.sl, .int .i64 x.dp, .int .i64 x.ou]
/-- A row of so many cells each. -/
def RowK {α : Type} (w : World) (k : Nat) (f : α → List Value) (a : Option Addr) (xs : List α) : Prop :=
  ∀ i x, xs[i]? = some x → ∃ b o, a = some ⟨b, o, none⟩ ∧ ∀ j, j < k → w.cell? ⟨b, o + i * k + j, none⟩ = (f x)[j]?
theorem RowK.updS {α : Type} {w w' : World} {k : Nat} {f : α → List Value} {a : Option Addr} {xs : List α} {S : List Nat} (hf : ∀ x, (f x).length = k) (h : RowK w k f a xs) (hu : Upd S w w') (hS : ∀ b o, a = some ⟨b, o, none⟩ → b ∉ S) : RowK w' k f a xs := by
  intro i x hi
  obtain ⟨b, o, e, hc⟩ := h i x hi
  refine ⟨b, o, e, fun j hj => ?_⟩
  have h1 := hc j hj
  rw [List.getElem?_eq_getElem (by rw [hf]; exact hj)] at h1 ⊢
  exact hu.cell h1 (hS b o e)
abbrev InsAt (w : World) (a : Option Addr) (xs : List InsV) : Prop := RowK w 3 insCells a xs
abbrev BlkAt (w : World) (a : Option Addr) (xs : List BlkV) : Prop := RowK w 6 blkCells a xs
theorem insAt_upd {w w' : World} {a : Option Addr} {xs : List InsV} (h : InsAt w a xs) (hu : Upd [] w w') : InsAt w' a xs := h.updS (fun _ => rfl) hu (by simp)
theorem blkAt_upd {w w' : World} {a : Option Addr} {xs : List BlkV} (h : BlkAt w a xs) (hu : Upd [] w w') : BlkAt w' a xs := h.updS (fun _ => rfl) hu (by simp)
theorem insAt_get {w : World} {a : Option Addr} {xs : List InsV} (h : InsAt w a xs) {i : Nat} (hi : i < xs.length) : ∃ b o, a = some ⟨b, o, none⟩ ∧
    w.cell? ⟨b, o + i * 3, none⟩ = some (.int .i64 (xs.getD i default).op) ∧ w.cell? ⟨b, o + i * 3 + 1, none⟩ = some (.int .i64 (xs.getD i default).a) ∧ w.cell? ⟨b, o + i * 3 + 2, none⟩ = some (.int .i64 (xs.getD i default).b) := by
  have e : xs.getD i default = xs[i] := by simp [List.getD_eq_getElem?_getD, hi]
  obtain ⟨b, o, ha, hc⟩ := h i xs[i] (List.getElem?_eq_getElem hi)
  rw [e]
  exact ⟨b, o, ha, hc 0 (by omega), hc 1 (by omega), hc 2 (by omega)⟩
theorem blkAt_get {w : World} {a : Option Addr} {xs : List BlkV} (h : BlkAt w a xs) {i : Nat} (hi : i < xs.length) : ∃ b o, a = some ⟨b, o, none⟩ ∧
    w.cell? ⟨b, o + i * 6, none⟩ = some (.int .i64 (xs.getD i default).lo) ∧ w.cell? ⟨b, o + i * 6 + 1, none⟩ = some (.int .i64 (xs.getD i default).pr) ∧ w.cell? ⟨b, o + i * 6 + 2, none⟩ = some (.bool (xs.getD i default).rest) ∧
    w.cell? ⟨b, o + i * 6 + 3, none⟩ = some (.int .i64 (xs.getD i default).sl) ∧ w.cell? ⟨b, o + i * 6 + 4, none⟩ = some (.int .i64 (xs.getD i default).dp) ∧ w.cell? ⟨b, o + i * 6 + 5, none⟩ = some (.int .i64 (xs.getD i default).ou) := by
  have e : xs.getD i default = xs[i] := by simp [List.getD_eq_getElem?_getD, hi]
  obtain ⟨b, o, ha, hc⟩ := h i xs[i] (List.getElem?_eq_getElem hi)
  rw [e]
  exact ⟨b, o, ha, hc 0 (by omega), hc 1 (by omega), hc 2 (by omega), hc 3 (by omega), hc 4 (by omega), hc 5 (by omega)⟩
abbrev I64 (x : Int) : Prop := -9223372036854775808 ≤ x ∧ x ≤ 9223372036854775807
/-- The three rows of a code. -/
structure IsC (w : World) (n : Nat) (aI aB aC : Option Addr) (c : CodeV) : Prop where
  ins : InsAt w aI c.ins
  blks : BlkAt w aB c.blks
  cons : RowOf w (fun _ => True) (IsD w (fun _ => True) n) aC c.cons
  insOk : ∀ x ∈ c.ins, I64 x.op ∧ I64 x.a ∧ I64 x.b
  blksOk : ∀ x ∈ c.blks, I64 x.lo ∧ I64 x.pr ∧ I64 x.sl ∧ I64 x.dp ∧ I64 x.ou
  nI : c.ins.length ≤ 35184372088832
  nB : c.blks.length ≤ 35184372088832
  nC : c.cons.length ≤ 35184372088832
theorem rowOf_upd {w w' : World} {n : Nat} {a : Option Addr} {ds : List Dat} (h : RowOf w (fun _ => True) (IsD w (fun _ => True) n) a ds) (hu : Upd [] w w') : RowOf w' (fun _ => True) (IsD w' (fun _ => True) n) a ds :=
  RowOf.map h (fun _ _ _ => trivial) (fun _ _ _ _ hc => hu.cell hc (by simp)) (fun _ _ hd => hd.upd hu)
theorem IsC.upd {w w' : World} {n : Nat} {aI aB aC : Option Addr} {c : CodeV} (h : IsC w n aI aB aC c) (hu : Upd [] w w') : IsC w' n aI aB aC c :=
  ⟨insAt_upd h.ins hu, blkAt_upd h.blks hu, rowOf_upd h.cons hu, h.insOk, h.blksOk, h.nI, h.nB, h.nC⟩

/-! ### Reading an argument -/
theorem cells_ins : Tryd.prog.cellsOf 47 = 3 := by kernel_rfl
theorem cells_blk : Tryd.prog.cellsOf 45 = 6 := by kernel_rfl
theorem bytes_ins : 4 ≤ Tryd.prog.bytesOf 47 := by decide +kernel
theorem bytes_blk : 4 ≤ Tryd.prog.bytesOf 45 := by decide +kernel
theorem cells_int : Tryd.prog.cellsOf 3 = 1 := by kernel_rfl
theorem cells_bool : Tryd.prog.cellsOf 4 = 1 := by kernel_rfl
set_option maxRecDepth 100000 in
theorem ins_open {w : World} {n : Nat} {cs : List Value} (h : RdS Tryd.prog w n 47 cs) : ∃ x : InsV, cs = insCells x ∧ I64 x.op ∧ I64 x.a ∧ I64 x.b := by
  obtain ⟨m, rfl, hl, hf⟩ := h.struct Tryd.underlying47
  rw [cells_ins] at hl
  match cs, hl with
  | [x0, x1, x2], _ =>
    obtain ⟨a, e0, h0⟩ := RdS.int Tryd.underlying3 (hf 0 _ rfl)
    obtain ⟨b, e1, h1⟩ := RdS.int Tryd.underlying3 (hf 1 _ rfl)
    obtain ⟨c, e2, h2⟩ := RdS.int Tryd.underlying3 (hf 2 _ rfl)
    simp [cells_int] at e0 e1 e2
    subst e0; subst e1; subst e2
    exact ⟨⟨a, b, c⟩, rfl, bounds_i64 h0, bounds_i64 h1, bounds_i64 h2⟩
set_option maxRecDepth 100000 in
theorem blk_open {w : World} {n : Nat} {cs : List Value} (h : RdS Tryd.prog w n 45 cs) : ∃ x : BlkV, cs = blkCells x ∧ I64 x.lo ∧ I64 x.pr ∧ I64 x.sl ∧ I64 x.dp ∧ I64 x.ou := by
  obtain ⟨m, rfl, hl, hf⟩ := h.struct Tryd.underlying45
  rw [cells_blk] at hl
  match cs, hl with
  | [x0, x1, x2, x3, x4, x5], _ =>
    obtain ⟨a, e0, h0⟩ := RdS.int Tryd.underlying3 (hf 0 _ rfl)
    obtain ⟨b, e1, h1⟩ := RdS.int Tryd.underlying3 (hf 1 _ rfl)
    obtain ⟨c, e2⟩ := RdS.bool Tryd.underlying4 (hf 2 _ rfl)
    obtain ⟨d, e3, h3⟩ := RdS.int Tryd.underlying3 (hf 3 _ rfl)
    obtain ⟨e, e4, h4⟩ := RdS.int Tryd.underlying3 (hf 4 _ rfl)
    obtain ⟨f, e5, h5⟩ := RdS.int Tryd.underlying3 (hf 5 _ rfl)
    simp [cells_int, cells_bool] at e0 e1 e2 e3 e4 e5
    subst e0; subst e1; subst e2; subst e3; subst e4; subst e5
    exact ⟨⟨a, b, c, d, e, f⟩, rfl, bounds_i64 h0, bounds_i64 h1, bounds_i64 h3, bounds_i64 h4, bounds_i64 h5⟩
/-- A slice whose elements read each as one of α. -/
theorem rowK_open {α : Type} [Inhabited α] {f : α → List Value} {Q : α → Prop} {w : World} {m k : Nat} {t e : TypeId} {v : Value} (ht : Tryd.prog.underlying t = some (.slice e)) (hk : Tryd.prog.cellsOf e = k) (h0 : 0 < k) (hb : 4 ≤ Tryd.prog.bytesOf e)
    (ih : ∀ n cs, RdS Tryd.prog w n e cs → ∃ x, cs = f x ∧ Q x) (h : RdS Tryd.prog w m t [v]) :
    ∃ a c, ∃ xs : List α, v = .slice a xs.length c ∧ RowK w k f a xs ∧ (∀ x ∈ xs, Q x) ∧ xs.length ≤ 35184372088832 := by
  rcases h.slice ht (by rw [hk]; exact h0) with e1 | ⟨a', len, cap, n, hn, e1, h2, h3, h5, h4⟩
  · injection e1 with e1 _
    subst e1
    exact ⟨none, 0, [], rfl, fun i x hi => by simp at hi, by simp, by simp⟩
  · injection e1 with e1 _
    subst e1
    have hcap : cap * 4 ≤ cap * Tryd.prog.bytesOf e := Nat.mul_le_mul_left cap hb
    have hx : ∀ i, i < len → ∃ x : α, ∃ b o, (some a' : Option Addr) = some ⟨b, o, none⟩ ∧ (∀ j, j < k → w.cell? ⟨b, o + i * k + j, none⟩ = (f x)[j]?) ∧ Q x := by
      intro i hi
      obtain ⟨b, o, cs, e2, hl, hc, hr⟩ := h4 i (by omega)
      obtain ⟨x, rfl, hq⟩ := ih _ _ hr
      rw [hk] at hc
      exact ⟨x, b, o, by rw [e2], hc, hq⟩
    obtain ⟨g, hg⟩ := Deep.choose_lt hx
    refine ⟨some a', cap, (List.range len).map g, by simp, fun i x hi => ?_, fun x hx => ?_, by simp; omega⟩
    · rw [List.getElem?_map] at hi
      obtain ⟨i', hi', rfl⟩ := Option.map_eq_some_iff.1 hi
      obtain ⟨hlt, rfl⟩ := List.getElem?_eq_some_iff.1 hi'
      have hlt' : i < len := by simpa using hlt
      rw [List.getElem_range]
      obtain ⟨b, o, e2, hc, _⟩ := hg i hlt'
      exact ⟨b, o, e2, hc⟩
    · obtain ⟨i, hi, rfl⟩ := List.mem_map.1 hx
      obtain ⟨_, _, _, _, hq⟩ := hg i (by simpa using hi)
      exact hq
set_option maxRecDepth 100000 in
theorem code_open {v : Value} {w : World} (h : ArgS Tryd.prog w 26 v) : ∃ aI cI aB cB aC cC n c, v = .agg #[.slice aI c.ins.length cI, .slice aB c.blks.length cB, .slice aC c.cons.length cC] ∧ IsC w n aI aB aC c := by
  obtain ⟨cs, n, rfl, hr⟩ := h.agg (by kernel_rfl)
  obtain ⟨l⟩ := cs
  obtain ⟨m, rfl, hl, hf⟩ := hr.struct Tryd.underlying26
  have hc3 : Tryd.prog.cellsOf 26 = 3 := by kernel_rfl
  have c0 : Program.cellsOf Tryd.prog 22 = 1 := by kernel_rfl
  have c1 : Program.cellsOf Tryd.prog 23 = 1 := by kernel_rfl
  have c2 : Program.cellsOf Tryd.prog 24 = 1 := by kernel_rfl
  rw [hc3] at hl
  match l, hl with
  | [x0, x1, x2], _ =>
    have h0 := hf 0 _ rfl
    have h1 := hf 1 _ rfl
    have h2 := hf 2 _ rfl
    simp [c0] at h0
    simp [c1] at h1
    simp [c2] at h2
    obtain ⟨aI, cI, is, rfl, i1, i2, i3⟩ := rowK_open Tryd.underlying22 cells_ins (by omega) bytes_ins (fun n cs h => ins_open h) h0
    obtain ⟨aB, cB, bs, rfl, b1, b2, b3⟩ := rowK_open Tryd.underlying23 cells_blk (by omega) bytes_blk (fun n cs h => blk_open h) h1
    obtain ⟨aC, cC, ds, rfl, d1, d2, _⟩ := row_open (fun k _ cs h => dat_open k cs h) h2
    exact ⟨aI, cI, aB, cB, aC, cC, m, ⟨is, bs, ds⟩, rfl, i1, b1, RowOf.map d1 (fun _ _ _ => trivial) (fun _ _ _ _ hc => hc) (fun _ _ hd => hd.mono fun _ _ _ => trivial), i2, b2, i3, b3, d2⟩
end Go.Proofs.YtknbgbeepachgaaDoor

/-
  The primitives' tables: a name, its arity.
-/
namespace Go.Proofs.YtknbgbeepachgaaDoor
open Go.RowKit

def primNames : List ByteArray := match (Rows.laid_pavane_expand_names : DataW Unit) with
  | .agg l => l.map fun | .lit (.string bs) => ⟨bs.toArray⟩ | _ => ByteArray.empty
  | _ => []
def primArs : List Int := match (Rows.laid_pavane_expand_arities : DataW Unit) with
  | .agg l => l.map fun | .lit (.int _ n) => n | _ => 0
  | _ => []
theorem primNames_len : primNames.length = 39 := by decide +kernel
theorem primArs_len : primArs.length = 39 := by decide +kernel
def nmAt (k : Nat) : ByteArray := primNames.getD k ByteArray.empty
def arAt (k : Nat) : Int := primArs.getD k 0
theorem nm_apart : ∀ i, i < 39 → ∀ k, k < 39 → 0 < i → (nmAt i).data.toList = (nmAt k).data.toList → i = k := by decide +kernel
theorem nm_some : ∀ k, k < 39 → 0 < k → (nmAt k).data.toList ≠ [] := by decide +kernel
theorem ar_range : ∀ k, k < 39 → 0 ≤ arAt k ∧ arAt k ≤ 2 := by decide +kernel
/-- How many arguments a primitive takes; -1: there is none. -/
def arD (p : Int) : Int := if 1 ≤ p ∧ p ≤ 38 then arAt p.toNat else -1
theorem arD_range (p : Int) : -1 ≤ arD p ∧ arD p ≤ 2 := by
  unfold arD
  split
  · have := ar_range p.toNat (by omega)
    omega
  · omega
/-- The two tables lie where they lie. -/
structure Tabs (w : World) : Prop where
  nm : ∀ k, k < 39 → w.cell? ⟨0, k, none⟩ = some (.string (nmAt k))
  ar : ∀ k, k < 39 → w.cell? ⟨1, k, none⟩ = some (.int .i64 (arAt k))
theorem Tabs.upd {w w' : World} (h : Tabs w) (hu : Upd [] w w') : Tabs w' :=
  ⟨fun k hk => hu.cell (h.nm k hk) (by simp), fun k hk => hu.cell (h.ar k hk) (by simp)⟩
theorem Tabs.range {w : World} (h : Tabs w) : w.rangeAt 0 0 ((List.range 39).map fun k => .string (nmAt k)) := by
  intro j v hj
  rw [List.getElem?_map] at hj
  obtain ⟨i, hi, rfl⟩ := Option.map_eq_some_iff.1 hj
  obtain ⟨hlt, rfl⟩ := List.getElem?_eq_some_iff.1 hi
  rw [List.getElem_range, Nat.zero_add]
  exact h.nm j (by simpa using hlt)

set_option maxRecDepth 100000 in
set_option maxHeartbeats 1500000 in
theorem name_in {w : World} (h : Tabs w) (k : Nat) (h1 : 1 ≤ k) (h2 : k < 39) : Calls Tryd.prog 62 #[.int .i64 k] w fun e w' => e = .returned (.string (nmAt k)) ∧ w' = w := by
  have hc := h.nm k h2
  have hlo : ¬ (k : Int) < 1 := by omega
  have hhi : ¬ (39 : Int) ≤ (k : Int) := by omega
  clear h
  go_enter Tryd.func62, Tryd.ntmps62
  go_wp2
  go_ret
  exact ⟨rfl, rfl⟩
set_option maxRecDepth 100000 in
set_option maxHeartbeats 1500000 in
theorem name_out (w : World) (p : Int) (h : p < 1 ∨ 39 ≤ p) : Calls Tryd.prog 62 #[.int .i64 p] w fun e w' => e = .returned (.string ByteArray.empty) ∧ w' = w := by
  rcases h with h | h
  · go_enter Tryd.func62, Tryd.ntmps62
    go_wp2
    go_ret
    exact ⟨rfl, rfl⟩
  · have h2 : ¬ p < 1 := by omega
    go_enter Tryd.func62, Tryd.ntmps62
    go_wp2
    go_ret
    exact ⟨rfl, rfl⟩
theorem run_index1 {P : Program} {t e : TypeId} {len : Nat} {d : TypeDesc} {z : Value} {bytes : Nat} (ht : P.underlying t = some (.array len e)) (hinfo : (P.info? e).map (fun i => (i.zero, i.size, i.bytes)) = some (some z, 1, bytes)) (hd : P.underlying e = some d) (hna : (match d with | .struct _ | .array _ _ => false | _ => true) = true)
    {cs : Array Value} {v : Value} {j : Nat} (hj : j < len) (hv : cs[j]? = some v) (w : World) : (Instr.index t (.agg cs) (.int .i64 j)).run P w = .ok v w := by
  obtain ⟨i, hi, _, hz1, _⟩ := info_parts hinfo
  unfold Instr.index
  simp [go_sem, run_underlying ht, sizeOf, typeInfo, hi, hz1, part, isAgg, run_underlying hd]
  cases d <;> simp_all [go_sem]
set_option maxRecDepth 100000 in
set_option maxHeartbeats 1500000 in
theorem prim_calls {w : World} (h : Tabs w) (k : Nat) (h1 : 1 ≤ k) (h2 : k < 39) : Calls Tryd.prog 63 #[.string (nmAt k)] w fun e w' => e = .returned (.tuple #[.int .i64 k, .int .i64 (arAt k), .bool true]) ∧ Upd [] w w' := by
  obtain ⟨NL, hr, hl, hn⟩ : ∃ NL : List Value, w.rangeAt 0 0 NL ∧ (Tryd.prog.info? 113).map (·.size) = some NL.length ∧ ∀ j, j < 39 → NL[j]? = some (.string (nmAt j)) :=
    ⟨_, h.range, by kernel_rfl, fun j hj => by simp [hj]⟩
  have HR := Lib.hid hr
  have HL := Lib.hid hl
  have HT := Lib.hid h
  have hix : ∀ j : Nat, j < 39 → ∀ w, (Instr.index 113 (.agg NL.toArray) (.int .i64 j)).run Tryd.prog w = .ok (.string (nmAt j)) w := by
    intro j hj w
    exact run_index1 (z := .string ByteArray.empty) (bytes := 16) Tryd.underlying113 (by kernel_rfl) Tryd.underlying9 rfl hj (by rw [List.getElem?_toArray]; exact hn j hj) w
  have HIX := Lib.hid hix
  obtain ⟨s, hs⟩ : ∃ s, s = nmAt k := ⟨_, rfl⟩
  rw [← hs]
  have HS := Lib.hid hs
  clear h hr hix hl hn hs
  go_enter Tryd.func63, Tryd.ntmps63
  go_wp2_with (refine wpList_load_mid rfl 113 _ rfl 0 0 rfl _ _ HR.out Tryd.underlying113 rfl HL.out ?_)
  go_loopw [8] (fun i wr => ∃ j : Nat, j ≤ k ∧ i = .int .i64 j ∧ wr = w) (fun i _ => 40 - (intOf i).toNat)
  case atStart => exact ⟨0, by omega, rfl, rfl⟩
  case round =>
    obtain ⟨j, hj, rfl, rfl⟩ := hrel
    have ix := HIX.out j (by omega)
    by_cases h0 : j = 0
    · have h0' : ¬ 0 < j := by omega
      clear h0
      obtain ⟨x, hx⟩ : ∃ x, x = nmAt j := ⟨_, rfl⟩
      rw [← hx] at ix
      clear hx
      go_wp2
      go_roundw
      case rel => exact ⟨j + 1, by omega, by go_num, trivial⟩
      case measure => simp [intOf]; omega
    · have h0' : 0 < j := by omega
      by_cases hlt : j < k
      · have hne : ((nmAt j).toList == s.toList) = false := by
          rw [HS.out, ByteArray.toList_eq, ByteArray.toList_eq]
          refine beq_eq_false_iff_ne.2 fun e => ?_
          have := nm_apart j (by omega) k h2 h0' e
          omega
        obtain ⟨x, hx⟩ : ∃ x, x = nmAt j := ⟨_, rfl⟩
        rw [← hx] at ix hne
        clear hx
        go_wp2
        go_roundw
        case rel => exact ⟨j + 1, by omega, by go_num, trivial⟩
        case measure => simp [intOf]; omega
      · obtain rfl : j = k := by omega
        rw [← HS.out] at ix
        have hc := HT.out.ar j h2
        have he : (s.toList == s.toList) = true := by simp
        go_wp2_with fail
        go_quiet (fail)
        go_wp2
        go_ret3
        exact ⟨rfl, ((Upd.refl [] wr).drewN _)⟩
set_option maxRecDepth 100000 in
set_option maxHeartbeats 1500000 in
theorem arity_calls {w : World} (h : Tabs w) (p : Int) : Calls Tryd.prog 55 #[.int .i64 p] w fun e w' => e = .returned (.int .i64 (arD p)) ∧ Upd [] w w' := by
  by_cases hp : 1 ≤ p ∧ p < 39
  · obtain ⟨k, rfl⟩ : ∃ k : Nat, p = k := ⟨p.toNat, by omega⟩
    have e : arD k = arAt k := by
      unfold arD
      rw [if_pos (by omega), Int.toNat_natCast]
    rw [e]
    have h1 := name_in h k (by omega) (by omega)
    have h2 := prim_calls h k (by omega) (by omega)
    have hs : ((nmAt k).toList == []) = false := by
      rw [ByteArray.toList_eq]
      exact beq_eq_false_iff_ne.2 (nm_some k (by omega) (by omega))
    generalize nmAt k = s at *
    generalize arAt k = q at *
    clear h e
    go_enter Tryd.func55, Tryd.ntmps55
    go_wp2_with fail
    refine h1.mono ?_
    rintro e w' ⟨rfl, rfl⟩
    go_wp2_with fail
    refine h2.mono ?_
    rintro e w2 ⟨rfl, hu⟩
    go_wp2
    go_ret
    exact ⟨rfl, hu⟩
  · have e : arD p = -1 := by
      unfold arD
      rw [if_neg (by omega)]
    rw [e]
    clear e h
    go_enter Tryd.func55, Tryd.ntmps55
    go_wp2_with fail
    refine (name_out w p (by omega)).mono ?_
    rintro e w' ⟨rfl, rfl⟩
    go_wp2
    go_ret
    exact ⟨rfl, Upd.refl [] _⟩
end Go.Proofs.YtknbgbeepachgaaDoor

/-
  Heaps of whole numbers: plain lemmas; what stands in a row.
-/
namespace Go.Proofs.YtknbgbeepachgaaDoor
open Go.RowKit

/-! ### Plain -/
/-- The first n are a heap, the least first. -/
def HeapN (xs : List Int) (n : Nat) : Prop := ∀ i, 0 < i → i < n → xs.getD ((i - 1) / 2) 0 ≤ xs.getD i 0
def swapL (xs : List Int) (i j : Nat) : List Int := (xs.set i (xs.getD j 0)).set j (xs.getD i 0)
theorem swapL_len (xs : List Int) (i j : Nat) : (swapL xs i j).length = xs.length := by simp [swapL]
theorem swapL_perm {xs : List Int} {i j : Nat} (hi : i < xs.length) (hj : j < xs.length) : (swapL xs i j).Perm xs := by
  unfold swapL
  rw [show xs.getD j 0 = xs[j] by simp [List.getD_eq_getElem?_getD, hj], show xs.getD i 0 = xs[i] by simp [List.getD_eq_getElem?_getD, hi]]
  exact List.set_set_perm hi hj
theorem swapL_get {xs : List Int} {i j : Nat} (hi : i < xs.length) (hj : j < xs.length) (k : Nat) : (swapL xs i j).getD k 0 = if k = j then xs.getD i 0 else if k = i then xs.getD j 0 else xs.getD k 0 := by
  unfold swapL
  simp only [List.getD_eq_getElem?_getD, List.getElem?_set, List.length_set]
  by_cases h1 : k = j
  · subst h1
    simp [hj]
  · by_cases h2 : k = i
    · subst h2
      simp [h1, hi, Ne.symm h1]
    · simp [h1, h2, Ne.symm h1, Ne.symm h2]
/-- A heap but at j, which may be less than what stands above it. -/
def UpOk (xs : List Int) (n j : Nat) : Prop := (∀ i, 0 < i → i < n → i ≠ j → xs.getD ((i - 1) / 2) 0 ≤ xs.getD i 0) ∧ (0 < j → ∀ i, 0 < i → i < n → (i - 1) / 2 = j → xs.getD ((j - 1) / 2) 0 ≤ xs.getD i 0)
theorem UpOk.done {xs : List Int} {n j : Nat} (h : UpOk xs n j) (hj : j = 0 ∨ ¬ xs.getD j 0 < xs.getD ((j - 1) / 2) 0) : HeapN xs n := by
  intro i h0 hi
  by_cases e : i = j
  · subst e
    rcases hj with hj | hj
    · omega
    · omega
  · exact h.1 i h0 hi e
theorem UpOk.step {xs : List Int} {n j : Nat} (h : UpOk xs n j) (hn : n ≤ xs.length) (h0 : 0 < j) (hj : j < n) (hlt : xs.getD j 0 < xs.getD ((j - 1) / 2) 0) : UpOk (swapL xs ((j - 1) / 2) j) n ((j - 1) / 2) := by
  have hg := swapL_get (xs := xs) (i := (j - 1) / 2) (j := j) (by omega) (by omega)
  obtain ⟨p, hp⟩ : ∃ p, p = (j - 1) / 2 := ⟨_, rfl⟩
  rw [← hp] at hg hlt ⊢
  have hpj : p < j := by omega
  constructor
  · intro i hi0 hin hne
    have hil : i < xs.length := by omega
    rw [hg, hg]
    by_cases hi : i = j
    · subst hi
      rw [← hp, if_neg (by omega), if_pos rfl, if_pos rfl]
      omega
    · rw [if_neg hi, if_neg hne]
      by_cases hq : (i - 1) / 2 = j
      · rw [if_pos hq]
        have := h.2 h0 i hi0 hin hq
        rw [← hp] at this
        exact this
      · rw [if_neg hq]
        by_cases hr : (i - 1) / 2 = p
        · rw [if_pos hr]
          have h1 := h.1 i hi0 hin hi
          rw [hr] at h1
          omega
        · rw [if_neg hr]
          exact h.1 i hi0 hin hi
  · intro hp0 i hi0 hin hq
    rw [hg, hg]
    have h1 := h.1 p hp0 (by omega) (by omega)
    rw [if_neg (by omega), if_neg (by omega)]
    by_cases hi : i = j
    · subst hi
      rw [if_pos rfl]
      exact h1
    · rw [if_neg hi, if_neg (by omega)]
      have h2 := h.1 i hi0 hin hi
      rw [hq] at h2
      omega
theorem UpOk.start {xs : List Int} {n : Nat} (h : HeapN xs n) : UpOk xs (n + 1) n :=
  ⟨fun i h0 hi hne => h i h0 (by omega), fun _ i h0 hi e => by omega⟩
/-- A heap but at i, which may be more than what stands below it. -/
def DownOk (xs : List Int) (n i : Nat) : Prop := (∀ k, 0 < k → k < n → (k - 1) / 2 ≠ i → xs.getD ((k - 1) / 2) 0 ≤ xs.getD k 0) ∧ (0 < i → ∀ k, 0 < k → k < n → (k - 1) / 2 = i → xs.getD ((i - 1) / 2) 0 ≤ xs.getD k 0)
theorem DownOk.done {xs : List Int} {n i : Nat} (h : DownOk xs n i) (hj : ∀ k, 0 < k → k < n → (k - 1) / 2 = i → xs.getD i 0 ≤ xs.getD k 0) : HeapN xs n := by
  intro k h0 hk
  by_cases e : (k - 1) / 2 = i
  · have := hj k h0 hk e
    rw [e]
    exact this
  · exact h.1 k h0 hk e
theorem DownOk.step {xs : List Int} {n i j : Nat} (h : DownOk xs n i) (hn : n ≤ xs.length) (hj : j < n) (hp : (j - 1) / 2 = i) (h0 : 0 < j) (hle : ∀ k, 0 < k → k < n → (k - 1) / 2 = i → xs.getD j 0 ≤ xs.getD k 0) (hlt : xs.getD j 0 < xs.getD i 0) : DownOk (swapL xs i j) n j := by
  have hij : i < j := by omega
  have hg := swapL_get (xs := xs) (i := i) (j := j) (by omega) (by omega)
  constructor
  · intro k hk0 hk hne
    rw [hg, hg, if_neg hne]
    by_cases hkj : k = j
    · subst hkj
      rw [if_pos rfl, if_pos hp]
      omega
    · rw [if_neg hkj]
      by_cases hki : k = i
      · subst hki
        rw [if_pos rfl, if_neg (by omega)]
        exact h.2 hk0 j h0 hj hp
      · rw [if_neg hki]
        by_cases hq : (k - 1) / 2 = i
        · rw [if_pos hq]
          exact hle k hk0 hk hq
        · rw [if_neg hq]
          exact h.1 k hk0 hk hq
  · intro hj0 k hk0 hk hq
    rw [hg, hg, if_neg (by omega), if_pos (by omega), if_neg (by omega), if_neg (by omega)]
    have h1 := h.1 k hk0 hk (by omega)
    rw [hq] at h1
    exact h1
theorem DownOk.start {xs : List Int} {n : Nat} (h : HeapN xs (n + 1)) (hn : xs.length = n + 1) : DownOk (swapL xs 0 n) n 0 := by
  have hg := swapL_get (xs := xs) (i := 0) (j := n) (by omega) (by omega)
  refine ⟨fun k h0 hk hne => ?_, fun h => absurd h (by omega)⟩
  rw [hg, hg, if_neg (by omega), if_neg (by omega), if_neg (by omega), if_neg (by omega)]
  exact h k h0 (by omega)
/-- The first of a heap is the least. -/
theorem HeapN.least {xs : List Int} {n : Nat} (h : HeapN xs n) : ∀ k, k < n → xs.getD 0 0 ≤ xs.getD k 0 := by
  intro k
  induction k using Nat.strongRecOn with
  | _ k ih =>
    intro hk
    by_cases h0 : k = 0
    · subst h0
      exact Int.le_refl _
    · exact Int.le_trans (ih ((k - 1) / 2) (by omega) (by omega)) (h k (by omega) hk)
theorem HeapN.take {xs ys : List Int} {n : Nat} (h : HeapN xs n) (e : ∀ k, k < n → ys.getD k 0 = xs.getD k 0) : HeapN ys n := by
  intro i h0 hi
  rw [e _ (by omega), e _ hi]
  exact h i h0 hi

/-! ### What is kept -/
/-- Of the blocks below base, and of those of other types than int, only those of S may have changed. -/
structure Kb (base : Nat) (S : List Nat) (w w' : World) : Prop where
  os : w'.os = w.os
  tape : w'.tape = w.tape
  output : w'.output = w.output
  size : w.heap.size ≤ w'.heap.size
  block : ∀ k, k < base → k ∉ S → w'.heap[k]? = w.heap[k]?
  other : ∀ b cs t, Blk w b cs t → b ∉ S → t ≠ 3 → Blk w' b cs t
theorem Kb.refl (base : Nat) (S : List Nat) (w : World) : Kb base S w w := ⟨rfl, rfl, rfl, Nat.le_refl _, fun _ _ _ => rfl, fun _ _ _ h _ _ => h⟩
theorem Kb.trans {base : Nat} {S : List Nat} {a b c : World} (h : Kb base S a b) (k : Kb base S b c) : Kb base S a c :=
  ⟨k.os.trans h.os, k.tape.trans h.tape, k.output.trans h.output, Nat.le_trans h.size k.size, fun i h1 h2 => (k.block i h1 h2).trans (h.block i h1 h2), fun i cs t hb hn ht => k.other i cs t (h.other i cs t hb hn ht) hn ht⟩
theorem Kb.mono {base : Nat} {S T : List Nat} {a b : World} (h : Kb base S a b) (hT : ∀ x, x ∈ S → x ∈ T) : Kb base T a b :=
  ⟨h.os, h.tape, h.output, h.size, fun i h1 h2 => h.block i h1 fun hx => h2 (hT i hx), fun i cs t hb hn ht => h.other i cs t hb (fun hx => hn (hT i hx)) ht⟩
theorem Kb.of_upd {base : Nat} {S T : List Nat} {a b : World} (h : Upd S a b) (hb : base ≤ a.heap.size) (hT : ∀ x, x ∈ S → x < base → x ∈ T) (hI : ∀ x, x ∈ S → x ∈ T ∨ ∀ cs t, Blk a x cs t → t = 3) : Kb base T a b :=
  ⟨h.os, h.tape, h.output, h.size, fun i h1 h2 => h.block i (by omega) fun hx => h2 (hT i hx h1), fun i cs t hbl hn ht => h.blk hbl fun hx => by
    rcases hI i hx with h1 | h1
    · exact hn h1
    · exact ht (h1 cs t hbl)⟩
theorem Kb.of_set {base L : Nat} {T : List Nat} {w : World} (o : Nat) (v : Value) (hb : base ≤ w.heap.size) (hL : L ∈ T) : Kb base T w (w.setCell ⟨L, o, none⟩ v) :=
  Kb.of_upd ((Upd.refl [L] w).setCell (p := ⟨L, o, none⟩) v (.inl (by simp))) hb (fun x hx _ => by simpa [List.mem_singleton.1 hx] using hL) (fun x hx => .inl (by simpa [List.mem_singleton.1 hx] using hL))
theorem Kb.upd {S : List Nat} {a b : World} (h : Kb a.heap.size S a b) : Upd S a b := ⟨h.os, h.tape, h.output, h.size, fun i h1 h2 => h.block i h1 h2⟩
theorem Kb.blk {base : Nat} {S : List Nat} {a b : World} (h : Kb base S a b) {k : Nat} {cs : List Value} {t : TypeId} (hb : Blk a k cs t) (hk : k < base) (hn : k ∉ S) : Blk b k cs t := hb.of_eq (h.block k hk hn)
theorem Kb.cell {base : Nat} {S : List Nat} {a b : World} (h : Kb base S a b) {p : Addr} {v : Value} (hc : a.cell? p = some v) (hk : p.block < base) (hn : p.block ∉ S) : b.cell? p = some v :=
  (World.cell?_of_block (w := a) (h.block p.block hk hn)).trans hc

/-! ### A row of numbers -/
abbrev IRow (w : World) (base : Nat) (v : Value) (xs : List Int) : Prop := w.ownsRow base 3 1 v xs.length (xs.map (.int .i64))
theorem info_int : (Tryd.prog.info? 3).map (fun i => (i.zero, i.size, i.bytes)) = some (some (.int .i64 0), 1, 8) := by kernel_rfl
theorem IRow.shape {w : World} {base : Nat} {v : Value} {xs : List Int} (h : IRow w base v xs) (h0 : 0 < xs.length) : ∃ g cap, v = .slice (some ⟨g, 0, none⟩) xs.length cap ∧ base ≤ g ∧ g < w.heap.size := by
  rcases h.2 with ⟨_, h1⟩ | ⟨g, cap, cur, rfl, hb, hg, _⟩
  · omega
  · exact ⟨g, cap, rfl, hb, (Array.getElem?_eq_some_iff.1 hg).1⟩
theorem own_int {w : World} {base n : Nat} {v : Value} {xs : List Value} (h : w.ownsRow base 3 1 v n xs) : ∀ g, v.ownBlock = some g → ∀ cs t, Blk w g cs t → t = 3 := by
  intro g hg cs t hb
  rcases h.2 with ⟨rfl, _⟩ | ⟨g', cap, cur, rfl, _, hgg, _⟩
  · simp [Value.ownBlock] at hg
  · have e : g' = g := by simpa [Value.ownBlock] using hg
    subst e
    have : Blk w g' cur.toList 3 := by
      unfold Blk
      simpa using hgg
    exact (hb.inj this).2
theorem IRow.at {w : World} {base g n cap : Nat} {xs : List Int} (h : w.ownsRow base 3 1 (.slice (some ⟨g, 0, none⟩) n cap) n (xs.map (.int .i64))) {j : Nat} (hj : j < n) : w.cell? ⟨g, j, none⟩ = some (.int .i64 (xs.getD j 0)) := by
  have hl : xs.length = n := by have := h.1; simpa using this
  rw [h.cellAt j (by omega), map_int_get, List.getElem?_eq_getElem (by omega)]
  simp [List.getD_eq_getElem?_getD, List.getElem?_eq_getElem (show j < xs.length by omega)]
end Go.Proofs.YtknbgbeepachgaaDoor
