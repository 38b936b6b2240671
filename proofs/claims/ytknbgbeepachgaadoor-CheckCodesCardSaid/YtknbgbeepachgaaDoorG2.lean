/-
  Texts of this claim, merged: DatM, DatB, DatW. Lemmas and contracts; no conditions of our own.
-/
import Derived.Test.YtknbgbeepachgaaDoorG1
import Derived.Test.YtknbgbeepachgaaDoorRows

/-
  Data in memory.
-/
namespace Go.Proofs.YtknbgbeepachgaaDoor
open Go.RowKit

/-- A datum: its kind, its number's sign and limbs, its truth, its text, its items and its tail. -/
inductive Dat where
  | mk (kind : Int) (neg : Bool) (limbs : List Int) (b : Bool) (s : ByteArray) (items tail : List Dat)
instance : Inhabited Dat := ⟨.mk 0 false [] false ByteArray.empty [] []⟩
def Dat.kind : Dat → Int | .mk k _ _ _ _ _ _ => k
def Dat.neg : Dat → Bool | .mk _ n _ _ _ _ _ => n
def Dat.limbs : Dat → List Int | .mk _ _ l _ _ _ _ => l
def Dat.b : Dat → Bool | .mk _ _ _ b _ _ _ => b
def Dat.s : Dat → ByteArray | .mk _ _ _ _ s _ _ => s
def Dat.items : Dat → List Dat | .mk _ _ _ _ _ i _ => i
def Dat.tail : Dat → List Dat | .mk _ _ _ _ _ _ t => t

/-- The seven cells of a datum. -/
def datCells (kind : Int) (neg : Bool) (aL : Option Addr) (nL cL : Nat) (b : Bool) (s : ByteArray) (aI : Option Addr) (nI cI : Nat) (aT : Option Addr) (nT cT : Nat) : List Value :=
  [.int .i64 kind, .bool neg, .slice aL nL cL, .bool b, .string s, .slice aI nI cI, .slice aT nT cT]
/-- Seven cells from here on. -/
def At7 (w : World) (b o : Nat) (cs : List Value) : Prop := cs.length = 7 ∧ ∀ j, j < 7 → w.cell? ⟨b, o + j, none⟩ = cs[j]?
/-- Limbs in blocks that P lets in. -/
def LimbsOf (w : World) (P : Nat → Prop) (a : Option Addr) (xs : List Int) : Prop :=
  ∀ i, i < xs.length → ∃ b o, a = some ⟨b, o, none⟩ ∧ P b ∧ w.cell? ⟨b, o + i, none⟩ = some (.int .u32 (xs.getD i 0))
/-- A row of data, each as R says, in blocks that P lets in. -/
def RowOf (w : World) (P : Nat → Prop) (R : List Value → Dat → Prop) (a : Option Addr) (ds : List Dat) : Prop :=
  ∀ i, i < ds.length → ∃ b o cs, a = some ⟨b, o, none⟩ ∧ P b ∧ At7 w b (o + i * 7) cs ∧ R cs (ds.getD i default)
/-- These cells are this datum, in so many levels, in blocks that P lets in. -/
def IsD (w : World) (P : Nat → Prop) : Nat → List Value → Dat → Prop
  | 0, _, _ => False
  | n + 1, cs, d => ∃ aL cL aI cI aT cT, cs = datCells d.kind d.neg aL d.limbs.length cL d.b d.s aI d.items.length cI aT d.tail.length cT ∧
      LimbsOf w P aL d.limbs ∧ RowOf w P (IsD w P n) aI d.items ∧ RowOf w P (IsD w P n) aT d.tail ∧ (d.limbs.length ≤ cL ∧ d.items.length ≤ cI ∧ d.tail.length ≤ cT) ∧
      (-9223372036854775808 ≤ d.kind ∧ d.kind ≤ 9223372036854775807) ∧ (∀ x ∈ d.limbs, 0 ≤ x ∧ x < 4294967296) ∧ d.limbs.length ≤ 35184372088832 ∧ d.s.size ≤ 140737488351232 ∧ d.items.length ≤ 35184372088832 ∧ d.tail.length ≤ 35184372088832
theorem LimbsOf.sli {w : World} {P : Nat → Prop} {a : Option Addr} {xs : List Int} (h : LimbsOf w P a xs) : SlI w .u32 a xs := by
  intro i hi
  obtain ⟨b, o, e, _, hc⟩ := h i hi
  exact ⟨b, o, e, hc⟩
theorem At7.upd {w w' : World} {b o : Nat} {cs : List Value} {S : List Nat} (h : At7 w b o cs) (hu : Upd S w w') (hS : b ∉ S) : At7 w' b o cs := by
  refine ⟨h.1, fun j hj => ?_⟩
  have hc := h.2 j hj
  rw [List.getElem?_eq_getElem (by rw [h.1]; exact hj)] at hc ⊢
  exact hu.cell hc hS
theorem At7.lt {w : World} {b o : Nat} {cs : List Value} (h : At7 w b o cs) : b < w.heap.size := by
  have hc := h.2 0 (by omega)
  rw [List.getElem?_eq_getElem (by rw [h.1]; omega)] at hc
  exact World.block_lt_of_cell? w _ hc
/-- What holds of data stays where their cells stay, under more blocks, and one level up. -/
theorem IsD.map {w w' : World} {P Q : Nat → Prop} {m : Nat} (hP : ∀ b, b < w.heap.size → P b → Q b) (hc : ∀ b o v, P b → w.cell? ⟨b, o, none⟩ = some v → w'.cell? ⟨b, o, none⟩ = some v) : ∀ {n : Nat} {cs : List Value} {d : Dat}, IsD w P n cs d → IsD w' Q (n + m) cs d
  | 0, _, _, h => h.elim
  | n + 1, cs, d, h => by
    obtain ⟨aL, cL, aI, cI, aT, cT, e, h1, h2, h3, h4⟩ := h
    have hrow : ∀ {a : Option Addr} {ds : List Dat}, RowOf w P (IsD w P n) a ds → RowOf w' Q (IsD w' Q (n + m)) a ds := by
      intro a ds h i hi
      obtain ⟨b, o, cs, e, hp, ha, hr⟩ := h i hi
      refine ⟨b, o, cs, e, hP b ha.lt hp, ⟨ha.1, fun j hj => ?_⟩, IsD.map hP hc hr⟩
      have h' := ha.2 j hj
      rw [List.getElem?_eq_getElem (by rw [ha.1]; exact hj)] at h' ⊢
      exact hc _ _ _ hp h'
    rw [show n + 1 + m = (n + m) + 1 by omega]
    refine ⟨aL, cL, aI, cI, aT, cT, e, fun i hi => ?_, hrow h2, hrow h3, h4⟩
    obtain ⟨b, o, e, hp, h'⟩ := h1 i hi
    exact ⟨b, o, e, hP b (World.block_lt_of_cell? w _ h') hp, hc _ _ _ hp h'⟩
theorem IsD.updS {w w' : World} {P : Nat → Prop} {S : List Nat} {n : Nat} {cs : List Value} {d : Dat} (h : IsD w P n cs d) (hu : Upd S w w') (hS : ∀ b, P b → b ∉ S) : IsD w' P n cs d :=
  IsD.map (m := 0) (fun _ _ hp => hp) (fun b _ _ hp hc => hu.cell hc (hS b hp)) h
theorem IsD.upd {w w' : World} {P : Nat → Prop} {n : Nat} {cs : List Value} {d : Dat} (h : IsD w P n cs d) (hu : Upd [] w w') : IsD w' P n cs d := h.updS hu (by simp)
theorem IsD.mono {w : World} {P Q : Nat → Prop} {n : Nat} {cs : List Value} {d : Dat} (h : IsD w P n cs d) (hP : ∀ b, b < w.heap.size → P b → Q b) : IsD w Q n cs d :=
  IsD.map (m := 0) hP (fun _ _ _ _ hc => hc) h
theorem IsD.more {w : World} {P : Nat → Prop} {n : Nat} {cs : List Value} {d : Dat} (h : IsD w P n cs d) (m : Nat) : IsD w P (n + m) cs d :=
  IsD.map (fun _ _ hp => hp) (fun _ _ _ _ hc => hc) h
theorem RowOf.map {w w' : World} {P Q : Nat → Prop} {R R' : List Value → Dat → Prop} {a : Option Addr} {ds : List Dat} (h : RowOf w P R a ds) (hP : ∀ b, b < w.heap.size → P b → Q b) (hc : ∀ b o v, P b → w.cell? ⟨b, o, none⟩ = some v → w'.cell? ⟨b, o, none⟩ = some v) (hR : ∀ cs d, R cs d → R' cs d) : RowOf w' Q R' a ds := by
  intro i hi
  obtain ⟨b, o, cs, e, hp, ha, hr⟩ := h i hi
  refine ⟨b, o, cs, e, hP b ha.lt hp, ⟨ha.1, fun j hj => ?_⟩, hR _ _ hr⟩
  have h' := ha.2 j hj
  rw [List.getElem?_eq_getElem (by rw [ha.1]; exact hj)] at h' ⊢
  exact hc _ _ _ hp h'
/-- Data in blocks that are there. -/
abbrev Old (w : World) (b : Nat) : Prop := b < w.heap.size
theorem IsD.old {w : World} {P : Nat → Prop} {n : Nat} {cs : List Value} {d : Dat} (h : IsD w P n cs d) : IsD w (Old w) n cs d := h.mono fun _ hb _ => hb

/-! ### Reading an argument -/
theorem cells_dat : Tryd.prog.cellsOf 56 = 7 := by kernel_rfl
theorem bytes_dat : 4 ≤ Tryd.prog.bytesOf 56 := by decide +kernel
theorem bytes_u32 : Tryd.prog.bytesOf 111 = 4 := by kernel_rfl
theorem cells_u32 : Tryd.prog.cellsOf 111 = 1 := by kernel_rfl
theorem limbs_open {w : World} {n : Nat} {v : Value} (h : RdS Tryd.prog w n 52 [v]) : ∃ a c xs, v = .slice a xs.length c ∧ LimbsOf w (Old w) a xs ∧ (∀ x ∈ xs, 0 ≤ x ∧ x < 4294967296) ∧ xs.length ≤ 35184372088832 ∧ xs.length ≤ c := by
  rcases h.slice Tryd.underlying52 (by rw [cells_u32]; omega) with e | ⟨a', len', cap', m, _, e, h2, h3, h5, h4⟩
  · injection e with e _
    subst e
    exact ⟨none, 0, [], rfl, fun i hi => absurd hi (by simp), by simp, by simp, by simp⟩
  · injection e with e _
    subst e
    rw [bytes_u32] at h5
    obtain ⟨xs, x1, x2, x3, x4⟩ := RdN.ints Tryd.underlying52 Tryd.underlying111 cells_u32 h.rd
    subst x1
    refine ⟨_, _, xs, rfl, fun i hi => ?_, fun x hx => ?_, by omega, h2⟩
    · obtain ⟨b, o, e, hc⟩ := x2 i hi
      exact ⟨b, o, e, World.block_lt_of_cell? w _ hc, hc⟩
    have := bounds_u32 (x3 x hx)
    omega
theorem row_open {w : World} {m : Nat} {v : Value} (ih : ∀ k, k < m → ∀ cs, RdS Tryd.prog w k 56 cs → ∃ d, IsD w (Old w) k cs d) (h : RdS Tryd.prog w m 24 [v]) :
    ∃ a c ds, v = .slice a ds.length c ∧ RowOf w (Old w) (IsD w (Old w) m) a ds ∧ ds.length ≤ 35184372088832 ∧ ds.length ≤ c := by
  rcases h.slice Tryd.underlying24 (by rw [cells_dat]; omega) with e | ⟨a', len, cap, k, hk, e, h2, h3, h5, h4⟩
  · injection e with e _
    subst e
    exact ⟨none, 0, [], rfl, fun i hi => absurd hi (by simp), by simp, by simp⟩
  · injection e with e _
    subst e
    rw [cells_dat] at h4
    have hcap : cap * 4 ≤ cap * Tryd.prog.bytesOf 56 := Nat.mul_le_mul_left cap bytes_dat
    have hx : ∀ i, i < len → ∃ d : Dat, ∃ b o cs, (some a' : Option Addr) = some ⟨b, o, none⟩ ∧ At7 w b (o + i * 7) cs ∧ IsD w (Old w) m cs d := by
      intro i hi
      obtain ⟨b, o, cs, e, hl, hc, hr⟩ := h4 i (by omega)
      obtain ⟨d, hd⟩ := ih k (by omega) cs hr
      exact ⟨d, b, o, cs, by rw [e], ⟨hl, hc⟩, by rw [hk]; exact hd.more 1⟩
    obtain ⟨f, hf⟩ := Deep.choose_lt hx
    refine ⟨some a', cap, (List.range len).map f, by simp, fun i hi => ?_, by simp; omega, by simp; omega⟩
    have hi' : i < len := by simpa using hi
    have e2 : ((List.range len).map f).getD i default = f i := by simp [List.getD_eq_getElem?_getD, hi']
    rw [e2]
    obtain ⟨b, o, cs, x1, x2, x3⟩ := hf i hi'
    exact ⟨b, o, cs, x1, x2.lt, x2, x3⟩
set_option maxRecDepth 100000 in
theorem dat_open {w : World} : ∀ (n : Nat) (cs : List Value), RdS Tryd.prog w n 56 cs → ∃ d, IsD w (Old w) n cs d := by
  intro n
  induction n using Nat.strongRecOn with
  | _ n ih =>
    intro cs h
    obtain ⟨m, rfl, hl, hf⟩ := h.struct Tryd.underlying56
    rw [cells_dat] at hl
    match cs, hl with
    | [x0, x1, x2, x3, x4, x5, x6], _ =>
      obtain ⟨K, e0, hK⟩ := RdS.int Tryd.underlying3 (hf 0 _ rfl)
      have hI := hf 1 _ rfl
      obtain ⟨B, e3⟩ := RdS.bool Tryd.underlying4 (hf 2 _ rfl)
      obtain ⟨S, e4, hS⟩ := RdS.str Tryd.underlying9 (hf 3 _ rfl)
      have hIt := hf 4 _ rfl
      have hTl := hf 5 _ rfl
      have c1 : Program.cellsOf Tryd.prog 3 = 1 := by kernel_rfl
      have c2 : Program.cellsOf Tryd.prog 4 = 1 := by kernel_rfl
      have c3 : Program.cellsOf Tryd.prog 9 = 1 := by kernel_rfl
      have c4 : Program.cellsOf Tryd.prog 24 = 1 := by kernel_rfl
      have c5 : Program.cellsOf Tryd.prog 54 = 2 := by kernel_rfl
      have c6 : Program.cellsOf Tryd.prog 52 = 1 := by kernel_rfl
      simp [c1] at e0
      simp [c2] at e3
      simp [c3] at e4
      simp [c4] at hIt hTl
      simp [c5] at hI
      subst e0; subst e3; subst e4
      obtain ⟨m2, hm2, _, hg⟩ := hI.struct Tryd.underlying54
      obtain ⟨N, f0⟩ := RdS.bool Tryd.underlying4 (hg 0 _ rfl)
      have hL := hg 1 _ rfl
      simp [c2] at f0
      simp [c6] at hL
      subst f0
      obtain ⟨aL, cL, xs, rfl, l1, l2, l3, l4⟩ := limbs_open hL
      obtain ⟨aI, cI, is, rfl, i1, i2, i3⟩ := row_open (fun k hk cs h => ih k (by omega) cs h) hIt
      obtain ⟨aT, cT, ts, rfl, t1, t2, t3⟩ := row_open (fun k hk cs h => ih k (by omega) cs h) hTl
      exact ⟨.mk K N xs B S is ts, aL, cL, aI, cI, aT, cT, rfl, l1, i1, t1, ⟨l4, i3, t3⟩, bounds_i64 hK, l2, l3, hS, i2, t2⟩
end Go.Proofs.YtknbgbeepachgaaDoor

/-
  How many data are left: the document's budget.
-/
namespace Go.Proofs.YtknbgbeepachgaaDoor
open Go.RowKit

def budL (f : Dat → Int → Int → Int) : List Dat → Int → Int → Int
  | [], left, _ => left
  | x :: xs, left, deep => if f x left (deep - 1) < 0 then -1 else budL f xs (f x left (deep - 1)) deep
/-- How many of left data are left behind d, in so many levels; -1: none. -/
def budN : Nat → Dat → Int → Int → Int
  | 0, _, _, _ => -1
  | n + 1, d, left, deep => if left - 1 < 0 ∨ deep ≤ 0 then -1 else if budL (budN n) d.items (left - 1) deep < 0 then -1 else budL (budN n) d.tail (budL (budN n) d.items (left - 1) deep) deep
theorem budL_le {f : Dat → Int → Int → Int} (hf : ∀ x l k, -1 ≤ f x l k ∧ (0 ≤ l → f x l k ≤ l)) : ∀ (ds : List Dat) (left deep : Int), (0 ≤ left → budL f ds left deep ≤ left) ∧ (-1 ≤ left → -1 ≤ budL f ds left deep)
  | [], left, deep => ⟨fun _ => Int.le_refl _, fun h => h⟩
  | x :: xs, left, deep => by
    unfold budL
    have h1 := hf x left (deep - 1)
    have ih := budL_le hf xs (f x left (deep - 1)) deep
    split
    · exact ⟨fun h => by omega, fun _ => Int.le_refl _⟩
    · refine ⟨fun h => ?_, fun _ => ih.2 (by omega)⟩
      have := ih.1 (by omega)
      have := h1.2 h
      omega
theorem budN_le : ∀ (n : Nat) (d : Dat) (left deep : Int), -1 ≤ budN n d left deep ∧ (0 ≤ left → budN n d left deep ≤ left)
  | 0, _, _, _ => ⟨Int.le_refl _, fun h => by simp only [budN]; omega⟩
  | n + 1, d, left, deep => by
    unfold budN
    have ih := budN_le n
    have h1 := budL_le (f := budN n) (fun x l k => ih x l k) d.items (left - 1) deep
    have h2 := budL_le (f := budN n) (fun x l k => ih x l k) d.tail (budL (budN n) d.items (left - 1) deep) deep
    split
    · exact ⟨Int.le_refl _, fun _ => by omega⟩
    · split
      · exact ⟨Int.le_refl _, fun _ => by omega⟩
      · exact ⟨h2.2 (by omega), fun h => by have := h1.1 (by omega); have := h2.1 (by omega); omega⟩
/-- Behind the first so many of a list. -/
theorem budL_split {f : Dat → Int → Int → Int} : ∀ (ds : List Dat) (left deep : Int) (i : Nat), 0 ≤ left → 0 ≤ budL f (ds.take i) left deep → budL f ds left deep = budL f (ds.drop i) (budL f (ds.take i) left deep) deep
  | [], left, deep, i, _, _ => by simp [budL]
  | x :: xs, left, deep, 0, _, _ => by simp [budL]
  | x :: xs, left, deep, i + 1, h0, h => by
    simp only [List.take_succ_cons, List.drop_succ_cons, budL] at h ⊢
    split at h
    · omega
    · rename_i hc
      rw [if_neg hc, if_neg hc]
      exact budL_split xs _ deep i (by omega) h
theorem budL_next {f : Dat → Int → Int → Int} {ds : List Dat} {left deep : Int} {i : Nat} (hi : i < ds.length) (h0 : 0 ≤ left) (h : 0 ≤ budL f (ds.take i) left deep) :
    (f (ds.getD i default) (budL f (ds.take i) left deep) (deep - 1) < 0 → budL f ds left deep = -1) ∧ (0 ≤ f (ds.getD i default) (budL f (ds.take i) left deep) (deep - 1) → budL f (ds.take (i + 1)) left deep = f (ds.getD i default) (budL f (ds.take i) left deep) (deep - 1)) := by
  have e : ds.getD i default = ds[i] := by simp [List.getD_eq_getElem?_getD, hi]
  rw [e]
  constructor
  · intro h1
    rw [budL_split ds left deep i h0 h, List.drop_eq_getElem_cons hi, budL, if_pos h1]
  · intro h1
    rw [budL_split (ds.take (i + 1)) left deep i h0 (by rw [List.take_take, Nat.min_eq_left (by omega)]; exact h), List.take_take, Nat.min_eq_left (by omega)]
    rw [List.drop_take, show i + 1 - i = 1 by omega, List.drop_eq_getElem_cons hi]
    simp only [List.take_succ_cons, List.take_zero, budL]
    rw [if_neg (by omega)]
theorem cells_agg {w : World} {P : Nat → Prop} {n : Nat} {cs : List Value} {d : Dat} (h : IsD w P n cs d) : ∃ aL cL aI cI aT cT, cs = datCells d.kind d.neg aL d.limbs.length cL d.b d.s aI d.items.length cI aT d.tail.length cT := by
  cases n with
  | zero => exact h.elim
  | succ n =>
    obtain ⟨aL, cL, aI, cI, aT, cT, e, _⟩ := h
    exact ⟨aL, cL, aI, cI, aT, cT, e⟩
theorem At7.cells {w : World} {b o : Nat} {k : Int} {neg : Bool} {aL aI aT : Option Addr} {nL cL nI cI nT cT : Nat} {bb : Bool} {s : ByteArray} (h : At7 w b o (datCells k neg aL nL cL bb s aI nI cI aT nT cT)) :
    w.cell? ⟨b, o, none⟩ = some (.int .i64 k) ∧ w.cell? ⟨b, o + 1, none⟩ = some (.bool neg) ∧ w.cell? ⟨b, o + 2, none⟩ = some (.slice aL nL cL) ∧ w.cell? ⟨b, o + 3, none⟩ = some (.bool bb) ∧ w.cell? ⟨b, o + 4, none⟩ = some (.string s) ∧ w.cell? ⟨b, o + 5, none⟩ = some (.slice aI nI cI) ∧ w.cell? ⟨b, o + 6, none⟩ = some (.slice aT nT cT) :=
  ⟨h.2 0 (by omega), h.2 1 (by omega), h.2 2 (by omega), h.2 3 (by omega), h.2 4 (by omega), h.2 5 (by omega), h.2 6 (by omega)⟩
/-- Left before the j-th row. -/
def budAt (n : Nat) (d : Dat) (left deep : Int) : Nat → Int
  | 0 => left - 1
  | 1 => budL (budN n) d.items (left - 1) deep
  | _ => budL (budN n) d.tail (budL (budN n) d.items (left - 1) deep) deep
set_option maxRecDepth 100000 in
set_option maxHeartbeats 1500000 in
theorem budget_calls (P : Nat → Prop) : ∀ (n : Nat) (d : Dat) (cs : List Value) (w : World) (left deep : Int), IsD w P n cs d → -1 ≤ left → left ≤ 4294967296 → -4294967296 ≤ deep → deep ≤ 4294967296 →
    Calls Tryd.prog 19 #[.agg cs.toArray, .int .i64 left, .int .i64 deep] w fun e w' => e = .returned (.int .i64 (budN n d left deep)) ∧ Upd [] w w' := by
  intro n
  induction n with
  | zero => intro d cs w left deep h; exact h.elim
  | succ n ih =>
    intro d cs w left deep h hl1 hl2 hd1 hd2
    have IH := Lib.hid ih
    clear ih
    obtain ⟨aL, cL, aI, cI, aT, cT, rfl, h1, h2, h3, _, h4, h5, h6, h7, h8, h9⟩ := h
    have H2 := Lib.hid h2
    have H3 := Lib.hid h3
    unfold datCells
    clear h1 h2 h3 h4 h5 h7
    by_cases hlo : left - 1 < 0
    · have e0 : budN (n + 1) d left deep = -1 := by unfold budN; rw [if_pos (.inl hlo)]
      rw [e0]
      have hlo' : left < 1 := by omega
      generalize d.kind = kd at *
      generalize d.neg = ng at *
      generalize d.limbs.length = nl at *
      generalize d.b = bb at *
      generalize d.s = ss at *
      clear e0 IH H2 H3
      generalize d.items.length = ni at *
      generalize d.tail.length = nt at *
      have hU := Lib.hid ((Upd.refl [] w).alloc (.cells #[.int .i64 kd, .bool ng, .slice aL nl cL, .bool bb, .string ss, .slice aI ni cI, .slice aT nt cT] 56))
      go_enter Tryd.func19, Tryd.ntmps19
      go_wp2
      go_ret
      exact ⟨rfl, hU.out⟩
    · by_cases hdp : deep ≤ 0
      · have e0 : budN (n + 1) d left deep = -1 := by unfold budN; rw [if_pos (.inr hdp)]
        rw [e0]
        generalize d.kind = kd at *
        generalize d.neg = ng at *
        generalize d.limbs.length = nl at *
        generalize d.b = bb at *
        generalize d.s = ss at *
        clear e0 IH H2 H3
        generalize d.items.length = ni at *
        generalize d.tail.length = nt at *
        have hU := Lib.hid ((Upd.refl [] w).alloc (.cells #[.int .i64 kd, .bool ng, .slice aL nl cL, .bool bb, .string ss, .slice aI ni cI, .slice aT nt cT] 56))
        go_enter Tryd.func19, Tryd.ntmps19
        go_wp2
        go_ret
        exact ⟨rfl, hU.out⟩
      · have hbu : budN (n + 1) d left deep = if budL (budN n) d.items (left - 1) deep < 0 then -1 else budL (budN n) d.tail (budL (budN n) d.items (left - 1) deep) deep := by
          rw [budN, if_neg (by omega)]
        rw [hbu]
        clear hbu
        obtain ⟨R, hR⟩ : ∃ R, R = (if budL (budN n) d.items (left - 1) deep < 0 then -1 else budL (budN n) d.tail (budL (budN n) d.items (left - 1) deep) deep) := ⟨_, rfl⟩
        rw [← hR]
        have hL := budN_le n
        have hrow : ∀ j, j < 2 → ∃ av ds cv, ((j = 0 ∧ Value.slice av ds.length cv = .slice aI d.items.length cI) ∨ (j = 1 ∧ Value.slice av ds.length cv = .slice aT d.tail.length cT)) ∧ RowOf w P (IsD w P n) av ds ∧ ds.length ≤ 35184372088832 ∧
            (0 ≤ budAt n d left deep j → budAt n d left deep (j + 1) = budL (budN n) ds (budAt n d left deep j) deep ∧ (budL (budN n) ds (budAt n d left deep j) deep < 0 → R = -1) ∧ budAt n d left deep j ≤ 4294967296) := by
          intro j hj
          have h1 := budL_le (f := budN n) (fun x l k => hL x l k) d.items (left - 1) deep
          obtain rfl | rfl : j = 0 ∨ j = 1 := by omega
          · exact ⟨_, _, _, .inl ⟨rfl, rfl⟩, H2.out, h8, fun h0 => ⟨rfl, fun h => by rw [hR]; exact if_pos h, by simp only [budAt] at h0 ⊢; omega⟩⟩
          · refine ⟨_, _, _, .inr ⟨rfl, rfl⟩, H3.out, h9, fun h0 => ⟨rfl, fun h => ?_, by simp only [budAt] at h0 ⊢; omega⟩⟩
            simp only [budAt] at h h0
            have h2 := budL_le (f := budN n) (fun x l k => hL x l k) d.tail (budL (budN n) d.items (left - 1) deep) deep
            rw [hR, if_neg (by omega)]
            omega
        have hend : 0 ≤ budAt n d left deep 2 → 0 ≤ budAt n d left deep 1 → R = budAt n d left deep 2 := by
          intro h1 h2
          simp only [budAt] at h1 h2 ⊢
          rw [hR, if_neg (by omega)]
        have h00 : budAt n d left deep 0 = left - 1 := rfl
        have HB := Lib.hid hrow
        have HE := Lib.hid hend
        have HLE := Lib.hid hL
        clear hrow hend hL hR H2 H3 h6 h8 h9
        obtain ⟨bA, hbA⟩ : ∃ bA, bA = budAt n d left deep := ⟨_, rfl⟩
        rw [← hbA] at HB HE h00
        clear hbA
        generalize d.kind = kd at *
        generalize d.neg = ng at *
        generalize d.limbs.length = nl at *
        generalize d.b = bb at *
        generalize d.s = ss at *
        generalize d.items.length = ni at *
        generalize d.tail.length = nt at *
        have hU := Lib.hid ((Upd.refl [] w).alloc (.cells #[.int .i64 kd, .bool ng, .slice aL nl cL, .bool bb, .string ss, .slice aI ni cI, .slice aT nt cT] 56))
        go_enter Tryd.func19, Tryd.ntmps19
        go_wp2_with fail
        obtain ⟨W1, hW1⟩ : ∃ W1, W1 = w.alloc (.cells #[.int .i64 kd, .bool ng, .slice aL nl cL, .bool bb, .string ss, .slice aI ni cI, .slice aT nt cT] 56) := ⟨_, rfl⟩
        rw [← hW1] at hU ⊢
        clear hW1
        have i0 : ∀ w, (Instr.index 78 (.agg #[.slice aI ni cI, .slice aT nt cT]) (.int .i64 0)).run Tryd.prog w = .ok (.slice aI ni cI) w := fun _ => by kernel_rfl
        have i1 : ∀ w, (Instr.index 78 (.agg #[.slice aI ni cI, .slice aT nt cT]) (.int .i64 1)).run Tryd.prog w = .ok (.slice aT nt cT) w := fun _ => by kernel_rfl
        go_loopw [1, 24] (fun l i wr => ∃ j : Nat, j ≤ 2 ∧ i = .int .i64 j ∧ l = .int .i64 (bA j) ∧ Hid (∀ k, k ≤ j → 0 ≤ bA k) ∧ Hid (Upd [] w wr)) (fun _ i _ => 2 - (intOf i).toNat)
        case atStart => exact ⟨0, by omega, rfl, by rw [h00], fun k hk => by rw [show k = 0 by omega, h00]; omega, hU⟩
        case round =>
          obtain ⟨j, hj, rfl, rfl, hnn, hUr⟩ := hrel
          by_cases hj2 : j < 2
          · obtain ⟨av, ds, cv, hcase, hds, hdl, hst⟩ := HB.out j hj2
            obtain ⟨hs1, hs2, hs3⟩ := hst (hnn.out j (Nat.le_refl _))
            have hix : ∀ w, (Instr.index 78 (.agg #[.slice aI ni cI, .slice aT nt cT]) (.int .i64 j)).run Tryd.prog w = .ok (.slice av ds.length cv) w := by
              rcases hcase with ⟨rfl, e⟩ | ⟨rfl, e⟩
              · rw [e]; exact i0
              · rw [e]; exact i1
            obtain ⟨m, hm⟩ : ∃ m, m = ds.length := ⟨_, rfl⟩
            rw [← hm] at hix hdl
            have HN := hnn
            have hj2' : (j : Int) < 2 := by omega
            have hj3' : decide ((j : Int) < 2) = true := decide_eq_true hj2'
            have hb0 : 0 ≤ bA j := hnn.out j (Nat.le_refl _)
            have HDS := Lib.hid hds
            have HS1 := Lib.hid hs1
            have HS2 := Lib.hid hs2
            clear hnn hcase hs1 hs2 hds hst i0 i1
            go_wp2_with fail
            go_loopw [1, 29] (fun l i wr => ∃ k : Nat, k ≤ m ∧ i = .int .i64 k ∧ l = .int .i64 (budL (budN n) (ds.take k) (bA j) deep) ∧ Hid (0 ≤ budL (budN n) (ds.take k) (bA j) deep) ∧ Hid (Upd [] w wr)) (fun _ i _ => m - (intOf i).toNat)
            case atStart => exact ⟨0, by omega, rfl, rfl, hb0, hUr⟩
            case round =>
              obtain ⟨k, hk, rfl, rfl, hk0, hUk⟩ := hrel
              by_cases hlt : k < m
              · have hkl : k < ds.length := by rw [← hm]; exact hlt
                obtain ⟨b, o, cs, rfl, _, hat, hd0⟩ := HDS.out k hkl
                have hd1 := hd0.upd hUk.out
                obtain ⟨yL, zL, yI, zI, yT, zT, rfl⟩ := cells_agg hd1
                obtain ⟨q0, q1, q2, q3, q4, q5, q6⟩ := (hat.upd hUk.out (by simp)).cells
                have hnx := budL_next (f := budN n) hkl hb0 hk0.out
                have hle := (budL_le (f := budN n) (fun x l k => HLE.out x l k) (ds.take k) (bA j) deep).1 hb0
                obtain ⟨lk, hlk⟩ : ∃ lk, lk = budL (budN n) (ds.take k) (bA j) deep := ⟨_, rfl⟩
                rw [← hlk] at hnx hle hk0
                have hlk2 : lk ≤ 4294967296 := by omega
                have HLK := Lib.hid hlk
                have HNX := Lib.hid hnx
                obtain ⟨x, hx⟩ : ∃ x, x = ds.getD k default := ⟨_, rfl⟩
                rw [← hx] at HNX hd1 q0 q1 q2 q3 q4 q5 q6
                clear hnx hx hd0 hat
                have hU2 := Lib.hid (hUk.out.alloc (.cells #[.int .i64 x.kind, .bool x.neg, .slice yL x.limbs.length zL, .bool x.b, .string x.s, .slice yI x.items.length zI, .slice yT x.tail.length zT] 56))
                have hC := Lib.hid (IH.out x _ (wr.alloc (.cells #[.int .i64 x.kind, .bool x.neg, .slice yL x.limbs.length zL, .bool x.b, .string x.s, .slice yI x.items.length zI, .slice yT x.tail.length zT] 56)) lk (deep - 1) (hd1.upd ((Upd.refl [] wr).alloc _)) (by have := hk0.out; omega) hlk2 (by omega) (by omega))
                unfold datCells at hC
                rw [← hlk]
                clear hd1 hlk
                generalize x.kind = kd9 at *
                generalize x.neg = ng9 at *
                generalize x.limbs.length = nl9 at *
                generalize x.b = bb9 at *
                generalize x.s = ss9 at *
                generalize x.items.length = ni9 at *
                generalize x.tail.length = nt9 at *
                go_wp2_with fail
                refine hC.out.mono ?_
                rintro e w2 ⟨rfl, hu2⟩
                have hU3 := Lib.hid (hU2.out.then hu2)
                have hr1 := (HLE.out x lk (deep - 1)).1
                clear hC hU2 hu2 q0 q1 q2 q3 q4 q5 q6
                by_cases hneg : budN n x lk (deep - 1) < 0
                · have hans := HS2.out (by rw [HNX.out.1 hneg]; decide)
                  clear HNX
                  generalize budN n x lk (deep - 1) = rs at *
                  go_wp2
                  go_ret
                  refine ⟨?_, hU3.out⟩
                  rw [hans]
                  rfl
                · have hnx := HNX.out.2 (by omega)
                  have HX := Lib.hid hnx
                  clear HNX hnx
                  generalize budN n x lk (deep - 1) = rs at *
                  go_wp2
                  go_roundw
                  case rel => exact ⟨k + 1, by omega, by go_num, by rw [HX.out], by rw [HX.out]; exact hneg, hU3⟩
                  case measure => simp [intOf]; omega
              · have hkm : k = m := by omega
                subst hkm
                rw [hm, List.take_length] at hk0
                have hsx := HS1.out
                rw [hm, List.take_length, ← hsx]
                rw [← hsx] at hk0
                clear hsx
                go_wp2
                go_roundw
                case rel => exact ⟨j + 1, by omega, by go_num, rfl, fun i hi => by
                  by_cases h : i = j + 1
                  · rw [h]; exact hk0.out
                  · exact HN.out i (by omega), hUk⟩
                case measure => simp [intOf]; omega
          · have hj3 : j = 2 := by omega
            subst hj3
            have hR := HE.out (hnn.out 2 (by omega)) (hnn.out 1 (by omega))
            go_wp2
            go_ret
            refine ⟨?_, hUr.out⟩
            rw [hR]
            rfl
end Go.Proofs.YtknbgbeepachgaaDoor

/-
  datum.within: the same law.
-/
namespace Go.Proofs.YtknbgbeepachgaaDoor
open Go.RowKit

set_option maxRecDepth 100000 in
set_option maxHeartbeats 1500000 in
theorem within_calls (P : Nat → Prop) : ∀ (n : Nat) (d : Dat) (cs : List Value) (w : World) (left deep : Int), IsD w P n cs d → -1 ≤ left → left ≤ 4294967296 → -4294967296 ≤ deep → deep ≤ 4294967296 →
    Calls Tryd.prog 57 #[.agg cs.toArray, .int .i64 left, .int .i64 deep] w fun e w' => e = .returned (.int .i64 (budN n d left deep)) ∧ Upd [] w w' := by
  intro n
  induction n with
  | zero => intro d cs w left deep h; exact h.elim
  | succ n ih =>
    intro d cs w left deep h hl1 hl2 hd1 hd2
    have IH := Lib.hid ih
    clear ih
    obtain ⟨aL, cL, aI, cI, aT, cT, rfl, h1, h2, h3, _, h4, h5, h6, h7, h8, h9⟩ := h
    have H2 := Lib.hid h2
    have H3 := Lib.hid h3
    unfold datCells
    clear h1 h2 h3 h4 h5 h7
    by_cases hlo : left - 1 < 0
    · have e0 : budN (n + 1) d left deep = -1 := by unfold budN; rw [if_pos (.inl hlo)]
      rw [e0]
      have hlo' : left < 1 := by omega
      generalize d.kind = kd at *
      generalize d.neg = ng at *
      generalize d.limbs.length = nl at *
      generalize d.b = bb at *
      generalize d.s = ss at *
      clear e0 IH H2 H3
      generalize d.items.length = ni at *
      generalize d.tail.length = nt at *
      have hU := Lib.hid ((Upd.refl [] w).alloc (.cells #[.int .i64 kd, .bool ng, .slice aL nl cL, .bool bb, .string ss, .slice aI ni cI, .slice aT nt cT] 56))
      go_enter Tryd.func57, Tryd.ntmps57
      go_wp2
      go_ret
      exact ⟨rfl, hU.out⟩
    · by_cases hdp : deep ≤ 0
      · have e0 : budN (n + 1) d left deep = -1 := by unfold budN; rw [if_pos (.inr hdp)]
        rw [e0]
        generalize d.kind = kd at *
        generalize d.neg = ng at *
        generalize d.limbs.length = nl at *
        generalize d.b = bb at *
        generalize d.s = ss at *
        clear e0 IH H2 H3
        generalize d.items.length = ni at *
        generalize d.tail.length = nt at *
        have hU := Lib.hid ((Upd.refl [] w).alloc (.cells #[.int .i64 kd, .bool ng, .slice aL nl cL, .bool bb, .string ss, .slice aI ni cI, .slice aT nt cT] 56))
        go_enter Tryd.func57, Tryd.ntmps57
        go_wp2
        go_ret
        exact ⟨rfl, hU.out⟩
      · have hbu : budN (n + 1) d left deep = if budL (budN n) d.items (left - 1) deep < 0 then -1 else budL (budN n) d.tail (budL (budN n) d.items (left - 1) deep) deep := by
          rw [budN, if_neg (by omega)]
        rw [hbu]
        clear hbu
        obtain ⟨R, hR⟩ : ∃ R, R = (if budL (budN n) d.items (left - 1) deep < 0 then -1 else budL (budN n) d.tail (budL (budN n) d.items (left - 1) deep) deep) := ⟨_, rfl⟩
        rw [← hR]
        have hL := budN_le n
        have hrow : ∀ j, j < 2 → ∃ av ds cv, ((j = 0 ∧ Value.slice av ds.length cv = .slice aI d.items.length cI) ∨ (j = 1 ∧ Value.slice av ds.length cv = .slice aT d.tail.length cT)) ∧ RowOf w P (IsD w P n) av ds ∧ ds.length ≤ 35184372088832 ∧
            (0 ≤ budAt n d left deep j → budAt n d left deep (j + 1) = budL (budN n) ds (budAt n d left deep j) deep ∧ (budL (budN n) ds (budAt n d left deep j) deep < 0 → R = -1) ∧ budAt n d left deep j ≤ 4294967296) := by
          intro j hj
          have h1 := budL_le (f := budN n) (fun x l k => hL x l k) d.items (left - 1) deep
          obtain rfl | rfl : j = 0 ∨ j = 1 := by omega
          · exact ⟨_, _, _, .inl ⟨rfl, rfl⟩, H2.out, h8, fun h0 => ⟨rfl, fun h => by rw [hR]; exact if_pos h, by simp only [budAt] at h0 ⊢; omega⟩⟩
          · refine ⟨_, _, _, .inr ⟨rfl, rfl⟩, H3.out, h9, fun h0 => ⟨rfl, fun h => ?_, by simp only [budAt] at h0 ⊢; omega⟩⟩
            simp only [budAt] at h h0
            have h2 := budL_le (f := budN n) (fun x l k => hL x l k) d.tail (budL (budN n) d.items (left - 1) deep) deep
            rw [hR, if_neg (by omega)]
            omega
        have hend : 0 ≤ budAt n d left deep 2 → 0 ≤ budAt n d left deep 1 → R = budAt n d left deep 2 := by
          intro h1 h2
          simp only [budAt] at h1 h2 ⊢
          rw [hR, if_neg (by omega)]
        have h00 : budAt n d left deep 0 = left - 1 := rfl
        have HB := Lib.hid hrow
        have HE := Lib.hid hend
        have HLE := Lib.hid hL
        clear hrow hend hL hR H2 H3 h6 h8 h9
        obtain ⟨bA, hbA⟩ : ∃ bA, bA = budAt n d left deep := ⟨_, rfl⟩
        rw [← hbA] at HB HE h00
        clear hbA
        generalize d.kind = kd at *
        generalize d.neg = ng at *
        generalize d.limbs.length = nl at *
        generalize d.b = bb at *
        generalize d.s = ss at *
        generalize d.items.length = ni at *
        generalize d.tail.length = nt at *
        have hU := Lib.hid ((Upd.refl [] w).alloc (.cells #[.int .i64 kd, .bool ng, .slice aL nl cL, .bool bb, .string ss, .slice aI ni cI, .slice aT nt cT] 56))
        go_enter Tryd.func57, Tryd.ntmps57
        go_wp2_with fail
        obtain ⟨W1, hW1⟩ : ∃ W1, W1 = w.alloc (.cells #[.int .i64 kd, .bool ng, .slice aL nl cL, .bool bb, .string ss, .slice aI ni cI, .slice aT nt cT] 56) := ⟨_, rfl⟩
        rw [← hW1] at hU ⊢
        clear hW1
        have i0 : ∀ w, (Instr.index 78 (.agg #[.slice aI ni cI, .slice aT nt cT]) (.int .i64 0)).run Tryd.prog w = .ok (.slice aI ni cI) w := fun _ => by kernel_rfl
        have i1 : ∀ w, (Instr.index 78 (.agg #[.slice aI ni cI, .slice aT nt cT]) (.int .i64 1)).run Tryd.prog w = .ok (.slice aT nt cT) w := fun _ => by kernel_rfl
        go_loopw [1, 23] (fun l i wr => ∃ j : Nat, j ≤ 2 ∧ i = .int .i64 j ∧ l = .int .i64 (bA j) ∧ Hid (∀ k, k ≤ j → 0 ≤ bA k) ∧ Hid (Upd [] w wr)) (fun _ i _ => 2 - (intOf i).toNat)
        case atStart => exact ⟨0, by omega, rfl, by rw [h00], fun k hk => by rw [show k = 0 by omega, h00]; omega, hU⟩
        case round =>
          obtain ⟨j, hj, rfl, rfl, hnn, hUr⟩ := hrel
          by_cases hj2 : j < 2
          · obtain ⟨av, ds, cv, hcase, hds, hdl, hst⟩ := HB.out j hj2
            obtain ⟨hs1, hs2, hs3⟩ := hst (hnn.out j (Nat.le_refl _))
            have hix : ∀ w, (Instr.index 78 (.agg #[.slice aI ni cI, .slice aT nt cT]) (.int .i64 j)).run Tryd.prog w = .ok (.slice av ds.length cv) w := by
              rcases hcase with ⟨rfl, e⟩ | ⟨rfl, e⟩
              · rw [e]; exact i0
              · rw [e]; exact i1
            obtain ⟨m, hm⟩ : ∃ m, m = ds.length := ⟨_, rfl⟩
            rw [← hm] at hix hdl
            have HN := hnn
            have hj2' : (j : Int) < 2 := by omega
            have hj3' : decide ((j : Int) < 2) = true := decide_eq_true hj2'
            have hb0 : 0 ≤ bA j := hnn.out j (Nat.le_refl _)
            have HDS := Lib.hid hds
            have HS1 := Lib.hid hs1
            have HS2 := Lib.hid hs2
            clear hnn hcase hs1 hs2 hds hst i0 i1
            go_wp2_with fail
            go_loopw [1, 28] (fun l i wr => ∃ k : Nat, k ≤ m ∧ i = .int .i64 k ∧ l = .int .i64 (budL (budN n) (ds.take k) (bA j) deep) ∧ Hid (0 ≤ budL (budN n) (ds.take k) (bA j) deep) ∧ Hid (Upd [] w wr)) (fun _ i _ => m - (intOf i).toNat)
            case atStart => exact ⟨0, by omega, rfl, rfl, hb0, hUr⟩
            case round =>
              obtain ⟨k, hk, rfl, rfl, hk0, hUk⟩ := hrel
              by_cases hlt : k < m
              · have hkl : k < ds.length := by rw [← hm]; exact hlt
                obtain ⟨b, o, cs, rfl, _, hat, hd0⟩ := HDS.out k hkl
                have hd1 := hd0.upd hUk.out
                obtain ⟨yL, zL, yI, zI, yT, zT, rfl⟩ := cells_agg hd1
                obtain ⟨q0, q1, q2, q3, q4, q5, q6⟩ := (hat.upd hUk.out (by simp)).cells
                have hnx := budL_next (f := budN n) hkl hb0 hk0.out
                have hle := (budL_le (f := budN n) (fun x l k => HLE.out x l k) (ds.take k) (bA j) deep).1 hb0
                obtain ⟨lk, hlk⟩ : ∃ lk, lk = budL (budN n) (ds.take k) (bA j) deep := ⟨_, rfl⟩
                rw [← hlk] at hnx hle hk0
                have hlk2 : lk ≤ 4294967296 := by omega
                have HLK := Lib.hid hlk
                have HNX := Lib.hid hnx
                obtain ⟨x, hx⟩ : ∃ x, x = ds.getD k default := ⟨_, rfl⟩
                rw [← hx] at HNX hd1 q0 q1 q2 q3 q4 q5 q6
                clear hnx hx hd0 hat
                have hU2 := hUk
                have hC := Lib.hid (IH.out x _ wr lk (deep - 1) hd1 (by have := hk0.out; omega) hlk2 (by omega) (by omega))
                unfold datCells at hC
                rw [← hlk]
                clear hd1 hlk
                generalize x.kind = kd9 at *
                generalize x.neg = ng9 at *
                generalize x.limbs.length = nl9 at *
                generalize x.b = bb9 at *
                generalize x.s = ss9 at *
                generalize x.items.length = ni9 at *
                generalize x.tail.length = nt9 at *
                go_wp2_with fail
                refine hC.out.mono ?_
                rintro e w2 ⟨rfl, hu2⟩
                have hU3 := Lib.hid (hU2.out.then hu2)
                have hr1 := (HLE.out x lk (deep - 1)).1
                clear hC hU2 hu2 q0 q1 q2 q3 q4 q5 q6
                by_cases hneg : budN n x lk (deep - 1) < 0
                · have hans := HS2.out (by rw [HNX.out.1 hneg]; decide)
                  clear HNX
                  generalize budN n x lk (deep - 1) = rs at *
                  go_wp2
                  go_ret
                  refine ⟨?_, hU3.out⟩
                  rw [hans]
                  rfl
                · have hnx := HNX.out.2 (by omega)
                  have HX := Lib.hid hnx
                  clear HNX hnx
                  generalize budN n x lk (deep - 1) = rs at *
                  go_wp2
                  go_roundw
                  case rel => exact ⟨k + 1, by omega, by go_num, by rw [HX.out], by rw [HX.out]; exact hneg, hU3⟩
                  case measure => simp [intOf]; omega
              · have hkm : k = m := by omega
                subst hkm
                rw [hm, List.take_length] at hk0
                have hsx := HS1.out
                rw [hm, List.take_length, ← hsx]
                rw [← hsx] at hk0
                clear hsx
                go_wp2
                go_roundw
                case rel => exact ⟨j + 1, by omega, by go_num, rfl, fun i hi => by
                  by_cases h : i = j + 1
                  · rw [h]; exact hk0.out
                  · exact HN.out i (by omega), hUk⟩
                case measure => simp [intOf]; omega
          · have hj3 : j = 2 := by omega
            subst hj3
            have hR := HE.out (hnn.out 2 (by omega)) (hnn.out 1 (by omega))
            go_wp2
            go_ret
            refine ⟨?_, hUr.out⟩
            rw [hR]
            rfl
end Go.Proofs.YtknbgbeepachgaaDoor
