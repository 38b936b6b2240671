/-
  Data in memory.
-/
import Derived.Test.YtknbgbeepachgaaRows
import Derived.Test.YtknbgbeepachgaaSized
namespace Go.Proofs.Ytknbgbeepachgaa
open Go.RowKit

/-- A datum: its kind, its number's sign and limbs, its truth, its text, its items and its tail. -/
inductive Dat where
  | mk (kind : Int) (neg : Bool) (limbs : List Int) (b : Bool) (s : ByteArray) (items tail : List Dat)
instance : Inhabited Dat := ⟨.mk 0 false [] false ByteArray.empty [] []⟩
def Dat.kind : Dat → Int | .mk k _ _ _ _ _ _ => k
def Dat.neg : Dat → Bool | .mk _ n _ _ _ _ _ => n
def Dat.limbs : Dat → List Int | .mk _ _ l _ _ _ _ => l
def Dat.b : Dat → Bool | .mk _ _ _ b _ _ _ => b
def Dat.s : Dat → ByteArray | .mk _ _ _ _ s _ _ => s
def Dat.items : Dat → List Dat | .mk _ _ _ _ _ i _ => i
def Dat.tail : Dat → List Dat | .mk _ _ _ _ _ _ t => t

/-- The seven cells of a datum. -/
def datCells (kind : Int) (neg : Bool) (aL : Option Addr) (nL cL : Nat) (b : Bool) (s : ByteArray) (aI : Option Addr) (nI cI : Nat) (aT : Option Addr) (nT cT : Nat) : List Value :=
  [.int .i64 kind, .bool neg, .slice aL nL cL, .bool b, .string s, .slice aI nI cI, .slice aT nT cT]
/-- Seven cells from here on. -/
def At7 (w : World) (b o : Nat) (cs : List Value) : Prop := cs.length = 7 ∧ ∀ j, j < 7 → w.cell? ⟨b, o + j, none⟩ = cs[j]?
/-- Limbs in blocks that P lets in. -/
def LimbsOf (w : World) (P : Nat → Prop) (a : Option Addr) (xs : List Int) : Prop :=
  ∀ i, i < xs.length → ∃ b o, a = some ⟨b, o, none⟩ ∧ P b ∧ w.cell? ⟨b, o + i, none⟩ = some (.int .u32 (xs.getD i 0))
/-- A row of data, each as R says, in blocks that P lets in. -/
def RowOf (w : World) (P : Nat → Prop) (R : List Value → Dat → Prop) (a : Option Addr) (ds : List Dat) : Prop :=
  ∀ i, i < ds.length → ∃ b o cs, a = some ⟨b, o, none⟩ ∧ P b ∧ At7 w b (o + i * 7) cs ∧ R cs (ds.getD i default)
/-- These cells are this datum, in so many levels, in blocks that P lets in. -/
def IsD (w : World) (P : Nat → Prop) : Nat → List Value → Dat → Prop
  | 0, _, _ => False
  | n + 1, cs, d => ∃ aL cL aI cI aT cT, cs = datCells d.kind d.neg aL d.limbs.length cL d.b d.s aI d.items.length cI aT d.tail.length cT ∧
      LimbsOf w P aL d.limbs ∧ RowOf w P (IsD w P n) aI d.items ∧ RowOf w P (IsD w P n) aT d.tail ∧ (d.limbs.length ≤ cL ∧ d.items.length ≤ cI ∧ d.tail.length ≤ cT) ∧
      (-9223372036854775808 ≤ d.kind ∧ d.kind ≤ 9223372036854775807) ∧ (∀ x ∈ d.limbs, 0 ≤ x ∧ x < 4294967296) ∧ d.limbs.length ≤ 35184372088832 ∧ d.s.size ≤ 140737488351232 ∧ d.items.length ≤ 35184372088832 ∧ d.tail.length ≤ 35184372088832
theorem LimbsOf.sli {w : World} {P : Nat → Prop} {a : Option Addr} {xs : List Int} (h : LimbsOf w P a xs) : SlI w .u32 a xs := by
  intro i hi
  obtain ⟨b, o, e, _, hc⟩ := h i hi
  exact ⟨b, o, e, hc⟩
theorem At7.upd {w w' : World} {b o : Nat} {cs : List Value} {S : List Nat} (h : At7 w b o cs) (hu : Upd S w w') (hS : b ∉ S) : At7 w' b o cs := by
  refine ⟨h.1, fun j hj => ?_⟩
  have hc := h.2 j hj
  rw [List.getElem?_eq_getElem (by rw [h.1]; exact hj)] at hc ⊢
  exact hu.cell hc hS
theorem At7.lt {w : World} {b o : Nat} {cs : List Value} (h : At7 w b o cs) : b < w.heap.size := by
  have hc := h.2 0 (by omega)
  rw [List.getElem?_eq_getElem (by rw [h.1]; omega)] at hc
  exact World.block_lt_of_cell? w _ hc
/-- What holds of data stays where their cells stay, under more blocks, and one level up. -/
theorem IsD.map {w w' : World} {P Q : Nat → Prop} {m : Nat} (hP : ∀ b, b < w.heap.size → P b → Q b) (hc : ∀ b o v, P b → w.cell? ⟨b, o, none⟩ = some v → w'.cell? ⟨b, o, none⟩ = some v) : ∀ {n : Nat} {cs : List Value} {d : Dat}, IsD w P n cs d → IsD w' Q (n + m) cs d
  | 0, _, _, h => h.elim
  | n + 1, cs, d, h => by
    obtain ⟨aL, cL, aI, cI, aT, cT, e, h1, h2, h3, h4⟩ := h
    have hrow : ∀ {a : Option Addr} {ds : List Dat}, RowOf w P (IsD w P n) a ds → RowOf w' Q (IsD w' Q (n + m)) a ds := by
      intro a ds h i hi
      obtain ⟨b, o, cs, e, hp, ha, hr⟩ := h i hi
      refine ⟨b, o, cs, e, hP b ha.lt hp, ⟨ha.1, fun j hj => ?_⟩, IsD.map hP hc hr⟩
      have h' := ha.2 j hj
      rw [List.getElem?_eq_getElem (by rw [ha.1]; exact hj)] at h' ⊢
      exact hc _ _ _ hp h'
    rw [show n + 1 + m = (n + m) + 1 by omega]
    refine ⟨aL, cL, aI, cI, aT, cT, e, fun i hi => ?_, hrow h2, hrow h3, h4⟩
    obtain ⟨b, o, e, hp, h'⟩ := h1 i hi
    exact ⟨b, o, e, hP b (World.block_lt_of_cell? w _ h') hp, hc _ _ _ hp h'⟩
theorem IsD.updS {w w' : World} {P : Nat → Prop} {S : List Nat} {n : Nat} {cs : List Value} {d : Dat} (h : IsD w P n cs d) (hu : Upd S w w') (hS : ∀ b, P b → b ∉ S) : IsD w' P n cs d :=
  IsD.map (m := 0) (fun _ _ hp => hp) (fun b _ _ hp hc => hu.cell hc (hS b hp)) h
theorem IsD.upd {w w' : World} {P : Nat → Prop} {n : Nat} {cs : List Value} {d : Dat} (h : IsD w P n cs d) (hu : Upd [] w w') : IsD w' P n cs d := h.updS hu (by simp)
theorem IsD.mono {w : World} {P Q : Nat → Prop} {n : Nat} {cs : List Value} {d : Dat} (h : IsD w P n cs d) (hP : ∀ b, b < w.heap.size → P b → Q b) : IsD w Q n cs d :=
  IsD.map (m := 0) hP (fun _ _ _ _ hc => hc) h
theorem IsD.more {w : World} {P : Nat → Prop} {n : Nat} {cs : List Value} {d : Dat} (h : IsD w P n cs d) (m : Nat) : IsD w P (n + m) cs d :=
  IsD.map (fun _ _ hp => hp) (fun _ _ _ _ hc => hc) h
theorem RowOf.map {w w' : World} {P Q : Nat → Prop} {R R' : List Value → Dat → Prop} {a : Option Addr} {ds : List Dat} (h : RowOf w P R a ds) (hP : ∀ b, b < w.heap.size → P b → Q b) (hc : ∀ b o v, P b → w.cell? ⟨b, o, none⟩ = some v → w'.cell? ⟨b, o, none⟩ = some v) (hR : ∀ cs d, R cs d → R' cs d) : RowOf w' Q R' a ds := by
  intro i hi
  obtain ⟨b, o, cs, e, hp, ha, hr⟩ := h i hi
  refine ⟨b, o, cs, e, hP b ha.lt hp, ⟨ha.1, fun j hj => ?_⟩, hR _ _ hr⟩
  have h' := ha.2 j hj
  rw [List.getElem?_eq_getElem (by rw [ha.1]; exact hj)] at h' ⊢
  exact hc _ _ _ hp h'
/-- Data in blocks that are there. -/
abbrev Old (w : World) (b : Nat) : Prop := b < w.heap.size
theorem IsD.old {w : World} {P : Nat → Prop} {n : Nat} {cs : List Value} {d : Dat} (h : IsD w P n cs d) : IsD w (Old w) n cs d := h.mono fun _ hb _ => hb

/-! ### Reading an argument -/
theorem cells_dat : Try.prog.cellsOf 27 = 7 := by kernel_rfl
theorem bytes_dat : 4 ≤ Try.prog.bytesOf 27 := by decide +kernel
theorem bytes_u32 : Try.prog.bytesOf 61 = 4 := by kernel_rfl
theorem cells_u32 : Try.prog.cellsOf 61 = 1 := by kernel_rfl
theorem limbs_open {w : World} {n : Nat} {v : Value} (h : RdS Try.prog w n 22 [v]) : ∃ a c xs, v = .slice a xs.length c ∧ LimbsOf w (Old w) a xs ∧ (∀ x ∈ xs, 0 ≤ x ∧ x < 4294967296) ∧ xs.length ≤ 35184372088832 ∧ xs.length ≤ c := by
  rcases h.slice Try.underlying22 (by rw [cells_u32]; omega) with e | ⟨a', len', cap', m, _, e, h2, h3, h5, h4⟩
  · injection e with e _
    subst e
    exact ⟨none, 0, [], rfl, fun i hi => absurd hi (by simp), by simp, by simp, by simp⟩
  · injection e with e _
    subst e
    rw [bytes_u32] at h5
    obtain ⟨xs, x1, x2, x3, x4⟩ := RdN.ints Try.underlying22 Try.underlying61 cells_u32 h.rd
    subst x1
    refine ⟨_, _, xs, rfl, fun i hi => ?_, fun x hx => ?_, by omega, h2⟩
    · obtain ⟨b, o, e, hc⟩ := x2 i hi
      exact ⟨b, o, e, World.block_lt_of_cell? w _ hc, hc⟩
    have := bounds_u32 (x3 x hx)
    omega
theorem row_open {w : World} {m : Nat} {v : Value} (ih : ∀ k, k < m → ∀ cs, RdS Try.prog w k 27 cs → ∃ d, IsD w (Old w) k cs d) (h : RdS Try.prog w m 25 [v]) :
    ∃ a c ds, v = .slice a ds.length c ∧ RowOf w (Old w) (IsD w (Old w) m) a ds ∧ ds.length ≤ 35184372088832 ∧ ds.length ≤ c := by
  rcases h.slice Try.underlying25 (by rw [cells_dat]; omega) with e | ⟨a', len, cap, k, hk, e, h2, h3, h5, h4⟩
  · injection e with e _
    subst e
    exact ⟨none, 0, [], rfl, fun i hi => absurd hi (by simp), by simp, by simp⟩
  · injection e with e _
    subst e
    rw [cells_dat] at h4
    have hcap : cap * 4 ≤ cap * Try.prog.bytesOf 27 := Nat.mul_le_mul_left cap bytes_dat
    have hx : ∀ i, i < len → ∃ d : Dat, ∃ b o cs, (some a' : Option Addr) = some ⟨b, o, none⟩ ∧ At7 w b (o + i * 7) cs ∧ IsD w (Old w) m cs d := by
      intro i hi
      obtain ⟨b, o, cs, e, hl, hc, hr⟩ := h4 i (by omega)
      obtain ⟨d, hd⟩ := ih k (by omega) cs hr
      exact ⟨d, b, o, cs, by rw [e], ⟨hl, hc⟩, by rw [hk]; exact hd.more 1⟩
    obtain ⟨f, hf⟩ := Deep.choose_lt hx
    refine ⟨some a', cap, (List.range len).map f, by simp, fun i hi => ?_, by simp; omega, by simp; omega⟩
    have hi' : i < len := by simpa using hi
    have e2 : ((List.range len).map f).getD i default = f i := by simp [List.getD_eq_getElem?_getD, hi']
    rw [e2]
    obtain ⟨b, o, cs, x1, x2, x3⟩ := hf i hi'
    exact ⟨b, o, cs, x1, x2.lt, x2, x3⟩
set_option maxRecDepth 100000 in
theorem dat_open {w : World} : ∀ (n : Nat) (cs : List Value), RdS Try.prog w n 27 cs → ∃ d, IsD w (Old w) n cs d := by
  intro n
  induction n using Nat.strongRecOn with
  | _ n ih =>
    intro cs h
    obtain ⟨m, rfl, hl, hf⟩ := h.struct Try.underlying27
    rw [cells_dat] at hl
    match cs, hl with
    | [x0, x1, x2, x3, x4, x5, x6], _ =>
      obtain ⟨K, e0, hK⟩ := RdS.int Try.underlying3 (hf 0 _ rfl)
      have hI := hf 1 _ rfl
      obtain ⟨B, e3⟩ := RdS.bool Try.underlying4 (hf 2 _ rfl)
      obtain ⟨S, e4, hS⟩ := RdS.str Try.underlying9 (hf 3 _ rfl)
      have hIt := hf 4 _ rfl
      have hTl := hf 5 _ rfl
      have c1 : Program.cellsOf Try.prog 3 = 1 := by kernel_rfl
      have c2 : Program.cellsOf Try.prog 4 = 1 := by kernel_rfl
      have c3 : Program.cellsOf Try.prog 9 = 1 := by kernel_rfl
      have c4 : Program.cellsOf Try.prog 25 = 1 := by kernel_rfl
      have c5 : Program.cellsOf Try.prog 24 = 2 := by kernel_rfl
      have c6 : Program.cellsOf Try.prog 22 = 1 := by kernel_rfl
      simp [c1] at e0
      simp [c2] at e3
      simp [c3] at e4
      simp [c4] at hIt hTl
      simp [c5] at hI
      subst e0; subst e3; subst e4
      obtain ⟨m2, hm2, _, hg⟩ := hI.struct Try.underlying24
      obtain ⟨N, f0⟩ := RdS.bool Try.underlying4 (hg 0 _ rfl)
      have hL := hg 1 _ rfl
      simp [c2] at f0
      simp [c6] at hL
      subst f0
      obtain ⟨aL, cL, xs, rfl, l1, l2, l3, l4⟩ := limbs_open hL
      obtain ⟨aI, cI, is, rfl, i1, i2, i3⟩ := row_open (fun k hk cs h => ih k (by omega) cs h) hIt
      obtain ⟨aT, cT, ts, rfl, t1, t2, t3⟩ := row_open (fun k hk cs h => ih k (by omega) cs h) hTl
      exact ⟨.mk K N xs B S is ts, aL, cL, aI, cI, aT, cT, rfl, l1, i1, t1, ⟨l4, i3, t3⟩, bounds_i64 hK, l2, l3, hS, i2, t2⟩
end Go.Proofs.Ytknbgbeepachgaa
