/-
  Texts of this claim, merged: ChQ, ChR. Lemmas and contracts; no conditions of our own.
-/
import Derived.Test.YtknbgbeepachgaaDoorG14
import Derived.Deep.LoopGhost

/-
  How a block is looked at: plain lemmas.
-/
namespace Go.Proofs.YtknbgbeepachgaaDoor
open Go.RowKit

def loopF (c : CodeV) (n : Nat) (b : BlkV) (hi : Int) : Nat → Flow → Int × Flow
  | 0, f => (-1, f)
  | g + 1, f => match f.opn with
    | [] => (-1, f)
    | i :: rest => if (oneF c n b hi { f with opn := rest } i).1 then loopF c n b hi g (oneF c n b hi { f with opn := rest } i).2 else (i, (oneF c n b hi { f with opn := rest } i).2)
def blockF (c : CodeV) (n : Nat) (b : BlkV) (hi : Int) (f : Flow) : Int × Flow :=
  if b.sl < b.pr ∨ (b.rest = true ∧ b.pr = 0) then (b.lo, f) else loopF c n b hi (c.ins.length + 1) (comeF b.lo hi f b.lo 0)
/-- How much there is to do at most. -/
def muF (f : Flow) : Nat := f.deep.countP (· < 0) + f.opn.length
structure FInv (lo hi : Int) (nD : Nat) (f : Flow) : Prop where
  len : f.deep.length = nD
  deep : DeepOk f
  srt : f.opn.Pairwise (· ≤ ·)
  rng : ∀ x ∈ f.opn, lo ≤ x ∧ x < hi
theorem insS_mem {x y : Int} {l : List Int} (h : y ∈ insS x l) : y = x ∨ y ∈ l := by
  have := (insS_perm x l).mem_iff.1 h
  simpa using this
theorem insS_srt (x : Int) : ∀ l : List Int, l.Pairwise (· ≤ ·) → (insS x l).Pairwise (· ≤ ·)
  | [], _ => by simp [insS]
  | y :: l, h => by
    unfold insS
    rw [List.pairwise_cons] at h
    split
    · rename_i hlt
      rw [List.pairwise_cons]
      refine ⟨fun z hz => ?_, insS_srt x l h.2⟩
      rcases insS_mem hz with rfl | hz
      · omega
      · exact h.1 z hz
    · rename_i hge
      rw [List.pairwise_cons, List.pairwise_cons]
      refine ⟨fun z hz => ?_, h⟩
      rcases List.mem_cons.1 hz with rfl | hz
      · omega
      · have := h.1 z hz
        omega
theorem FInv.come {lo hi : Int} {nD : Nat} {f : Flow} (h : FInv lo hi nD f) (at' : Int) {on : Int} (h0 : 0 ≤ on) (h1 : on ≤ 100000) : FInv lo hi nD (comeF lo hi f at' on) := by
  unfold comeF
  split
  · exact ⟨h.len, h.deep, h.srt, h.rng⟩
  · rename_i hr
    split
    · refine ⟨by simpa using h.len, ?_, insS_srt _ _ h.srt, fun x hx => ?_⟩
      · intro i hi'
        have hi2 : i < f.deep.length := by simpa using hi'
        have hd := h.deep i hi2
        simp only [List.getD_eq_getElem?_getD, List.getElem?_set] at hd ⊢
        split
        · split <;> simp <;> omega
        · exact hd
      · rcases insS_mem hx with rfl | hx
        · omega
        · exact h.rng x hx
    · split
      · exact ⟨h.len, h.deep, h.srt, h.rng⟩
      · exact h
theorem muF_come {lo hi : Int} {nD : Nat} {f : Flow} (h : FInv lo hi nD f) (hlo : 0 ≤ lo) (hhi : hi ≤ nD) (at' : Int) {on : Int} (h0 : 0 ≤ on) : muF (comeF lo hi f at' on) = muF f := by
  unfold comeF
  split
  · rfl
  · rename_i hr
    split
    · rename_i hneg
      have hl : at'.toNat < f.deep.length := by rw [h.len]; omega
      have hg : f.deep.getD at'.toNat 0 = f.deep[at'.toNat] := by simp [List.getD_eq_getElem?_getD, hl]
      rw [hg] at hneg
      have hp := (insS_perm at' f.opn).length_eq
      have hc : 0 < f.deep.countP (· < 0) := List.countP_pos_iff.2 ⟨_, List.getElem_mem hl, by simpa using hneg⟩
      unfold muF
      simp only [List.countP_set hl, hp, List.length_cons]
      rw [if_pos (by simpa using hneg), if_neg (by simpa using h0)]
      omega
    · split <;> rfl
theorem FInv.tail {lo hi : Int} {nD : Nat} {f : Flow} {i : Int} {rest : List Int} (h : FInv lo hi nD f) (e : f.opn = i :: rest) : FInv lo hi nD { f with opn := rest } ∧ lo ≤ i ∧ i < hi ∧ muF f = muF { f with opn := rest } + 1 := by
  have h1 := h.srt
  have h2 := h.rng
  rw [e] at h1 h2
  rw [List.pairwise_cons] at h1
  refine ⟨⟨h.len, h.deep, h1.2, fun x hx => h2 x (List.mem_cons_of_mem _ hx)⟩, (h2 i List.mem_cons_self).1, (h2 i List.mem_cons_self).2, ?_⟩
  unfold muF
  rw [e, List.length_cons]
  rfl
theorem needs_p (x : InsV) : 0 ≤ (needsF x).2 := by
  unfold needsF
  repeat' split
  all_goals simp
theorem FInv.one {c : CodeV} {n : Nat} {b : BlkV} {hi : Int} {nD : Nat} {f : Flow} (h : FInv b.lo hi nD f) (hlo : 0 ≤ b.lo) (hhi : hi ≤ nD) (hdp : b.dp ≤ 100000) (i : Int) (hb : f.bad = false) :
    FInv b.lo hi nD (oneF c n b hi f i).2 ∧ muF (oneF c n b hi f i).2 = muF f ∧ ((oneF c n b hi f i).1 = true → (oneF c n b hi f i).2.bad = false) := by
  unfold oneF
  simp only
  generalize c.ins.getD i.toNat default = x
  generalize f.deep.getD i.toNat 0 = on
  by_cases hw : wrongF c n b hi x on = true
  · rw [if_pos hw]
    exact ⟨h, rfl, fun _ => hb⟩
  · rw [if_neg hw]
    unfold wrongF at hw
    simp only [Bool.or_eq_true, decide_eq_true_eq, not_or] at hw
    have hw2 := hw.2
    have hp0 := needs_p x
    generalize (needsF x).1 = tk at *
    generalize (needsF x).2 = pt at *
    obtain ⟨on2, hon2⟩ : ∃ on2, on2 = on + (pt - tk) := ⟨_, rfl⟩
    rw [← hon2]
    have h0 : 0 ≤ on2 := by omega
    have h1 : on2 ≤ 100000 := by omega
    split
    · exact ⟨h, rfl, fun _ => hb⟩
    · have k1 := h.come (b.lo) (on := on2) h0 h1
      split
      · rename_i h7
        rw [if_pos (.inl h7)]
        exact ⟨h.come _ h0 h1, muF_come h hlo hhi _ h0, fun hh => by simpa using hh⟩
      · split
        · refine ⟨(h.come _ h0 h1).come _ h0 h1, ?_, fun hh => by simpa using hh⟩
          rw [muF_come (h.come _ h0 h1) hlo hhi _ h0, muF_come h hlo hhi _ h0]
        · exact ⟨h.come _ h0 h1, muF_come h hlo hhi _ h0, fun hh => by simpa using hh⟩
/-- The least of a row that holds what is open. -/
theorem opn_least {xs opn : List Int} {i : Int} {rest : List Int} (hp : xs.Perm opn) (e : opn = i :: rest) (hs : opn.Pairwise (· ≤ ·)) (hh : HeapN xs xs.length) : xs.getD 0 0 = i ∧ ∀ ys : List Int, (xs.getD 0 0 :: ys).Perm xs → ys.Perm rest := by
  have h0 : 0 < xs.length := by rw [hp.length_eq, e]; simp
  have hm : xs.getD 0 0 ∈ xs := by
    rw [List.getD_eq_getElem?_getD, List.getElem?_eq_getElem h0]
    exact List.getElem_mem h0
  have h1 : i ≤ xs.getD 0 0 := by
    have := hp.mem_iff.1 hm
    rw [e] at this hs
    rcases List.mem_cons.1 this with h | h
    · omega
    · exact (List.pairwise_cons.1 hs).1 _ h
  have h2 : xs.getD 0 0 ≤ i := by
    have : i ∈ xs := hp.mem_iff.2 (by rw [e]; exact List.mem_cons_self)
    obtain ⟨j, hj, rfl⟩ := List.getElem_of_mem this
    have := hh.least j hj
    rwa [List.getD_eq_getElem?_getD (i := j), List.getElem?_eq_getElem hj] at this
  have he : xs.getD 0 0 = i := by omega
  refine ⟨he, fun ys hy => ?_⟩
  rw [he] at hy
  have := hy.trans hp
  rw [e] at this
  exact this.cons_inv
theorem loopF_opn {c : CodeV} {n : Nat} {b : BlkV} {hi : Int} : ∀ (g : Nat) (f : Flow), f.opn = [] → loopF c n b hi g f = (-1, f)
  | 0, _, _ => rfl
  | g + 1, f, h => by
    unfold loopF
    rw [h]
end Go.Proofs.YtknbgbeepachgaaDoor

/-
  A block that is looked at.
-/
namespace Go.Proofs.YtknbgbeepachgaaDoor
open Go.RowKit

def BlockPost (w : World) (base : Nat) (k : LookK) (RR : Int × Flow) (e : Ending) (w' : World) : Prop :=
  e = .returned (.int .i64 RR.1) ∧ Blk w' k.D (RR.2.deep.map (.int .i64)) 3 ∧ Kb base [k.L, k.D] w w'
theorem BlockPost.of {w w' : World} {base : Nat} {k : LookK} {RR : Int × Flow} {r : Int} {g : Flow} {e : Ending} (h : RR = (r, g)) (he : e = .returned (.int .i64 r)) (h2 : Blk w' k.D (g.deep.map (.int .i64)) 3 ∧ Kb base [k.L, k.D] w w') : BlockPost w base k RR e w' := by
  rw [h]
  exact ⟨he, h2.1, h2.2⟩
theorem comeF_start {lo hi : Int} {f : Flow} {at' on : Int} (h : f.opn = []) (h2 : (comeF lo hi f at' on).opn ≠ []) : (comeF lo hi f at' on).bad = f.bad := by
  unfold comeF at *
  split at h2
  · exact absurd h h2
  · rename_i hr
    rw [if_neg hr]
    split at h2
    · rename_i hq
      rw [if_pos hq]
    · split at h2 <;> exact absurd h h2
theorem IRow.form {w : World} {base : Nat} {v : Value} {xs : List Int} (h : IRow w base v xs) : ∃ a cap, v = .slice a xs.length cap := by
  rcases h.2 with ⟨rfl, h0⟩ | ⟨g, cap, cur, rfl, _⟩
  · exact ⟨none, 0, by rw [h0]⟩
  · exact ⟨_, cap, rfl⟩
theorem LS.cut {w w' : World} {base : Nat} {k : LookK} {arr : Value} {f : Flow} {v : Value} {xs : List Int} {i : Int} {rest : List Int} (h : LS w base k arr f) (hp : HPopPost w base k.L (lookCells k v f.bad arr) 73 xs w') (hx : xs.Perm f.opn) (hh : HeapN xs xs.length) (e : f.opn = i :: rest) (hs : f.opn.Pairwise (· ≤ ·)) :
    LS w' base k arr { f with opn := rest } ∧ Kb base [k.L, k.D] w w' := by
  obtain ⟨v', ys, h1, h2, h3, h4, h5⟩ := hp
  refine ⟨⟨⟨v', ys, h1, h2, (opn_least hx e hs hh).2 ys h3, h4⟩, h5.blk h.deep h.D (by simpa using h.ne), h.len, ?_, h.L, h.D, Nat.le_trans h.base h5.size⟩, h5.mono (by simp)⟩
  have := h.few
  rw [e] at this
  simp at this
  show rest.length ≤ 100000
  omega
set_option maxRecDepth 100000 in
set_option maxHeartbeats 3000000 in
theorem block_calls {w : World} {base m : Nat} {k : LookK} {f : Flow} {c : CodeV} {arr : Value} (hS : LS w base k arr f) (hC : LC w k m c) (hK : CodeOk c) (hI : FInv k.b.lo k.hi k.nD f) (hop : f.opn = []) (hlo : 0 ≤ k.b.lo) (hhi : k.hi ≤ k.nD) (hnD : k.nD ≤ 65536) (hdp : k.b.dp ≤ 100000) (hnI : k.nI = k.nD)
    (hCup : ∀ w', Kb base [k.L, k.D] w w' → LC w' k m c) (hb : f.bad = false) :
    Calls Tryd.prog 21 #[.pointer (some ⟨k.L, 0, none⟩)] w (BlockPost w base k (blockF c k.n k.b k.hi f)) := by
  obtain ⟨v, xs, h1, h2, h3, h4⟩ := hS.ex
  have c4 := h1.cell_some (i := 4) rfl
  have c5 := h1.cell_some (i := 5) rfl
  have c6 := h1.cell_some (i := 6) rfl
  have c7 := h1.cell_some (i := 7) rfl
  have f14 := h1.free 14
  have c14 := h1.cell_some (i := 14) rfl
  have HS := Lib.hid hS
  have HC := Lib.hid hC
  have HI := Lib.hid hI
  have HK := Lib.hid hK
  have HCU := Lib.hid hCup
  obtain ⟨RR, hRR⟩ : ∃ RR, RR = blockF c k.n k.b k.hi f := ⟨_, rfl⟩
  rw [← hRR]
  unfold blockF at hRR
  have hB2 := h1.set 14 (arrV k.L)
  have hS2 : ∀ n, LS ((w.drewN n).setCell ⟨k.L, 14, none⟩ (arrV k.L)) base k (arrV k.L) f := fun n =>
    ⟨⟨v, xs, (h1.drewN n).set 14 (arrV k.L), own_upd h2 (((Upd.refl [k.L] w).drewN n).setCell (p := ⟨k.L, 14, none⟩) _ (.inl (by simp))) (fun g hg => by
      have := (h2.lt g hg).1
      have := hS.L
      simp; omega), h3, h4⟩, (hS.deep.drewN n).set_other _ (by simpa using hS.ne), hS.len, hS.few, hS.L, hS.D, by simpa [World.setCell] using hS.base⟩
  have HS2 := Lib.hid hS2
  have HRR := Lib.hid hRR
  clear hS hC hI hK hCup h1 h2 h3 h4 hB2 hRR hS2
  by_cases hbad : k.b.sl < k.b.pr ∨ (k.b.rest = true ∧ k.b.pr = 0)
  · have e : RR = (k.b.lo, f) := by rw [HRR.out, if_pos hbad]
    have E9 := Lib.hid e
    have hfin : ∀ n, Blk (w.drewN n) k.D (f.deep.map (.int .i64)) 3 ∧ Kb base [k.L, k.D] w (w.drewN n) := fun n => ⟨HS.out.deep, Kb.of_upd0 ((Upd.refl [] w).drewN n) HS.out.base⟩
    have HF := Lib.hid hfin
    clear HRR e hfin c14 f14
    by_cases q1 : k.b.sl < k.b.pr
    · have q1' : decide (k.b.sl < k.b.pr) = true := decide_eq_true q1
      go_enter Tryd.func21, Tryd.ntmps21
      go_wp2_with fail
      go_quiet (fail)
      go_wp2
      go_ret
      exact BlockPost.of E9.out rfl (HF.out _)
    · have q1' : decide (k.b.sl < k.b.pr) = false := decide_eq_false q1
      have q2 : k.b.rest = true := by
        rcases hbad with h | h
        · exact absurd h q1
        · exact h.1
      have q3 : (k.b.pr == 0) = true := by
        rcases hbad with h | h
        · exact absurd h q1
        · simpa using h.2
      rw [q2] at c6
      go_enter Tryd.func21, Tryd.ntmps21
      go_wp2_with fail
      go_quiet (fail)
      go_wp2
      go_ret
      exact BlockPost.of E9.out rfl (HF.out _)
  · rw [if_neg hbad] at HRR
    have q1' : decide (k.b.sl < k.b.pr) = false := decide_eq_false fun h => hbad (.inl h)
    have q9 : k.b.rest = false ∨ (k.b.rest = true ∧ (k.b.pr == 0) = false) := by
      cases h : k.b.rest with
      | false => exact .inl rfl
      | true => exact .inr ⟨rfl, by simpa using fun e => hbad (.inr ⟨h, e⟩)⟩
    clear hbad
    rcases q9 with q2 | ⟨q2, q3⟩
    all_goals
      rw [q2] at c6
      go_enter Tryd.func21, Tryd.ntmps21
      go_wp2_with fail
      go_quiet (fail)
      obtain ⟨w1, hw1⟩ : ∃ w1, w1 = w.drewN nq := ⟨_, rfl⟩
      have d14 : w1.cell? ⟨k.L, 14, none⟩ = some arr := by rw [hw1]; exact c14
      have e14 : w1.frozen? ⟨k.L, 14, none⟩ = false := by rw [hw1]; exact f14
      have hst : (store ⟨k.L, 14, none⟩ (.func (.func 28) #[.pointer (some ⟨k.L, 0, none⟩)] #[])).run Tryd.prog w1 = .ok () (w1.setCell ⟨k.L, 14, none⟩ (.func (.func 28) #[.pointer (some ⟨k.L, 0, none⟩)] #[])) := by
        rw [run_store _ _ _ _ _ rfl, d14]
        simp [e14]
      have hS3 : LS (w1.setCell ⟨k.L, 14, none⟩ (.func (.func 28) #[.pointer (some ⟨k.L, 0, none⟩)] #[])) base k (arrV k.L) f := by rw [hw1]; exact HS2.out nq
      have hK3 : Kb base [k.L, k.D] w (w1.setCell ⟨k.L, 14, none⟩ (.func (.func 28) #[.pointer (some ⟨k.L, 0, none⟩)] #[])) := by
        rw [hw1]
        exact (Kb.of_upd0 ((Upd.refl [] w).drewN nq) HS.out.base).trans (Kb.of_set 14 _ HS.out.base (by simp))
      have d4 : (w1.setCell ⟨k.L, 14, none⟩ (.func (.func 28) #[.pointer (some ⟨k.L, 0, none⟩)] #[])).cell? ⟨k.L, 4, none⟩ = some (.int .i64 k.b.lo) := by
        obtain ⟨_, _, h, _⟩ := hS3.ex
        exact h.cell_some (i := 4) rfl
      have g14 : (w1.setCell ⟨k.L, 14, none⟩ (.func (.func 28) #[.pointer (some ⟨k.L, 0, none⟩)] #[])).cell? ⟨k.L, 14, none⟩ = some (.func (.func 28) #[.pointer (some ⟨k.L, 0, none⟩)] #[]) := by
        obtain ⟨_, _, h, _⟩ := hS3.ex
        exact h.cell_some (i := 14) rfl
      have HS3 := Lib.hid hS3
      have HK3 := Lib.hid hK3
      have HD4 := Lib.hid d4
      have HG14 := Lib.hid g14
      rw [← hw1]
      clear hS3 hK3 HS2 c4 c5 c6 c7 c14 f14 d4 g14 hw1
      go_wp2_with fail
      have d4 := HD4.out
      have g14 := HG14.out
      generalize w1.setCell ⟨k.L, 14, none⟩ (.func (.func 28) #[.pointer (some ⟨k.L, 0, none⟩)] #[]) = w2 at *
      have hcm := come_calls k.b.lo 0 (HS3.out.upd (Upd.refl [] w2).drew) hlo hhi (by rw [hop]; simp) (by omega)
      have HCM := Lib.hid hcm
      clear hcm HD4 HG14 d14 e14 hst
      go_still_tail 9, (by kernel_rfl)
      change wpList _ _ _ _ _ w2.drew
      go_wp2_with fail
      refine HCM.out.mono ?_
      rintro e w3 ⟨rfl, hS4, hK4⟩
      have HS4 := Lib.hid hS4
      have HK4 := Lib.hid ((HK3.out.trans (Kb.of_upd0 (Upd.refl [] w2).drew HS3.out.base)).trans hK4)
      have HI4 := Lib.hid (HI.out.come k.b.lo (on := 0) (by omega) (by omega))
      have hmu : muF (comeF k.b.lo k.hi f k.b.lo 0) ≤ k.nD := by
        rw [muF_come HI.out hlo hhi _ (by omega)]
        unfold muF
        rw [hop]
        have := List.countP_le_length (p := fun x : Int => decide (x < 0)) (l := f.deep)
        rw [HI.out.len] at this
        simpa using this
      have hbd : (comeF k.b.lo k.hi f k.b.lo 0).opn ≠ [] → (comeF k.b.lo k.hi f k.b.lo 0).bad = false := fun h => by rw [comeF_start hop h]; exact hb
      have HBD := Lib.hid hbd
      have hNI : c.ins.length = k.nD := by rw [← HC.out.nI]; exact hnI
      rw [hNI] at HRR
      clear hS4 hK4 HCM HS3 HK3 hbd d4 g14
      go_wp2_with fail
      go_loopg [3] (k.nD + 1) (fun g p wr => ∃ f', Hid (LS wr base k (arrV k.L) f') ∧ Hid (FInv k.b.lo k.hi k.nD f') ∧ Hid (f'.opn ≠ [] → f'.bad = false) ∧ Hid (RR = loopF c k.n k.b k.hi g f') ∧ muF f' < g ∧ muF f' ≤ k.nD ∧ Hid (Kb base [k.L, k.D] w wr))
      case atStart => exact ⟨_, HS4, HI4, HBD, HRR, by omega, hmu, HK4⟩
      case round =>
        obtain ⟨f', hS', hI', hb', hR', hmu1, hmu2, hK'⟩ := hrel
        obtain ⟨v', xs', p1, p2, p3, p4⟩ := hS'.out.ex
        obtain ⟨g', rfl⟩ : ∃ g', gk = g' + 1 := ⟨gk - 1, by omega⟩
        obtain ⟨a', cap', hv'⟩ := p2.form
        have c12 := p1.cell_some (i := 12) rfl
        rw [hv'] at c12
        obtain ⟨nx, hnx⟩ : ∃ nx, nx = xs'.length := ⟨_, rfl⟩
        rw [← hnx] at c12
        have HPL := Lib.hid (plen_calls wr a' nx cap')
        cases hopn : f'.opn with
        | nil =>
          have e : RR = (-1, f') := by rw [hR'.out, loopF_opn _ _ hopn]
          have E9 := Lib.hid e
          have HF := Lib.hid (And.intro hS'.out.deep hK'.out)
          have hn0 : nx ≤ 0 := by
            rw [hnx, p3.length_eq, hopn]
            simp
          have hn1 : ¬ 0 < nx := by omega
          clear e hopn hnx p1 p2 p3 p4 hv' HS4 HI4 HBD HRR HK4
          go_wp2_with fail
          refine HPL.out.mono ?_
          rintro e w4 ⟨rfl, rfl⟩
          clear HPL
          go_wp2
          go_ret
          exact BlockPost.of E9.out rfl HF.out
        | cons i rest =>
          obtain ⟨q1, q2, q3, q4⟩ := hI'.out.tail hopn
          obtain ⟨j, rfl⟩ : ∃ j : Nat, i = j := ⟨i.toNat, by omega⟩
          have hl0 : 0 < xs'.length := by rw [p3.length_eq, hopn]; simp
          have hfl : f'.opn.length ≤ 65536 := by
            unfold muF at hmu2
            omega
          have hpop := hpop_calls p1 rfl p2 hl0 hS'.out.L hS'.out.base (by rw [p3.length_eq]; omega) p4
          have hle := (opn_least p3 hopn hI'.out.srt p4).1
          rw [hle] at hpop
          have hcut : ∀ w', HPopPost wr base k.L (lookCells k v' f'.bad (arrV k.L)) 73 xs' w' → LS w' base k (arrV k.L) { f' with opn := rest } ∧ Kb base [k.L, k.D] wr w' := fun w' h => hS'.out.cut h p3 p4 hopn hI'.out.srt
          have hone : ∀ w', LS w' base k (arrV k.L) { f' with opn := rest } → Kb base [k.L, k.D] w w' → Calls Tryd.prog 31 #[.pointer (some ⟨k.L, 0, none⟩), .int .i64 j] w' (OnePost w' base k (oneF c k.n k.b k.hi { f' with opn := rest } j)) := by
            intro w' h1 h2
            refine one_calls (m := m) h1 (HCU.out w' h2) HK.out ?_ hI'.out.deep hlo hhi hnD hdp hnI (fun w'' h3 => HCU.out w'' (h2.trans h3)) (by omega) (hb'.out (by rw [hopn]; simp))
            rw [hopn] at hfl
            simp at hfl
            show rest.length < 99000
            omega
          have hR2 : RR = if (oneF c k.n k.b k.hi { f' with opn := rest } j).1 then loopF c k.n k.b k.hi g' (oneF c k.n k.b k.hi { f' with opn := rest } j).2 else ((j : Int), (oneF c k.n k.b k.hi { f' with opn := rest } j).2) := by
            rw [hR'.out]
            conv => lhs; unfold loopF
            rw [hopn]
          have hinv := q1.one (c := c) (n := k.n) hlo hhi hdp (j : Int) (hb'.out (by rw [hopn]; simp))
          obtain ⟨r1, hr1⟩ : ∃ r1, r1 = oneF c k.n k.b k.hi { f' with opn := rest } j := ⟨_, rfl⟩
          rw [← hr1] at hone hR2 hinv
          have hnp : 0 < nx := by omega
          have HPOP := Lib.hid hpop
          have HCUT := Lib.hid hcut
          have HONE := Lib.hid hone
          have HR2 := Lib.hid hR2
          have HINV := Lib.hid hinv
          have hta : ∀ w, (Instr.typeAssert (.iface 3 (.int .i64 (j : Int))) 20 3 false).run Tryd.prog w = .ok (.int .i64 j) w := fun _ => by kernel_rfl
          clear hpop hcut hone hR2 hinv hopn hnx p1 p2 p3 p4 hv' HS4 HI4 HBD HRR HK4 hr1 hle hl0 hR' q1 hb' hI' hS' hfl
          go_wp2_with fail
          refine HPL.out.mono ?_
          rintro e w4 ⟨rfl, rfl⟩
          clear HPL c12
          go_wp2_with fail
          refine HPOP.out.mono ?_
          rintro e w5 ⟨rfl, hpp⟩
          obtain ⟨hS5, hK5⟩ := HCUT.out w5 hpp
          have HK5 := Lib.hid (hK'.out.trans hK5)
          have HO5 := Lib.hid (HONE.out w5 hS5 HK5.out)
          clear hpp hS5 hK5 HPOP HCUT HONE hK'
          go_wp2_with fail
          refine HO5.out.mono ?_
          rintro e w6 ⟨rfl, hS6, hK6⟩
          have HS6 := Lib.hid hS6
          have HK6 := Lib.hid (HK5.out.trans hK6)
          clear hS6 hK6 HO5 HK5 hta
          cases hr : r1.1 with
          | true =>
            have HR3 : Hid (RR = loopF c k.n k.b k.hi g' r1.2) := Lib.hid (by rw [HR2.out, hr]; rfl)
            have HB3 : Hid (r1.2.opn ≠ [] → r1.2.bad = false) := Lib.hid (fun _ => HINV.out.2.2 hr)
            have hm3 : muF r1.2 + 1 = muF f' := by rw [HINV.out.2.1, q4]
            have hm4 : muF r1.2 < g' := by omega
            have hm5 : muF r1.2 ≤ k.nD := by omega
            have HI6 := Lib.hid HINV.out.1
            clear hr hm3 HR2 HINV q4
            go_wp2
            go_roundg g'
            case measure => omega
            case rel => exact ⟨r1.2, HS6, HI6, HB3, HR3, hm4, hm5, HK6⟩
          | false =>
            have E9 : Hid (RR = ((j : Int), r1.2)) := Lib.hid (by rw [HR2.out, hr]; rfl)
            clear hr HR2 HINV q4
            go_wp2
            go_ret
            exact BlockPost.of E9.out rfl ⟨HS6.out.deep, HK6.out⟩
end Go.Proofs.YtknbgbeepachgaaDoor
