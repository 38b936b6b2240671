/-
  Texts of this claim, merged: MaH, MaI, MaJ, MaK. Lemmas and contracts; no conditions of our own.
-/
import Derived.Test.YthmpaepdbjldfaaG14
import Derived.Test.YthmpaepdbjldfaaG25
import Derived.Test.YthmpaepdbjldfaaG28
import Derived.Test.YthmpaepdbjldfaaG29
import Derived.Deep.RegionHeld3

/-
  The matcher: its state, and what a match answers.
-/
namespace Go.Proofs.Ythmpaepdbjldfaa
set_option linter.unusedVariables false
set_option linter.unusedSimpArgs false
open Go.RowKit Go.Shelf

/-- Some more, at a step of a region. -/
theorem step_appk {P : Program} {W : World} {ops : Array Oper} {o : Oper} {a : Act} {K : Act → World → Prop} {Q : Exit → Act → World → Prop} {E : Prop} (hgd : o.guard = none) (s x : Operand) (t : TypeId)
    (ho : o.op = .call { callee := .builtin .append, args := #[s, x], argTypes := #[t, t] })
    (base : Nat) (e : TypeId) (z : Value) (size bytes : Nat) (ht : P.underlying t = some (.slice e)) (hinfo : (P.info? e).map (fun i => (i.zero, i.size, i.bytes)) = some (some z, size, bytes))
    (hzs : z.cells.size = size) (hsz : 0 < size) {α : Type} [Inhabited α] {R : List Value → α → Prop} {v : Value} {xs ys : List α} (hs : a.eval s = v) (hown : OwnK base W e size R v xs) {ap : Option Addr} {m c : Nat} (hx : a.eval x = .slice ap m c) (hm : ys.length = m) {P2 : Nat → Prop} (hrow : RowK W P2 size R ap ys)
    (hone : ∀ cs y, R cs y → ∀ u ∈ cs, u.oneCell' = true) (hn : xs.length + m ≤ 100000000) (hbytes : bytes ≤ 1000) (hbase : base ≤ W.heap.size)
    (h : ∀ q a' c' w', q = xs.length + m → OwnK base w' e size R (.slice a' q c') (xs ++ ys) → Upd v.ownBlock.toList W w' →
      ((Value.slice a' q c').ownBlock = v.ownBlock ∨ (Value.slice a' q c').ownBlock = some W.heap.size) → K (a.put o.dst (.slice a' q c')) w') :
    if Region.wanted o (yielded ops a.tmps) = true then Oper.wp P o a W K Q else E := by
  subst hm
  have hw : Region.wanted o (yielded ops a.tmps) = true := by simp [Region.wanted, hgd]
  rw [if_pos hw]
  obtain ⟨a', c', w', hr, h2, h3, h4⟩ := run_apps t o.type base e z size bytes ht hinfo hzs hsz hown (c := c) hrow hone hn hbytes hbase
  unfold Oper.wp execOp
  simp only [ho, resolve, invoke, builtin, Sem.run_bind, Sem.run_pure, Result.andThen_ok, List.map_toArray, List.map_cons, List.map_nil, hs, hx, hr]
  exact h _ a' c' w' rfl h2 h3 h4
/-- A row of one's own is in no block of another type. -/
theorem OwnK.ne_blk {α : Type} [Inhabited α] {base : Nat} {w : World} {T : TypeId} {k : Nat} {R : List Value → α → Prop} {v : Value} {xs : List α} (h : OwnK base w T k R v xs) {b : Nat} {cs : List Value} {t : TypeId} (hB : Blk w b cs t) (ht : t ≠ T) : v.ownBlock ≠ some b := by
  intro e
  obtain ⟨css, _, _, _, h4⟩ := h
  rcases h4.2 with ⟨rfl, _⟩ | ⟨g, cap, cur, rfl, _, hgg, _⟩
  · cases e
  · injection e with e
    subst e
    unfold Blk at hB
    rw [hB] at hgg
    injection hgg with hgg
    injection hgg with _ h2 _
    exact ht h2

/-- Trees in blocks of one's own, but for the matcher's and the row's. -/
abbrev BIn (base M : Nat) (v : Value) (b : Nat) : Prop := base ≤ b ∧ b ≠ M ∧ v.ownBlock ≠ some b
/-- A matcher: its literals, and what it has bound. -/
structure MSt (base : Nat) (w : World) (M : Nat) (aL : Option Addr) (nL cL m N : Nat) (v : Value) (bs : List Bd) : Prop where
  blk : Blk w M [.slice aL nL cL, v] 85
  own : OwnK base w 66 10 (IsB w (BIn base M v) m N) v bs
  low : base ≤ M
theorem MSt.notin {base : Nat} {w : World} {M : Nat} {aL : Option Addr} {nL cL m N : Nat} {v : Value} {bs : List Bd} (h : MSt base w M aL nL cL m N v bs) {b : Nat} {cs : List Value} {t : TypeId} (hB : Blk w b cs t) (h1 : t ≠ 85) (h2 : t ≠ 66) : b ∉ M :: v.ownBlock.toList := by
  intro hx
  rcases List.mem_cons.1 hx with hx | hx
  · subst hx
    exact (Blk.ne hB h.blk h1) rfl
  · exact h.own.ne_blk hB h2 (by simpa using hx)
theorem MSt.ne {base : Nat} {w : World} {M : Nat} {aL : Option Addr} {nL cL m N : Nat} {v : Value} {bs : List Bd} (h : MSt base w M aL nL cL m N v bs) : v.ownBlock ≠ some M := h.own.ne_blk h.blk (by decide)
theorem MSt.old {base : Nat} {w : World} {M : Nat} {aL : Option Addr} {nL cL m N : Nat} {v : Value} {bs : List Bd} (h : MSt base w M aL nL cL m N v bs) {b : Nat} (hb : b < base) : b ∉ M :: v.ownBlock.toList := by
  intro hx
  have := h.low
  rcases List.mem_cons.1 hx with hx | hx
  · omega
  · have := (h.own.lt (by simpa using hx)).1
    omega
theorem MSt.isD {base : Nat} {w w' : World} {M : Nat} {aL : Option Addr} {nL cL m N : Nat} {v : Value} {bs : List Bd} (h : MSt base w M aL nL cL m N v bs) (hu : Upd (M :: v.ownBlock.toList) w w') {n : Nat} {cs : List Value} {d : Dat} (hd : IsD w (fun b => b < base) n cs d) : IsD w' (fun b => b < base) n cs d := hd.updS hu (fun _ hb => h.old hb)
theorem MSt.row {base : Nat} {w w' : World} {M : Nat} {aL : Option Addr} {nL cL m N : Nat} {v : Value} {bs : List Bd} (h : MSt base w M aL nL cL m N v bs) (hu : Upd (M :: v.ownBlock.toList) w w') {n : Nat} {a : Option Addr} {ds : List Dat} (hd : RowOf w (fun b => b < base) (IsD w (fun b => b < base) n) a ds) : RowOf w' (fun b => b < base) (IsD w' (fun b => b < base) n) a ds :=
  hd.map (fun _ _ hp => hp) (fun b _ _ hp hc => hu.cell hc (h.old hp)) (fun _ _ hd => h.isD hu hd)
theorem MSt.likes {base : Nat} {w w' : World} {M : Nat} {aL : Option Addr} {nL cL m N : Nat} {v : Value} {bs : List Bd} (h : MSt base w M aL nL cL m N v bs) (hu : Upd (M :: v.ownBlock.toList) w w') {ls : List Lk} (hL : Likes w (fun b => b < base) aL ls) : Likes w' (fun b => b < base) aL ls := hL.updS hu (fun _ hb => h.old hb)
/-- Where other blocks change. -/
theorem MSt.upd {base : Nat} {w w' : World} {M : Nat} {aL : Option Addr} {nL cL m N : Nat} {v : Value} {bs : List Bd} (h : MSt base w M aL nL cL m N v bs) (hu : Upd [] w w') : MSt base w' M aL nL cL m N v bs :=
  ⟨hu.blk h.blk (by simp), h.own.upd hu (by simp) (fun _ _ hb => hb.upd hu), h.low⟩
theorem MSt.trans {w w1 w2 : World} {M : Nat} {v v1 : Value} (hu : Upd (M :: v.ownBlock.toList) w w1) (hv : v1.ownBlock = v.ownBlock ∨ ∃ g, v1.ownBlock = some g ∧ w.heap.size ≤ g) (hu2 : Upd (M :: v1.ownBlock.toList) w1 w2) : Upd (M :: v.ownBlock.toList) w w2 :=
  hu.trans hu2 (fun x hx hlt => by
    rcases List.mem_cons.1 hx with hx | hx
    · exact List.mem_cons.2 (.inl hx)
    · rcases hv with hv | ⟨g, hv, hg⟩
      · rw [hv] at hx
        exact List.mem_cons.2 (.inr hx)
      · rw [hv] at hx
        simp at hx
        omega)
theorem own_later {w w1 : World} {v v1 v2 : Value} (hs : w.heap.size ≤ w1.heap.size) (hv : v1.ownBlock = v.ownBlock ∨ ∃ g, v1.ownBlock = some g ∧ w.heap.size ≤ g) (hv2 : v2.ownBlock = v1.ownBlock ∨ ∃ g, v2.ownBlock = some g ∧ w1.heap.size ≤ g) : v2.ownBlock = v.ownBlock ∨ ∃ g, v2.ownBlock = some g ∧ w.heap.size ≤ g := by
  rcases hv2 with h | ⟨g, h, hg⟩
  · rw [h]
    exact hv
  · exact .inr ⟨g, h, by omega⟩
/-- What a match answers. -/
def MPost (base : Nat) (w : World) (M : Nat) (aL : Option Addr) (nL cL m N : Nat) (v : Value) (bs0 : List Bd) (res : Option (List Bd)) (e : Ending) (w' : World) : Prop :=
  e = .returned (.bool res.isSome) ∧ Upd (M :: v.ownBlock.toList) w w' ∧ ∀ bs, res = some bs → ∃ v', MSt base w' M aL nL cL m N v' (bs0 ++ bs) ∧ (v'.ownBlock = v.ownBlock ∨ ∃ g, v'.ownBlock = some g ∧ w.heap.size ≤ g)
/-- A pattern of n levels against a datum of m. -/
def MatchSaid (ls : List Lk) (m n : Nat) : Prop := ∀ (p d : Dat) (cp cd : List Value) (w : World) (base M : Nat) (aL : Option Addr) (nL cL N : Nat) (v : Value) (bs0 : List Bd),
  MSt base w M aL nL cL m N v bs0 → Likes w (fun b => b < base) aL ls → ls.length = nL → nL ≤ 1000000 → n ≤ N → n ≤ m →
  IsD w (fun b => b < base) n cp p → goodN n p = true → wrongN ls n p = false → szN n p ≤ 5000 →
  IsD w (fun b => b < base) m cd d → goodN m d = true → szN m d ≤ 5000 → dpN m d ≤ 200 → bs0.length + szN n p ≤ 10000 →
  Calls Try.prog 47 #[.pointer (some ⟨M, 0, none⟩), .agg cp.toArray, .agg cd.toArray] w (MPost base w M aL nL cL m N v bs0 (matchN ls (sameN m) n p d))
/-- Patterns, one by one. -/
def AllSaid (ls : List Lk) (m n : Nat) : Prop := ∀ (ps ds : List Dat) (w : World) (base M : Nat) (aL : Option Addr) (nL cL N : Nat) (v : Value) (bs0 : List Bd) (ap ad : Option Addr) (np cp nd cd : Nat),
  MSt base w M aL nL cL m N v bs0 → Likes w (fun b => b < base) aL ls → ls.length = nL → nL ≤ 1000000 → n ≤ N → n ≤ m → ps.length = np → ds.length = nd → np ≤ nd → nd ≤ 1000000 →
  RowOf w (fun b => b < base) (IsD w (fun b => b < base) n) ap ps → (∀ p ∈ ps, goodN n p = true ∧ wrongN ls n p = false) → szL (szN n) ps ≤ 5000 →
  RowOf w (fun b => b < base) (IsD w (fun b => b < base) m) ad ds → (∀ d ∈ ds, goodN m d = true ∧ szN m d ≤ 5000 ∧ dpN m d ≤ 200) → bs0.length + szL (szN n) ps ≤ 10000 →
  Calls Try.prog 100 #[.pointer (some ⟨M, 0, none⟩), .slice ap np cp, .slice ad nd cd] w (MPost base w M aL nL cL m N v bs0 (allM (matchN ls (sameN m) n) ps ds))
theorem match_len {ls : List Lk} {sm : Dat → Dat → Bool} {n : Nat} {p d : Dat} {bs : List Bd} (hg : goodN n p = true) (hw : wrongN ls n p = false) (h : matchN ls sm n p d = some bs) : bs.length ≤ szN n p := by
  have h1 := congrArg List.length (match_names n p d bs hg hw h)
  rw [List.length_map] at h1
  unfold nmN at h1
  rw [List.length_map] at h1
  rw [h1]
  exact placesN_len ls n p 0
theorem allM_step {f : Dat → Dat → Option (List Bd)} {ps ds : List Dat} {j : Nat} (hp : j < ps.length) (hd : j < ds.length) :
    allM f (ps.drop j) (ds.drop j) = (f (ps.getD j default) (ds.getD j default)).bind fun a => (allM f (ps.drop (j + 1)) (ds.drop (j + 1))).bind fun b => some (a ++ b) := by
  rw [drop_next hp, drop_next hd]
  rfl
end Go.Proofs.Ythmpaepdbjldfaa

/-
  (*match.matcher).all.
-/
namespace Go.Proofs.Ythmpaepdbjldfaa
set_option linter.unusedVariables false
set_option linter.unusedSimpArgs false
open Go.RowKit Go.Shelf

theorem szL_takeM (f : Dat → Nat) (l : List Dat) (j : Nat) : szL f (l.take j) ≤ szL f l := by
  have := szL_append f (l.take j) (l.drop j)
  rw [List.take_append_drop] at this
  omega
theorem szL_takeS (f : Dat → Nat) (l : List Dat) {j : Nat} (h : j < l.length) : szL f (l.take (j + 1)) = szL f (l.take j) + f (l.getD j default) := by
  rw [take_nextK h, szL_append]
  simp [szL]
theorem mem_getD {l : List Dat} {j : Nat} (h : j < l.length) : l.getD j default ∈ l := by
  rw [List.getD_eq_getElem?_getD, List.getElem?_eq_getElem h]
  exact List.getElem_mem h
set_option maxRecDepth 100000 in
set_option maxHeartbeats 3000000 in
theorem all_step {ls : List Lk} {m n : Nat} (ih : MatchSaid ls m n) : AllSaid ls m n := by
  intro ps ds w base M aL nL cL N v bs0 ap ad np cp nd cd hM hL hnL hnb hnN hnm hnp hnd hle hndb hrp hgp hsp hrd hgd hcnt
  have IH := Lib.hid ih
  have HL := Lib.hid hL
  have HRP := Lib.hid hrp
  have HRD := Lib.hid hrd
  have HGP := Lib.hid hgp
  have HGD := Lib.hid hgd
  have HNP := Lib.hid hnp
  have HND := Lib.hid hnd
  have HK := Lib.hid (And.intro hnL (And.intro hnb (And.intro hnN (And.intro hnm (And.intro hsp hcnt)))))
  have HM0 := Lib.hid hM
  obtain ⟨RES, hRES⟩ : ∃ R, R = allM (matchN ls (sameN m) n) ps ds := ⟨_, rfl⟩
  rw [← hRES]
  have HRES := Lib.hid hRES
  clear hM hL hrp hgp hsp hrd hgd hcnt hnL hnb hnN hnm hnp hnd ih hRES
  go_enter Try.func100, Try.ntmps100
  go_wp2_with fail
  go_loopw [11] (fun i wr => ∃ (j : Nat) (v1 : Value) (acc : List Bd), j ≤ np ∧ i = .int .i64 j ∧ Hid (RES = (allM (matchN ls (sameN m) n) (ps.drop j) (ds.drop j)).map (fun b => acc ++ b)) ∧ Hid (MSt base wr M aL nL cL m N v1 (bs0 ++ acc)) ∧
    Hid (v1.ownBlock = v.ownBlock ∨ ∃ g, v1.ownBlock = some g ∧ w.heap.size ≤ g) ∧ Hid (acc.length ≤ szL (szN n) (ps.take j)) ∧ Hid (Upd (M :: v.ownBlock.toList) w wr)) (fun i _ => np - (intOf i).toNat)
  case atStart => exact ⟨0, v, [], by omega, rfl, Lib.hid (by rw [HRES.out]; simp), Lib.hid (by simpa using HM0.out), Lib.hid (.inl rfl), Lib.hid (by simp), Lib.hid (Upd.refl _ _)⟩
  case round =>
    obtain ⟨j, v1, acc, hj, rfl, hR, hM1, hV1, hA1, hU⟩ := hrel
    by_cases hlt : j < np
    · have hjp : j < ps.length := by rw [HNP.out]; exact hlt
      have hjd : j < ds.length := by rw [HND.out]; omega
      have hjn : j < nd := by omega
      obtain ⟨b, o, cs, rfl, hbp, hat, hd0⟩ := HRP.out j hjp
      obtain ⟨b', o', cs', rfl, hbd, hat', hd1⟩ := HRD.out j hjd
      have hs1 := szL_takeS (szN n) ps hjp
      have hs2 := szL_takeM (szN n) ps (j + 1)
      have hg1 := HGP.out _ (mem_getD hjp)
      have hg2 := HGD.out _ (mem_getD hjd)
      have hk := HK.out
      have hC : ∀ (W : World), MSt base W M aL nL cL m N v1 (bs0 ++ acc) → Upd (M :: v.ownBlock.toList) w W → Calls Try.prog 47 #[.pointer (some ⟨M, 0, none⟩), .agg cs.toArray, .agg cs'.toArray] W (MPost base W M aL nL cL m N v1 (bs0 ++ acc) (matchN ls (sameN m) n (ps.getD j default) (ds.getD j default))) := fun W hM hu =>
        IH.out _ _ cs cs' W base M aL nL cL N v1 (bs0 ++ acc) hM (HM0.out.likes hu HL.out) hk.1 hk.2.1 hk.2.2.1 hk.2.2.2.1 (HM0.out.isD hu hd0) hg1.1 hg1.2 (by omega) (HM0.out.isD hu hd1) hg2.1 hg2.2.1 hg2.2.2 (by
          have := hA1.out
          rw [List.length_append]
          omega)
      have HST : Hid (RES = ((matchN ls (sameN m) n (ps.getD j default) (ds.getD j default)).bind fun a => (allM (matchN ls (sameN m) n) (ps.drop (j + 1)) (ds.drop (j + 1))).bind fun b => some (a ++ b)).map (fun b => acc ++ b)) := Lib.hid (by rw [hR.out, allM_step hjp hjd])
      have HLN : Hid (∀ a, matchN ls (sameN m) n (ps.getD j default) (ds.getD j default) = some a → (acc ++ a).length ≤ szL (szN n) (ps.take (j + 1))) := Lib.hid (fun a ha => by
        have h1 := match_len hg1.1 hg1.2 ha
        have h2 := hA1.out
        rw [List.length_append, hs1]
        omega)
      obtain ⟨k1, n1, a1, l1, p1, b1, s1, i1, m1, d1, t1, o1, q1, rfl⟩ := hd0.shaped
      obtain ⟨k2, n2, a2, l2, p2, b2, s2, i2, m2, d2, t2, o2, q2, rfl⟩ := hd1.shaped
      obtain ⟨x0, x1, x2, x3, x4, x5, x6⟩ := (hat.upd hU.out (HM0.out.old hbp)).cells
      have hat9 := hat'.upd hU.out (HM0.out.old hbd)
      obtain ⟨y0, y1, y2, y3, y4, y5, y6⟩ := hat9.cells
      have hltb : b' < wr.heap.size := hat9.lt
      have hltb2 : b < wr.heap.size := (hat.upd hU.out (HM0.out.old hbp)).lt
      unfold datCells at *
      have hUA := hU.out.alloc (.cells #[.int .i64 k1, .bool n1, .slice a1 l1 p1, .bool b1, .string s1, .slice i1 m1 d1, .slice t1 o1 q1] 27)
      have hMA := hM1.out.upd ((Upd.refl [] wr).alloc (.cells #[.int .i64 k1, .bool n1, .slice a1 l1 p1, .bool b1, .string s1, .slice i1 m1 d1, .slice t1 o1 q1] 27))
      have hBA : Blk (wr.alloc (.cells #[.int .i64 k1, .bool n1, .slice a1 l1 p1, .bool b1, .string s1, .slice i1 m1 d1, .slice t1 o1 q1] 27)) wr.heap.size [.int .i64 k1, .bool n1, .slice a1 l1 p1, .bool b1, .string s1, .slice i1 m1 d1, .slice t1 o1 q1] 27 := Blk.newAt rfl
      have hny : b' ∉ M :: v1.ownBlock.toList := hMA.old hbd
      have hnz : wr.heap.size ∉ M :: v1.ownBlock.toList := hMA.notin hBA (by decide) (by decide)
      have HC := Lib.hid hC
      obtain ⟨RJ, hRJ⟩ : ∃ R, R = matchN ls (sameN m) n (ps.getD j default) (ds.getD j default) := ⟨_, rfl⟩
      rw [← hRJ] at HST HLN HC
      clear hs1 hs2 hg1 hg2 hk hC hat hat' hat9 hd0 hd1 hR hRJ hA1
      go_wp2_with fail
      obtain ⟨W0, hW0⟩ : ∃ W0, W0 = wr.alloc (.cells #[.int .i64 k1, .bool n1, .slice a1 l1 p1, .bool b1, .string s1, .slice i1 m1 d1, .slice t1 o1 q1] 27) := ⟨_, rfl⟩
      rw [← hW0] at hUA hMA hBA ⊢
      obtain ⟨z0, z1, z2, z3, z4, z5, z6⟩ := Blk.seven hBA
      have hall : (Upd [] wr W0) := by rw [hW0]; exact (Upd.refl [] wr).alloc _
      replace y0 := hall.cell y0 (by simp)
      replace y1 := hall.cell y1 (by simp)
      replace y2 := hall.cell y2 (by simp)
      replace y3 := hall.cell y3 (by simp)
      replace y4 := hall.cell y4 (by simp)
      replace y5 := hall.cell y5 (by simp)
      replace y6 := hall.cell y6 (by simp)
      have HUA := Lib.hid hUA
      have HMA := Lib.hid hMA
      have HWA := Lib.hid hW0
      have hwW : wr.heap.size ≤ W0.heap.size := hall.size
      clear hW0 hall hUA hMA hBA x0 x1 x2 x3 x4 x5 x6
      go_region_held3 (fun w' => w'.cell? ⟨wr.heap.size, 0, none⟩ = some (.int .i64 k1) ∧ w'.cell? ⟨wr.heap.size, 1, none⟩ = some (.bool n1) ∧ w'.cell? ⟨wr.heap.size, 2, none⟩ = some (.slice a1 l1 p1) ∧ w'.cell? ⟨wr.heap.size, 3, none⟩ = some (.bool b1) ∧ w'.cell? ⟨wr.heap.size, 4, none⟩ = some (.string s1) ∧ w'.cell? ⟨wr.heap.size, 5, none⟩ = some (.slice i1 m1 d1) ∧ w'.cell? ⟨wr.heap.size, 6, none⟩ = some (.slice t1 o1 q1) ∧ w'.cell? ⟨b', o' + j * 7, none⟩ = some (.int .i64 k2) ∧ w'.cell? ⟨b', o' + j * 7 + 1, none⟩ = some (.bool n2) ∧ w'.cell? ⟨b', o' + j * 7 + 2, none⟩ = some (.slice a2 l2 p2) ∧ w'.cell? ⟨b', o' + j * 7 + 3, none⟩ = some (.bool b2) ∧ w'.cell? ⟨b', o' + j * 7 + 4, none⟩ = some (.string s2) ∧ w'.cell? ⟨b', o' + j * 7 + 5, none⟩ = some (.slice i2 m2 d2) ∧ w'.cell? ⟨b', o' + j * 7 + 6, none⟩ = some (.slice t2 o2 q2)) (first | with_reducible exact ⟨z0, z1, z2, z3, z4, z5, z6, y0, y1, y2, y3, y4, y5, y6⟩ | go_keep | exact ⟨Upd.cell hu z0 hnz, Upd.cell hu z1 hnz, Upd.cell hu z2 hnz, Upd.cell hu z3 hnz, Upd.cell hu z4 hnz, Upd.cell hu z5 hnz, Upd.cell hu z6 hnz, Upd.cell hu y0 hny, Upd.cell hu y1 hny, Upd.cell hu y2 hny, Upd.cell hu y3 hny, Upd.cell hu y4 hny, Upd.cell hu y5 hny, Upd.cell hu y6 hny⟩) (first | (go_at_call 47; refine (HC.out _ (HMA.out.upd (Upd.refl [] W0).drew) HUA.out.drew).mono ?_; rintro e w9 ⟨rfl, hu9, hs9⟩; have hu := Upd.then (Upd.refl (M :: v1.ownBlock.toList) W0).drew hu9))
      clear z0 z1 z2 z3 z4 z5 z6 y0 y1 y2 y3 y4 y5 y6 HC
      have HU9 := Lib.hid (MSt.trans hU.out hV1.out (Upd.then (by rw [HWA.out]; exact (Upd.refl _ wr).alloc _) hu))
      cases RJ with
      | none =>
        have HX : Hid (RES = none) := Lib.hid (by rw [HST.out]; rfl)
        clear HST HLN hs9 hu hu9
        go_wp2
        go_ret
        exact ⟨by rw [HX.out]; rfl, HU9.out, fun bs h => by rw [HX.out] at h; cases h⟩
      | some a =>
        obtain ⟨v2, hM2, hV2⟩ := hs9 a rfl
        have HX : Hid (RES = (allM (matchN ls (sameN m) n) (ps.drop (j + 1)) (ds.drop (j + 1))).map (fun b => (acc ++ a) ++ b)) := Lib.hid (by
          rw [HST.out]
          simp only [Option.bind_some]
          cases allM (matchN ls (sameN m) n) (ps.drop (j + 1)) (ds.drop (j + 1)) with
          | none => rfl
          | some b => simp)
        have HM2 : Hid (MSt base w9 M aL nL cL m N v2 (bs0 ++ (acc ++ a))) := Lib.hid (by rw [← List.append_assoc]; exact hM2)
        have HV2 := Lib.hid (own_later (Nat.le_trans hU.out.size hwW) hV1.out hV2)
        have HLA := Lib.hid (HLN.out a rfl)
        clear HST HLN hs9 hu hu9 hM2 hV2 hM1 hV1
        go_wp2
        go_roundw
        case rel => exact ⟨j + 1, v2, acc ++ a, by omega, by go_num, HX, HM2, HV2, HLA, HU9⟩
        case measure => simp [intOf]; omega
    · have hjm : j = np := by omega
      subst hjm
      have HX : Hid (RES = some acc) := Lib.hid (by
        rw [hR.out, List.drop_of_length_le (by rw [HNP.out]; omega)]
        simp [allM])
      clear hR
      go_wp2
      go_ret
      exact ⟨by rw [HX.out]; rfl, hU.out, fun bs h => by
        rw [HX.out] at h
        cases h
        exact ⟨v1, hM1.out, hV1.out⟩⟩
end Go.Proofs.Ythmpaepdbjldfaa

/-
  (*match.matcher).match.
-/
namespace Go.Proofs.Ythmpaepdbjldfaa
set_option linter.unusedVariables false
set_option linter.unusedSimpArgs false
open Go.RowKit Go.Shelf

/-- A list's pattern of n + 1 levels against a list of m. -/
def ListSaid (ls : List Lk) (m n : Nat) : Prop := ∀ (p d : Dat) (cp cd : List Value) (w : World) (base M : Nat) (aL : Option Addr) (nL cL N : Nat) (v : Value) (bs0 : List Bd),
  MSt base w M aL nL cL m N v bs0 → Likes w (fun b => b < base) aL ls → ls.length = nL → nL ≤ 1000000 → n + 1 ≤ N → n + 1 ≤ m → p.kind = 5 → d.kind = 5 →
  IsD w (fun b => b < base) (n + 1) cp p → goodN (n + 1) p = true → wrongN ls (n + 1) p = false → szN (n + 1) p ≤ 5000 →
  IsD w (fun b => b < base) m cd d → goodN m d = true → szN m d ≤ 5000 → dpN m d ≤ 200 → bs0.length + szN (n + 1) p ≤ 10000 →
  Calls Try.prog 69 #[.pointer (some ⟨M, 0, none⟩), .agg cp.toArray, .agg cd.toArray] w (MPost base w M aL nL cL m N v bs0 (listM ls (matchN ls (sameN m) n) (fun x => placesN ls n x 0) p d))
theorem IsD.shaped7 {w : World} {P : Nat → Prop} {n : Nat} {cs : List Value} {d : Dat} (h : IsD w P n cs d) : ∃ k neg aL nL cL b s aI nI cI aT nT cT, cs = [.int .i64 k, .bool neg, .slice aL nL cL, .bool b, .string s, .slice aI nI cI, .slice aT nT cT] := h.shaped
/-- Behind an append a bound one is what it was. -/
theorem IsB.regrow {base M m N : Nat} {v v' : Value} {W w' : World} (hu : Upd v.ownBlock.toList W w') (hv : v'.ownBlock = v.ownBlock ∨ v'.ownBlock = some W.heap.size) {cs : List Value} {b : Bd} (h : IsB W (BIn base M v) m N cs b) : IsB w' (BIn base M v') m N cs b := by
  obtain ⟨ct, e, h⟩ := h
  refine ⟨ct, e, IsT.map (k := 0) (fun b hb hp => ⟨hp.1, hp.2.1, fun e => ?_⟩) (fun b o u hp hc => hu.cell hc (fun hx => hp.2.2 (by simpa using hx))) h⟩
  rcases hv with hv | hv
  · exact hp.2.2 (hv.symm.trans e)
  · rw [hv] at e
    injection e with e
    omega
/-- Behind an append, and where the row is put back. -/
theorem MSt.added {base : Nat} {W w' : World} {M : Nat} {aL : Option Addr} {nL cL m N : Nat} {v v' : Value} {bs xs : List Bd} (h : MSt base W M aL nL cL m N v bs) (hO : OwnK base w' 66 10 (IsB W (BIn base M v) m N) v' (bs ++ xs)) (hu : Upd v.ownBlock.toList W w')
    (hv : v'.ownBlock = v.ownBlock ∨ v'.ownBlock = some W.heap.size) : MSt base (w'.setCell ⟨M, 1, none⟩ v') M aL nL cL m N v' (bs ++ xs) ∧ Upd (M :: v.ownBlock.toList) W (w'.setCell ⟨M, 1, none⟩ v') := by
  have hB : Blk w' M [.slice aL nL cL, v] 85 := hu.blk h.blk (fun hx => h.ne (by simpa using hx))
  have hO2 : OwnK base w' 66 10 (IsB w' (BIn base M v') m N) v' (bs ++ xs) := hO.mono (fun _ _ h => h.regrow hu hv)
  have hsM : Upd [M] w' (w'.setCell ⟨M, 1, none⟩ v') := (Upd.refl _ _).setCell _ (.inl (by simp))
  refine ⟨⟨hB.set 1 v', hO2.upd hsM (fun g hg hx => ?_) (fun cs b hb => hb.updS hsM (fun b hp hx => hp.2.1 (by simpa using hx))), h.low⟩, ?_⟩
  · have := hO2.ne_blk hB (by decide)
    rw [hg] at this
    simp at hx
    exact this (by rw [hx])
  · exact (hu.mono (fun x hx _ => List.mem_cons.2 (.inr hx))).setCell _ (.inl (by simp))
/-- A variable's new one, laid out. -/
theorem new_bind {base : Nat} {w3 w9 : World} {M : Nat} {aL : Option Addr} {nL cL m N : Nat} {v : Value} {bs : List Bd} (hM : MSt base w3 M aL nL cL m N v bs) (hu : Upd [] w3 w9) {cs : List Value} {d : Dat} (hD : IsD w9 (fun b => w3.heap.size ≤ b) m cs d) (hs : szN m d ≤ 5000) (hd : dpN m d ≤ 200) (hN : 1 ≤ N) (s : ByteArray) {cb : List Value}
    (hcb : cb = .string s :: (cs ++ [.bool false, .slice none 0 0])) : MSt base (w9.alloc (.cells cb.toArray 66)) M aL nL cL m N v bs ∧ RowK (w9.alloc (.cells cb.toArray 66)) (fun _ => True) 10 (IsB (w9.alloc (.cells cb.toArray 66)) (BIn base M v) m N) (some ⟨w9.heap.size, 0, none⟩) [⟨s, .mk d false []⟩] := by
  have hA : Upd [] w9 (w9.alloc (.cells cb.toArray 66)) := (Upd.refl [] w9).alloc _
  refine ⟨(hM.upd hu).upd hA, ?_⟩
  have hl : cb.length = 10 := by
    rw [hcb]
    simp [hD.shaped.len]
  refine RowK.one (Blk.new w9 cb 66) trivial hl ⟨_, hcb, ?_⟩
  obtain ⟨N', rfl⟩ : ∃ N', N = N' + 1 := ⟨N - 1, by omega⟩
  refine ⟨cs, none, 0, rfl, ⟨(hD.upd hA).mono (fun b _ hb => ⟨?_, ?_, fun e => ?_⟩), hs, hd⟩, RowK.nil _ _ _ _ _, Nat.le_refl _, Nat.zero_le _⟩
  · have := hM.low
    have := hM.blk.lt
    omega
  · have := hM.blk.lt
    omega
  · have := (hM.own.lt e).2
    omega
set_option maxRecDepth 100000 in
set_option maxHeartbeats 9000000 in
theorem match_step {ls : List Lk} {m n : Nat} (ih : ListSaid ls m n) : MatchSaid ls m (n + 1) := by
  intro p d cp cd w base M aL nL cL N v bs0 hM hL hnL hnb hnN hnm hp hgp hwp hsp hd hgd hsd hdd hcnt
  have hpm : IsD w (fun b => b < base) m cp p := by
    have := hp.more (m - (n + 1))
    rwa [show n + 1 + (m - (n + 1)) = m by omega] at this
  have HU0 : Hid (matchN ls (sameN m) (n + 1) p d = if p.kind = 3 then
      (if 0 ≤ findF ls p.s then (if d.kind = 3 ∧ (ls.getD (findF ls p.s).toNat default).all.any (fun s => decide (s = d.s)) = true then some [] else none)
      else if p.s = anyB then some [] else some [⟨p.s, .mk d false []⟩])
    else if p.kind = 5 then (if d.kind = 5 then listM ls (matchN ls (sameN m) n) (fun x => placesN ls n x 0) p d else none)
    else sameM (sameN m) p d) := Lib.hid rfl
  have hLi : Hid (∀ W, Upd [] w W → p.kind = 5 → d.kind = 5 → Calls Try.prog 69 #[.pointer (some ⟨M, 0, none⟩), .agg cp.toArray, .agg cd.toArray] W (MPost base W M aL nL cL m N v bs0 (listM ls (matchN ls (sameN m) n) (fun x => placesN ls n x 0) p d))) := Lib.hid (fun W hu hk hk' =>
    ih p d cp cd W base M aL nL cL N v bs0 (hM.upd hu) (hL.upd hu) hnL hnb hnN hnm hk hk' (hp.upd hu) hgp hwp hsp (hd.upd hu) hgd hsd hdd hcnt)
  have hSa : Hid (∀ W, Upd [] w W → szN m p ≤ 100000 → dpN m p ≤ 10000 → Calls Try.prog 70 #[.agg cp.toArray, .agg cd.toArray] W fun e w' => e = .returned (.bool (sameN m p d)) ∧ Upd [] W w') := Lib.hid (fun W hu h1 h2 => SameX_calls (hpm.upd hu) (hd.upd hu) h1 h2 (by omega) (by omega))
  have hCo : Hid (∀ W, Upd [] w W → Calls Try.prog 12 #[.agg cd.toArray] W fun e w' => (∃ cs', e = .returned (.agg cs'.toArray) ∧ IsD w' (fun b => W.heap.size ≤ b) m cs' d) ∧ Upd [] W w') := Lib.hid (fun W hu => copy_calls (hd.upd hu) (by omega) (by omega))
  have hFi : Hid (∀ W, Upd [] w W → Calls Try.prog 68 #[.slice aL nL cL, .string p.s] W fun e w' => e = .returned (.int .i64 (findF ls p.s)) ∧ Upd [] W w') := Lib.hid (fun W hu => find_calls p.s nL cL hnL (hL.upd hu) hnb)
  have HAT : Hid (p.kind ≠ 5 → szN m p ≤ 100000 ∧ dpN m p ≤ 10000) := Lib.hid (fun h => by
    obtain ⟨e1, e2⟩ := good_atom hgp h
    obtain ⟨m', rfl⟩ : ∃ m', m = m' + 1 := ⟨m - 1, by omega⟩
    rw [szN, dpN, e1, e2]
    simp [szL, dpL])
  obtain ⟨RES, hRES⟩ : ∃ R, R = matchN ls (sameN m) (n + 1) p d := ⟨_, rfl⟩
  rw [← hRES] at HU0 ⊢
  obtain ⟨xL, yL, xI, yI, xT, yT, rfl, pl1, pr1, pr2, pcap, pbd⟩ := hp
  obtain ⟨uL, vL, uI, vI, uT, vT, rfl⟩ := cells_agg hd
  unfold datCells at *
  have hb := findF_bound ls p.s
  obtain ⟨W2, hW2⟩ : ∃ W2, W2 = (w.alloc (.cells #[.int .i64 p.kind, .bool p.neg, .slice xL p.limbs.length yL, .bool p.b, .string p.s, .slice xI p.items.length yI, .slice xT p.tail.length yT] 27)).alloc (.cells #[.int .i64 d.kind, .bool d.neg, .slice uL d.limbs.length vL, .bool d.b, .string d.s, .slice uI d.items.length vI, .slice uT d.tail.length vT] 27) := ⟨_, rfl⟩
  have hu2 : Upd [] w W2 := by rw [hW2]; exact ((Upd.refl [] w).alloc _).alloc _
  have hb2 : Blk W2 w.heap.size [.int .i64 p.kind, .bool p.neg, .slice xL p.limbs.length yL, .bool p.b, .string p.s, .slice xI p.items.length yI, .slice xT p.tail.length yT] 27 := by rw [hW2]; exact (Blk.newAt rfl).alloc _
  have hb3 : Blk W2 (w.heap.size + 1) [.int .i64 d.kind, .bool d.neg, .slice uL d.limbs.length vL, .bool d.b, .string d.s, .slice uI d.items.length vI, .slice uT d.tail.length vT] 27 := by rw [hW2]; exact Blk.newAt (by simp)
  have hM2 := hM.upd hu2
  have HB2 := Lib.hid hb2
  have HB3 := Lib.hid hb3
  have HU2 := Lib.hid hu2
  have HW2 := Lib.hid hW2
  have HM2 := Lib.hid hM2
  have HL := Lib.hid hL
  have HM := Lib.hid hM
  have HK := Lib.hid (And.intro hnL (And.intro hnb (And.intro hnN (And.intro hsd (And.intro hdd hcnt)))))
  have hmM : M < w.heap.size := hM.blk.lt
  have HG : Hid (goodN (n + 1) p = true) := Lib.hid hgp
  clear hu2 hb2 hb3 hW2 hM2 hL hM hnL hnN hnm hgp hwp hsp hd hgd hsd hdd hcnt hpm pl1 pr1 pr2 pcap pbd ih hRES
  generalize p.kind = kp at *
  generalize d.kind = kd at *
  go_enter Try.func47, Try.ntmps47
  by_cases h3 : kp = 3
  · subst h3
    have HU3 : Hid (RES = if 0 ≤ findF ls p.s then (if kd = 3 ∧ (ls.getD (findF ls p.s).toNat default).all.any (fun s => decide (s = d.s)) = true then some [] else none)
      else if p.s = anyB then some [] else some [⟨p.s, .mk d false []⟩]) := Lib.hid (by rw [HU0.out, if_pos rfl])
    obtain ⟨k, hk⟩ : ∃ k, k = findF ls p.s := ⟨_, rfl⟩
    rw [← hk] at HU3 hFi hb
    clear HU0 hLi hSa hk
    go_wp2_with fail
    rw [← HW2.out]
    obtain ⟨x0, x1, x2, x3, x4, x5, x6⟩ := Blk.seven HB2.out
    have c0 := HM2.out.blk.cell_some (i := 0) rfl
    go_region_held3 (fun w' => w'.cell? ⟨M, 0, none⟩ = some (.slice aL nL cL) ∧ w'.cell? ⟨w.heap.size, 4, none⟩ = some (.string p.s)) (first | with_reducible exact ⟨c0, x4⟩ | go_keep | exact ⟨Upd.cell hu c0 (by simp), Upd.cell hu x4 (by simp)⟩) (first | (go_at_call 68; refine (hFi.out _ HU2.out.drew).mono ?_; rintro e w3 ⟨rfl, hu3⟩; have hu := Upd.then (Upd.refl [] W2).drew hu3))
    have hB3 := hu.blk HB3.out (by simp)
    have hB2 := hu.blk HB2.out (by simp)
    have hM3 := HM2.out.upd hu
    have HU3' := Lib.hid (HU2.out.then hu)
    have HB3' := Lib.hid hB3
    have HB2' := Lib.hid hB2
    have HM3 := Lib.hid hM3
    obtain ⟨x0, x1, x2, x3, x4, x5, x6⟩ := Blk.seven hB2
    obtain ⟨y0, y1, y2, y3, y4, y5, y6⟩ := Blk.seven hB3
    have c0 := hM3.blk.cell_some (i := 0) rfl
    have c1 := hM3.blk.cell_some (i := 1) rfl
    have hltM : M < w3.heap.size := hM3.blk.lt
    have hltB : w.heap.size + 1 < w3.heap.size := hB3.lt
    clear hB2 hB3 hM3 hu hu3 HB2 HB3 HU2 HW2 HM2 hFi
    by_cases hk0 : 0 ≤ k
    · obtain ⟨j, rfl⟩ : ∃ j : Nat, k = (j : Int) := ⟨k.toNat, by omega⟩
      have hjl : j < ls.length := by omega
      have hjn : (j : Int) < (nL : Int) := by have := HK.out.1; omega
      have HU4 : Hid (RES = if kd = 3 ∧ (ls.getD j default).all.any (fun s => decide (s = d.s)) = true then some [] else none) := Lib.hid (by rw [HU3.out, if_pos hk0]; rfl)
      obtain ⟨b, o, aA, cA, rfl, hbl, e0, e1, hRA, hcA, hnA⟩ := (HL.out.upd HU3'.out).at hjl
      have hCn : Hid (∀ W, Upd [] w3 W → Calls Try.prog 57 #[.slice aA (ls.getD j default).all.length cA, .string d.s] W fun e w' => e = .returned (.bool (hasS (ls.getD j default).all d.s)) ∧ Upd [] W w') := Lib.hid (fun W hu => containsStr_calls d.s _ cA rfl (hRA.upd (by decide) hu (by simp) (fun _ _ h => h)) hnA)
      have HHS : Hid (RES = if kd = 3 ∧ hasS (ls.getD j default).all d.s = true then some [] else none) := Lib.hid (by rw [HU4.out]; rfl)
      generalize hasS (ls.getD j default).all d.s = r at *
      generalize (ls.getD j default).all.length = nA at *
      generalize (ls.getD j default).name = nm at *
      clear HU4 HU3 hRA
      by_cases hk3 : kd = 3
      · subst hk3
        go_wp2_with fail
        go_region_held3 (fun w' => w'.cell? ⟨M, 0, none⟩ = some (.slice (some ⟨b, o, none⟩) nL cL) ∧ w'.cell? ⟨w.heap.size + 1, 0, none⟩ = some (.int .i64 3) ∧ w'.cell? ⟨w.heap.size + 1, 4, none⟩ = some (.string d.s) ∧ w'.cell? ⟨b, o + j * 2 + 1, none⟩ = some (.slice aA nA cA)) (first | with_reducible exact ⟨c0, y0, y4, e1⟩ | go_keep | exact ⟨Upd.cell hu c0 (by simp), Upd.cell hu y0 (by simp), Upd.cell hu y4 (by simp), Upd.cell hu e1 (by simp)⟩) (first | (go_at_call 57; refine (hCn.out _ (Upd.refl [] w3).drew).mono ?_; rintro e w4 ⟨rfl, hu4⟩; have hu := Upd.then (Upd.refl [] w3).drew hu4))
        have HU5 := Lib.hid (HU3'.out.then hu)
        have HM5 := Lib.hid (HM3.out.upd hu)
        clear hu hu4 hCn
        go_wp2
        go_ret
        refine ⟨by rw [HHS.out]; cases r <;> rfl, HU5.out.mono (by simp), fun bs h => ?_⟩
        rw [HHS.out] at h
        cases r with
        | false => simp at h
        | true =>
          simp at h
          subst h
          exact ⟨v, by rw [List.append_nil]; exact HM5.out, .inl rfl⟩
      · have hk3' : (kd == 3) = false := by simpa using hk3
        have HX : Hid (RES = none) := Lib.hid (by rw [HHS.out, if_neg (fun h => hk3 h.1)])
        clear HHS
        go_wp2_with fail
        have hk4 : decide (kd = 3) = false := by simpa using hk3
        go_quiet (fail)
        go_wp2
        go_ret
        exact ⟨by rw [HX.out]; rfl, (Upd.drewN HU3'.out _).mono (by simp), fun bs h => by rw [HX.out] at h; cases h⟩
    · have hk0' : ¬ (0 : Int) ≤ k := hk0
      have HU4 : Hid (RES = if p.s = anyB then some [] else some [⟨p.s, .mk d false []⟩]) := Lib.hid (by rw [HU3.out, if_neg hk0])
      clear HU3
      by_cases ha : p.s = anyB
      · have HX : Hid (RES = some []) := Lib.hid (by rw [HU4.out, if_pos ha])
        have ha' : (p.s.toList == [95]) = true := by rw [ha, show anyB.toList = [95] from any_list]; rfl
        clear HU4
        generalize p.s = ps at *
        have HA := Lib.hid ha
        clear ha
        go_wp2
        go_ret
        exact ⟨by rw [HX.out]; rfl, HU3'.out.mono (by simp), fun bs h => by
          rw [HX.out] at h
          cases h
          exact ⟨v, by rw [List.append_nil]; exact HM3.out, .inl rfl⟩⟩
      · have HX : Hid (RES = some [⟨p.s, .mk d false []⟩]) := Lib.hid (by rw [HU4.out, if_neg ha])
        have ha' : (p.s.toList == [95]) = false := by
          have : ¬ p.s.toList = [95] := fun e => ha (str_inj (e.trans any_list.symm))
          simpa using this
        clear HU4
        generalize p.s = ps at *
        have HA := Lib.hid ha
        clear ha
        have HCo := Lib.hid (fun W (hu : Upd [] w3 W) => hCo.out W (HU3'.out.then hu))
        clear hCo
        have hne0 : w.heap.size ≠ M := by omega
        have hne1 : w.heap.size + 1 ≠ M := by omega
        have HNZ : Hid (w.heap.size ∉ v.ownBlock.toList ∧ w.heap.size + 1 ∉ v.ownBlock.toList) := Lib.hid ⟨fun hx => by have := (HM.out.own.lt (by simpa using hx)).2; omega, fun hx => by have := (HM.out.own.lt (by simpa using hx)).2; omega⟩
        have HCN : Hid (bs0.length + 1 ≤ 100000000) := Lib.hid (by have := HK.out.2.2.2.2.2; omega)
        have HSD : Hid (szN m d ≤ 5000 ∧ dpN m d ≤ 200 ∧ 1 ≤ N) := Lib.hid ⟨HK.out.2.2.2.1, HK.out.2.2.2.2.1, by have := HK.out.2.2.1; omega⟩
        have HBB : Hid (base ≤ w3.heap.size) := Lib.hid (by have := HM3.out.low; omega)
        generalize d.neg = dng at *
        generalize d.limbs.length = dll at *
        generalize d.b = db at *
        generalize d.s = dss at *
        generalize d.items.length = dil at *
        generalize d.tail.length = dtl at *
        go_wp2_with fail
        refine wp_region_noPanic ?_
        go_region_law ((try dsimp (config := { proj := false }) only [List.getElem_toArray, List.getElem_cons_succ, List.getElem_cons_zero]); (first
          | (refine step_appk rfl _ _ 37 rfl base 66 _ 10 160 Try.underlying37 info_bind rfl (by decide) (v := v) (xs := bs0) (ys := [⟨ps, .mk d false []⟩]) rfl (new_bind HM3.out hu hD9 HSD.out.1 HSD.out.2.1 HSD.out.2.2 ps rfl).1.own rfl rfl (new_bind HM3.out hu hD9 HSD.out.1 HSD.out.2.1 HSD.out.2.2 ps rfl).2 (fun _ _ h => h.one) HCN.out (by decide) (Nat.le_trans HBB.out ((hu.alloc _).size)) ?_; rintro q10 a10 c10 w10 - hO10 hu10 hv10; have hB2y := hu10.blk (hB2x.alloc _) HNZ.out.1; have hB3y := hu10.blk (hB3x.alloc _) HNZ.out.2; obtain ⟨x0, x1, x2, x3, x4, x5, x6⟩ := Blk.seven hB2y; obtain ⟨y0, y1, y2, y3, y4, y5, y6⟩ := Blk.seven hB3y; have hMw := (new_bind HM3.out hu hD9 HSD.out.1 HSD.out.2.1 HSD.out.2.2 ps rfl).1; have hBM := hu10.blk hMw.blk (fun hx => hMw.ne (by simpa using hx)); have c1 := hBM.cell_some (i := 1) rfl; have fM := hBM.free 1; have hlM := hBM.lt)
          | (go_simp; go_wp2_with (go_at_call 12; refine (HCo.out _ (Upd.refl [] w3).drew).mono ?_; rintro e w9 ⟨⟨cs9, rfl, hD9⟩, hu9⟩; obtain ⟨f0, f1, f2, f3, f4, f5, f6, f7, f8, f9, f10, f11, f12, rfl⟩ := hD9.shaped7; have hu := Upd.then (Upd.refl [] w3).drew hu9; have hB2x := hu.blk HB2'.out (by simp); have hB3x := hu.blk HB3'.out (by simp); have c1 := hu.cell c1 (by simp); obtain ⟨x0, x1, x2, x3, x4, x5, x6⟩ := Blk.seven hB2x; obtain ⟨y0, y1, y2, y3, y4, y5, y6⟩ := Blk.seven hB3x; have hl9 := hB3x.lt; have hM9 : M < w9.heap.size := Nat.lt_of_lt_of_le hltM hu.size))))
        all_goals refine NoPanic.normal ?_
        all_goals
          have hfin := hMw.added hO10 hu10 hv10
          have hsz9 : w.heap.size ≤ w9.heap.size := by have := HU3'.out.size; have := hu.size; omega
          have HFM := Lib.hid hfin.1
          have HFU : Hid (Upd (M :: v.ownBlock.toList) w (w10.setCell ⟨M, 1, none⟩ (.slice a10 q10 c10))) := Lib.hid ((((HU3'.out.then hu).alloc _).mono (by simp)).then hfin.2)
          have HFV : Hid ((Value.slice a10 q10 c10).ownBlock = v.ownBlock ∨ ∃ g, (Value.slice a10 q10 c10).ownBlock = some g ∧ w.heap.size ≤ g) := Lib.hid (by
            rcases hv10 with h | h
            · exact .inl h
            · exact .inr ⟨_, h, by simp; omega⟩)
          clear hfin hMw hO10 hu10 hv10 hB2x hB3x hB2y hB3y hBM hD9 x0 x1 x2 x3 x4 x5 x6 y0 y1 y2 y3 y4 y5 y6 hu hu9 c0 c1 HCo HM3 HB2' HB3'
          go_wp2
          go_ret
          exact ⟨by rw [HX.out]; rfl, HFU.out, fun bs h => by
            rw [HX.out] at h
            cases h
            exact ⟨_, HFM.out, HFV.out⟩⟩
  · have h3' : (kp == 3) = false := by simpa using h3
    by_cases h5 : kp = 5
    · subst h5
      have HU5 : Hid (RES = if kd = 5 then listM ls (matchN ls (sameN m) n) (fun x => placesN ls n x 0) p d else none) := Lib.hid (by rw [HU0.out, if_neg h3, if_pos rfl])
      clear HU0 hSa hCo hFi
      by_cases hd5 : kd = 5
      · subst hd5
        have HX : Hid (RES = listM ls (matchN ls (sameN m) n) (fun x => placesN ls n x 0) p d) := Lib.hid (by rw [HU5.out, if_pos rfl])
        have HLi := Lib.hid (fun W hu => hLi.out W hu rfl rfl)
        clear HU5 hLi
        generalize listM ls (matchN ls (sameN m) n) (fun x => placesN ls n x 0) p d = LR at *
        go_wp2_with fail
        rw [← HW2.out]
        refine (HLi.out _ HU2.out).mono ?_
        rintro e w9 ⟨rfl, hu9, hs9⟩
        have HU9 : Hid (Upd (M :: v.ownBlock.toList) w w9) := Lib.hid ((HU2.out.mono (by simp)).then hu9)
        have HS9 := Lib.hid hs9
        have HSZ := Lib.hid HU2.out.size
        clear hu9 hs9 HLi HB2 HB3 HU2 HW2 HM2
        go_wp2
        go_ret
        refine ⟨by rw [HX.out]; rfl, HU9.out, fun bs h => ?_⟩
        obtain ⟨v', h1, h2⟩ := HS9.out bs (by rw [← HX.out]; exact h)
        refine ⟨v', h1, ?_⟩
        rcases h2 with h2 | ⟨g, h2, h3⟩
        · exact .inl h2
        · exact .inr ⟨g, h2, Nat.le_trans HSZ.out h3⟩
      · have hd5' : (kd == 5) = false := by simpa using hd5
        have HX : Hid (RES = none) := Lib.hid (by rw [HU5.out, if_neg hd5])
        clear HU5 hLi
        go_wp2_with fail
        rw [← HW2.out]
        go_wp2
        go_ret
        exact ⟨by rw [HX.out]; rfl, HU2.out.mono (by simp), fun bs h => by rw [HX.out] at h; cases h⟩
    · have h5' : (kp == 5) = false := by simpa using h5
      have HX : Hid (RES = if sameN m p d then some [] else none) := Lib.hid (by rw [HU0.out, if_neg h3, if_neg h5]; rfl)
      have HSa := Lib.hid (fun W hu => hSa.out W hu (HAT.out h5).1 (HAT.out h5).2)
      clear HU0 hLi hCo hFi hSa
      generalize sameN m p d = r at *
      go_wp2_with fail
      rw [← HW2.out]
      refine (HSa.out _ HU2.out).mono ?_
      rintro e w9 ⟨rfl, hu9⟩
      have HU9 := Lib.hid (HU2.out.then hu9)
      have HM9 := Lib.hid (HM2.out.upd hu9)
      clear hu9 HSa HB2 HB3 HU2 HW2 HM2
      go_wp2
      go_ret
      refine ⟨by rw [HX.out]; cases r <;> rfl, HU9.out.mono (by simp), fun bs h => ?_⟩
      rw [HX.out] at h
      cases r with
      | false => cases h
      | true =>
        cases h
        exact ⟨v, by rw [List.append_nil]; exact HM9.out, .inl rfl⟩
end Go.Proofs.Ythmpaepdbjldfaa

/-
  Levels; (*match.matcher).list$1.
-/
namespace Go.Proofs.Ythmpaepdbjldfaa
set_option linter.unusedVariables false
set_option linter.unusedSimpArgs false
open Go.RowKit Go.Shelf

theorem szL_congr {f g : Dat → Nat} : ∀ (l : List Dat), (∀ x ∈ l, f x = g x) → szL f l = szL g l
  | [], _ => rfl
  | x :: l, h => by rw [szL, szL, h x (by simp), szL_congr l (fun y hy => h y (by simp [hy]))]
theorem dpL_congr {f g : Dat → Nat} : ∀ (l : List Dat), (∀ x ∈ l, f x = g x) → dpL f l = dpL g l
  | [], _ => rfl
  | x :: l, h => by rw [dpL, dpL, h x (by simp), dpL_congr l (fun y hy => h y (by simp [hy]))]
theorem szL_mem {f : Dat → Nat} : ∀ {l : List Dat} {x : Dat}, x ∈ l → f x ≤ szL f l
  | [], _, h => by cases h
  | y :: l, x, h => by
    rw [szL]
    rcases List.mem_cons.1 h with h | h
    · subst h
      omega
    · have := szL_mem (f := f) h
      omega
theorem dpL_mem {f : Dat → Nat} : ∀ {l : List Dat} {x : Dat}, x ∈ l → f x ≤ dpL f l
  | [], _, h => by cases h
  | y :: l, x, h => by
    rw [dpL]
    rcases List.mem_cons.1 h with h | h
    · subst h
      omega
    · have := dpL_mem (f := f) h
      omega
theorem szN_up : ∀ (n : Nat) (d : Dat), szN n d ≤ 1000000 → szN (n + 1) d = szN n d
  | 0, d, h => by simp [szN] at h
  | n + 1, d, h => by
    have hs : szN (n + 1) d = 1 + szL (szN n) d.items + szL (szN n) d.tail := rfl
    rw [hs] at h
    rw [hs, szN, szL_congr d.items (fun x hx => szN_up n x (by have := szL_mem (f := szN n) hx; omega)), szL_congr d.tail (fun x hx => szN_up n x (by have := szL_mem (f := szN n) hx; omega))]
theorem dpN_up : ∀ (n : Nat) (d : Dat), szN n d ≤ 1000000 → dpN (n + 1) d = dpN n d
  | 0, d, h => by simp [szN] at h
  | n + 1, d, h => by
    have hs : szN (n + 1) d = 1 + szL (szN n) d.items + szL (szN n) d.tail := rfl
    have hd : dpN (n + 1) d = 1 + max (dpL (dpN n) d.items) (dpL (dpN n) d.tail) := rfl
    rw [hs] at h
    rw [hd, dpN, dpL_congr d.items (fun x hx => dpN_up n x (by have := szL_mem (f := szN n) hx; omega)), dpL_congr d.tail (fun x hx => dpN_up n x (by have := szL_mem (f := szN n) hx; omega))]
theorem goodN_up : ∀ (n : Nat) (d : Dat), goodN n d = true → goodN (n + 1) d = true
  | 0, d, h => by simp [goodN] at h
  | n + 1, d, h => by
    by_cases h5 : d.kind = 5
    · obtain ⟨h1, h2⟩ := good_list h h5
      have hp := good_plain h
      unfold goodN
      rw [decide_eq_true hp, Bool.true_and, if_neg (by omega), if_neg (by omega), if_neg (by omega), if_neg (by omega), if_pos h5, decide_eq_true h1, Bool.true_and, List.all_eq_true]
      exact fun x hx => goodN_up n x (h2 x hx)
    · unfold goodN at h ⊢
      rw [Bool.and_eq_true] at h ⊢
      refine ⟨h.1, ?_⟩
      have h2 := h.2
      by_cases h0 : d.kind = 0 ∨ d.kind = 2
      · rw [if_pos h0]
      · rw [if_neg h0] at h2 ⊢
        by_cases h1 : d.kind = 1
        · rw [if_pos h1] at h2 ⊢
          exact h2
        · rw [if_neg h1] at h2 ⊢
          by_cases h3 : d.kind = 3
          · rw [if_pos h3] at h2 ⊢
            exact h2
          · rw [if_neg h3] at h2 ⊢
            by_cases h4 : d.kind = 4
            · rw [if_pos h4] at h2 ⊢
              exact h2
            · rw [if_neg h4, if_neg h5] at h2
              cases h2
/-- Good, few, and not deep. -/
def FewD (m : Nat) (d : Dat) : Prop := goodN m d = true ∧ szN m d ≤ 5000 ∧ dpN m d ≤ 200
theorem FewD.up {m : Nat} {d : Dat} (h : FewD m d) : FewD (m + 1) d := ⟨goodN_up m d h.1, by rw [szN_up m d (by have := h.2.1; omega)]; exact h.2.1, by rw [dpN_up m d (by have := h.2.1; omega)]; exact h.2.2⟩
theorem FewD.pos {m : Nat} {d : Dat} (h : FewD m d) : ∃ m', m = m' + 1 := by
  cases m with
  | zero => have := h.1; simp [goodN] at this
  | succ m => exact ⟨m, rfl⟩
theorem FewD.sub {m : Nat} {d : Dat} (h : FewD (m + 1) d) (hk : d.kind = 5) {x : Dat} (hx : x ∈ d.items ++ d.tail) : FewD m x := by
  obtain ⟨_, hg⟩ := good_list h.1 hk
  have hs : szN (m + 1) d = 1 + szL (szN m) d.items + szL (szN m) d.tail := rfl
  have hd : dpN (m + 1) d = 1 + max (dpL (dpN m) d.items) (dpL (dpN m) d.tail) := rfl
  have h2 := h.2
  rw [hs, hd] at h2
  refine ⟨hg x hx, ?_, ?_⟩
  · rcases List.mem_append.1 hx with hx | hx
    · have := szL_mem (f := szN m) hx
      omega
    · have := szL_mem (f := szN m) hx
      omega
  · rcases List.mem_append.1 hx with hx | hx
    · have := dpL_mem (f := dpN m) hx
      omega
    · have := dpL_mem (f := dpN m) hx
      omega
theorem tail_cases {m : Nat} {d : Dat} (h : goodN (m + 1) d = true) (hk : d.kind = 5) : d.tail = [] ∨ ∃ t, d.tail = [t] := by
  obtain ⟨ht, _⟩ := good_list h hk
  unfold tailOk at ht
  rcases hp : d.tail with _ | ⟨t, _ | ⟨u, l⟩⟩
  · exact .inl rfl
  · exact .inr ⟨t, rfl⟩
  · rw [hp] at ht
    simp at ht
/-- The list from the k-th item on. -/
theorem FewD.cut {m : Nat} {d : Dat} (h : FewD (m + 1) d) (hk : d.kind = 5) (k : Nat) (hkt : d.tail = [] ∨ k < d.items.length) : FewD (m + 1) (.mk 5 false [] false ByteArray.empty (d.items.drop k) d.tail) := by
  obtain ⟨ht, hg⟩ := good_list h.1 hk
  have hs : szN (m + 1) d = 1 + szL (szN m) d.items + szL (szN m) d.tail := rfl
  have hd : dpN (m + 1) d = 1 + max (dpL (dpN m) d.items) (dpL (dpN m) d.tail) := rfl
  have h2 := h.2
  rw [hs, hd] at h2
  have h3 := szL_append (szN m) (d.items.take k) (d.items.drop k)
  have h4 := dpL_append (dpN m) (d.items.take k) (d.items.drop k)
  rw [List.take_append_drop] at h3 h4
  refine ⟨?_, ?_, ?_⟩
  · unfold goodN
    rw [Bool.and_eq_true]
    refine ⟨decide_eq_true ⟨fun _ => ⟨rfl, rfl⟩, fun _ => rfl, fun _ _ => rfl, fun h => absurd rfl h⟩, ?_⟩
    have hkk : (Dat.mk 5 false [] false ByteArray.empty (d.items.drop k) d.tail).kind = 5 := rfl
    rw [hkk]
    rw [if_neg (show ¬ ((5 : Int) = 0 ∨ (5 : Int) = 2) by decide), if_neg (show ¬ (5 : Int) = 1 by decide), if_neg (show ¬ (5 : Int) = 3 by decide), if_neg (show ¬ (5 : Int) = 4 by decide), if_pos rfl, Bool.and_eq_true]
    refine ⟨decide_eq_true ?_, ?_⟩
    · unfold tailOk at ht ⊢
      show d.tail.length = 0 ∨ d.tail.length = 1 ∧ 0 < (d.items.drop k).length ∧ (d.tail.getD 0 default).kind ≠ 5
      rcases hkt with e | e
      · left
        rw [e]
        rfl
      · rw [List.length_drop]
        rcases ht with h | h
        · exact .inl h
        · exact .inr ⟨h.1, by omega, h.2.2⟩
    · rw [List.all_eq_true]
      intro x hx
      refine hg x ?_
      rcases List.mem_append.1 hx with hx | hx
      · exact List.mem_append.2 (.inl (List.mem_of_mem_drop hx))
      · exact List.mem_append.2 (.inr hx)
  · show 1 + szL (szN m) (d.items.drop k) + szL (szN m) d.tail ≤ 5000
    omega
  · show 1 + max (dpL (dpN m) (d.items.drop k)) (dpL (dpN m) d.tail) ≤ 200
    omega
theorem FewD.rest {m : Nat} {d : Dat} (h : FewD (m + 1) d) (hk : d.kind = 5) (k : Nat) (hkl : k ≤ d.items.length) : FewD (m + 1) (restM d k) := by
  unfold restM
  split
  · rename_i hc
    have : d.tail.getD 0 default ∈ d.items ++ d.tail := List.mem_append.2 (.inr (mem_getD hc.2))
    exact (h.sub hk this).up
  · rename_i hc
    refine h.cut hk k ?_
    rcases tail_cases h.1 hk with e | ⟨t, e⟩
    · exact .inl e
    · rw [e] at hc
      simp at hc
      exact .inr (by omega)
set_option maxRecDepth 100000 in
set_option maxHeartbeats 3000000 in
theorem list1_calls {ls : List Lk} {n : Nat} {x : Dat} {cs : List Value} {w : World} {aL : Option Addr} {P P' : Nat → Prop} {b0 M nL cL : Nat} (hx : IsD w P n cs x) (hL : Likes w P' aL ls) (hnL : ls.length = nL) (hnb : nL ≤ 1000000) (hc0 : w.cell? ⟨b0, 0, none⟩ = some (.pointer (some ⟨M, 0, none⟩))) (hcM : w.cell? ⟨M, 0, none⟩ = some (.slice aL nL cL)) :
    Calls Try.prog 98 #[.agg cs.toArray, .pointer (some ⟨b0, 0, none⟩)] w fun e w' => e = .returned (.bool (againF ls x)) ∧ Upd [] w w' := by
  have hA := Lib.hid (fun (W : World) (hu : Upd [] w W) => again_calls nL cL hnL (hx.upd hu) (hL.upd hu) hnb)
  have hlt0 : b0 < w.heap.size := World.block_lt_of_cell? w _ hc0
  have hltM : M < w.heap.size := World.block_lt_of_cell? w _ hcM
  obtain ⟨k1, n1, a1, l1, p1, b1, s1, i1, m1, d1, t1, o1, q1, rfl⟩ := hx.shaped7
  obtain ⟨W2, hW2⟩ : ∃ W2, W2 = w.alloc (.cells #[.int .i64 k1, .bool n1, .slice a1 l1 p1, .bool b1, .string s1, .slice i1 m1 d1, .slice t1 o1 q1] 27) := ⟨_, rfl⟩
  have hu2 : Upd [] w W2 := by rw [hW2]; exact (Upd.refl [] w).alloc _
  have hb2 : Blk W2 w.heap.size [.int .i64 k1, .bool n1, .slice a1 l1 p1, .bool b1, .string s1, .slice i1 m1 d1, .slice t1 o1 q1] 27 := by rw [hW2]; exact Blk.newAt rfl
  have HU2 := Lib.hid hu2
  have HB2 := Lib.hid hb2
  have HW2 := Lib.hid hW2
  have HC0 := Lib.hid hc0
  have HCM := Lib.hid hcM
  clear hx hL hu2 hb2 hW2 hc0 hcM
  generalize againF ls x = r at *
  go_enter Try.func98, Try.ntmps98
  go_wp2_with fail
  rw [← HW2.out]
  obtain ⟨x0, x1, x2, x3, x4, x5, x6⟩ := Blk.seven HB2.out
  have c0 := HU2.out.cell HC0.out (by simp)
  have cM := HU2.out.cell HCM.out (by simp)
  go_region_held3 (fun w' => w'.cell? ⟨w.heap.size, 0, none⟩ = some (.int .i64 k1) ∧ w'.cell? ⟨w.heap.size, 1, none⟩ = some (.bool n1) ∧ w'.cell? ⟨w.heap.size, 2, none⟩ = some (.slice a1 l1 p1) ∧ w'.cell? ⟨w.heap.size, 3, none⟩ = some (.bool b1) ∧ w'.cell? ⟨w.heap.size, 4, none⟩ = some (.string s1) ∧ w'.cell? ⟨w.heap.size, 5, none⟩ = some (.slice i1 m1 d1) ∧ w'.cell? ⟨w.heap.size, 6, none⟩ = some (.slice t1 o1 q1) ∧ w'.cell? ⟨b0, 0, none⟩ = some (.pointer (some ⟨M, 0, none⟩)) ∧ w'.cell? ⟨M, 0, none⟩ = some (.slice aL nL cL)) (first | with_reducible exact ⟨x0, x1, x2, x3, x4, x5, x6, c0, cM⟩ | go_keep | exact ⟨Upd.cell hu x0 (by simp), Upd.cell hu x1 (by simp), Upd.cell hu x2 (by simp), Upd.cell hu x3 (by simp), Upd.cell hu x4 (by simp), Upd.cell hu x5 (by simp), Upd.cell hu x6 (by simp), Upd.cell hu c0 (by simp), Upd.cell hu cM (by simp)⟩) (first | (go_at_call 86; refine (hA.out _ HU2.out.drew).mono ?_; rintro e w3 ⟨rfl, hu3⟩; have hu := Upd.then (Upd.refl [] W2).drew hu3))
  have HU := Lib.hid (HU2.out.then hu)
  clear hu hu3 x0 x1 x2 x3 x4 x5 x6 c0 cM
  go_wp2
  go_ret
  exact ⟨rfl, HU.out⟩
end Go.Proofs.Ythmpaepdbjldfaa
