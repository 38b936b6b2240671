/-
  Texts of this claim, merged: DatT, DatS, DatA, DatL, DatC, DatD, DatE. Lemmas and contracts; no conditions of our own.
-/
import Derived.Test.YtknbgbeepachgaaDoorG2
import Derived.Deep.RegionLaw

/-
  How many data there are, and how deep; datum.Size, datum.few, pavaneref03.Small.
-/
namespace Go.Proofs.YtknbgbeepachgaaDoor
open Go.RowKit

def szL (f : Dat → Nat) : List Dat → Nat
  | [] => 0
  | x :: xs => f x + szL f xs
def szN : Nat → Dat → Nat
  | 0, _ => 1000001
  | n + 1, d => 1 + szL (szN n) d.items + szL (szN n) d.tail
def dpL (f : Dat → Nat) : List Dat → Nat
  | [] => 0
  | x :: xs => max (f x) (dpL f xs)
def dpN : Nat → Dat → Nat
  | 0, _ => 0
  | n + 1, d => 1 + max (dpL (dpN n) d.items) (dpL (dpN n) d.tail)
theorem szL_append (f : Dat → Nat) : ∀ (a b : List Dat), szL f (a ++ b) = szL f a + szL f b
  | [], b => by simp [szL]
  | x :: xs, b => by rw [List.cons_append, szL, szL, szL_append f xs b]; omega
theorem dpL_append (f : Dat → Nat) : ∀ (a b : List Dat), dpL f (a ++ b) = max (dpL f a) (dpL f b)
  | [], b => by simp [dpL]
  | x :: xs, b => by rw [List.cons_append, dpL, dpL, dpL_append f xs b]; omega
theorem take_next {ds : List Dat} {i : Nat} (hi : i < ds.length) : ds.take (i + 1) = ds.take i ++ [ds.getD i default] := by
  rw [List.take_add_one, List.getElem?_eq_getElem hi, List.getD_eq_getElem?_getD, List.getElem?_eq_getElem hi]
  rfl
theorem szL_next (f : Dat → Nat) {ds : List Dat} {i : Nat} (hi : i < ds.length) : szL f (ds.take (i + 1)) = szL f (ds.take i) + f (ds.getD i default) := by
  rw [take_next hi, szL_append]
  simp [szL]
theorem dpL_next (f : Dat → Nat) {ds : List Dat} {i : Nat} (hi : i < ds.length) : dpL f (ds.take (i + 1)) = max (dpL f (ds.take i)) (f (ds.getD i default)) := by
  rw [take_next hi, dpL_append]
  simp [dpL]
theorem szL_take (f : Dat → Nat) (ds : List Dat) (i : Nat) : szL f (ds.take i) ≤ szL f ds := by
  have h := szL_append f (ds.take i) (ds.drop i)
  rw [List.take_append_drop] at h
  omega
theorem dpL_take (f : Dat → Nat) (ds : List Dat) (i : Nat) : dpL f (ds.take i) ≤ dpL f ds := by
  have h := dpL_append f (ds.take i) (ds.drop i)
  rw [List.take_append_drop] at h
  omega
theorem szL_get (f : Dat → Nat) {ds : List Dat} {i : Nat} (hi : i < ds.length) : f (ds.getD i default) ≤ szL f ds := by
  have h1 := szL_next f hi
  have h2 := szL_take f ds (i + 1)
  omega
theorem dpL_get (f : Dat → Nat) {ds : List Dat} {i : Nat} (hi : i < ds.length) : f (ds.getD i default) ≤ dpL f ds := by
  have h1 := dpL_next f hi
  have h2 := dpL_take f ds (i + 1)
  omega
theorem len_le_szL {f : Dat → Nat} (hf : ∀ x, 1 ≤ f x) : ∀ ds : List Dat, ds.length ≤ szL f ds
  | [] => Nat.le_refl _
  | x :: xs => by have := hf x; have := len_le_szL hf xs; rw [szL, List.length_cons]; omega
theorem szN_pos : ∀ (n : Nat) (d : Dat), 1 ≤ szN n d
  | 0, _ => by rw [szN]; omega
  | n + 1, d => by rw [szN]; omega

/-! ### The budget tells both -/
theorem budL_some {n : Nat} (ih : ∀ (d : Dat) (left deep : Int), 0 ≤ budN n d left deep → budN n d left deep = left - szN n d ∧ (dpN n d : Int) ≤ deep) : ∀ (ds : List Dat) (left deep : Int), 0 ≤ left → 0 ≤ budL (budN n) ds left deep → 0 < deep → budL (budN n) ds left deep = left - szL (szN n) ds ∧ (dpL (dpN n) ds : Int) + 1 ≤ deep
  | [], left, deep, h0, h, hd => by simp [budL, szL, dpL] at *; omega
  | x :: xs, left, deep, h0, h, hd => by
    rw [budL] at h ⊢
    split at h
    · omega
    · rename_i hc
      rw [if_neg hc]
      have h1 := ih x left (deep - 1) (by omega)
      have h2 := budL_some ih xs _ deep (by omega) h hd
      rw [h2.1, h1.1, szL, dpL]
      omega
theorem budN_some : ∀ (n : Nat) (d : Dat) (left deep : Int), 0 ≤ budN n d left deep → budN n d left deep = left - szN n d ∧ (dpN n d : Int) ≤ deep
  | 0, _, _, _, h => by simp [budN] at h
  | n + 1, d, left, deep, h => by
    rw [budN] at h ⊢
    split at h
    · omega
    · rename_i hc
      split at h
      · omega
      · rename_i hc2
        rw [if_neg hc, if_neg hc2]
        have h1 := budL_some (budN_some n) d.items (left - 1) deep (by omega) (by omega) (by omega)
        have h2 := budL_some (budN_some n) d.tail _ deep (by omega) h (by omega)
        rw [h2.1, h1.1, szN, dpN]
        omega
theorem budL_fits {n : Nat} (ih : ∀ (d : Dat) (left deep : Int), (szN n d : Int) ≤ left → (dpN n d : Int) ≤ deep → left ≤ 1000000 → budN n d left deep = left - szN n d) : ∀ (ds : List Dat) (left deep : Int), (szL (szN n) ds : Int) ≤ left → (dpL (dpN n) ds : Int) + 1 ≤ deep → left ≤ 1000000 → budL (budN n) ds left deep = left - szL (szN n) ds
  | [], left, deep, h0, h, hd => by simp [budL, szL]
  | x :: xs, left, deep, h0, h, hd => by
    rw [szL] at h0
    rw [dpL] at h
    have h1 := ih x left (deep - 1) (by omega) (by omega) hd
    rw [budL, h1, if_neg (by omega), budL_fits ih xs _ deep (by omega) (by omega) (by omega), szL]
    omega
theorem budN_fits : ∀ (n : Nat) (d : Dat) (left deep : Int), (szN n d : Int) ≤ left → (dpN n d : Int) ≤ deep → left ≤ 1000000 → budN n d left deep = left - szN n d
  | 0, _, left, _, h, _, hl => by rw [szN] at h; omega
  | n + 1, d, left, deep, h, hd, hl => by
    rw [szN] at h
    rw [dpN] at hd
    rw [budN, if_neg (by omega)]
    have h1 := budL_fits (budN_fits n) d.items (left - 1) deep (by omega) (by omega) (by omega)
    rw [h1, if_neg (by omega), budL_fits (budN_fits n) d.tail _ deep (by omega) (by omega) (by omega), szN]
    omega

/-! ### Callers of the budget -/
set_option maxHeartbeats 1500000 in
theorem small_calls {P : Nat → Prop} {n : Nat} {d : Dat} {cs : List Value} {w : World} (h : IsD w P n cs d) (most deep : Int) (h1 : 0 ≤ most) (h2 : most ≤ 4294967296) (h3 : -4294967296 ≤ deep) (h4 : deep ≤ 4294967296) :
    Calls Tryd.prog 14 #[.agg cs.toArray, .int .i64 most, .int .i64 deep] w fun e w' => e = .returned (.bool (decide (0 ≤ budN n d most deep))) ∧ Upd [] w w' := by
  obtain ⟨yL, zL, yI, zI, yT, zT, rfl⟩ := cells_agg h
  have hU := Lib.hid ((Upd.refl [] w).alloc (.cells (datCells d.kind d.neg yL d.limbs.length zL d.b d.s yI d.items.length zI yT d.tail.length zT).toArray 56))
  have hC := Lib.hid (budget_calls P n d _ (w.alloc (.cells (datCells d.kind d.neg yL d.limbs.length zL d.b d.s yI d.items.length zI yT d.tail.length zT).toArray 56)) most deep (h.upd ((Upd.refl [] w).alloc _)) (by omega) h2 h3 h4)
  unfold datCells at hC hU ⊢
  clear h
  generalize d.kind = kd9 at *
  generalize d.neg = ng9 at *
  generalize d.limbs.length = nl9 at *
  generalize d.b = bb9 at *
  generalize d.s = ss9 at *
  generalize d.items.length = ni9 at *
  generalize d.tail.length = nt9 at *
  generalize budN n d most deep = r at *
  go_enter Tryd.func14, Tryd.ntmps14
  go_wp2_with fail
  refine hC.out.mono ?_
  rintro e w2 ⟨rfl, hu2⟩
  have hU3 := Lib.hid (hU.out.then hu2)
  clear hC hU hu2
  go_wp2
  go_ret
  exact ⟨rfl, hU3.out⟩
set_option maxHeartbeats 1500000 in
theorem few_calls {P : Nat → Prop} {n : Nat} {d : Dat} {cs : List Value} {w : World} (h : IsD w P n cs d) (hs : szN n d ≤ 100000) (hd : dpN n d ≤ 10000) :
    Calls Tryd.prog 60 #[.agg cs.toArray] w fun e w' => e = .returned (.bool true) ∧ Upd [] w w' := by
  obtain ⟨yL, zL, yI, zI, yT, zT, rfl⟩ := cells_agg h
  have hU := Lib.hid ((Upd.refl [] w).alloc (.cells (datCells d.kind d.neg yL d.limbs.length zL d.b d.s yI d.items.length zI yT d.tail.length zT).toArray 56))
  have hC := Lib.hid (within_calls P n d _ (w.alloc (.cells (datCells d.kind d.neg yL d.limbs.length zL d.b d.s yI d.items.length zI yT d.tail.length zT).toArray 56)) 100000 10000 (h.upd ((Upd.refl [] w).alloc _)) (by omega) (by omega) (by omega) (by omega))
  rw [budN_fits n d 100000 10000 (by omega) (by omega) (by omega)] at hC
  have hge : (0 : Int) ≤ 100000 - szN n d := by omega
  unfold datCells at hC hU ⊢
  clear h hs hd
  generalize d.kind = kd9 at *
  generalize d.neg = ng9 at *
  generalize d.limbs.length = nl9 at *
  generalize d.b = bb9 at *
  generalize d.s = ss9 at *
  generalize d.items.length = ni9 at *
  generalize d.tail.length = nt9 at *
  generalize (100000 : Int) - szN n d = r at *
  go_enter Tryd.func60, Tryd.ntmps60
  go_wp2_with fail
  refine hC.out.mono ?_
  rintro e w2 ⟨rfl, hu2⟩
  have hU3 := Lib.hid (hU.out.then hu2)
  clear hC hU hu2
  go_wp2
  go_ret
  exact ⟨rfl, hU3.out⟩
end Go.Proofs.YtknbgbeepachgaaDoor

/-
  datum.Size.
-/
namespace Go.Proofs.YtknbgbeepachgaaDoor
open Go.RowKit

/-- Counted before the j-th row. -/
def totAt (n : Nat) (d : Dat) (k : Nat) : Nat → Nat
  | 0 => k + 1
  | 1 => k + 1 + szL (szN n) d.items
  | _ => k + 1 + szL (szN n) d.items + szL (szN n) d.tail
end Go.Proofs.YtknbgbeepachgaaDoor

/-
  All data in one; light.
-/
namespace Go.Proofs.YtknbgbeepachgaaDoor
open Go.RowKit

theorem info_dat : (Tryd.prog.info? 56).map (fun i => (i.zero, i.size, i.bytes)) = some (some (.agg (datCells 0 false none 0 0 false ByteArray.empty none 0 0 none 0 0).toArray), 7, 112) := by kernel_rfl
/-- Some elements, of whatever many cells, appended to a row of one's own. -/
theorem wpList_apps {P : Program} {w : World} {ops : Array Oper} {rest : List Oper} {o : Oper} {a : Act} {Q : Exit → Act → World → Prop} (hgd : o.guard = none) (s x : Operand) (t : TypeId)
    (ho : o.op = .call { callee := .builtin .append, args := #[s, x], argTypes := #[t, t] })
    (base : Nat) (e : TypeId) (z : Value) (size bytes : Nat) (ht : P.underlying t = some (.slice e)) (hinfo : (P.info? e).map (fun i => (i.zero, i.size, i.bytes)) = some (some z, size, bytes))
    (hzs : z.cells.size = size) (hsz : 0 < size) (v : Value) (n : Nat) (xs : List Value) (hs : a.eval s = v) (hown : w.ownsRow base e size v n xs)
    (g0 o0 m c : Nat) (news : List Value) (hx : a.eval x = .slice (some ⟨g0, o0, none⟩) m c) (hl : news.length = m * size) (hnews : ∀ j u, news[j]? = some u → w.cell? ⟨g0, o0 + j, none⟩ = some u) (h1 : ∀ u ∈ news, u.oneCell' = true)
    (h63 : n + m ≤ maxLen) (hbytes : (n + m) * bytes ≤ 140737488355328) (hbase : base ≤ w.heap.size)
    (h : ∀ v' w' S, w'.ownsRow base e size v' (n + m) (xs ++ news) → Upd S w w' → (∀ k, k ∈ S → v.ownBlock = some k) → (v'.ownBlock = v.ownBlock ∨ v'.ownBlock = some w.heap.size) → wpList P ops Q rest (a.put o.dst v') w') :
    wpList P ops Q (o :: rest) a w := by
  obtain ⟨i, hi, hz0, hz1, hz2⟩ := info_parts hinfo
  refine wpList_append_own_at _ hgd s x t ho base e i z size bytes ht hi hz0 hz1 hz2 hzs hsz v n xs hs hown ⟨g0, o0, none⟩ m c news hx hl ?_ h1 h63 hbytes hbase ?_
  · intro j u hj
    have : (⟨g0, o0, none⟩ : Addr).add j = ⟨g0, o0 + j, none⟩ := by unfold Addr.add; split <;> simp_all
    rw [this]
    exact hnews j u hj
  · intro v' w' hown' hg _ hb'
    exact h v' w' v.ownBlock.toList hown' (Upd.of_grown hg (fun k hk => by simp [hk])) (fun k hk => by simpa using hk) hb'

theorem Upd.onto {S T : List Nat} {a b c : World} (h : Upd S a b) (k : Upd T b c) (hT : ∀ x, x ∈ T → a.heap.size ≤ x) : Upd S a c := h.trans k (fun x hx hlt => by have := hT x hx; omega)
theorem At7.box (w : World) (cs : List Value) (t : TypeId) (h : cs.length = 7) : At7 (w.alloc (.cells cs.toArray t)) w.heap.size 0 cs :=
  ⟨h, fun j _ => by rw [(Blk.new w cs t).cell, Nat.zero_add]⟩
theorem At7.cells0 {w : World} {b : Nat} {k : Int} {neg : Bool} {aL aI aT : Option Addr} {nL cL nI cI nT cT : Nat} {bb : Bool} {s : ByteArray} (h : At7 w b 0 (datCells k neg aL nL cL bb s aI nI cI aT nT cT)) :
    w.cell? ⟨b, 0, none⟩ = some (.int .i64 k) ∧ w.cell? ⟨b, 1, none⟩ = some (.bool neg) ∧ w.cell? ⟨b, 2, none⟩ = some (.slice aL nL cL) ∧ w.cell? ⟨b, 3, none⟩ = some (.bool bb) ∧ w.cell? ⟨b, 4, none⟩ = some (.string s) ∧ w.cell? ⟨b, 5, none⟩ = some (.slice aI nI cI) ∧ w.cell? ⟨b, 6, none⟩ = some (.slice aT nT cT) := h.cells
/-- Cells of some datum. -/
def Shaped (cs : List Value) : Prop := ∃ k neg aL nL cL b s aI nI cI aT nT cT, cs = datCells k neg aL nL cL b s aI nI cI aT nT cT
theorem Shaped.one {cs : List Value} (h : Shaped cs) : ∀ u ∈ cs, u.oneCell' = true := by
  obtain ⟨k, neg, aL, nL, cL, b, s, aI, nI, cI, aT, nT, cT, rfl⟩ := h
  intro u hu
  simp only [datCells, List.mem_cons, List.not_mem_nil, or_false] at hu
  rcases hu with rfl | rfl | rfl | rfl | rfl | rfl | rfl <;> rfl
/-- A row of one's own of so many data's cells. -/
def AllRow (w0 w : World) (v : Value) (m : Nat) : Prop := ∃ css : List (List Value), css.length = m ∧ (∀ cs ∈ css, Shaped cs) ∧ w.ownsRow w0.heap.size 56 7 v m css.flatten
theorem AllRow.step {w0 w w' : World} {v : Value} {m : Nat} (h : AllRow w0 w v m) (hu : Upd [] w w') : AllRow w0 w' v m := by
  obtain ⟨css, h1, h2, h3⟩ := h
  exact ⟨css, h1, h2, own_upd0 h3 hu⟩
theorem flatten_get {css : List (List Value)} (h : ∀ cs ∈ css, cs.length = 7) : ∀ {i j : Nat}, i < css.length → j < 7 → css.flatten[i * 7 + j]? = (css.getD i [])[j]? := by
  induction css with
  | nil => intro i j hi; simp at hi
  | cons c css ih =>
    intro i j hi hj
    have hc := h c (by simp)
    cases i with
    | zero => simp [List.getElem?_append, hc, hj]
    | succ i =>
      have := ih (fun cs hcs => h cs (by simp [hcs])) (i := i) (j := j) (by simpa using hi) hj
      rw [List.flatten_cons, List.getElem?_append_right (by omega), hc, show (i + 1) * 7 + j - 7 = i * 7 + j by omega, this]
      simp
theorem Shaped.len {cs : List Value} (h : Shaped cs) : cs.length = 7 := by
  obtain ⟨k, neg, aL, nL, cL, b, s, aI, nI, cI, aT, nT, cT, rfl⟩ := h
  rfl
theorem AllRow.at {w0 w : World} {v : Value} {m : Nat} (h : AllRow w0 w v m) (hm : 0 < m) : ∃ g c, v = .slice (some ⟨g, 0, none⟩) m c ∧ ∀ i, i < m → ∃ cs, Shaped cs ∧ At7 w g (0 + i * 7) cs := by
  obtain ⟨css, h1, h2, h3⟩ := h
  obtain ⟨g, c, rfl⟩ : ∃ g c, v = .slice (some ⟨g, 0, none⟩) m c := by
    rcases h3.2 with ⟨_, h0⟩ | ⟨g, c, _, e, _⟩
    · omega
    · exact ⟨g, c, e⟩
  refine ⟨g, c, rfl, fun i hi => ?_⟩
  have hm1 : css.getD i [] ∈ css := by
    rw [List.getD_eq_getElem?_getD, List.getElem?_eq_getElem (by omega)]
    exact List.getElem_mem _
  refine ⟨css.getD i [], h2 _ hm1, (h2 _ hm1).len, fun j hj => ?_⟩
  rw [show 0 + i * 7 + j = i * 7 + j by omega, h3.cellAt (i * 7 + j) (by omega)]
  exact flatten_get (fun cs hcs => (h2 cs hcs).len) (by omega) hj

theorem AllRow.lit {w0 : World} (w : World) (cs : List Value) (hs : Shaped cs) (h : w0.heap.size ≤ w.heap.size) : AllRow w0 (w.alloc (.cells cs.toArray 56)) (.slice (some ⟨w.heap.size, 0, none⟩) 1 1) 1 :=
  ⟨[cs], rfl, fun c hc => by rw [List.mem_singleton] at hc; rw [hc]; exact hs, by
    have := World.ownsRow_lit (e := 56) (size := 7) w cs.toArray 1 h (by decide) (by simpa using hs.len)
    simpa using this⟩
theorem AllRow.news {w0 w : World} {g m c : Nat} (h : AllRow w0 w (.slice (some ⟨g, 0, none⟩) m c) m) : ∃ css : List (List Value), css.length = m ∧ (∀ cs ∈ css, Shaped cs) ∧ css.flatten.length = m * 7 ∧ (∀ j u, css.flatten[j]? = some u → w.cell? ⟨g, 0 + j, none⟩ = some u) ∧ (∀ u ∈ css.flatten, u.oneCell' = true) := by
  obtain ⟨css, h1, h2, h3⟩ := h
  refine ⟨css, h1, h2, h3.1, fun j u hj => ?_, fun u hu => ?_⟩
  · rw [Nat.zero_add, h3.cellAt j, hj]
    have := (List.getElem?_eq_some_iff.1 hj).1
    rw [h3.1] at this
    exact this
  · obtain ⟨cs, hc, hu⟩ := List.mem_flatten.1 hu
    exact (h2 cs hc).one u hu
set_option maxRecDepth 100000 in
set_option maxHeartbeats 2000000 in
theorem all_calls (P : Nat → Prop) : ∀ (n : Nat) (d : Dat) (cs : List Value) (w : World), IsD w P n cs d → szN n d ≤ 100000 →
    Calls Tryd.prog 33 #[.agg cs.toArray] w fun e w' => (∃ v, e = .returned v ∧ AllRow w w' v (szN n d)) ∧ Upd [] w w' := by
  intro n
  induction n with
  | zero => intro d cs w h; exact h.elim
  | succ n ih =>
    intro d cs w h hk
    have IH := Lib.hid ih
    clear ih
    obtain ⟨aL, cL, aI, cI, aT, cT, rfl, h1, h2, h3, _, h4, h5, h6, h7, h8, h9⟩ := h
    have hrow : ∀ j, j < 2 → ∃ av ds cv, ((j = 0 ∧ Value.slice av ds.length cv = .slice aI d.items.length cI) ∨ (j = 1 ∧ Value.slice av ds.length cv = .slice aT d.tail.length cT)) ∧ RowOf w P (IsD w P n) av ds ∧ ds.length ≤ 35184372088832 ∧
        totAt n d 0 (j + 1) = totAt n d 0 j + szL (szN n) ds ∧ totAt n d 0 (j + 1) ≤ 100000 := by
      intro j hj
      rw [szN] at hk
      obtain rfl | rfl : j = 0 ∨ j = 1 := by omega
      · exact ⟨_, _, _, .inl ⟨rfl, rfl⟩, h2, h8, rfl, by simp only [totAt]; omega⟩
      · exact ⟨_, _, _, .inr ⟨rfl, rfl⟩, h3, h9, rfl, by simp only [totAt]; omega⟩
    have he : szN (n + 1) d = totAt n d 0 2 := by rw [szN]; simp only [totAt]
    rw [he] at hk ⊢
    have h00 : totAt n d 0 0 = 1 := rfl
    have HB := Lib.hid hrow
    clear hrow he h1 h2 h3 h4 h5 h6 h7 h8 h9
    obtain ⟨bA, hbA⟩ : ∃ bA, bA = totAt n d 0 := ⟨_, rfl⟩
    rw [← hbA] at HB h00 hk ⊢
    clear hbA
    have hsh : Shaped (datCells d.kind d.neg aL d.limbs.length cL d.b d.s aI d.items.length cI aT d.tail.length cT) := ⟨_, _, _, _, _, _, _, _, _, _, _, _, _, rfl⟩
    have HSH := Lib.hid hsh
    clear hsh
    unfold datCells at HSH ⊢
    generalize d.kind = kd at *
    generalize d.neg = ng at *
    generalize d.limbs.length = nl at *
    generalize d.b = bb at *
    generalize d.s = ss at *
    generalize d.items.length = ni at *
    generalize d.tail.length = nt at *
    have hU := Lib.hid (((Upd.refl [] w).alloc (.cells #[.int .i64 kd, .bool ng, .slice aL nl cL, .bool bb, .string ss, .slice aI ni cI, .slice aT nt cT] 56)).alloc (.cells #[.int .i64 kd, .bool ng, .slice aL nl cL, .bool bb, .string ss, .slice aI ni cI, .slice aT nt cT] 56))
    have hO := Lib.hid (AllRow.lit (w0 := w) (w.alloc (.cells #[.int .i64 kd, .bool ng, .slice aL nl cL, .bool bb, .string ss, .slice aI ni cI, .slice aT nt cT] 56)) _ HSH.out (by simp))
    go_enter Tryd.func33, Tryd.ntmps33
    go_wp2_with fail
    obtain ⟨W1, hW1⟩ : ∃ W1, W1 = (w.alloc (.cells #[.int .i64 kd, .bool ng, .slice aL nl cL, .bool bb, .string ss, .slice aI ni cI, .slice aT nt cT] 56)).alloc (.cells #[.int .i64 kd, .bool ng, .slice aL nl cL, .bool bb, .string ss, .slice aI ni cI, .slice aT nt cT] 56) := ⟨_, rfl⟩
    rw [← hW1] at hU
    have hO' : Hid (AllRow w W1 (.slice (some ⟨w.heap.size + 1, 0, none⟩) 1 1) 1) := by
      rw [hW1]
      have := hO
      simpa using this
    clear hO
    rw [← hW1]
    clear hW1 HSH
    have i0 : ∀ w, (Instr.index 78 (.agg #[.slice aI ni cI, .slice aT nt cT]) (.int .i64 0)).run Tryd.prog w = .ok (.slice aI ni cI) w := fun _ => by kernel_rfl
    have i1 : ∀ w, (Instr.index 78 (.agg #[.slice aI ni cI, .slice aT nt cT]) (.int .i64 1)).run Tryd.prog w = .ok (.slice aT nt cT) w := fun _ => by kernel_rfl
    go_loopw [3, 15] (fun l i wr => ∃ j : Nat, j ≤ 2 ∧ i = .int .i64 j ∧ Hid (AllRow w wr l (bA j)) ∧ Hid (Upd [] w wr)) (fun _ i _ => 2 - (intOf i).toNat)
    case atStart => exact ⟨0, by omega, rfl, by rw [h00]; exact hO', hU⟩
    case round =>
      obtain ⟨j, hj, rfl, hO, hUr⟩ := hrel
      by_cases hj2 : j < 2
      · obtain ⟨av, ds, cv, hcase, hds, hdl, hs1, hs2⟩ := HB.out j hj2
        have hix : ∀ w, (Instr.index 78 (.agg #[.slice aI ni cI, .slice aT nt cT]) (.int .i64 j)).run Tryd.prog w = .ok (.slice av ds.length cv) w := by
          rcases hcase with ⟨rfl, e⟩ | ⟨rfl, e⟩
          · rw [e]; exact i0
          · rw [e]; exact i1
        obtain ⟨m, hm⟩ : ∃ m, m = ds.length := ⟨_, rfl⟩
        rw [← hm] at hix hdl
        have hj2' : (j : Int) < 2 := by omega
        have hj3' : decide ((j : Int) < 2) = true := decide_eq_true hj2'
        have HDS := Lib.hid hds
        have HS1 := Lib.hid hs1
        have HS2 := Lib.hid hs2
        clear hcase hs1 hs2 hds i0 i1
        go_wp2_with fail
        go_loopw [3, 20] (fun l i wr => ∃ i0 : Nat, i0 ≤ m ∧ i = .int .i64 i0 ∧ Hid (AllRow w wr l (bA j + szL (szN n) (ds.take i0))) ∧ Hid (Upd [] w wr)) (fun _ i _ => m - (intOf i).toNat)
        case atStart => exact ⟨0, by omega, rfl, hO, hUr⟩
        case round =>
          obtain ⟨i0, hi0, rfl, hO1, hUk⟩ := hrel
          by_cases hlt : i0 < m
          · have hkl : i0 < ds.length := by rw [← hm]; exact hlt
            have hnx := szL_next (szN n) hkl
            have hle3 := szL_take (szN n) ds (i0 + 1)
            obtain ⟨b, o, cs, rfl, _, hat, hd0⟩ := HDS.out i0 hkl
            have hd1 := hd0.upd hUk.out
            obtain ⟨yL, zL, yI, zI, yT, zT, rfl⟩ := cells_agg hd1
            obtain ⟨q0, q1, q2, q3, q4, q5, q6⟩ := (hat.upd hUk.out (by simp)).cells
            obtain ⟨x, hx⟩ : ∃ x, x = ds.getD i0 default := ⟨_, rfl⟩
            rw [← hx] at hnx hd1 q0 q1 q2 q3 q4 q5 q6
            obtain ⟨lk, hlk⟩ : ∃ lk, lk = bA j + szL (szN n) (ds.take i0) := ⟨_, rfl⟩
            have hu7 : Upd [] wr (wr.alloc (.cells #[.int .i64 x.kind, .bool x.neg, .slice yL x.limbs.length zL, .bool x.b, .string x.s, .slice yI x.items.length zI, .slice yT x.tail.length zT] 56)) := (Upd.refl [] wr).alloc _
            have hC := Lib.hid (IH.out x _ (wr.alloc (.cells #[.int .i64 x.kind, .bool x.neg, .slice yL x.limbs.length zL, .bool x.b, .string x.s, .slice yI x.items.length zI, .slice yT x.tail.length zT] 56)) (hd1.upd hu7) (by have := HS1.out; have := HS2.out; omega))
            have hU2 := Lib.hid (hUk.out.then hu7)
            have hnx2 : bA j + szL (szN n) (ds.take (i0 + 1)) = lk + szN n x := by omega
            have HX := Lib.hid hnx2
            have hb3 : lk + szN n x ≤ 100000 := by have := HS1.out; have := HS2.out; omega
            have hpos := szN_pos n x
            rw [← hlk] at hO1
            have hO2 := Lib.hid (hO1.out.step hu7)
            unfold datCells at hC
            clear hnx hd0 hat hd1 hlk hnx2 hle3 hx hu7 hO1
            generalize szN n x = rs at *
            generalize x.kind = kd9 at *
            generalize x.neg = ng9 at *
            generalize x.limbs.length = nl9 at *
            generalize x.b = bb9 at *
            generalize x.s = ss9 at *
            generalize x.items.length = ni9 at *
            generalize x.tail.length = nt9 at *
            go_wp2_with fail
            refine hC.out.mono ?_
            rintro e w2 ⟨⟨v2, rfl, hA2⟩, hu2⟩
            have hU3 := Lib.hid (hU2.out.then hu2)
            have hO3 := Lib.hid (hO2.out.step hu2)
            obtain ⟨css, c1, c2, c3⟩ := hO3.out
            have C3 := Lib.hid c3
            obtain ⟨g2, cc2, rfl, -⟩ := hA2.at hpos
            obtain ⟨ns, n1, n2, n3, n4, n5⟩ := hA2.news
            have hsz3 := hU3.out.size
            clear hC hUk hU2 hu2 q0 q1 q2 q3 q4 q5 q6 hO2 hO3 c3 hA2
            go_wp2_with (at_builtin; refine wpList_apps rfl _ _ 24 rfl w.heap.size 56 _ 7 112 Tryd.underlying24 info_dat rfl (by decide) _ _ _ rfl C3.out g2 0 rs cc2 ns.flatten rfl n3 n4 n5 (by unfold maxLen; omega) (by omega) hsz3 ?_; intro v9 w9 S hO9 hu9 hS9 hg9)
            have hU9 := Lib.hid (hU3.out.onto hu9 (fun k hk => (C3.out.lt k (hS9 k hk)).1))
            have HO9 : Hid (AllRow w w9 v9 (lk + rs)) := Lib.hid ⟨css ++ ns, by rw [List.length_append]; omega, fun cs hcs => by rcases List.mem_append.1 hcs with h | h; exact c2 cs h; exact n2 cs h, by rw [List.flatten_append]; exact hO9⟩
            clear hO9 hu9 hS9 hg9 hU3 C3 n1 n2 n3 n4 n5 c1 c2
            go_wp2
            go_roundw
            case rel => exact ⟨i0 + 1, by omega, by go_num, by rw [HX.out]; exact HO9, hU9⟩
            case measure => simp [intOf]; omega
          · have hkm : i0 = m := by omega
            subst hkm
            have hsx : bA j + szL (szN n) (ds.take i0) = bA (j + 1) := by rw [hm, List.take_length]; exact HS1.out.symm
            rw [hsx] at hO1
            clear hsx
            go_wp2
            go_roundw
            case rel => exact ⟨j + 1, by omega, by go_num, hO1, hUk⟩
            case measure => simp [intOf]; omega
      · have hj3 : j = 2 := by omega
        subst hj3
        go_wp2
        go_ret
        exact ⟨⟨_, rfl, hO.out⟩, hUr.out⟩
end Go.Proofs.YtknbgbeepachgaaDoor

/-
  light.
-/
namespace Go.Proofs.YtknbgbeepachgaaDoor
open Go.RowKit

end Go.Proofs.YtknbgbeepachgaaDoor

/-
  datum.copied and Copy: data in new memory.
-/
namespace Go.Proofs.YtknbgbeepachgaaDoor
open Go.RowKit

theorem info_u32 : (Tryd.prog.info? 111).map (fun i => (i.zero, i.size, i.bytes)) = some (some (.int .u32 0), 1, 4) := by kernel_rfl
theorem own_limbs {w0 w : World} {n : Nat} {v : Value} {xs : List Int} (h : w.ownsRow w0.heap.size 111 1 v n (xs.map (.int .u32))) : ∃ a c, v = .slice a n c ∧ LimbsOf w (fun b => w0.heap.size ≤ b) a xs ∧ n ≤ c := by
  have hl : xs.length = n := by have := h.1; simpa using this
  rcases h.2 with ⟨rfl, h0⟩ | ⟨g, cap, cur, rfl, hb, _, hcap, _⟩
  · subst h0
    exact ⟨none, 0, rfl, fun i hi => absurd hi (by omega), Nat.le_refl _⟩
  · refine ⟨_, cap, rfl, fun i hi => ⟨g, 0, rfl, hb, ?_⟩, hcap⟩
    have := h.cells (g := g) rfl i (.int .u32 (xs.getD i 0)) (by simp [List.getElem?_eq_getElem hi, List.getD_eq_getElem?_getD])
    rwa [show (⟨g, 0, none⟩ : Addr).add i = ⟨g, 0 + i, none⟩ by unfold Addr.add; split <;> simp_all] at this
end Go.Proofs.YtknbgbeepachgaaDoor

/-
  datum.copied: data in new memory.
-/
namespace Go.Proofs.YtknbgbeepachgaaDoor
open Go.RowKit

/-- A row of one's own of these data, all that they have in other new blocks. -/
def OutRow (w0 w : World) (n : Nat) (v : Value) (ds : List Dat) : Prop :=
  ∃ css : List (List Value), css.length = ds.length ∧ (∀ i, i < ds.length → IsD w (fun b => w0.heap.size ≤ b ∧ v.ownBlock ≠ some b) n (css.getD i []) (ds.getD i default)) ∧ w.ownsRow w0.heap.size 56 7 v ds.length css.flatten
theorem OutRow.nil (w0 w : World) (n : Nat) : OutRow w0 w n (.slice none 0 0) [] := ⟨[], rfl, fun i hi => absurd hi (by simp), World.ownsRow_nil _ _ _ _⟩
theorem OutRow.step {w0 w w' : World} {n : Nat} {v : Value} {ds : List Dat} (h : OutRow w0 w n v ds) {S : List Nat} (hu : Upd S w w') (hS : ∀ b, b ∈ S → b < w0.heap.size ∨ w.heap.size ≤ b) : OutRow w0 w' n v ds := by
  obtain ⟨css, h1, h2, h3⟩ := h
  refine ⟨css, h1, fun i hi => ?_, own_upd h3 hu (fun g hg hx => ?_)⟩
  · refine IsD.map (m := 0) (fun _ _ hp => hp) (fun b o v hp hc => hu.cell hc (fun hx => ?_)) (h2 i hi)
    have := World.block_lt_of_cell? w _ hc
    have hh := hS b hx
    have := hp.1
    simp at *
    omega
  · have := h3.lt g hg
    have := hS g hx
    omega
theorem IsD.shaped {w : World} {P : Nat → Prop} {n : Nat} {cs : List Value} {d : Dat} (h : IsD w P n cs d) : Shaped cs := by
  obtain ⟨aL, cL, aI, cI, aT, cT, rfl⟩ := cells_agg h
  exact ⟨_, _, _, _, _, _, _, _, _, _, _, _, _, rfl⟩
/-- One more. -/
theorem OutRow.add {w0 w w' : World} {n : Nat} {v v' : Value} {ds : List Dat} {x : Dat} {cs : List Value} {S : List Nat} {css : List (List Value)}
    (h1 : css.length = ds.length) (h2 : ∀ i, i < ds.length → IsD w (fun b => w0.heap.size ≤ b ∧ v.ownBlock ≠ some b) n (css.getD i []) (ds.getD i default))
    (hx : IsD w (fun b => w0.heap.size ≤ b ∧ v.ownBlock ≠ some b) n cs x) (hu : Upd S w w') (hS : ∀ k, k ∈ S → v.ownBlock = some k) (hv : v'.ownBlock = v.ownBlock ∨ ∃ g, v'.ownBlock = some g ∧ w.heap.size ≤ g)
    (hO : w'.ownsRow w0.heap.size 56 7 v' (ds.length + 1) (css.flatten ++ cs)) : OutRow w0 w' n v' (ds ++ [x]) := by
  have hm : ∀ {cs : List Value} {d : Dat}, IsD w (fun b => w0.heap.size ≤ b ∧ v.ownBlock ≠ some b) n cs d → IsD w' (fun b => w0.heap.size ≤ b ∧ v'.ownBlock ≠ some b) n cs d := by
    intro cs d h
    refine IsD.map (m := 0) (fun b hb hp => ⟨hp.1, fun e => ?_⟩) (fun b o u hp hc => hu.cell hc (fun hx => hp.2 (hS b hx))) h
    rcases hv with hv | ⟨g, hv, hg⟩
    · exact hp.2 (hv.symm.trans e)
    · rw [hv] at e
      injection e with e
      omega
  refine ⟨css ++ [cs], by simp [h1], fun i hi => ?_, by simpa using hO⟩
  rw [List.length_append, List.length_singleton] at hi
  by_cases hl : i < ds.length
  · rw [List.getD_eq_getElem?_getD, List.getElem?_append_left (by omega), ← List.getD_eq_getElem?_getD, List.getD_eq_getElem?_getD (l := ds ++ [x]), List.getElem?_append_left hl, ← List.getD_eq_getElem?_getD]
    exact hm (h2 i hl)
  · have e : i = ds.length := by omega
    subst e
    have e1 : (css ++ [cs]).getD ds.length [] = cs := by rw [← h1]; simp
    have e2 : (ds ++ [x]).getD ds.length default = x := by simp
    rw [e1, e2]
    exact hm hx
/-- At the end. -/
theorem OutRow.row {w0 w : World} {n : Nat} {v : Value} {ds : List Dat} (h : OutRow w0 w n v ds) : ∃ a c, v = .slice a ds.length c ∧ RowOf w (fun b => w0.heap.size ≤ b) (IsD w (fun b => w0.heap.size ≤ b) n) a ds ∧ ds.length ≤ c := by
  obtain ⟨css, h1, h2, h3⟩ := h
  have h4 := h3
  rcases h3.2 with ⟨rfl, h0⟩ | ⟨g, c, _, rfl, hb, _, hcap, _⟩
  · exact ⟨none, 0, by rw [h0], fun i hi => absurd hi (by omega), by omega⟩
  · refine ⟨_, c, rfl, fun i hi => ⟨g, 0, css.getD i [], rfl, hb, ?_, (h2 i hi).mono fun b _ hp => hp.1⟩, hcap⟩
    have hlen : ∀ cs ∈ css, cs.length = 7 := by
      intro cs hc
      obtain ⟨k, hk, rfl⟩ := List.getElem_of_mem hc
      have := (h2 k (by omega)).shaped.len
      simpa [List.getD_eq_getElem?_getD, hk] using this
    refine ⟨(h2 i hi).shaped.len, fun j hj => ?_⟩
    rw [show 0 + i * 7 + j = i * 7 + j by omega, h4.cellAt (i * 7 + j) (by omega)]
    exact flatten_get hlen (by omega) hj
theorem LimbsOf.upd {w w' : World} {P : Nat → Prop} {a : Option Addr} {xs : List Int} (h : LimbsOf w P a xs) (hu : Upd [] w w') : LimbsOf w' P a xs := by
  intro i hi
  obtain ⟨b, o, e, hp, hc⟩ := h i hi
  exact ⟨b, o, e, hp, hu.cell hc (by simp)⟩
theorem RowOf.updD {w w' : World} {P : Nat → Prop} {n : Nat} {a : Option Addr} {ds : List Dat} (h : RowOf w P (IsD w P n) a ds) (hu : Upd [] w w') : RowOf w' P (IsD w' P n) a ds :=
  h.map (fun _ _ hp => hp) (fun _ _ _ _ hc => hu.cell hc (by simp)) (fun _ _ h => h.upd hu)
/-- Behind the two calls: the new datum. -/
theorem cop_join {wr W6 w7 w8 W9 : World} {n' : Nat} {x : Dat} {aL aI aT yI yT : Option Addr} {cL cI cT zI zT : Nat}
    (hW : W9 = (w8.setCell ⟨wr.heap.size, 5, none⟩ (.slice aI x.items.length cI)).setCell ⟨wr.heap.size, 6, none⟩ (.slice aT x.tail.length cT))
    (hB8 : Blk w8 wr.heap.size [.int .i64 x.kind, .bool x.neg, .slice aL x.limbs.length cL, .bool x.b, .string x.s, .slice yI x.items.length zI, .slice yT x.tail.length zT] 56)
    (hL : LimbsOf W6 (fun b => wr.heap.size + 1 ≤ b) aL x.limbs) (hUr : Upd [] wr W6) (hlt : wr.heap.size < W6.heap.size) (hu7 : Upd [] W6 w7) (hu8 : Upd [] w7 w8)
    (hI : RowOf w7 (fun b => W6.heap.size ≤ b) (IsD w7 (fun b => W6.heap.size ≤ b) n') aI x.items) (hT : RowOf w8 (fun b => w7.heap.size ≤ b) (IsD w8 (fun b => w7.heap.size ≤ b) n') aT x.tail)
    (hcap : x.limbs.length ≤ cL ∧ x.items.length ≤ cI ∧ x.tail.length ≤ cT)
    (hb : (-9223372036854775808 ≤ x.kind ∧ x.kind ≤ 9223372036854775807) ∧ (∀ y ∈ x.limbs, 0 ≤ y ∧ y < 4294967296) ∧ x.limbs.length ≤ 35184372088832 ∧ x.s.size ≤ 140737488351232 ∧ x.items.length ≤ 35184372088832 ∧ x.tail.length ≤ 35184372088832) :
    Blk W9 wr.heap.size [.int .i64 x.kind, .bool x.neg, .slice aL x.limbs.length cL, .bool x.b, .string x.s, .slice aI x.items.length cI, .slice aT x.tail.length cT] 56 ∧ Upd [] wr W9 ∧
      IsD W9 (fun b => wr.heap.size + 1 ≤ b) (n' + 1) [.int .i64 x.kind, .bool x.neg, .slice aL x.limbs.length cL, .bool x.b, .string x.s, .slice aI x.items.length cI, .slice aT x.tail.length cT] x := by
  have hs7 := hu7.size
  have hs8 := hu8.size
  have h8 : ∀ b o v, wr.heap.size + 1 ≤ b → w8.cell? ⟨b, o, none⟩ = some v → W9.cell? ⟨b, o, none⟩ = some v := by
    intro b o v hb hc
    rw [hW, World.cell?_of_block (Below.heap_setCell _ _ _ _ (by simp; omega)), World.cell?_of_block (Below.heap_setCell _ _ _ _ (by simp; omega))]
    exact hc
  have h7 : ∀ b o v, wr.heap.size + 1 ≤ b → w7.cell? ⟨b, o, none⟩ = some v → W9.cell? ⟨b, o, none⟩ = some v := fun b o v hb hc => h8 b o v hb (hu8.cell hc (by simp))
  refine ⟨?_, ?_, aL, cL, aI, cI, aT, cT, rfl, fun i hi => ?_, ?_, ?_, hcap, hb⟩
  · rw [hW]
    exact (hB8.set 5 _).set 6 _
  · rw [hW]
    exact (((hUr.then hu7).then hu8).setCell _ (.inr (Nat.le_refl _))).setCell _ (.inr (Nat.le_refl _))
  · obtain ⟨b, o, e, hp, hc⟩ := hL i hi
    exact ⟨b, o, e, hp, h7 _ _ _ hp (hu7.cell hc (by simp))⟩
  · exact hI.map (fun b _ hp => by omega) (fun b o v hp hc => h7 b o v (by omega) hc) (fun cs d h => IsD.map (m := 0) (fun b _ hp => by omega) (fun b o v hp hc => h7 b o v (by omega) hc) h)
  · exact hT.map (fun b _ hp => by omega) (fun b o v hp hc => h8 b o v (by omega) hc) (fun cs d h => IsD.map (m := 0) (fun b _ hp => by omega) (fun b o v hp hc => h8 b o v (by omega) hc) h)
/-- What copied answers. -/
def CopPost (w : World) (n : Nat) (ds : List Dat) (e : Ending) (w' : World) : Prop :=
  (∃ a c, e = .returned (.slice a ds.length c) ∧ RowOf w' (fun b => w.heap.size ≤ b) (IsD w' (fun b => w.heap.size ≤ b) n) a ds ∧ ds.length ≤ c) ∧ Upd [] w w'
end Go.Proofs.YtknbgbeepachgaaDoor

/-
  datum.Copy.
-/
namespace Go.Proofs.YtknbgbeepachgaaDoor
open Go.RowKit

theorem IsD.set_other {w : World} {P : Nat → Prop} {n : Nat} {cs : List Value} {d : Dat} (h : IsD w P n cs d) (a : Addr) (v : Value) (hP : ∀ b, P b → b ≠ a.block) : IsD (w.setCell a v) P n cs d :=
  IsD.map (m := 0) (fun _ _ hp => hp) (fun b o u hp hc => (World.cell?_of_block (w := w) (Below.heap_setCell _ _ _ _ (by have := hP b hp; simpa [eq_comm] using this))).trans hc) h
end Go.Proofs.YtknbgbeepachgaaDoor
