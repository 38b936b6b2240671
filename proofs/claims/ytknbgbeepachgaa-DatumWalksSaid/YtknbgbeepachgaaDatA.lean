/-
  All data in one; light.
-/
import Derived.Test.YtknbgbeepachgaaDatS
namespace Go.Proofs.Ytknbgbeepachgaa
open Go.RowKit

theorem info_dat : (Try.prog.info? 27).map (fun i => (i.zero, i.size, i.bytes)) = some (some (.agg (datCells 0 false none 0 0 false ByteArray.empty none 0 0 none 0 0).toArray), 7, 112) := by kernel_rfl
/-- Some elements, of whatever many cells, appended to a row of one's own. -/
theorem wpList_apps {P : Program} {w : World} {ops : Array Oper} {rest : List Oper} {o : Oper} {a : Act} {Q : Exit → Act → World → Prop} (hgd : o.guard = none) (s x : Operand) (t : TypeId)
    (ho : o.op = .call { callee := .builtin .append, args := #[s, x], argTypes := #[t, t] })
    (base : Nat) (e : TypeId) (z : Value) (size bytes : Nat) (ht : P.underlying t = some (.slice e)) (hinfo : (P.info? e).map (fun i => (i.zero, i.size, i.bytes)) = some (some z, size, bytes))
    (hzs : z.cells.size = size) (hsz : 0 < size) (v : Value) (n : Nat) (xs : List Value) (hs : a.eval s = v) (hown : w.ownsRow base e size v n xs)
    (g0 o0 m c : Nat) (news : List Value) (hx : a.eval x = .slice (some ⟨g0, o0, none⟩) m c) (hl : news.length = m * size) (hnews : ∀ j u, news[j]? = some u → w.cell? ⟨g0, o0 + j, none⟩ = some u) (h1 : ∀ u ∈ news, u.oneCell' = true)
    (h63 : n + m ≤ maxLen) (hbytes : (n + m) * bytes ≤ 140737488355328) (hbase : base ≤ w.heap.size)
    (h : ∀ v' w' S, w'.ownsRow base e size v' (n + m) (xs ++ news) → Upd S w w' → (∀ k, k ∈ S → v.ownBlock = some k) → (v'.ownBlock = v.ownBlock ∨ v'.ownBlock = some w.heap.size) → wpList P ops Q rest (a.put o.dst v') w') :
    wpList P ops Q (o :: rest) a w := by
  obtain ⟨i, hi, hz0, hz1, hz2⟩ := info_parts hinfo
  refine wpList_append_own_at _ hgd s x t ho base e i z size bytes ht hi hz0 hz1 hz2 hzs hsz v n xs hs hown ⟨g0, o0, none⟩ m c news hx hl ?_ h1 h63 hbytes hbase ?_
  · intro j u hj
    have : (⟨g0, o0, none⟩ : Addr).add j = ⟨g0, o0 + j, none⟩ := by unfold Addr.add; split <;> simp_all
    rw [this]
    exact hnews j u hj
  · intro v' w' hown' hg _ hb'
    exact h v' w' v.ownBlock.toList hown' (Upd.of_grown hg (fun k hk => by simp [hk])) (fun k hk => by simpa using hk) hb'

theorem Upd.onto {S T : List Nat} {a b c : World} (h : Upd S a b) (k : Upd T b c) (hT : ∀ x, x ∈ T → a.heap.size ≤ x) : Upd S a c := h.trans k (fun x hx hlt => by have := hT x hx; omega)
theorem At7.box (w : World) (cs : List Value) (t : TypeId) (h : cs.length = 7) : At7 (w.alloc (.cells cs.toArray t)) w.heap.size 0 cs :=
  ⟨h, fun j _ => by rw [(Blk.new w cs t).cell, Nat.zero_add]⟩
theorem At7.cells0 {w : World} {b : Nat} {k : Int} {neg : Bool} {aL aI aT : Option Addr} {nL cL nI cI nT cT : Nat} {bb : Bool} {s : ByteArray} (h : At7 w b 0 (datCells k neg aL nL cL bb s aI nI cI aT nT cT)) :
    w.cell? ⟨b, 0, none⟩ = some (.int .i64 k) ∧ w.cell? ⟨b, 1, none⟩ = some (.bool neg) ∧ w.cell? ⟨b, 2, none⟩ = some (.slice aL nL cL) ∧ w.cell? ⟨b, 3, none⟩ = some (.bool bb) ∧ w.cell? ⟨b, 4, none⟩ = some (.string s) ∧ w.cell? ⟨b, 5, none⟩ = some (.slice aI nI cI) ∧ w.cell? ⟨b, 6, none⟩ = some (.slice aT nT cT) := h.cells
/-- Cells of some datum. -/
def Shaped (cs : List Value) : Prop := ∃ k neg aL nL cL b s aI nI cI aT nT cT, cs = datCells k neg aL nL cL b s aI nI cI aT nT cT
theorem Shaped.one {cs : List Value} (h : Shaped cs) : ∀ u ∈ cs, u.oneCell' = true := by
  obtain ⟨k, neg, aL, nL, cL, b, s, aI, nI, cI, aT, nT, cT, rfl⟩ := h
  intro u hu
  simp only [datCells, List.mem_cons, List.not_mem_nil, or_false] at hu
  rcases hu with rfl | rfl | rfl | rfl | rfl | rfl | rfl <;> rfl
/-- A row of one's own of so many data's cells. -/
def AllRow (w0 w : World) (v : Value) (m : Nat) : Prop := ∃ css : List (List Value), css.length = m ∧ (∀ cs ∈ css, Shaped cs) ∧ w.ownsRow w0.heap.size 27 7 v m css.flatten
theorem AllRow.step {w0 w w' : World} {v : Value} {m : Nat} (h : AllRow w0 w v m) (hu : Upd [] w w') : AllRow w0 w' v m := by
  obtain ⟨css, h1, h2, h3⟩ := h
  exact ⟨css, h1, h2, own_upd0 h3 hu⟩
theorem flatten_get {css : List (List Value)} (h : ∀ cs ∈ css, cs.length = 7) : ∀ {i j : Nat}, i < css.length → j < 7 → css.flatten[i * 7 + j]? = (css.getD i [])[j]? := by
  induction css with
  | nil => intro i j hi; simp at hi
  | cons c css ih =>
    intro i j hi hj
    have hc := h c (by simp)
    cases i with
    | zero => simp [List.getElem?_append, hc, hj]
    | succ i =>
      have := ih (fun cs hcs => h cs (by simp [hcs])) (i := i) (j := j) (by simpa using hi) hj
      rw [List.flatten_cons, List.getElem?_append_right (by omega), hc, show (i + 1) * 7 + j - 7 = i * 7 + j by omega, this]
      simp
theorem Shaped.len {cs : List Value} (h : Shaped cs) : cs.length = 7 := by
  obtain ⟨k, neg, aL, nL, cL, b, s, aI, nI, cI, aT, nT, cT, rfl⟩ := h
  rfl
theorem AllRow.at {w0 w : World} {v : Value} {m : Nat} (h : AllRow w0 w v m) (hm : 0 < m) : ∃ g c, v = .slice (some ⟨g, 0, none⟩) m c ∧ ∀ i, i < m → ∃ cs, Shaped cs ∧ At7 w g (0 + i * 7) cs := by
  obtain ⟨css, h1, h2, h3⟩ := h
  obtain ⟨g, c, rfl⟩ : ∃ g c, v = .slice (some ⟨g, 0, none⟩) m c := by
    rcases h3.2 with ⟨_, h0⟩ | ⟨g, c, _, e, _⟩
    · omega
    · exact ⟨g, c, e⟩
  refine ⟨g, c, rfl, fun i hi => ?_⟩
  have hm1 : css.getD i [] ∈ css := by
    rw [List.getD_eq_getElem?_getD, List.getElem?_eq_getElem (by omega)]
    exact List.getElem_mem _
  refine ⟨css.getD i [], h2 _ hm1, (h2 _ hm1).len, fun j hj => ?_⟩
  rw [show 0 + i * 7 + j = i * 7 + j by omega, h3.cellAt (i * 7 + j) (by omega)]
  exact flatten_get (fun cs hcs => (h2 cs hcs).len) (by omega) hj

theorem AllRow.lit {w0 : World} (w : World) (cs : List Value) (hs : Shaped cs) (h : w0.heap.size ≤ w.heap.size) : AllRow w0 (w.alloc (.cells cs.toArray 27)) (.slice (some ⟨w.heap.size, 0, none⟩) 1 1) 1 :=
  ⟨[cs], rfl, fun c hc => by rw [List.mem_singleton] at hc; rw [hc]; exact hs, by
    have := World.ownsRow_lit (e := 27) (size := 7) w cs.toArray 1 h (by decide) (by simpa using hs.len)
    simpa using this⟩
theorem AllRow.news {w0 w : World} {g m c : Nat} (h : AllRow w0 w (.slice (some ⟨g, 0, none⟩) m c) m) : ∃ css : List (List Value), css.length = m ∧ (∀ cs ∈ css, Shaped cs) ∧ css.flatten.length = m * 7 ∧ (∀ j u, css.flatten[j]? = some u → w.cell? ⟨g, 0 + j, none⟩ = some u) ∧ (∀ u ∈ css.flatten, u.oneCell' = true) := by
  obtain ⟨css, h1, h2, h3⟩ := h
  refine ⟨css, h1, h2, h3.1, fun j u hj => ?_, fun u hu => ?_⟩
  · rw [Nat.zero_add, h3.cellAt j, hj]
    have := (List.getElem?_eq_some_iff.1 hj).1
    rw [h3.1] at this
    exact this
  · obtain ⟨cs, hc, hu⟩ := List.mem_flatten.1 hu
    exact (h2 cs hc).one u hu
set_option maxRecDepth 100000 in
set_option maxHeartbeats 2000000 in
theorem all_calls (P : Nat → Prop) : ∀ (n : Nat) (d : Dat) (cs : List Value) (w : World), IsD w P n cs d → szN n d ≤ 100000 →
    Calls Try.prog 15 #[.agg cs.toArray] w fun e w' => (∃ v, e = .returned v ∧ AllRow w w' v (szN n d)) ∧ Upd [] w w' := by
  intro n
  induction n with
  | zero => intro d cs w h; exact h.elim
  | succ n ih =>
    intro d cs w h hk
    have IH := Lib.hid ih
    clear ih
    obtain ⟨aL, cL, aI, cI, aT, cT, rfl, h1, h2, h3, _, h4, h5, h6, h7, h8, h9⟩ := h
    have hrow : ∀ j, j < 2 → ∃ av ds cv, ((j = 0 ∧ Value.slice av ds.length cv = .slice aI d.items.length cI) ∨ (j = 1 ∧ Value.slice av ds.length cv = .slice aT d.tail.length cT)) ∧ RowOf w P (IsD w P n) av ds ∧ ds.length ≤ 35184372088832 ∧
        totAt n d 0 (j + 1) = totAt n d 0 j + szL (szN n) ds ∧ totAt n d 0 (j + 1) ≤ 100000 := by
      intro j hj
      rw [szN] at hk
      obtain rfl | rfl : j = 0 ∨ j = 1 := by omega
      · exact ⟨_, _, _, .inl ⟨rfl, rfl⟩, h2, h8, rfl, by simp only [totAt]; omega⟩
      · exact ⟨_, _, _, .inr ⟨rfl, rfl⟩, h3, h9, rfl, by simp only [totAt]; omega⟩
    have he : szN (n + 1) d = totAt n d 0 2 := by rw [szN]; simp only [totAt]
    rw [he] at hk ⊢
    have h00 : totAt n d 0 0 = 1 := rfl
    have HB := Lib.hid hrow
    clear hrow he h1 h2 h3 h4 h5 h6 h7 h8 h9
    obtain ⟨bA, hbA⟩ : ∃ bA, bA = totAt n d 0 := ⟨_, rfl⟩
    rw [← hbA] at HB h00 hk ⊢
    clear hbA
    have hsh : Shaped (datCells d.kind d.neg aL d.limbs.length cL d.b d.s aI d.items.length cI aT d.tail.length cT) := ⟨_, _, _, _, _, _, _, _, _, _, _, _, _, rfl⟩
    have HSH := Lib.hid hsh
    clear hsh
    unfold datCells at HSH ⊢
    generalize d.kind = kd at *
    generalize d.neg = ng at *
    generalize d.limbs.length = nl at *
    generalize d.b = bb at *
    generalize d.s = ss at *
    generalize d.items.length = ni at *
    generalize d.tail.length = nt at *
    have hU := Lib.hid (((Upd.refl [] w).alloc (.cells #[.int .i64 kd, .bool ng, .slice aL nl cL, .bool bb, .string ss, .slice aI ni cI, .slice aT nt cT] 27)).alloc (.cells #[.int .i64 kd, .bool ng, .slice aL nl cL, .bool bb, .string ss, .slice aI ni cI, .slice aT nt cT] 27))
    have hO := Lib.hid (AllRow.lit (w0 := w) (w.alloc (.cells #[.int .i64 kd, .bool ng, .slice aL nl cL, .bool bb, .string ss, .slice aI ni cI, .slice aT nt cT] 27)) _ HSH.out (by simp))
    go_enter Try.func15, Try.ntmps15
    go_wp2_with fail
    obtain ⟨W1, hW1⟩ : ∃ W1, W1 = (w.alloc (.cells #[.int .i64 kd, .bool ng, .slice aL nl cL, .bool bb, .string ss, .slice aI ni cI, .slice aT nt cT] 27)).alloc (.cells #[.int .i64 kd, .bool ng, .slice aL nl cL, .bool bb, .string ss, .slice aI ni cI, .slice aT nt cT] 27) := ⟨_, rfl⟩
    rw [← hW1] at hU
    have hO' : Hid (AllRow w W1 (.slice (some ⟨w.heap.size + 1, 0, none⟩) 1 1) 1) := by
      rw [hW1]
      have := hO
      simpa using this
    clear hO
    rw [← hW1]
    clear hW1 HSH
    have i0 : ∀ w, (Instr.index 48 (.agg #[.slice aI ni cI, .slice aT nt cT]) (.int .i64 0)).run Try.prog w = .ok (.slice aI ni cI) w := fun _ => by kernel_rfl
    have i1 : ∀ w, (Instr.index 48 (.agg #[.slice aI ni cI, .slice aT nt cT]) (.int .i64 1)).run Try.prog w = .ok (.slice aT nt cT) w := fun _ => by kernel_rfl
    go_loopw [3, 15] (fun l i wr => ∃ j : Nat, j ≤ 2 ∧ i = .int .i64 j ∧ Hid (AllRow w wr l (bA j)) ∧ Hid (Upd [] w wr)) (fun _ i _ => 2 - (intOf i).toNat)
    case atStart => exact ⟨0, by omega, rfl, by rw [h00]; exact hO', hU⟩
    case round =>
      obtain ⟨j, hj, rfl, hO, hUr⟩ := hrel
      by_cases hj2 : j < 2
      · obtain ⟨av, ds, cv, hcase, hds, hdl, hs1, hs2⟩ := HB.out j hj2
        have hix : ∀ w, (Instr.index 48 (.agg #[.slice aI ni cI, .slice aT nt cT]) (.int .i64 j)).run Try.prog w = .ok (.slice av ds.length cv) w := by
          rcases hcase with ⟨rfl, e⟩ | ⟨rfl, e⟩
          · rw [e]; exact i0
          · rw [e]; exact i1
        obtain ⟨m, hm⟩ : ∃ m, m = ds.length := ⟨_, rfl⟩
        rw [← hm] at hix hdl
        have hj2' : (j : Int) < 2 := by omega
        have hj3' : decide ((j : Int) < 2) = true := decide_eq_true hj2'
        have HDS := Lib.hid hds
        have HS1 := Lib.hid hs1
        have HS2 := Lib.hid hs2
        clear hcase hs1 hs2 hds i0 i1
        go_wp2_with fail
        go_loopw [3, 20] (fun l i wr => ∃ i0 : Nat, i0 ≤ m ∧ i = .int .i64 i0 ∧ Hid (AllRow w wr l (bA j + szL (szN n) (ds.take i0))) ∧ Hid (Upd [] w wr)) (fun _ i _ => m - (intOf i).toNat)
        case atStart => exact ⟨0, by omega, rfl, hO, hUr⟩
        case round =>
          obtain ⟨i0, hi0, rfl, hO1, hUk⟩ := hrel
          by_cases hlt : i0 < m
          · have hkl : i0 < ds.length := by rw [← hm]; exact hlt
            have hnx := szL_next (szN n) hkl
            have hle3 := szL_take (szN n) ds (i0 + 1)
            obtain ⟨b, o, cs, rfl, _, hat, hd0⟩ := HDS.out i0 hkl
            have hd1 := hd0.upd hUk.out
            obtain ⟨yL, zL, yI, zI, yT, zT, rfl⟩ := cells_agg hd1
            obtain ⟨q0, q1, q2, q3, q4, q5, q6⟩ := (hat.upd hUk.out (by simp)).cells
            obtain ⟨x, hx⟩ : ∃ x, x = ds.getD i0 default := ⟨_, rfl⟩
            rw [← hx] at hnx hd1 q0 q1 q2 q3 q4 q5 q6
            obtain ⟨lk, hlk⟩ : ∃ lk, lk = bA j + szL (szN n) (ds.take i0) := ⟨_, rfl⟩
            have hu7 : Upd [] wr (wr.alloc (.cells #[.int .i64 x.kind, .bool x.neg, .slice yL x.limbs.length zL, .bool x.b, .string x.s, .slice yI x.items.length zI, .slice yT x.tail.length zT] 27)) := (Upd.refl [] wr).alloc _
            have hC := Lib.hid (IH.out x _ (wr.alloc (.cells #[.int .i64 x.kind, .bool x.neg, .slice yL x.limbs.length zL, .bool x.b, .string x.s, .slice yI x.items.length zI, .slice yT x.tail.length zT] 27)) (hd1.upd hu7) (by have := HS1.out; have := HS2.out; omega))
            have hU2 := Lib.hid (hUk.out.then hu7)
            have hnx2 : bA j + szL (szN n) (ds.take (i0 + 1)) = lk + szN n x := by omega
            have HX := Lib.hid hnx2
            have hb3 : lk + szN n x ≤ 100000 := by have := HS1.out; have := HS2.out; omega
            have hpos := szN_pos n x
            rw [← hlk] at hO1
            have hO2 := Lib.hid (hO1.out.step hu7)
            unfold datCells at hC
            clear hnx hd0 hat hd1 hlk hnx2 hle3 hx hu7 hO1
            generalize szN n x = rs at *
            generalize x.kind = kd9 at *
            generalize x.neg = ng9 at *
            generalize x.limbs.length = nl9 at *
            generalize x.b = bb9 at *
            generalize x.s = ss9 at *
            generalize x.items.length = ni9 at *
            generalize x.tail.length = nt9 at *
            go_wp2_with fail
            refine hC.out.mono ?_
            rintro e w2 ⟨⟨v2, rfl, hA2⟩, hu2⟩
            have hU3 := Lib.hid (hU2.out.then hu2)
            have hO3 := Lib.hid (hO2.out.step hu2)
            obtain ⟨css, c1, c2, c3⟩ := hO3.out
            have C3 := Lib.hid c3
            obtain ⟨g2, cc2, rfl, -⟩ := hA2.at hpos
            obtain ⟨ns, n1, n2, n3, n4, n5⟩ := hA2.news
            have hsz3 := hU3.out.size
            clear hC hUk hU2 hu2 q0 q1 q2 q3 q4 q5 q6 hO2 hO3 c3 hA2
            go_wp2_with (at_builtin; refine wpList_apps rfl _ _ 25 rfl w.heap.size 27 _ 7 112 Try.underlying25 info_dat rfl (by decide) _ _ _ rfl C3.out g2 0 rs cc2 ns.flatten rfl n3 n4 n5 (by unfold maxLen; omega) (by omega) hsz3 ?_; intro v9 w9 S hO9 hu9 hS9 hg9)
            have hU9 := Lib.hid (hU3.out.onto hu9 (fun k hk => (C3.out.lt k (hS9 k hk)).1))
            have HO9 : Hid (AllRow w w9 v9 (lk + rs)) := Lib.hid ⟨css ++ ns, by rw [List.length_append]; omega, fun cs hcs => by rcases List.mem_append.1 hcs with h | h; exact c2 cs h; exact n2 cs h, by rw [List.flatten_append]; exact hO9⟩
            clear hO9 hu9 hS9 hg9 hU3 C3 n1 n2 n3 n4 n5 c1 c2
            go_wp2
            go_roundw
            case rel => exact ⟨i0 + 1, by omega, by go_num, by rw [HX.out]; exact HO9, hU9⟩
            case measure => simp [intOf]; omega
          · have hkm : i0 = m := by omega
            subst hkm
            have hsx : bA j + szL (szN n) (ds.take i0) = bA (j + 1) := by rw [hm, List.take_length]; exact HS1.out.symm
            rw [hsx] at hO1
            clear hsx
            go_wp2
            go_roundw
            case rel => exact ⟨j + 1, by omega, by go_num, hO1, hUk⟩
            case measure => simp [intOf]; omega
      · have hj3 : j = 2 := by omega
        subst hj3
        go_wp2
        go_ret
        exact ⟨⟨_, rfl, hO.out⟩, hUr.out⟩
end Go.Proofs.Ytknbgbeepachgaa
