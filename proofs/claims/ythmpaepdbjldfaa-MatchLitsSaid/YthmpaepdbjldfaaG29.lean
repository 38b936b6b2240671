/-
  Texts of this claim, merged: MaF, MaG. Lemmas and contracts; no conditions of our own.
-/
import Derived.Test.YthmpaepdbjldfaaG25
import Derived.Test.YthmpaepdbjldfaaG26
import Derived.Maps.OwnOps
import Derived.Maps.Views
import Derived.StringKeys

/-
  A set of strings in a map; slices.Contains of strings; match.Check, Names, Depth.
-/
namespace Go.Proofs.Ythmpaepdbjldfaa
set_option linter.unusedVariables false
set_option linter.unusedSimpArgs false
open Go.RowKit Go.Shelf Go.Maps

def hasS (l : List ByteArray) (s : ByteArray) : Bool := l.any fun x => decide (x = s)
theorem hasS_iff {l : List ByteArray} {s : ByteArray} : hasS l s = true ↔ s ∈ l := by
  unfold hasS
  rw [List.any_eq_true]
  constructor
  · rintro ⟨x, hx, h⟩
    rw [← of_decide_eq_true h]
    exact hx
  · intro h
    exact ⟨s, h, by simp⟩
theorem hasS_snoc (l : List ByteArray) (x s : ByteArray) : hasS (l ++ [x]) s = (hasS l s || decide (x = s)) := by simp [hasS]
theorem str_key : Keyed Try.prog 9 := string_keyed Try.underlying9
theorem plainElem_bool_inv {P : Program} {e : TypeId} (he : P.underlying e = some .bool) {v : Value} {z : DataW Unit × List MemPlace} (h : plainElem P e v = some z) : ∃ a, v = .bool a ∧ z = (.lit (.bool a), []) := by
  unfold plainElem at h
  rw [he] at h
  cases v <;> simp at h
  subst h
  exact ⟨_, rfl, rfl⟩
/-- Block b is a map that holds these strings. -/
def StrSet (w : World) (b : Nat) (l : List ByteArray) : Prop :=
  ∃ D : DataW Unit, w.ownsMap Try.prog 9 (plainElem Try.prog 4) b l.length D ∧ ∀ s : ByteArray, D.atKey (.string s.data.toList) (.lit (.bool false)) = .lit (.bool (hasS l s))
theorem StrSet.made (w : World) : StrSet (w.alloc (.map #[] 0)) w.heap.size [] :=
  ⟨.map [], World.ownsMap_made .., fun _ => rfl⟩
theorem StrSet.kept {w w' : World} {b : Nat} {l : List ByteArray} (h : StrSet w b l) (e : w'.heap[b]? = w.heap[b]?) : StrSet w' b l := by
  obtain ⟨D, ⟨es, c, h1, h2⟩, h3⟩ := h
  exact ⟨D, ⟨es, c, by rw [e, h1], h2⟩, h3⟩
theorem StrSet.lt {w : World} {b : Nat} {l : List ByteArray} (h : StrSet w b l) : b < w.heap.size := by
  obtain ⟨D, h, _⟩ := h
  exact h.lt
theorem StrSet.look {w : World} {b : Nat} {l : List ByteArray} (h : StrSet w b l) (s : ByteArray) (hs : s.size ≤ maxLen) :
    (Instr.lookup 101 (.map (some b)) (.string s) false).run Try.prog w = .ok (.bool (hasS l s)) w := by
  obtain ⟨D, ho, hD⟩ := h
  obtain ⟨v, ps, hrun, hv⟩ := ho.lookup str_key Try.underlying101 (z := .bool false) (by kernel_rfl) (plainElem_bool Try.underlying4 false) (key := .string s) (kl := .string s.data.toList) (WideMaps.keyOf_string_mk Try.underlying9 hs)
  obtain ⟨c, rfl, hc⟩ := plainElem_bool_inv Try.underlying4 hv
  rw [hD s] at hc
  simp only [Prod.mk.injEq, DataW.lit.injEq, Lit.bool.injEq] at hc
  rw [hrun, hc.1]
theorem StrSet.put {w : World} {b : Nat} {l : List ByteArray} (h : StrSet w b l) (x : ByteArray) (hx : x.size ≤ maxLen) (hl : l.length < 1000000) :
    ∃ w', (Instr.mapUpdate 101 (.map (some b)) (.string x) (.bool true)).run Try.prog w = .ok () w' ∧ StrSet w' b (l ++ [x]) ∧ w.grownBy w' (some b) := by
  obtain ⟨D, ho, hD⟩ := h
  obtain ⟨w', hrun, ho', hg⟩ := ho.update str_key Try.underlying101 (by unfold maxLen; omega) (key := .string x) (kl := .string x.data.toList) (WideMaps.keyOf_string_mk Try.underlying9 hx) (plainElem_bool Try.underlying4 true)
  refine ⟨w', hrun, ⟨_, by simpa using ho', fun r => ?_⟩, hg⟩
  rw [hasS_snoc]
  obtain ⟨es, c, _, _, _, e⟩ := ho
  by_cases hrx : x = r
  · subst hrx
    rw [atKey_put_same (k := .string x.data.toList) ⟨_, e⟩ (by simp [WideAt.IsKeyLit])]
    simp
  · have hne : ¬ r.data.toList = x.data.toList := fun e => hrx (str_inj (by rw [ByteArray.toList_eq, ByteArray.toList_eq, e]))
    rw [atKey_put_other (by simpa using hne), hD r]
    simp [hrx]

set_option maxRecDepth 100000 in
set_option maxHeartbeats 1500000 in
theorem indexStr_calls {w : World} {a : Option Addr} {ss : List ByteArray} {P : Nat → Prop} (s : ByteArray) (m c : Nat) (hm : ss.length = m) (h : RowK w P 1 IsS a ss) (hb : m ≤ 35184372088832) :
    Calls Try.prog 87 #[.slice a m c, .string s] w fun e w' => e = .returned (.int .i64 (idxI (fun x => decide (x = s)) ss)) ∧ Upd [] w w' := by
  have HR := Lib.hid h
  have HM := Lib.hid hm
  clear h hm
  go_enter Try.func87, Try.ntmps87
  go_wp2_with fail
  go_loopw [8] (fun i wr => ∃ j : Nat, j ≤ m ∧ i = .int .i64 j ∧ Hid (∀ i, i < j → decide (ss.getD i default = s) = false) ∧ Hid (Upd [] w wr)) (fun i _ => m - (intOf i).toNat)
  case atStart => exact ⟨0, by omega, rfl, Lib.hid (fun i hi => by omega), Lib.hid (Upd.refl _ _)⟩
  case round =>
    obtain ⟨j, hj, rfl, hG, hU⟩ := hrel
    by_cases hlt : j < m
    · have hjd : j < ss.length := by rw [HM.out]; exact hlt
      obtain ⟨b, o, rfl, x0⟩ := (HR.out.upd (by decide) hU.out (by simp) (fun _ _ h => h)).str hjd
      have HG2 : Hid (decide (ss.getD j default = s) = true → idxI (fun x => decide (x = s)) ss = j) := Lib.hid (fun h => idxI_at (p := fun x => decide (x = s)) hG.out hjd h)
      have HG1 : Hid (decide (ss.getD j default = s) = false → ∀ i, i < j + 1 → decide (ss.getD i default = s) = false) := Lib.hid (fun h i hi => by
        by_cases hij : i < j
        · exact hG.out i hij
        · rw [show i = j by omega]
          exact h)
      generalize ss.getD j default = x at *
      by_cases hr : x = s
      · have HX := Lib.hid (HG2.out (decide_eq_true hr))
        have hr' : (s.toList == x.toList) = true := by rw [hr]; simp
        clear hr HG1 HG2
        go_wp2
        go_ret
        exact ⟨by rw [HX.out]; rfl, hU.out⟩
      · have HX := Lib.hid (HG1.out (decide_eq_false hr))
        have hr' : (s.toList == x.toList) = false := by rw [str_eq, decide_eq_false (fun e => hr e.symm)]
        clear hr HG1 HG2
        go_wp2
        go_roundw
        case rel => exact ⟨j + 1, by omega, by go_num, HX, hU⟩
        case measure => simp [intOf]; omega
    · have hjm : j = m := by omega
      subst hjm
      have HX : Hid (idxI (fun x => decide (x = s)) ss = -1) := Lib.hid (idxI_none (fun i hi => hG.out i (by rw [← HM.out]; exact hi)))
      go_wp2
      go_ret
      exact ⟨by rw [HX.out]; rfl, hU.out⟩
set_option maxRecDepth 100000 in
set_option maxHeartbeats 1500000 in
theorem containsStr_calls {w : World} {a : Option Addr} {ss : List ByteArray} {P : Nat → Prop} (s : ByteArray) (m c : Nat) (hm : ss.length = m) (h : RowK w P 1 IsS a ss) (hb : m ≤ 35184372088832) :
    Calls Try.prog 57 #[.slice a m c, .string s] w fun e w' => e = .returned (.bool (hasS ss s)) ∧ Upd [] w w' := by
  have hC := Lib.hid (indexStr_calls s m c hm h hb)
  have HK := Lib.hid (idxI_any (fun x => decide (x = s)) ss)
  have HH : Hid (hasS ss s = ss.any (fun x => decide (x = s))) := Lib.hid rfl
  clear h hm
  generalize idxI (fun x => decide (x = s)) ss = k at *
  go_enter Try.func57, Try.ntmps57
  go_wp2_with fail
  refine hC.out.mono ?_
  rintro e w2 ⟨rfl, hU.out⟩
  clear hC
  go_wp2
  go_ret
  exact ⟨by rw [HH.out, ← HK.out]; rfl, hU.out⟩
theorem place_size {n : Nat} {w : World} {P : Nat → Prop} {ls : List Lk} : ∀ (d : Dat) (cs : List Value) (k : Int), IsD w P n cs d → ∀ p ∈ placesN ls n d k, p.1.size ≤ maxLen := by
  induction n with
  | zero => intro d cs k h; exact h.elim
  | succ n ih =>
    intro d cs k h p hp
    obtain ⟨aL, cL, aI, cI, aT, cT, rfl, l1, r1, r2, hcap, hbd⟩ := h
    unfold placesN at hp
    split at hp
    · rw [List.mem_singleton.1 hp]
      have := hbd.2.2.2.1
      simp only [maxLen]
      omega
    · rcases List.mem_append.1 hp with hp | hp
      · obtain ⟨i, hi, hp⟩ := List.mem_flatMap.1 hp
        obtain ⟨b, o, cs, _, _, _, hd⟩ := r1 i (by simpa using hi)
        exact ih _ cs _ hd p hp
      · obtain ⟨x, hx, hp⟩ := List.mem_flatMap.1 hp
        obtain ⟨i, hi, rfl⟩ := List.getElem_of_mem hx
        obtain ⟨b, o, cs, _, _, _, hd⟩ := r2 i hi
        rw [List.getD_eq_getElem?_getD, List.getElem?_eq_getElem hi] at hd
        exact ih _ cs _ hd p hp
theorem nodup_snoc {l : List ByteArray} {x : ByteArray} : (l ++ [x]).Nodup ↔ l.Nodup ∧ x ∉ l := by
  rw [List.nodup_append]
  constructor
  · rintro ⟨h1, _, h3⟩
    exact ⟨h1, fun hx => h3 x hx x (by simp) rfl⟩
  · rintro ⟨h1, h2⟩
    refine ⟨h1, by simp, fun a ha b hb e => ?_⟩
    rw [List.mem_singleton.1 hb] at e
    exact h2 (e ▸ ha)
theorem nodup_take {l : List ByteArray} (h : l.Nodup) (j : Nat) : (l.take j).Nodup := h.sublist (List.take_sublist _ _)
set_option maxRecDepth 100000 in
set_option maxHeartbeats 1500000 in
theorem Check_calls {ls : List Lk} {n : Nat} {d : Dat} {cs : List Value} {w : World} {a : Option Addr} {P P' : Nat → Prop} (m c : Nat) (h : IsD w P n cs d) (hL : Likes w P' a ls) (hm : ls.length = m) (hmb : m ≤ 1000000) (hs : szN n d ≤ 100000) :
    Calls Try.prog 33 #[.agg cs.toArray, .slice a m c] w fun e w' => e = .returned (.int .i64 (checkM ls n d)) ∧ Upd [] w w' := by
  have hG := Lib.hid (fun (W : World) (hu : Upd [] w W) => Good_calls (h.upd hu) hs)
  have hPl := Lib.hid (fun (W : World) (hu : Upd [] w W) => places_calls ls n d cs W a P P' 0 m c (h.upd hu) (hL.upd hu) hm hmb hs (by omega) (by omega))
  have hWr := Lib.hid (fun (W : World) (hu : Upd [] w W) => wrong_calls ls n d cs W a P P' m c (h.upd hu) (hL.upd hu) hm hmb hs)
  have HSZ := Lib.hid (place_size (ls := ls) d cs 0 h)
  have hlen := placesN_len ls n d 0
  have HC : Hid (checkM ls n d = if goodM n d = false then 12 else if ¬ ((placesN ls n d 0).map Prod.fst).Nodup then 5 else if wrongN ls n d then 5 else 0) := Lib.hid rfl
  have HG9 : Hid (goodM n d = (decide (0 ≤ budN n d 5000 200) && goodN n d)) := Lib.hid rfl
  obtain ⟨gg, hgg⟩ : ∃ g, g = (decide (0 ≤ budN n d 5000 200) && goodN n d) := ⟨_, rfl⟩
  rw [← hgg] at hG HG9
  obtain ⟨ps, hps⟩ : ∃ ps, ps = placesN ls n d 0 := ⟨_, rfl⟩
  rw [← hps] at hPl HSZ hlen HC
  obtain ⟨wr0, hwr0⟩ : ∃ r, r = wrongN ls n d := ⟨_, rfl⟩
  rw [← hwr0] at hWr HC
  obtain ⟨CC, hCC⟩ : ∃ r, r = checkM ls n d := ⟨_, rfl⟩
  rw [← hCC] at HC ⊢
  have hpl : ps.length ≤ 100000 := by omega
  obtain ⟨k1, n1, a1, l1, p1, b1, s1, i1, m1, d1, t1, o1, q1, rfl⟩ := h.shaped
  have hBX := Lib.hid (Blk.new w [.int .i64 k1, .bool n1, .slice a1 l1 p1, .bool b1, .string s1, .slice i1 m1 d1, .slice t1 o1 q1] 27)
  have hU := Lib.hid ((Upd.refl [] w).alloc (.cells #[.int .i64 k1, .bool n1, .slice a1 l1 p1, .bool b1, .string s1, .slice i1 m1 d1, .slice t1 o1 q1] 27))
  clear hgg hps hwr0 hCC h hL hm hmb hs hlen
  unfold datCells at *
  have hmm := @run_makeMap Try.prog
  go_enter Try.func33, Try.ntmps33
  go_wp2_with fail
  refine (hG.out _ hU.out).mono ?_
  rintro e w2 ⟨rfl, hu2⟩
  have hx2 := hu2.blk hBX.out (by simp)
  obtain ⟨x0, x1, x2, x3, x4, x5, x6⟩ := Blk.seven hx2
  have HX2 := Lib.hid hx2
  have hlt2 := hx2.lt
  have HU2 := Lib.hid (hU.out.then hu2)
  clear hG hx2 hu2 hU hBX
  cases gg with
  | false =>
    have HP : Hid (CC = 12) := Lib.hid (by rw [HC.out, HG9.out]; rfl)
    clear HC HG9
    go_wp2
    go_ret
    exact ⟨by rw [HP.out]; rfl, HU2.out⟩
  | true =>
    have HP : Hid (CC = if ¬ (ps.map Prod.fst).Nodup then 5 else if wr0 then 5 else 0) := Lib.hid (by rw [HC.out, HG9.out]; rfl)
    clear HC HG9
    have hu3 : Upd [] w (w2.alloc (.map #[] 0)) := HU2.out.alloc _
    have HU3 := Lib.hid hu3
    have HX3 := Lib.hid (HX2.out.alloc (.map #[] 0))
    have HM3 := Lib.hid (StrSet.made w2)
    clear hu3
    go_wp2_with fail
    refine (hPl.out _ HU3.out).mono ?_
    rintro e w4 ⟨⟨a4, c4, rfl, hR4, hc4⟩, hu4⟩
    have HU4 := Lib.hid (HU3.out.then hu4)
    have HX4 := Lib.hid (hu4.blk HX3.out (by simp))
    have HR4 := Lib.hid hR4
    have HM4 := Lib.hid (HM3.out.kept (hu4.block _ HM3.out.lt (by simp)))
    have hmlt : w2.heap.size < w4.heap.size := HM4.out.lt
    have hxlt : w.heap.size < w2.heap.size := HX2.out.lt
    have hR4' : RowK w4 (fun b => w2.heap.size < b) 2 IsP a4 ps := hR4.map (by decide) (fun b _ hp => by have : (w2.alloc (.map #[] 0)).heap.size ≤ b := hp; simp at this; omega) (fun _ _ _ _ h => h) (fun _ _ h => h)
    have HR4' := Lib.hid hR4'
    clear hR4 hc4 hu4 hPl HX3 HM3 HX2 HU2 HU3 x0 x1 x2 x3 x4 x5 x6 HR4 hR4'
    go_wp2_with fail
    go_loopw [16] (fun i wr => ∃ j : Nat, j ≤ ps.length ∧ i = .int .i64 j ∧ Hid (StrSet wr w2.heap.size ((ps.map Prod.fst).take j)) ∧ Hid (((ps.map Prod.fst).take j).Nodup) ∧ Hid (Upd [w2.heap.size] w4 wr)) (fun i _ => ps.length - (intOf i).toNat)
    case atStart => exact ⟨0, by omega, rfl, HM4, Lib.hid (by simp), Lib.hid (Upd.refl _ _)⟩
    case round =>
      obtain ⟨j, hj, rfl, hS, hN, hU⟩ := hrel
      have hmr := hS.out.lt
      by_cases hlt : j < ps.length
      · have hRj := HR4'.out.upd (by decide) hU.out (fun b hb => by simp; omega) (fun _ _ h => h)
        obtain ⟨b, o, rfl, hbl, y0, y1⟩ := hRj.place hlt
        have hsz := HSZ.out (ps.getD j default) (by rw [List.getD_eq_getElem?_getD, List.getElem?_eq_getElem hlt]; exact List.getElem_mem hlt)
        have htk : (ps.map Prod.fst).take (j + 1) = (ps.map Prod.fst).take j ++ [(ps.getD j default).1] := by
          rw [take_nextK (by simpa using hlt)]
          congr 2
          simp [List.getD_eq_getElem?_getD, List.getElem?_eq_getElem hlt]
        have hll : ((ps.map Prod.fst).take j).length < 1000000 := by rw [List.length_take]; omega
        obtain ⟨x, hx⟩ : ∃ x, x = ps.getD j default := ⟨_, rfl⟩
        rw [← hx] at y0 y1 hsz htk
        obtain ⟨x1, x2⟩ := x
        simp only at y0 y1 hsz htk
        have hal : StrSet (wr.alloc (.cells #[.string x1, .int .i64 x2] 99)) w2.heap.size ((ps.map Prod.fst).take j) := hS.out.kept (Below.heap_alloc _ _ _ hmr)
        have hlk := hal.look x1 hsz
        obtain ⟨w9, hput, hS9, hg9⟩ := hal.put x1 hsz hll
        have HTK := Lib.hid htk
        have HS9 := Lib.hid hS9
        have HU9 : Hid (Upd [w2.heap.size] w4 w9) := Lib.hid ((hU.out.alloc _).then (Upd.of_grown hg9 (fun k hk => by injection hk with hk; simp [hk])))
        have HUA := Lib.hid (hU.out.alloc (.cells #[.string x1, .int .i64 x2] 99))
        clear hRj htk hx hal hS9 hg9 hS
        cases hh : hasS ((ps.map Prod.fst).take j) x1 with
        | true =>
          have HQ : Hid (CC = 5) := Lib.hid (by
            rw [HP.out, if_pos]
            intro hn
            have := nodup_take hn (j + 1)
            rw [HTK.out, nodup_snoc] at this
            exact this.2 (hasS_iff.1 hh))
          rw [hh] at hlk
          clear HP hh hput
          go_wp2
          go_ret
          exact ⟨by rw [HQ.out]; rfl, HU4.out.trans HUA.out (fun x hx hlt => by simp at hx; omega)⟩
        | false =>
          have HN : Hid (((ps.map Prod.fst).take (j + 1)).Nodup) := Lib.hid (by
            rw [HTK.out, nodup_snoc]
            exact ⟨hN.out, fun hm => by rw [hasS_iff.2 hm] at hh; cases hh⟩)
          rw [hh] at hlk
          clear hh hN
          go_wp2
          go_roundw
          case rel => exact ⟨j + 1, by omega, by go_num, Lib.hid (by rw [HTK.out]; exact HS9.out), HN, HU9⟩
          case measure => simp [intOf]; omega
      · have hjm : j = ps.length := by omega
        subst hjm
        have HQ : Hid (CC = if wr0 then 5 else 0) := Lib.hid (by
          rw [HP.out, if_neg]
          have := hN.out
          rw [List.take_of_length_le (by simp)] at this
          simpa using this)
        have HUW : Hid (Upd [] w wr) := Lib.hid (HU4.out.trans hU.out (fun x hx hlt => by simp at hx; omega))
        obtain ⟨z0, z1, z2, z3, z4, z5, z6⟩ := Blk.seven (hU.out.blk HX4.out (by simp; omega))
        clear HP hN hS HSZ
        go_wp2_with fail
        refine (hWr.out _ HUW.out).mono ?_
        rintro e w6 ⟨rfl, hu6⟩
        have HU6 := Lib.hid (HUW.out.then hu6)
        clear hu6 hWr z0 z1 z2 z3 z4 z5 z6
        cases wr0 with
        | true =>
          go_wp2
          go_ret
          exact ⟨by rw [HQ.out]; rfl, HU6.out⟩
        | false =>
          go_wp2
          go_ret
          exact ⟨by rw [HQ.out]; rfl, HU6.out⟩
end Go.Proofs.Ythmpaepdbjldfaa

/-
  match.Names, Depth.
-/
namespace Go.Proofs.Ythmpaepdbjldfaa
set_option linter.unusedVariables false
set_option linter.unusedSimpArgs false
open Go.RowKit Go.Shelf

def addS (l : List ByteArray) (s : ByteArray) : List ByteArray := if hasS l s then l else l ++ [s]
def dedupS (l : List ByteArray) : List ByteArray := l.foldl addS []
theorem dedupS_snoc (l : List ByteArray) (s : ByteArray) : dedupS (l ++ [s]) = addS (dedupS l) s := by simp [dedupS]
theorem dedupS_len (l : List ByteArray) : (dedupS l).length ≤ l.length := by
  have : ∀ (l acc : List ByteArray), (l.foldl addS acc).length ≤ acc.length + l.length := by
    intro l
    induction l with
    | nil => intro acc; simp
    | cons x l ih =>
      intro acc
      have h1 := ih (addS acc x)
      have h2 : (addS acc x).length ≤ acc.length + 1 := by
        unfold addS
        split <;> simp
      simp only [List.foldl_cons, List.length_cons]
      omega
  have := this l []
  simpa [dedupS] using this
def namesM (ls : List Lk) (n : Nat) (d : Dat) : List ByteArray := if goodM n d then dedupS ((placesN ls n d 0).map Prod.fst) else []
set_option maxRecDepth 100000 in
set_option maxHeartbeats 1500000 in
theorem Names_calls {ls : List Lk} {n : Nat} {d : Dat} {cs : List Value} {w : World} {a : Option Addr} {P P' : Nat → Prop} (m c : Nat) (h : IsD w P n cs d) (hL : Likes w P' a ls) (hm : ls.length = m) (hmb : m ≤ 1000000) (hs : szN n d ≤ 100000) :
    Calls Try.prog 32 #[.agg cs.toArray, .slice a m c] w fun e w' => (∃ a' c', e = .returned (.slice a' (namesM ls n d).length c') ∧ RowK w' (fun b => w.heap.size ≤ b) 1 IsS a' (namesM ls n d) ∧ (namesM ls n d).length ≤ c') ∧ Upd [] w w' := by
  have hG := Lib.hid (fun (W : World) (hu : Upd [] w W) => Good_calls (h.upd hu) hs)
  have hPl := Lib.hid (fun (W : World) (hu : Upd [] w W) => places_calls ls n d cs W a P P' 0 m c (h.upd hu) (hL.upd hu) hm hmb hs (by omega) (by omega))
  have hlen := placesN_len ls n d 0
  have HC : Hid (namesM ls n d = if goodM n d then dedupS ((placesN ls n d 0).map Prod.fst) else []) := Lib.hid rfl
  have HG9 : Hid (goodM n d = (decide (0 ≤ budN n d 5000 200) && goodN n d)) := Lib.hid rfl
  obtain ⟨gg, hgg⟩ : ∃ g, g = (decide (0 ≤ budN n d 5000 200) && goodN n d) := ⟨_, rfl⟩
  rw [← hgg] at hG HG9
  obtain ⟨ps, hps⟩ : ∃ ps, ps = placesN ls n d 0 := ⟨_, rfl⟩
  rw [← hps] at hPl hlen HC
  obtain ⟨CC, hCC⟩ : ∃ r, r = namesM ls n d := ⟨_, rfl⟩
  rw [← hCC] at HC ⊢
  have hpl : ps.length ≤ 100000 := by omega
  obtain ⟨k1, n1, a1, l1, p1, b1, s1, i1, m1, d1, t1, o1, q1, rfl⟩ := h.shaped
  have hBX := Lib.hid (Blk.new w [.int .i64 k1, .bool n1, .slice a1 l1 p1, .bool b1, .string s1, .slice i1 m1 d1, .slice t1 o1 q1] 27)
  have hU := Lib.hid ((Upd.refl [] w).alloc (.cells #[.int .i64 k1, .bool n1, .slice a1 l1 p1, .bool b1, .string s1, .slice i1 m1 d1, .slice t1 o1 q1] 27))
  clear hgg hps hCC h hL hm hmb hs hlen
  unfold datCells at *
  go_enter Try.func32, Try.ntmps32
  go_wp2_with fail
  refine (hG.out _ hU.out).mono ?_
  rintro e w2 ⟨rfl, hu2⟩
  have hx2 := hu2.blk hBX.out (by simp)
  obtain ⟨x0, x1, x2, x3, x4, x5, x6⟩ := Blk.seven hx2
  have HU2 := Lib.hid (hU.out.then hu2)
  clear hG hx2 hu2 hU hBX
  cases gg with
  | false =>
    have HP : Hid (CC = []) := Lib.hid (by rw [HC.out, HG9.out]; rfl)
    clear HC HG9
    go_wp2
    go_ret
    exact ⟨⟨none, 0, by rw [HP.out]; rfl, by rw [HP.out]; exact RowK.nil _ _ _ _ _, by rw [HP.out]; simp⟩, HU2.out⟩
  | true =>
    have HP : Hid (CC = dedupS (ps.map Prod.fst)) := Lib.hid (by rw [HC.out, HG9.out]; rfl)
    clear HC HG9
    go_wp2_with fail
    refine (hPl.out _ HU2.out).mono ?_
    rintro e w4 ⟨⟨a4, c4, rfl, hR4, hc4⟩, hu4⟩
    have HU4 := Lib.hid (HU2.out.then hu4)
    have HR4 := Lib.hid hR4
    have HSZ := Lib.hid HU4.out.size
    clear hR4 hc4 hu4 hPl HU2 x0 x1 x2 x3 x4 x5 x6
    go_wp2_with fail
    go_loopw [5, 14] (fun lv i wr => ∃ j : Nat, j ≤ ps.length ∧ i = .int .i64 j ∧ Hid (OwnK w4.heap.size wr 9 1 IsS lv (dedupS ((ps.map Prod.fst).take j))) ∧ Hid (Upd [] w4 wr)) (fun _ i _ => ps.length - (intOf i).toNat)
    case atStart => exact ⟨0, by omega, rfl, Lib.hid (OwnK.nil _ _ _ _ _), Lib.hid (Upd.refl _ _)⟩
    case round =>
      obtain ⟨j, hj, rfl, hO, hU⟩ := hrel
      by_cases hlt : j < ps.length
      · obtain ⟨b, o, rfl, hbl, y0, y1⟩ := (HR4.out.upd (by decide) hU.out (by simp) (fun _ _ h => h)).place hlt
        have htk : (ps.map Prod.fst).take (j + 1) = (ps.map Prod.fst).take j ++ [(ps.getD j default).1] := by
          rw [take_nextK (by simpa using hlt)]
          congr 2
          simp [List.getD_eq_getElem?_getD, List.getElem?_eq_getElem hlt]
        have hdl := dedupS_len ((ps.map Prod.fst).take j)
        rw [List.length_take, List.length_map] at hdl
        obtain ⟨x, hx⟩ : ∃ x, x = ps.getD j default := ⟨_, rfl⟩
        rw [← hx] at y0 y1 htk
        obtain ⟨x1, x2⟩ := x
        simp only at y0 y1 htk
        have HNX : Hid (dedupS ((ps.map Prod.fst).take (j + 1)) = addS (dedupS ((ps.map Prod.fst).take j)) x1) := Lib.hid (by rw [htk, dedupS_snoc])
        obtain ⟨DS, hDS⟩ : ∃ l, l = dedupS ((ps.map Prod.fst).take j) := ⟨_, rfl⟩
        rw [← hDS] at hO HNX hdl
        have hUA := hU.out.alloc (.cells #[.string x1, .int .i64 x2] 99)
        have hOA := hO.out.then ((Upd.refl [] wr).alloc (.cells #[.string x1, .int .i64 x2] 99))
        obtain ⟨a5, c5, hv, hR5, _⟩ := hOA.row
        subst hv
        have HC := Lib.hid (containsStr_calls x1 DS.length c5 rfl hR5 (by omega))
        have HUA := Lib.hid hUA
        have HOA := Lib.hid hOA
        have hYA : Blk (wr.alloc (.cells #[.string x1, .int .i64 x2] 99)) wr.heap.size [.string x1, .int .i64 x2] 99 := Blk.newAt rfl
        have HYA := Lib.hid hYA
        have hdd : DS.length ≤ 1000000 := by omega
        clear htk hx hDS hUA hOA hR5 hYA hdl hO hU
        go_wp2_with fail
        refine HC.out.mono ?_
        rintro e w6 ⟨rfl, hu6⟩
        have HU6 := Lib.hid (HUA.out.then hu6)
        have HO6 := Lib.hid (HOA.out.then hu6)
        have y0 := (hu6.blk HYA.out (by simp)).cell_some (i := 0) rfl
        have hl6 := (hu6.blk HYA.out (by simp)).lt
        clear hu6 HC HUA HOA HYA y1
        cases hh : hasS DS x1 with
        | true =>
          have HQ : Hid (dedupS ((ps.map Prod.fst).take (j + 1)) = DS) := Lib.hid (by rw [HNX.out]; unfold addS; rw [if_pos hh])
          clear hh HNX
          go_wp2
          go_roundw
          case rel => exact ⟨j + 1, by omega, by go_num, Lib.hid (by rw [HQ.out]; exact HO6.out), HU6⟩
          case measure => simp [intOf]; omega
        | false =>
          have HQ : Hid (dedupS ((ps.map Prod.fst).take (j + 1)) = DS ++ [x1]) := Lib.hid (by rw [HNX.out]; unfold addS; rw [if_neg (by rw [hh]; simp)])
          have HO7 := Lib.hid (HO6.out.then ((Upd.refl [] w6).alloc (.cells #[.string x1] 9)))
          have HR7 : Hid (RowK (w6.alloc (.cells #[.string x1] 9)) (fun _ => True) 1 IsS (some ⟨w6.heap.size, 0, none⟩) [x1]) := Lib.hid (RowK.one (Blk.new w6 [.string x1] 9) trivial rfl rfl)
          have HU7 := Lib.hid (HU6.out.alloc (.cells #[.string x1] 9))
          have HB7 : Hid (w4.heap.size ≤ (w6.alloc (.cells #[.string x1] 9)).heap.size) := Lib.hid HU7.out.size
          clear hh HNX HO6 HU6
          go_wp2_with (at_builtin; refine wpList_appk rfl _ _ 68 rfl w4.heap.size 9 _ 1 16 Try.underlying68 info_str rfl (by decide) (v := .slice a5 DS.length c5) (xs := DS) (ys := [x1]) rfl HO7.out rfl rfl HR7.out (fun _ _ h => h.one) (by omega) (by decide) HB7.out ?_; rintro q9 a9 c9 w9 - hO9 hu9 hb9)
          have HO9 := Lib.hid hO9
          have HU9 := Lib.hid (HU7.out.onto hu9 (fun k hk => (HO7.out.lt (by simpa using hk)).1))
          clear hO9 hu9 hb9
          go_wp2
          go_roundw
          case rel => exact ⟨j + 1, by omega, by go_num, Lib.hid (by rw [HQ.out]; exact HO9.out), HU9⟩
          case measure => simp [intOf]; omega
      · have hjm : j = ps.length := by omega
        subst hjm
        have hO1 := hO.out
        rw [List.take_of_length_le (by simp), ← HP.out] at hO1
        obtain ⟨a5, c5, rfl, hR5, hc5⟩ := hO1.row
        have HR5 := Lib.hid hR5
        have HC5 := Lib.hid hc5
        clear hO hO1 hR5 hc5
        go_wp2
        go_ret
        exact ⟨⟨a5, c5, rfl, HR5.out.map (by decide) (fun b _ hp => Nat.le_trans HSZ.out hp.1) (fun _ _ _ _ h => h) (fun _ _ h => h), HC5.out⟩, HU4.out.then hU.out⟩
end Go.Proofs.Ythmpaepdbjldfaa
