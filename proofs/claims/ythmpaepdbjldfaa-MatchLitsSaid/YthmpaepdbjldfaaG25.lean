/-
  Texts of this claim, merged: MaC, MaD, MaE, MaP. Lemmas and contracts; no conditions of our own.
-/
import Derived.Test.YthmpaepdbjldfaaG14
import Derived.Test.YthmpaepdbjldfaaG24
import Derived.Laws.Closers25b
import Derived.RangeFuncCalls

/-
  match.find, is, again, variable.
-/
namespace Go.Proofs.Ythmpaepdbjldfaa
set_option linter.unusedVariables false
set_option linter.unusedSimpArgs false
open Go.RowKit Go.Shelf

/-- The first place of what p says; -1: there is none. -/
def idxI {α : Type} (p : α → Bool) (xs : List α) : Int := match xs.findIdx? p with | some i => (i : Int) | none => -1
theorem idxI_at {α : Type} [Inhabited α] {p : α → Bool} {xs : List α} {j : Nat} (h : ∀ i, i < j → p (xs.getD i default) = false) (hj : j < xs.length) (e : p (xs.getD j default) = true) : idxI p xs = j := by
  have : xs.findIdx? p = some j := by
    rw [List.findIdx?_eq_some_iff_getElem]
    refine ⟨hj, ?_, fun i hi => ?_⟩
    · rwa [List.getD_eq_getElem?_getD, List.getElem?_eq_getElem hj] at e
    · have := h i hi
      rw [List.getD_eq_getElem?_getD, List.getElem?_eq_getElem (by omega)] at this
      simpa using this
  unfold idxI
  rw [this]
theorem idxI_none {α : Type} [Inhabited α] {p : α → Bool} {xs : List α} (h : ∀ i, i < xs.length → p (xs.getD i default) = false) : idxI p xs = -1 := by
  have : xs.findIdx? p = none := by
    rw [List.findIdx?_eq_none_iff]
    intro x hx
    obtain ⟨i, hi, rfl⟩ := List.getElem_of_mem hx
    have := h i hi
    rwa [List.getD_eq_getElem?_getD, List.getElem?_eq_getElem hi] at this
  unfold idxI
  rw [this]
theorem findF_idx (ls : List Lk) (s : ByteArray) : findF ls s = idxI (fun l => decide (l.name = s)) ls := rfl
theorem findF_bound (ls : List Lk) (s : ByteArray) : -1 ≤ findF ls s ∧ findF ls s < ls.length := by
  rw [findF_idx]
  unfold idxI
  split
  · rename_i i h
    rw [List.findIdx?_eq_some_iff_getElem] at h
    obtain ⟨h, _⟩ := h
    omega
  · omega
set_option maxRecDepth 100000 in
set_option maxHeartbeats 1500000 in
theorem find1_calls {w : World} {b : Nat} {nm s : ByteArray} (aA : Option Addr) (nA cA : Nat) (hc : w.cell? ⟨b, 0, none⟩ = some (.string s)) :
    Calls Try.prog 96 #[.agg #[.string nm, .slice aA nA cA], .pointer (some ⟨b, 0, none⟩)] w fun e w' => e = .returned (.bool (decide (nm = s))) ∧ Upd [] w w' := by
  have hlt : b < w.heap.size := World.block_lt_of_cell? w _ hc
  have hU := Lib.hid ((Upd.refl [] w).alloc (.cells #[.string nm, .slice aA nA cA] 71))
  go_enter Try.func96, Try.ntmps96
  go_wp2
  go_ret
  exact ⟨by rw [str_eq]; rfl, hU.out⟩
set_option maxRecDepth 100000 in
set_option maxHeartbeats 1500000 in
theorem indexLike_calls {w : World} {a : Option Addr} {ls : List Lk} {P : Nat → Prop} {s : ByteArray} {b0 : Nat} (m c : Nat) (hm : ls.length = m) (h : Likes w P a ls) (hb : m ≤ 1000000) (hc0 : w.cell? ⟨b0, 0, none⟩ = some (.string s)) :
    Calls Try.prog 95 #[.slice a m c, .func (.func 96) #[] #[.pointer (some ⟨b0, 0, none⟩)]] w fun e w' => e = .returned (.int .i64 (findF ls s)) ∧ Upd [] w w' := by
  have HR := Lib.hid h
  have HM := Lib.hid hm
  have HC0 := Lib.hid hc0
  clear h hm hc0
  go_enter Try.func95, Try.ntmps95
  go_wp2_with fail
  go_loopw [8] (fun i wr => ∃ j : Nat, j ≤ m ∧ i = .int .i64 j ∧ Hid (∀ i, i < j → decide ((ls.getD i default).name = s) = false) ∧ Hid (Upd [] w wr)) (fun i _ => m - (intOf i).toNat)
  case atStart => exact ⟨0, by omega, rfl, Lib.hid (fun i hi => by omega), Lib.hid (Upd.refl _ _)⟩
  case round =>
    obtain ⟨j, hj, rfl, hG, hU⟩ := hrel
    by_cases hlt : j < m
    · have hjd : j < ls.length := by rw [HM.out]; exact hlt
      obtain ⟨b, o, aA, cA, rfl, _, x0, x1, _⟩ := (HR.out.upd hU.out).at hjd
      have HC := Lib.hid (find1_calls (nm := (ls.getD j default).name) aA (ls.getD j default).all.length cA (hU.out.cell HC0.out (by simp)))
      have HG2 : Hid (decide ((ls.getD j default).name = s) = true → findF ls s = j) := Lib.hid (fun h => idxI_at hG.out hjd h)
      have HG1 : Hid (decide ((ls.getD j default).name = s) = false → ∀ i, i < j + 1 → decide ((ls.getD i default).name = s) = false) := Lib.hid (fun h i hi => by
        by_cases hij : i < j
        · exact hG.out i hij
        · rw [show i = j by omega]
          exact h)
      generalize (ls.getD j default).name = nm at *
      generalize (ls.getD j default).all.length = nA at *
      go_wp2_with fail
      refine HC.out.mono ?_
      rintro e w5 ⟨rfl, hu5⟩
      have HU5 := Lib.hid (hU.out.then hu5)
      clear HC hu5
      cases hr : decide (nm = s) with
      | true =>
        have HX := Lib.hid (HG2.out hr)
        clear hr HG1 HG2
        go_wp2
        go_ret
        exact ⟨by rw [HX.out]; rfl, HU5.out⟩
      | false =>
        have HX := Lib.hid (HG1.out hr)
        clear hr HG1 HG2
        go_wp2
        go_roundw
        case rel => exact ⟨j + 1, by omega, by go_num, HX, HU5⟩
        case measure => simp [intOf]; omega
    · have hjm : j = m := by omega
      subst hjm
      have HX : Hid (findF ls s = -1) := Lib.hid (idxI_none (fun i hi => hG.out i (by rw [← HM.out]; exact hi)))
      go_wp2
      go_ret
      exact ⟨by rw [HX.out]; rfl, hU.out⟩
set_option maxRecDepth 100000 in
set_option maxHeartbeats 1500000 in
theorem find_calls {w : World} {a : Option Addr} {ls : List Lk} {P : Nat → Prop} (s : ByteArray) (m c : Nat) (hm : ls.length = m) (h : Likes w P a ls) (hb : m ≤ 1000000) :
    Calls Try.prog 68 #[.slice a m c, .string s] w fun e w' => e = .returned (.int .i64 (findF ls s)) ∧ Upd [] w w' := by
  have hu : Upd [] w (w.alloc (.cells #[.string s] 9)) := (Upd.refl [] w).alloc _
  have HC := Lib.hid (indexLike_calls (s := s) m c hm (h.upd hu) hb ((Blk.new w [.string s] 9).cell_some (i := 0) rfl))
  have HU := Lib.hid hu
  clear h hm hu
  go_enter Try.func68, Try.ntmps68
  go_wp2_with fail
  refine HC.out.mono ?_
  rintro e w5 ⟨rfl, hu5⟩
  have HU5 := Lib.hid (HU.out.then hu5)
  clear HC hu5
  go_wp2
  go_ret
  exact ⟨rfl, HU5.out⟩
set_option maxRecDepth 100000 in
set_option maxHeartbeats 1500000 in
theorem is_callsM {P : Nat → Prop} {n : Nat} {d : Dat} {cs : List Value} {w : World} (s : ByteArray) (h : IsD w P n cs d) :
    Calls Try.prog 79 #[.agg cs.toArray, .string s] w fun e w' => e = .returned (.bool (isF d s)) ∧ Upd [] w w' := by
  obtain ⟨a1, c1, a2, c2, a3, c3, rfl⟩ := cells_agg h
  clear h
  unfold datCells isF
  have hU := Lib.hid ((Upd.refl [] w).alloc (.cells #[.int .i64 d.kind, .bool d.neg, .slice a1 d.limbs.length c1, .bool d.b, .string d.s, .slice a2 d.items.length c2, .slice a3 d.tail.length c3] 27))
  generalize d.kind = kd at *
  generalize d.neg = ng at *
  generalize d.limbs.length = nl at *
  generalize d.b = bb at *
  generalize d.s = ss at *
  generalize d.items.length = ni at *
  generalize d.tail.length = nt at *
  go_enter Try.func79, Try.ntmps79
  by_cases hk : kd = 3
  · subst hk
    go_wp2
    go_ret
    exact ⟨by rw [str_eq]; simp, hU.out⟩
  · have hk' : (kd == 3) = false := by simpa using hk
    go_wp2
    go_ret
    exact ⟨by simp [hk], hU.out⟩
set_option maxRecDepth 100000 in
set_option maxHeartbeats 1500000 in
theorem again_calls {P P' : Nat → Prop} {n : Nat} {d : Dat} {cs : List Value} {w : World} {a : Option Addr} {ls : List Lk} (m c : Nat) (hm : ls.length = m) (h : IsD w P n cs d) (hL : Likes w P' a ls) (hb : m ≤ 1000000) :
    Calls Try.prog 86 #[.agg cs.toArray, .slice a m c] w fun e w' => e = .returned (.bool (againF ls d)) ∧ Upd [] w w' := by
  have hI := Lib.hid (fun (W : World) (hu : Upd [] w W) => is_callsM dotsB (h.upd hu))
  have hF := Lib.hid (fun (W : World) (hu : Upd [] w W) => find_calls dotsB m c hm (hL.upd hu) hb)
  obtain ⟨k1, n1, a1, l1, p1, b1, s1, i1, m1, d1, t1, o1, q1, rfl⟩ := h.shaped
  have hB := Lib.hid (Blk.new w [.int .i64 k1, .bool n1, .slice a1 l1 p1, .bool b1, .string s1, .slice i1 m1 d1, .slice t1 o1 q1] 27)
  have hU := Lib.hid ((Upd.refl [] w).alloc (.cells #[.int .i64 k1, .bool n1, .slice a1 l1 p1, .bool b1, .string s1, .slice i1 m1 d1, .slice t1 o1 q1] 27))
  have hfb := findF_bound ls dotsB
  unfold datCells againF dotsB at *
  clear h hL hm
  generalize isF d ⟨#[46, 46, 46]⟩ = r at *
  generalize findF ls ⟨#[46, 46, 46]⟩ = k at *
  go_enter Try.func86, Try.ntmps86
  go_wp2_with fail
  refine (hI.out _ hU.out).mono ?_
  rintro e w2 ⟨rfl, hu2⟩
  have HU2 := Lib.hid (hU.out.then hu2)
  clear hu2 hI hU hB
  cases r with
  | false =>
    go_wp2
    go_ret
    exact ⟨rfl, HU2.out⟩
  | true =>
    go_wp2_with fail
    refine (hF.out _ HU2.out).mono ?_
    rintro e w3 ⟨rfl, hu3⟩
    have HU3 := Lib.hid (HU2.out.then hu3)
    clear hu3 hF
    go_wp2
    go_ret
    exact ⟨by simp, HU3.out⟩
theorem dots_list : (⟨#[46, 46, 46]⟩ : ByteArray).toList = [46, 46, 46] := by rw [ByteArray.toList_eq]
theorem any_list : (⟨#[95]⟩ : ByteArray).toList = [95] := by rw [ByteArray.toList_eq]
set_option maxRecDepth 100000 in
set_option maxHeartbeats 1500000 in
theorem variable_calls {P P' : Nat → Prop} {n : Nat} {d : Dat} {cs : List Value} {w : World} {a : Option Addr} {ls : List Lk} (m c : Nat) (hm : ls.length = m) (h : IsD w P n cs d) (hL : Likes w P' a ls) (hb : m ≤ 1000000) :
    Calls Try.prog 85 #[.agg cs.toArray, .slice a m c] w fun e w' => e = .returned (.bool (varF ls d)) ∧ Upd [] w w' := by
  obtain ⟨a1, c1, a2, c2, a3, c3, rfl⟩ := cells_agg h
  have hF := Lib.hid (fun (W : World) (hu : Upd [] w W) => find_calls d.s m c hm (hL.upd hu) hb)
  have hB := Lib.hid (Blk.new w [.int .i64 d.kind, .bool d.neg, .slice a1 d.limbs.length c1, .bool d.b, .string d.s, .slice a2 d.items.length c2, .slice a3 d.tail.length c3] 27)
  have hU := Lib.hid ((Upd.refl [] w).alloc (.cells #[.int .i64 d.kind, .bool d.neg, .slice a1 d.limbs.length c1, .bool d.b, .string d.s, .slice a2 d.items.length c2, .slice a3 d.tail.length c3] 27))
  unfold datCells varF dotsB anyB at *
  clear h hL hm
  generalize findF ls d.s = k at *
  generalize d.kind = kd at *
  generalize d.neg = ng at *
  generalize d.limbs.length = nl at *
  generalize d.b = bb at *
  generalize d.s = ss at *
  generalize d.items.length = ni at *
  generalize d.tail.length = nt at *
  go_enter Try.func85, Try.ntmps85
  by_cases h3 : kd = 3
  · subst h3
    by_cases hd : ss = ⟨#[46, 46, 46]⟩
    · have hd' : ss.toList = [46, 46, 46] := by rw [hd, dots_list]
      have HD := Lib.hid hd
      clear hd
      go_wp2
      go_ret
      exact ⟨by simp [HD.out], hU.out⟩
    · have hd' : ¬ ss.toList = [46, 46, 46] := fun e => hd (str_inj (e.trans dots_list.symm))
      have HD := Lib.hid hd
      clear hd
      by_cases ha : ss = ⟨#[95]⟩
      · have ha' : ss.toList = [95] := by rw [ha, any_list]
        have HA := Lib.hid ha
        clear ha
        go_wp2
        go_ret
        exact ⟨by simp [HA.out], hU.out⟩
      · have ha' : ¬ ss.toList = [95] := fun e => ha (str_inj (e.trans any_list.symm))
        have HA := Lib.hid ha
        clear ha
        go_wp2_with fail
        refine (hF.out _ hU.out).mono ?_
        rintro e w3 ⟨rfl, hu3⟩
        have HU3 := Lib.hid (hU.out.then hu3)
        clear hu3 hF
        go_wp2
        go_ret
        exact ⟨by simp [HA.out, HD.out, hd', ha'], HU3.out⟩
  · have h3' : (kd == 3) = false := by simpa using h3
    go_wp2
    go_ret
    exact ⟨by simp [h3], hU.out⟩
end Go.Proofs.Ythmpaepdbjldfaa

/-
  match.places.
-/
namespace Go.Proofs.Ythmpaepdbjldfaa
set_option linter.unusedVariables false
set_option linter.unusedSimpArgs false
open Go.RowKit Go.Shelf

theorem range_flat {β : Type} (f : Nat → List β) (j : Nat) : (List.range (j + 1)).flatMap f = (List.range j).flatMap f ++ f j := by
  rw [List.range_succ, List.flatMap_append]
  simp
theorem range_flat_len {β : Type} (g : Dat → Nat) (f : Nat → List β) (l : List Dat) (h : ∀ i, i < l.length → (f i).length ≤ g (l.getD i default)) : ∀ j, j ≤ l.length → ((List.range j).flatMap f).length ≤ szL g (l.take j)
  | 0, _ => by simp
  | j + 1, hj => by
    rw [range_flat, List.length_append, take_next (by omega), szL_append]
    have h1 := range_flat_len g f l h j (by omega)
    have h2 := h j (by omega)
    simp only [szL]
    omega
theorem flat_len {β : Type} (g : Dat → Nat) (f : Dat → List β) : ∀ (l : List Dat) (_ : ∀ x ∈ l, (f x).length ≤ g x), (l.flatMap f).length ≤ szL g l
  | [], _ => by simp
  | x :: l, h => by
    rw [List.flatMap_cons, List.length_append, szL]
    have h1 := h x (by simp)
    have h2 := flat_len g f l (fun y hy => h y (by simp [hy]))
    omega
theorem placesN_len (ls : List Lk) : ∀ (n : Nat) (d : Dat) (k : Int), (placesN ls n d k).length ≤ szN n d
  | 0, _, _ => by simp [placesN]
  | n + 1, d, k => by
    unfold placesN szN
    split
    · simp
      omega
    · rw [List.length_append]
      have h1 := range_flat_len (szN n) (fun i => placesN ls n (d.items.getD i default) (deepAt ls d.items k i)) d.items (fun i _ => placesN_len ls n _ _) d.items.length (Nat.le_refl _)
      have h2 := flat_len (szN n) (fun x => placesN ls n x k) d.tail (fun x _ => placesN_len ls n _ _)
      rw [List.take_length] at h1
      omega
theorem deepAt_le (ls : List Lk) (l : List Dat) (k : Int) (i : Nat) : k ≤ deepAt ls l k i ∧ deepAt ls l k i ≤ k + 1 := by
  unfold deepAt
  split <;> omega
/-- Behind an append of some things whose blocks matter not. -/
theorem OwnK.then {α : Type} [Inhabited α] {base : Nat} {w w' : World} {T : TypeId} {k : Nat} {R : List Value → α → Prop} {v : Value} {xs : List α} (h : OwnK base w T k R v xs) (hu : Upd [] w w') : OwnK base w' T k R v xs := h.upd hu (by simp) (fun _ _ h => h)
def PlacesSaid (ls : List Lk) (n : Nat) : Prop := ∀ (d : Dat) (cs : List Value) (w : World) (a : Option Addr) (P P' : Nat → Prop) (deep : Int) (m c : Nat), IsD w P n cs d → Likes w P' a ls → ls.length = m → m ≤ 1000000 → szN n d ≤ 100000 → 0 ≤ deep → deep + (szN n d : Int) ≤ 1000000 →
    Calls Try.prog 56 #[.agg cs.toArray, .int .i64 deep, .slice a m c] w fun e w' => (∃ a' c', e = .returned (.slice a' (placesN ls n d deep).length c') ∧ RowK w' (fun b => w.heap.size ≤ b) 2 IsP a' (placesN ls n d deep) ∧ (placesN ls n d deep).length ≤ c') ∧ Upd [] w w'
set_option maxRecDepth 100000 in
set_option maxHeartbeats 1500000 in
theorem places_step (ls : List Lk) (n : Nat) (ih : PlacesSaid ls n) : PlacesSaid ls (n + 1) := by
  intro d cs w a P P' deep m c h hL hm hmb hs h0 hdp
  have IH := Lib.hid ih
  have hV := Lib.hid (fun (W : World) (hu : Upd [] w W) => variable_calls m c hm (h.upd hu) (hL.upd hu) hmb)
  have hpl := placesN_len ls (n + 1) d deep
  obtain ⟨PL, hPL⟩ : ∃ PL, PL = placesN ls (n + 1) d deep := ⟨_, rfl⟩
  have hPU := hPL
  unfold placesN at hPU
  rw [← hPL] at hpl ⊢
  have HPL := Lib.hid hPU
  obtain ⟨aL, cL, aI, cI, aT, cT, rfl, l1, r1, r2, hcap, hbd⟩ := h
  have hszN : szN (n + 1) d = 1 + szL (szN n) d.items + szL (szN n) d.tail := rfl
  rw [hszN] at hs hdp hpl
  have HS := Lib.hid (And.intro hs (And.intro hdp hpl))
  have HR1 := Lib.hid r1
  have HR2 := Lib.hid r2
  have HL := Lib.hid hL
  have HM := Lib.hid (And.intro hm hmb)
  have hi1 : d.items.length ≤ 100000 := by have := len_le_szL (szN_pos n) d.items; omega
  have ht1 : d.tail.length ≤ 100000 := by have := len_le_szL (szN_pos n) d.tail; omega
  have hBX := Lib.hid (Blk.new w [.int .i64 d.kind, .bool d.neg, .slice aL d.limbs.length cL, .bool d.b, .string d.s, .slice aI d.items.length cI, .slice aT d.tail.length cT] 27)
  have hU := Lib.hid ((Upd.refl [] w).alloc (.cells #[.int .i64 d.kind, .bool d.neg, .slice aL d.limbs.length cL, .bool d.b, .string d.s, .slice aI d.items.length cI, .slice aT d.tail.length cT] 27))
  clear hPL hPU l1 r1 r2 hcap hbd hszN hs hdp hpl hL ih hm hmb
  unfold datCells at *
  go_enter Try.func56, Try.ntmps56
  go_wp2_with fail
  refine (hV.out _ hU.out).mono ?_
  rintro e w2 ⟨rfl, hu2⟩
  have hx2 := hu2.blk hBX.out (by simp)
  obtain ⟨x0, x1, x2, x3, x4, x5, x6⟩ := Blk.seven hx2
  have hlt := hx2.lt
  have HX2 := Lib.hid hx2
  have HU2 := Lib.hid (hU.out.then hu2)
  clear hV hx2 hu2 hU hBX
  cases hr : varF ls d with
  | true =>
    have HP : Hid (PL = [(d.s, deep)]) := Lib.hid (by have := HPL.out; rwa [if_pos hr] at this)
    clear HPL
    have hrow : RowK (w2.alloc (.cells #[.string d.s, .int .i64 deep] 99)) (fun b => w.heap.size ≤ b) 2 IsP (some ⟨w2.heap.size, 0, none⟩) [(d.s, deep)] :=
      RowK.one (Blk.new w2 [.string d.s, .int .i64 deep] 99) (by have := HU2.out.size; exact this) rfl rfl
    have HROW := Lib.hid hrow
    have HU9 := Lib.hid (HU2.out.alloc (.cells #[.string d.s, .int .i64 deep] 99))
    clear hrow
    go_wp2
    go_ret
    exact ⟨⟨some ⟨w2.heap.size, 0, none⟩, 1, by rw [HP.out]; rfl, by rw [HP.out]; exact HROW.out, by rw [HP.out]; exact Nat.le_refl _⟩, HU9.out⟩
  | false =>
    obtain ⟨F, hF⟩ : ∃ F : Nat → List (ByteArray × Int), F = fun i => placesN ls n (d.items.getD i default) (deepAt ls d.items deep i) := ⟨_, rfl⟩
    obtain ⟨G, hG⟩ : ∃ G : Dat → List (ByteArray × Int), G = fun x => placesN ls n x deep := ⟨_, rfl⟩
    have HP : Hid (PL = (List.range d.items.length).flatMap F ++ d.tail.flatMap G) := Lib.hid (by rw [hF, hG]; have := HPL.out; rwa [if_neg (by rw [hr]; simp)] at this)
    have HF := Lib.hid (fun i => congrFun hF i)
    have HG := Lib.hid (fun x => congrFun hG x)
    have HLF := Lib.hid (fun j (hj : j ≤ d.items.length) => range_flat_len (szN n) F d.items (fun i _ => by rw [hF]; exact placesN_len ls n _ _) j hj)
    have HLG := Lib.hid (fun j => flat_len (szN n) G (d.tail.take j) (fun x _ => by rw [hG]; exact placesN_len ls n _ _))
    have hTK : ∀ (l : List Dat) (j : Nat), szL (szN n) (l.take j) ≤ szL (szN n) l := fun l j => by
      have := szL_append (szN n) (l.take j) (l.drop j)
      rw [List.take_append_drop] at this
      omega
    have HTK := Lib.hid hTK
    have hCI : ∀ j, j < d.items.length → ∀ (cs : List Value) (W : World), Upd [] w W → IsD w P n cs (d.items.getD j default) → Calls Try.prog 56 #[.agg cs.toArray, .int .i64 (deepAt ls d.items deep j), .slice a m c] W fun e w' => (∃ a' c', e = .returned (.slice a' (F j).length c') ∧ RowK w' (fun b => W.heap.size ≤ b) 2 IsP a' (F j) ∧ (F j).length ≤ c') ∧ Upd [] W w' := by
      intro j hj cs W hu hd
      have h1 := szL_get (szN n) hj
      have h2 := deepAt_le ls d.items deep j
      have h3 := HS.out
      rw [hF]
      exact IH.out _ cs W a P P' _ m c (hd.upd hu) (HL.out.upd hu) HM.out.1 HM.out.2 (by omega) (by omega) (by omega)
    have hCT : ∀ j, j < d.tail.length → ∀ (cs : List Value) (W : World), Upd [] w W → IsD w P n cs (d.tail.getD j default) → Calls Try.prog 56 #[.agg cs.toArray, .int .i64 deep, .slice a m c] W fun e w' => (∃ a' c', e = .returned (.slice a' (G (d.tail.getD j default)).length c') ∧ RowK w' (fun b => W.heap.size ≤ b) 2 IsP a' (G (d.tail.getD j default)) ∧ (G (d.tail.getD j default)).length ≤ c') ∧ Upd [] W w' := by
      intro j hj cs W hu hd
      have h1 := szL_get (szN n) hj
      have h3 := HS.out
      rw [hG]
      exact IH.out _ cs W a P P' _ m c (hd.upd hu) (HL.out.upd hu) HM.out.1 HM.out.2 (by omega) (by omega) (by omega)
    have hAG : ∀ (W : World) (x : Dat) (cs : List Value), Upd [] w W → IsD w P n cs x → Calls Try.prog 86 #[.agg cs.toArray, .slice a m c] W fun e w' => e = .returned (.bool (againF ls x)) ∧ Upd [] W w' := fun W x cs hu hd => again_calls m c HM.out.1 (hd.upd hu) (HL.out.upd hu) HM.out.2
    have hDA : ∀ j, deepAt ls d.items deep j = if j + 1 < d.items.length ∧ againF ls (d.items.getD (j + 1) default) = true then deep + 1 else deep := fun j => rfl
    have HCI := Lib.hid hCI
    have HCT := Lib.hid hCT
    have HAG := Lib.hid hAG
    have HDA := Lib.hid hDA
    have hdb : deep ≤ 1000000 := by have := HS.out; omega
    have HS1 : Hid (szL (szN n) d.items ≤ 100000) := Lib.hid (by have := HS.out; omega)
    have HS2 : Hid (szL (szN n) d.items + szL (szN n) d.tail ≤ 100000) := Lib.hid (by have := HS.out; omega)
    clear HPL hF hG hTK hCI hCT hAG hDA IH HL HM HS hr
    go_wp2_with fail
    go_loopw [7, 24] (fun lv i wr => ∃ j : Nat, j ≤ d.items.length ∧ i = .int .i64 j ∧ Hid (OwnK w2.heap.size wr 99 2 IsP lv ((List.range j).flatMap F)) ∧ Hid (Upd [] w2 wr)) (fun _ i _ => d.items.length - (intOf i).toNat)
    case atStart => exact ⟨0, by omega, rfl, OwnK.nil _ _ _ _ _, Upd.refl _ _⟩
    case round =>
      obtain ⟨j, hj, rfl, hO, hU⟩ := hrel
      by_cases hlt1 : j < d.items.length
      · obtain ⟨b, o, cs, rfl, _, hat, hd0⟩ := HR1.out j hlt1
        have HCJ := Lib.hid (fun (W : World) (hu : Upd [] w W) => HCI.out j hlt1 cs W hu hd0)
        obtain ⟨k1, n1, a1, l1, p1, b1, s1, i1, m1, d1, t1, o1, q1, rfl⟩ := hd0.shaped
        obtain ⟨y0, y1, y2, y3, y4, y5, y6⟩ := ((hat.upd HU2.out (by simp)).upd hU.out (by simp)).cells
        have hxr := hU.out.blk HX2.out (by simp)
        obtain ⟨z0, z1, z2, z3, z4, z5, z6⟩ := Blk.seven hxr
        have hltr := hxr.lt
        have HXR := Lib.hid hxr
        have hbl : b < wr.heap.size := ((hat.upd HU2.out (by simp)).upd hU.out (by simp)).lt
        clear hat hd0 hxr
        have HLE : Hid (((List.range j).flatMap F).length + (F j).length ≤ 100000000) := Lib.hid (by
          have h1 := HLF.out (j + 1) (by omega)
          have h2 := HTK.out d.items (j + 1)
          have h4 := HS1.out
          rw [range_flat, List.length_append] at h1
          omega)
        have hw1 : IntKind.i64.wrap ((d.items.length : Int) - 1) = (d.items.length : Int) - 1 := IntWalk.i64_in _ (by omega)
        have hw2 : IntKind.i64.wrap ((j : Int) + 1) = ((j + 1 : Nat) : Int) := by rw [IntWalk.i64_in _ (by omega)]; rfl
        by_cases hj1 : j + 1 < d.items.length
        · have hj1' : (j : Int) < (d.items.length : Int) - 1 := by omega
          obtain ⟨b', o', cs', eb, _, hat', hd1⟩ := HR1.out (j + 1) hj1
          injection eb with eb
          injection eb with eb1 eb2
          subst eb1
          subst eb2
          have HA := Lib.hid (fun (W : World) (hu : Upd [] w W) => HAG.out W _ cs' hu hd1)
          obtain ⟨k2, n2, a2, l2, p2, b2, s2, i2, m2, d2, t2, o2, q2, rfl⟩ := hd1.shaped
          obtain ⟨v0, v1, v2, v3, v4, v5, v6⟩ := ((hat'.upd HU2.out (by simp)).upd hU.out (by simp)).cells
          clear hat' hd1
          unfold datCells at *
          have HUA := Lib.hid (hU.out.alloc (.cells #[.int .i64 k1, .bool n1, .slice a1 l1 p1, .bool b1, .string s1, .slice i1 m1 d1, .slice t1 o1 q1] 27))
          have HWA := Lib.hid ((Upd.refl [] wr).alloc (.cells #[.int .i64 k1, .bool n1, .slice a1 l1 p1, .bool b1, .string s1, .slice i1 m1 d1, .slice t1 o1 q1] 27))
          have HYA := Lib.hid (Blk.new wr [.int .i64 k1, .bool n1, .slice a1 l1 p1, .bool b1, .string s1, .slice i1 m1 d1, .slice t1 o1 q1] 27)
          go_wp2_with fail
          refine (HA.out _ (HU2.out.then HUA.out)).mono ?_
          rintro e w5 ⟨rfl, hu5⟩
          obtain ⟨y0, y1, y2, y3, y4, y5, y6⟩ := Blk.seven (hu5.blk HYA.out (by simp))
          have HUc := Lib.hid (HUA.out.then hu5)
          have HWc := Lib.hid (HWA.out.then hu5)
          clear HA hu5 v0 v1 v2 v3 v4 v5 v6 z0 z1 z2 z3 z4 z5 z6 HUA HWA HYA
          cases hr2 : againF ls (d.items.getD (j + 1) default) with
          | true =>
            have hk : deepAt ls d.items deep j = deep + 1 := by rw [HDA.out, if_pos ⟨hj1, hr2⟩]
            rw [hk] at HCJ
            have hw3 : IntKind.i64.wrap (deep + 1) = deep + 1 := IntWalk.i64_in _ (by omega)
            clear hr2 hk
            go_wp2_with fail
            refine (HCJ.out _ (HU2.out.then HUc.out)).mono ?_
            rintro e w6 ⟨⟨a6, c6, rfl, hR6, hc6⟩, hu6⟩
            have HU6 := Lib.hid (HUc.out.then hu6)
            have HO6 := Lib.hid (hO.out.then (HWc.out.then hu6))
            have HR6 := Lib.hid hR6
            have HB6 : Hid (w2.heap.size ≤ w6.heap.size) := Lib.hid HU6.out.size
            clear hR6 hc6 hu6
            go_wp2_with (at_builtin; refine wpList_appk rfl _ _ 96 rfl w2.heap.size 99 _ 2 24 Try.underlying96 info_place rfl (by decide) (v := u7) (xs := (List.range j).flatMap F) (ys := F j) rfl HO6.out rfl rfl HR6.out (fun _ _ h => h.one) (by have := HLE.out; omega) (by decide) HB6.out ?_; rintro q9 a9 c9 w9 - hO9 hu9 hb9)
            have HO9 := Lib.hid hO9
            have HU9 := Lib.hid (HU6.out.onto hu9 (fun k hk => (HO6.out.lt (by simpa using hk)).1))
            clear hO9 hu9 hb9
            go_wp2
            go_roundw
            case rel => exact ⟨j + 1, by omega, by go_num, Lib.hid (by rw [range_flat]; exact HO9.out), HU9⟩
            case measure => simp [intOf]; omega
          | false =>
            have hk : deepAt ls d.items deep j = deep := by rw [HDA.out, if_neg (by rw [hr2]; simp)]
            rw [hk] at HCJ
            clear hr2 hk
            go_wp2_with fail
            refine (HCJ.out _ (HU2.out.then HUc.out)).mono ?_
            rintro e w6 ⟨⟨a6, c6, rfl, hR6, hc6⟩, hu6⟩
            have HU6 := Lib.hid (HUc.out.then hu6)
            have HO6 := Lib.hid (hO.out.then (HWc.out.then hu6))
            have HR6 := Lib.hid hR6
            have HB6 : Hid (w2.heap.size ≤ w6.heap.size) := Lib.hid HU6.out.size
            clear hR6 hc6 hu6
            go_wp2_with (at_builtin; refine wpList_appk rfl _ _ 96 rfl w2.heap.size 99 _ 2 24 Try.underlying96 info_place rfl (by decide) (v := u7) (xs := (List.range j).flatMap F) (ys := F j) rfl HO6.out rfl rfl HR6.out (fun _ _ h => h.one) (by have := HLE.out; omega) (by decide) HB6.out ?_; rintro q9 a9 c9 w9 - hO9 hu9 hb9)
            have HO9 := Lib.hid hO9
            have HU9 := Lib.hid (HU6.out.onto hu9 (fun k hk => (HO6.out.lt (by simpa using hk)).1))
            clear hO9 hu9 hb9
            go_wp2
            go_roundw
            case rel => exact ⟨j + 1, by omega, by go_num, Lib.hid (by rw [range_flat]; exact HO9.out), HU9⟩
            case measure => simp [intOf]; omega
        · have hj1' : ¬ (j : Int) < (d.items.length : Int) - 1 := by omega
          have hk : deepAt ls d.items deep j = deep := by rw [HDA.out, if_neg (by omega)]
          rw [hk] at HCJ
          unfold datCells at *
          have HUc := Lib.hid (hU.out.alloc (.cells #[.int .i64 k1, .bool n1, .slice a1 l1 p1, .bool b1, .string s1, .slice i1 m1 d1, .slice t1 o1 q1] 27))
          have HWc := Lib.hid ((Upd.refl [] wr).alloc (.cells #[.int .i64 k1, .bool n1, .slice a1 l1 p1, .bool b1, .string s1, .slice i1 m1 d1, .slice t1 o1 q1] 27))
          clear hk
          go_wp2_with fail
          refine (HCJ.out _ (HU2.out.then HUc.out)).mono ?_
          rintro e w6 ⟨⟨a6, c6, rfl, hR6, hc6⟩, hu6⟩
          have HU6 := Lib.hid (HUc.out.then hu6)
          have HO6 := Lib.hid (hO.out.then (HWc.out.then hu6))
          have HR6 := Lib.hid hR6
          have HB6 : Hid (w2.heap.size ≤ w6.heap.size) := Lib.hid HU6.out.size
          clear hR6 hc6 hu6
          go_wp2_with (at_builtin; refine wpList_appk rfl _ _ 96 rfl w2.heap.size 99 _ 2 24 Try.underlying96 info_place rfl (by decide) (v := u7) (xs := (List.range j).flatMap F) (ys := F j) rfl HO6.out rfl rfl HR6.out (fun _ _ h => h.one) (by have := HLE.out; omega) (by decide) HB6.out ?_; rintro q9 a9 c9 w9 - hO9 hu9 hb9)
          have HO9 := Lib.hid hO9
          have HU9 := Lib.hid (HU6.out.onto hu9 (fun k hk => (HO6.out.lt (by simpa using hk)).1))
          clear hO9 hu9 hb9
          go_wp2
          go_roundw
          case rel => exact ⟨j + 1, by omega, by go_num, Lib.hid (by rw [range_flat]; exact HO9.out), HU9⟩
          case measure => simp [intOf]; omega
      · have hjm : j = d.items.length := by omega
        subst hjm
        have hxr := hU.out.blk HX2.out (by simp)
        obtain ⟨z0, z1, z2, z3, z4, z5, z6⟩ := Blk.seven hxr
        have hltr := hxr.lt
        clear hxr HCI HAG HDA HR1
        obtain ⟨XS, hXS⟩ : ∃ XS, XS = (List.range d.items.length).flatMap F := ⟨_, rfl⟩
        rw [← hXS] at hO HP
        have HXL : Hid (XS.length ≤ szL (szN n) d.items) := Lib.hid (by rw [hXS]; have := HLF.out _ (Nat.le_refl _); rwa [List.take_length] at this)
        have HUW := Lib.hid hU.out.size
        clear hXS HLF
        go_wp2_with fail
        go_loopw [7, 58] (fun lv i ws => ∃ j : Nat, j ≤ d.tail.length ∧ i = .int .i64 j ∧ Hid (OwnK w2.heap.size ws 99 2 IsP lv (XS ++ (d.tail.take j).flatMap G)) ∧ Hid (Upd [] w2 ws)) (fun _ i _ => d.tail.length - (intOf i).toNat)
        case atStart => exact ⟨0, by omega, rfl, Lib.hid (by simpa using hO.out), hU⟩
        case round =>
          clear hO hU hltr z0 z1 z2 z3 z4 z5 z6
          obtain ⟨j, hj, rfl, hO, hU⟩ := hrel
          by_cases hlt1 : j < d.tail.length
          · obtain ⟨b, o, cs, rfl, _, hat, hd0⟩ := HR2.out j hlt1
            have HCJ := Lib.hid (fun (W : World) (hu : Upd [] w W) => HCT.out j hlt1 cs W hu hd0)
            obtain ⟨k1, n1, a1, l1, p1, b1, s1, i1, m1, d1, t1, o1, q1, rfl⟩ := hd0.shaped
            obtain ⟨y0, y1, y2, y3, y4, y5, y6⟩ := ((hat.upd HU2.out (by simp)).upd hU.out (by simp)).cells
            have hbl : b < wr.heap.size := ((hat.upd HU2.out (by simp)).upd hU.out (by simp)).lt
            clear hat hd0
            unfold datCells at *
            have HUc := Lib.hid (hU.out.alloc (.cells #[.int .i64 k1, .bool n1, .slice a1 l1 p1, .bool b1, .string s1, .slice i1 m1 d1, .slice t1 o1 q1] 27))
            have HWc := Lib.hid ((Upd.refl [] wr).alloc (.cells #[.int .i64 k1, .bool n1, .slice a1 l1 p1, .bool b1, .string s1, .slice i1 m1 d1, .slice t1 o1 q1] 27))
            have hgt : (d.tail.take (j + 1)).flatMap G = (d.tail.take j).flatMap G ++ G (d.tail.getD j default) := by rw [take_next hlt1, List.flatMap_append]; simp
            have HGT := Lib.hid hgt
            have HLE : Hid ((XS ++ (d.tail.take j).flatMap G).length + (G (d.tail.getD j default)).length ≤ 100000000) := Lib.hid (by
              have h1 := HLG.out (j + 1)
              have h2 := HTK.out d.tail (j + 1)
              have h3 := HXL.out
              have h4 := HS2.out
              rw [hgt, List.length_append] at h1
              rw [List.length_append]
              omega)
            clear hgt
            obtain ⟨xj, hxj⟩ : ∃ xj, xj = d.tail.getD j default := ⟨_, rfl⟩
            rw [← hxj] at HCJ HGT HLE
            clear hxj
            go_wp2_with fail
            refine (HCJ.out _ (HU2.out.then HUc.out)).mono ?_
            rintro e w6 ⟨⟨a6, c6, rfl, hR6, hc6⟩, hu6⟩
            have HU6 := Lib.hid (HUc.out.then hu6)
            have HO6 := Lib.hid (hO.out.then (HWc.out.then hu6))
            have HR6 := Lib.hid hR6
            have HB6 : Hid (w2.heap.size ≤ w6.heap.size) := Lib.hid HU6.out.size
            clear hR6 hc6 hu6
            go_wp2_with (at_builtin; go_loud (refine wpList_appk rfl _ _ 96 rfl w2.heap.size 99 _ 2 24 Try.underlying96 info_place rfl (by decide) (v := u7) (xs := XS ++ (d.tail.take j).flatMap G) (ys := G xj) rfl HO6.out rfl rfl HR6.out (fun _ _ h => h.one) (by have := HLE.out; omega) (by decide) HB6.out ?_; rintro q9 a9 c9 w9 - hO9 hu9 hb9))
            have HO9 := Lib.hid hO9
            have HU9 := Lib.hid (HU6.out.onto hu9 (fun k hk => (HO6.out.lt (by simpa using hk)).1))
            clear hO9 hu9 hb9
            go_wp2
            go_roundw
            case rel => exact ⟨j + 1, by omega, by go_num, Lib.hid (by rw [HGT.out, ← List.append_assoc]; exact HO9.out), HU9⟩
            case measure => simp [intOf]; omega
          · have hjm : j = d.tail.length := by omega
            subst hjm
            have hO1 := hO.out
            rw [List.take_length, ← HP.out] at hO1
            obtain ⟨a8, c8, rfl, hR8, hc8⟩ := hO1.row
            have HR8 := Lib.hid hR8
            clear hR8 hO hO1
            go_wp2
            go_ret
            exact ⟨⟨a8, c8, rfl, HR8.out.map (by decide) (fun b _ hp => Nat.le_trans HU2.out.size hp.1) (fun _ _ _ _ h => h) (fun _ _ h => h), hc8⟩, HU2.out.then hU.out⟩
theorem places_calls (ls : List Lk) : ∀ n, PlacesSaid ls n
  | 0 => fun _ _ _ _ _ _ _ _ _ h => h.elim
  | n + 1 => places_step ls n (places_calls ls n)
end Go.Proofs.Ythmpaepdbjldfaa

/-
  slices.IndexFunc and ContainsFunc of data with what a closure has; match.wrong.
-/
namespace Go.Proofs.Ythmpaepdbjldfaa
set_option linter.unusedVariables false
set_option linter.unusedSimpArgs false
open Go.RowKit Go.Shelf

set_option maxRecDepth 100000 in
set_option maxHeartbeats 1500000 in
theorem indexDatC {w : World} {n : Nat} {a : Option Addr} {xs : List Dat} {P : Nat → Prop} (f : FuncId) (cap : Value) (hen : ∀ args w, (callFunc f args).run Try.prog w = .ok (.enter f args) w) (p : Dat → Bool) (m c : Nat) (hm : xs.length = m) (h : RowOf w P (IsD w P n) a xs) (hb : m ≤ 100000)
    (hP : ∀ j cs W, j < xs.length → Upd [] w W → IsD W P n cs (xs.getD j default) → Calls Try.prog f #[.agg cs.toArray, cap] W fun e w' => e = .returned (.bool (p (xs.getD j default))) ∧ Upd [] W w') :
    Calls Try.prog 97 #[.slice a m c, .func (.func f) #[] #[cap]] w fun e w' => e = .returned (.int .i64 (idxI p xs)) ∧ Upd [] w w' := by
  have HP := Lib.hid hP
  have HR := Lib.hid h
  have HM := Lib.hid hm
  clear hP h hm
  go_enter Try.func97, Try.ntmps97
  go_wp2_with fail
  go_loopw [8] (fun i wr => ∃ j : Nat, j ≤ m ∧ i = .int .i64 j ∧ Hid (∀ i, i < j → p (xs.getD i default) = false) ∧ Hid (Upd [] w wr)) (fun i _ => m - (intOf i).toNat)
  case atStart => exact ⟨0, by omega, rfl, Lib.hid (fun i hi => by omega), Lib.hid (Upd.refl _ _)⟩
  case round =>
    obtain ⟨j, hj, rfl, hG, hU⟩ := hrel
    by_cases hlt : j < m
    · have hjd : j < xs.length := by rw [HM.out]; exact hlt
      obtain ⟨b, o, cs, rfl, _, hat, hd0⟩ := HR.out j hjd
      obtain ⟨k1, n1, a1, l1, p1, b1, s1, i1, m1, d1, t1, o1, q1, rfl⟩ := hd0.shaped
      obtain ⟨x0, x1, x2, x3, x4, x5, x6⟩ := (hat.upd hU.out (by simp)).cells
      have HC := Lib.hid (HP.out j _ wr hjd hU.out (hd0.upd hU.out))
      have HG2 : Hid (p (xs.getD j default) = true → idxI p xs = j) := Lib.hid (fun h => idxI_at hG.out hjd h)
      have HG1 : Hid (p (xs.getD j default) = false → ∀ i, i < j + 1 → p (xs.getD i default) = false) := Lib.hid (fun h i hi => by
        by_cases hij : i < j
        · exact hG.out i hij
        · rw [show i = j by omega]
          exact h)
      clear hat hd0
      generalize xs.getD j default = x at *
      unfold datCells at HC
      go_wp2_with fail
      refine HC.out.mono ?_
      rintro e w5 ⟨rfl, hu5⟩
      have HU5 := Lib.hid (hU.out.then hu5)
      clear HC hu5
      cases hr : p x with
      | true =>
        have HX := Lib.hid (HG2.out hr)
        clear hr HG1 HG2
        go_wp2
        go_ret
        exact ⟨by rw [HX.out]; rfl, HU5.out⟩
      | false =>
        have HX := Lib.hid (HG1.out hr)
        clear hr HG1 HG2
        go_wp2
        go_roundw
        case rel => exact ⟨j + 1, by omega, by go_num, HX, HU5⟩
        case measure => simp [intOf]; omega
    · have hjm : j = m := by omega
      subst hjm
      have HX : Hid (idxI p xs = -1) := Lib.hid (idxI_none (fun i hi => hG.out i (by rw [← HM.out]; exact hi)))
      go_wp2
      go_ret
      exact ⟨by rw [HX.out]; rfl, hU.out⟩
theorem idxI_any {α : Type} (p : α → Bool) (xs : List α) : decide (0 ≤ idxI p xs) = xs.any p := by
  unfold idxI
  split
  · rename_i i h
    rw [List.findIdx?_eq_some_iff_getElem] at h
    obtain ⟨hi, h, _⟩ := h
    rw [List.any_eq_true.2 ⟨_, List.getElem_mem hi, h⟩]
    simp
  · rename_i h
    rw [List.findIdx?_eq_none_iff] at h
    have : xs.any p = false := by
      rw [List.any_eq_false]
      intro x hx
      simpa using h x hx
    rw [this]
    rfl
set_option maxRecDepth 100000 in
set_option maxHeartbeats 1500000 in
theorem containsDatC {w : World} {n : Nat} {a : Option Addr} {xs : List Dat} {P : Nat → Prop} (f : FuncId) (cap : Value) (hen : ∀ args w, (callFunc f args).run Try.prog w = .ok (.enter f args) w) (p : Dat → Bool) (m c : Nat) (hm : xs.length = m) (h : RowOf w P (IsD w P n) a xs) (hb : m ≤ 100000)
    (hP : ∀ j cs W, j < xs.length → Upd [] w W → IsD W P n cs (xs.getD j default) → Calls Try.prog f #[.agg cs.toArray, cap] W fun e w' => e = .returned (.bool (p (xs.getD j default))) ∧ Upd [] W w') :
    Calls Try.prog 88 #[.slice a m c, .func (.func f) #[] #[cap]] w fun e w' => e = .returned (.bool (xs.any p)) ∧ Upd [] w w' := by
  have hC := Lib.hid (indexDatC f cap hen p m c hm h hb hP)
  have HK := Lib.hid (idxI_any p xs)
  clear h hm hP
  generalize idxI p xs = k at *
  go_enter Try.func88, Try.ntmps88
  go_wp2_with fail
  refine hC.out.mono ?_
  rintro e w2 ⟨rfl, hu2⟩
  have HU2 := Lib.hid hu2
  clear hC hu2
  go_wp2
  go_ret
  exact ⟨by rw [← HK.out]; rfl, HU2.out⟩
def WrongSaid (ls : List Lk) (n : Nat) : Prop := ∀ (d : Dat) (cs : List Value) (w : World) (a : Option Addr) (P P' : Nat → Prop) (m c : Nat), IsD w P n cs d → Likes w P' a ls → ls.length = m → m ≤ 1000000 → szN n d ≤ 100000 →
    Calls Try.prog 58 #[.agg cs.toArray, .slice a m c] w fun e w' => e = .returned (.bool (wrongN ls n d)) ∧ Upd [] w w'
set_option maxRecDepth 100000 in
set_option maxHeartbeats 1500000 in
theorem wrong1_calls {ls : List Lk} {n : Nat} (ih : WrongSaid ls n) {d : Dat} {cs : List Value} {w : World} {a : Option Addr} {P P' : Nat → Prop} {b0 m c : Nat} (h : IsD w P n cs d) (hL : Likes w P' a ls) (hm : ls.length = m) (hmb : m ≤ 1000000) (hs : szN n d ≤ 100000) (hc0 : w.cell? ⟨b0, 0, none⟩ = some (.slice a m c)) :
    Calls Try.prog 89 #[.agg cs.toArray, .pointer (some ⟨b0, 0, none⟩)] w fun e w' => e = .returned (.bool (wrongN ls n d)) ∧ Upd [] w w' := by
  have hlt : b0 < w.heap.size := World.block_lt_of_cell? w _ hc0
  obtain ⟨k1, n1, a1, l1, p1, b1, s1, i1, m1, d1, t1, o1, q1, rfl⟩ := h.shaped
  have hu : Upd [] w (w.alloc (.cells #[.int .i64 k1, .bool n1, .slice a1 l1 p1, .bool b1, .string s1, .slice i1 m1 d1, .slice t1 o1 q1] 27)) := (Upd.refl [] w).alloc _
  have hC := Lib.hid (ih d _ _ a P P' m c (h.upd hu) (hL.upd hu) hm hmb hs)
  have HU := Lib.hid hu
  unfold datCells at *
  clear h hL hm hs hu ih
  generalize wrongN ls n d = r at *
  go_enter Try.func89, Try.ntmps89
  go_wp2_with fail
  refine hC.out.mono ?_
  rintro e w2 ⟨rfl, hu2⟩
  have HU2 := Lib.hid (HU.out.then hu2)
  clear hC hu2
  go_wp2
  go_ret
  exact ⟨rfl, HU2.out⟩
theorem drop_next {α : Type} [Inhabited α] {l : List α} {j : Nat} (h : j < l.length) : l.drop j = l.getD j default :: l.drop (j + 1) := by
  rw [List.drop_eq_getElem_cons h, List.getD_eq_getElem?_getD, List.getElem?_eq_getElem h]
  rfl
set_option maxRecDepth 100000 in
set_option maxHeartbeats 1500000 in
theorem wrong_step (ls : List Lk) (n : Nat) (ih : WrongSaid ls n) : WrongSaid ls (n + 1) := by
  intro d cs w a P P' m c h hL hm hmb hs
  have hA := Lib.hid (fun (W : World) (hu : Upd [] w W) => again_calls m c hm (h.upd hu) (hL.upd hu) hmb)
  have hAx : Hid (∀ (W : World) (x : Dat) (cs : List Value), Upd [] w W → IsD w P n cs x → Calls Try.prog 86 #[.agg cs.toArray, .slice a m c] W fun e w' => e = .returned (.bool (againF ls x)) ∧ Upd [] W w') := Lib.hid (fun W x cs hu hd => again_calls m c hm (hd.upd hu) (hL.upd hu) hmb)
  obtain ⟨aL, cL, aI, cI, aT, cT, rfl, l1, r1, r2, hcap, hbd⟩ := h
  have hszN : szN (n + 1) d = 1 + szL (szN n) d.items + szL (szN n) d.tail := rfl
  rw [hszN] at hs
  have hi1 : d.items.length ≤ 100000 := by have := len_le_szL (szN_pos n) d.items; omega
  have ht1 : d.tail.length ≤ 100000 := by have := len_le_szL (szN_pos n) d.tail; omega
  have hWI : Hid (∀ j cs W, j < d.items.length → Upd [] w W → IsD W P n cs (d.items.getD j default) → Calls Try.prog 58 #[.agg cs.toArray, .slice a m c] W fun e w' => e = .returned (.bool (wrongN ls n (d.items.getD j default))) ∧ Upd [] W w') := Lib.hid (fun j cs W hj hu hd => ih _ cs W a P P' m c hd (hL.upd hu) hm hmb (by have := szL_get (szN n) hj; omega))
  have hWT : Hid (∀ (b0 : Nat) (W0 : World), Upd [] w W0 → W0.cell? ⟨b0, 0, none⟩ = some (.slice a m c) → Calls Try.prog 88 #[.slice aT d.tail.length cT, .func (.func 89) #[] #[.pointer (some ⟨b0, 0, none⟩)]] W0 fun e w' => e = .returned (.bool (d.tail.any (wrongN ls n))) ∧ Upd [] W0 w') := Lib.hid (fun b0 W0 hu hc => containsDatC 89 _ (enters_of Try.func89 (by kernel_rfl) rfl) (wrongN ls n) d.tail.length cT rfl (r2.updD hu) ht1
    (fun j cs W hj hu2 hd => wrong1_calls ih hd (hL.upd (hu.then hu2)) hm hmb (by have := szL_get (szN n) hj; omega) (hu2.cell hc (by simp))))
  have HW : Hid (wrongN ls (n + 1) d = (againF ls d || wrongL ls (wrongN ls n) d.items true false || d.tail.any (wrongN ls n))) := Lib.hid rfl
  have HR1 := Lib.hid r1
  clear ih l1 r1 r2 hcap hbd hL hm hs hszN
  obtain ⟨WW, hWW⟩ : ∃ WW, WW = wrongN ls (n + 1) d := ⟨_, rfl⟩
  rw [← hWW] at HW ⊢
  clear hWW
  obtain ⟨W2, hW2⟩ : ∃ W2, W2 = (w.alloc (.cells #[.int .i64 d.kind, .bool d.neg, .slice aL d.limbs.length cL, .bool d.b, .string d.s, .slice aI d.items.length cI, .slice aT d.tail.length cT] 27)).alloc (.cells #[.slice a m c] 35) := ⟨_, rfl⟩
  have hu2 : Upd [] w W2 := by rw [hW2]; exact ((Upd.refl [] w).alloc _).alloc _
  have hb2 : Blk W2 w.heap.size [.int .i64 d.kind, .bool d.neg, .slice aL d.limbs.length cL, .bool d.b, .string d.s, .slice aI d.items.length cI, .slice aT d.tail.length cT] 27 := by rw [hW2]; exact (Blk.newAt rfl).alloc _
  have hb3 : Blk W2 (w.heap.size + 1) [.slice a m c] 35 := by rw [hW2]; exact Blk.newAt (by simp)
  have HB2 := Lib.hid hb2
  have HB3 := Lib.hid hb3
  have HU2 := Lib.hid hu2
  have HW2 := Lib.hid hW2
  clear hu2 hb2 hb3 hW2
  unfold datCells at *
  go_enter Try.func58, Try.ntmps58
  go_wp2_with fail
  rw [← HW2.out]
  refine (hA.out _ HU2.out).mono ?_
  rintro e w3 ⟨rfl, hu3⟩
  have hx3 := hu3.blk HB2.out (by simp)
  obtain ⟨x0, x1, x2, x3, x4, x5, x6⟩ := Blk.seven hx3
  have hlt := hx3.lt
  have HX3 := Lib.hid hx3
  have HL3 := Lib.hid (hu3.blk HB3.out (by simp))
  have HU3 := Lib.hid (HU2.out.then hu3)
  clear hA hx3 hu3 HB2 HB3 HU2 HW2
  cases hr : againF ls d with
  | true =>
    have HP : Hid (WW = true) := Lib.hid (by rw [HW.out, hr]; rfl)
    clear HW hr
    go_wp2
    go_ret
    exact ⟨by rw [HP.out]; rfl, HU3.out⟩
  | false =>
    have HP : Hid (WW = (wrongL ls (wrongN ls n) d.items true false || d.tail.any (wrongN ls n))) := Lib.hid (by rw [HW.out, hr]; rfl)
    clear HW hr
    go_wp2_with fail
    go_loopw [5, 14] (fun sv i wr => ∃ (j : Nat) (seen : Bool), j ≤ d.items.length ∧ i = .int .i64 j ∧ sv = .bool seen ∧ Hid (wrongL ls (wrongN ls n) d.items true false = wrongL ls (wrongN ls n) (d.items.drop j) (decide (j = 0)) seen) ∧ Hid (Upd [] w3 wr)) (fun _ i _ => d.items.length - (intOf i).toNat)
    case atStart => exact ⟨0, false, by omega, rfl, rfl, Lib.hid rfl, Upd.refl _ _⟩
    case round =>
      obtain ⟨j, seen, hj, rfl, rfl, hG, hU⟩ := hrel
      have hxr := hU.out.blk HX3.out (by simp)
      have hlr := hU.out.blk HL3.out (by simp)
      have hltr := hlr.lt
      by_cases hlt1 : j < d.items.length
      · obtain ⟨b, o, cs, rfl, _, hat, hd0⟩ := HR1.out j hlt1
        have HAX := Lib.hid (fun (W : World) (hu : Upd [] w W) => hAx.out W _ cs hu hd0)
        have HWX := Lib.hid (fun (W : World) (hu : Upd [] w W) => hWI.out j cs W hlt1 hu (hd0.upd hu))
        obtain ⟨k1, n1, a1, l1, p1, b1, s1, i1, m1, d1, t1, o1, q1, rfl⟩ := hd0.shaped
        obtain ⟨y0, y1, y2, y3, y4, y5, y6⟩ := ((hat.upd HU3.out (by simp)).upd hU.out (by simp)).cells
        have hbl : b < wr.heap.size := ((hat.upd HU3.out (by simp)).upd hU.out (by simp)).lt
        have g0 := hlr.cell_some (i := 0) rfl
        have HG : Hid (wrongL ls (wrongN ls n) d.items true false = if againF ls (d.items.getD j default) then (if seen || decide (j = 0) then true else wrongL ls (wrongN ls n) (d.items.drop (j + 1)) false true) else if wrongN ls n (d.items.getD j default) then true else wrongL ls (wrongN ls n) (d.items.drop (j + 1)) false seen) := Lib.hid (by rw [hG.out, drop_next hlt1]; rfl)
        obtain ⟨r1, hr1⟩ : ∃ r, r = againF ls (d.items.getD j default) := ⟨_, rfl⟩
        obtain ⟨r2, hr2⟩ : ∃ r, r = wrongN ls n (d.items.getD j default) := ⟨_, rfl⟩
        rw [← hr1] at HAX HG
        rw [← hr2] at HWX HG
        unfold datCells at *
        have HUA := Lib.hid (hU.out.alloc (.cells #[.int .i64 k1, .bool n1, .slice a1 l1 p1, .bool b1, .string s1, .slice i1 m1 d1, .slice t1 o1 q1] 27))
        have HWA := Lib.hid ((Upd.refl [] wr).alloc (.cells #[.int .i64 k1, .bool n1, .slice a1 l1 p1, .bool b1, .string s1, .slice i1 m1 d1, .slice t1 o1 q1] 27))
        have HYA := Lib.hid (Blk.new wr [.int .i64 k1, .bool n1, .slice a1 l1 p1, .bool b1, .string s1, .slice i1 m1 d1, .slice t1 o1 q1] 27)
        have HLR := Lib.hid hlr
        clear hat hd0 hr1 hr2 hG hxr hlr x0 x1 x2 x3 x4 x5 x6 hU
        go_wp2_with fail
        refine (HAX.out _ (HU3.out.then HUA.out)).mono ?_
        rintro e w5 ⟨rfl, hu5⟩
        obtain ⟨y0, y1, y2, y3, y4, y5, y6⟩ := Blk.seven (hu5.blk HYA.out (by simp))
        have g0 := ((HWA.out.then hu5).blk HLR.out (by simp)).cell_some (i := 0) rfl
        have HU5 := Lib.hid (HUA.out.then hu5)
        have hlt5 : wr.heap.size < w5.heap.size := (hu5.blk HYA.out (by simp)).lt
        clear HAX hu5 HUA HWA HYA HLR
        cases r1 with
        | true =>
          clear HWX
          cases seen with
          | true =>
            have HQ : Hid (WW = true) := Lib.hid (by rw [HP.out, HG.out]; rfl)
            clear HG HP
            go_wp2
            go_ret
            exact ⟨by rw [HQ.out]; rfl, HU3.out.then HU5.out⟩
          | false =>
            by_cases hj0 : j = 0
            · have HQ : Hid (WW = true) := Lib.hid (by rw [HP.out, HG.out, hj0]; rfl)
              clear HG HP
              subst hj0
              go_wp2
              go_ret
              exact ⟨by rw [HQ.out]; rfl, HU3.out.then HU5.out⟩
            · have HQ : Hid (wrongL ls (wrongN ls n) d.items true false = wrongL ls (wrongN ls n) (d.items.drop (j + 1)) (decide (j + 1 = 0)) true) := Lib.hid (by rw [HG.out, decide_eq_false hj0]; rfl)
              have hj0' : ¬ (j : Int) = 0 := by omega
              clear HG
              go_wp2
              go_roundw
              case rel => exact ⟨j + 1, true, by omega, by go_num, rfl, HQ, HU5⟩
              case measure => simp [intOf]; omega
        | false =>
          go_wp2_with fail
          refine (HWX.out _ (HU3.out.then HU5.out)).mono ?_
          rintro e w6 ⟨rfl, hu6⟩
          have HU6 := Lib.hid (HU5.out.then hu6)
          clear HWX hu6 g0 y0 y1 y2 y3 y4 y5 y6
          cases r2 with
          | true =>
            have HQ : Hid (WW = true) := Lib.hid (by rw [HP.out, HG.out]; rfl)
            clear HG HP
            go_wp2
            go_ret
            exact ⟨by rw [HQ.out]; rfl, HU3.out.then HU6.out⟩
          | false =>
            have HQ : Hid (wrongL ls (wrongN ls n) d.items true false = wrongL ls (wrongN ls n) (d.items.drop (j + 1)) (decide (j + 1 = 0)) seen) := Lib.hid (by rw [HG.out]; rfl)
            clear HG
            go_wp2
            go_roundw
            case rel => exact ⟨j + 1, seen, by omega, by go_num, rfl, HQ, HU6⟩
            case measure => simp [intOf]; omega
      · have hjm : j = d.items.length := by omega
        subst hjm
        obtain ⟨z0, z1, z2, z3, z4, z5, z6⟩ := Blk.seven hxr
        have g0 := hlr.cell_some (i := 0) rfl
        have HQ : Hid (WW = d.tail.any (wrongN ls n)) := Lib.hid (by rw [HP.out, hG.out, List.drop_length]; rfl)
        obtain ⟨rt, hrt⟩ : ∃ r, r = d.tail.any (wrongN ls n) := ⟨_, rfl⟩
        rw [← hrt] at HQ hWT
        clear hrt hG HP hWI hAx hxr
        have HLR := Lib.hid (hWT.out _ _ (HU3.out.then hU.out) g0)
        clear hlr
        go_wp2_with fail
        refine HLR.out.mono ?_
        rintro e w6 ⟨rfl, hu6⟩
        have HU6 := Lib.hid ((HU3.out.then hU.out).then hu6)
        clear hu6 HLR hWT
        go_wp2
        go_ret
        exact ⟨by rw [HQ.out]; rfl, HU6.out⟩
theorem wrong_calls (ls : List Lk) : ∀ n, WrongSaid ls n
  | 0 => fun _ _ _ _ _ _ _ _ h => h.elim
  | n + 1 => wrong_step ls n (wrong_calls ls n)
end Go.Proofs.Ythmpaepdbjldfaa

/-
  Patterns: what is not wrong, and which names are bound.
-/
namespace Go.Proofs.Ythmpaepdbjldfaa
set_option linter.unusedVariables false
set_option linter.unusedSimpArgs false
open Go.RowKit Go.Shelf

theorem good_plain {n : Nat} {d : Dat} (h : goodN (n + 1) d = true) : PlainD d := by
  unfold goodN at h
  rw [Bool.and_eq_true] at h
  exact of_decide_eq_true h.1
theorem good_list {n : Nat} {d : Dat} (h : goodN (n + 1) d = true) (hk : d.kind = 5) : tailOk d ∧ ∀ x ∈ d.items ++ d.tail, goodN n x = true := by
  unfold goodN at h
  rw [Bool.and_eq_true] at h
  have h2 := h.2
  rw [if_neg (by omega), if_neg (by omega), if_neg (by omega), if_neg (by omega), if_pos hk, Bool.and_eq_true] at h2
  exact ⟨of_decide_eq_true h2.1, fun x hx => List.all_eq_true.1 h2.2 x hx⟩
theorem good_atom {n : Nat} {d : Dat} (h : goodN (n + 1) d = true) (hk : d.kind ≠ 5) : d.items = [] ∧ d.tail = [] := (good_plain h).2.2.2 hk
/-- What wrongL says when it says no. -/
theorem wrongL_spec (ls : List Lk) (f : Dat → Bool) : ∀ (xs : List Dat) (first seen : Bool), wrongL ls f xs first seen = false → ∀ i, i < xs.length →
    (againF ls (xs.getD i default) = true → seen = false ∧ (first = true → i ≠ 0) ∧ ∀ j, j < xs.length → j ≠ i → againF ls (xs.getD j default) = false) ∧ (againF ls (xs.getD i default) = false → f (xs.getD i default) = false)
  | [], _, _, _, i, hi => by simp at hi
  | x :: xs, first, seen, h, i, hi => by
    unfold wrongL at h
    by_cases hx : againF ls x = true
    · rw [if_pos hx] at h
      by_cases hs : (seen || first) = true
      · rw [if_pos hs] at h
        cases h
      · rw [if_neg hs] at h
        have hsf : seen = false ∧ first = false := by simpa using hs
        have ih := wrongL_spec ls f xs false true h
        have hno : ∀ j, j < xs.length → againF ls (xs.getD j default) = false := by
          intro j hj
          by_cases hj2 : againF ls (xs.getD j default) = true
          · exact absurd ((ih j hj).1 hj2).1 (by simp)
          · simpa using hj2
        cases i with
        | zero =>
          refine ⟨fun _ => ⟨hsf.1, fun e => absurd e (by rw [hsf.2]; simp), fun j hj hj0 => ?_⟩, fun e => ?_⟩
          · cases j with
            | zero => exact absurd rfl hj0
            | succ j => exact hno j (by simpa using hj)
          · have e' : againF ls x = false := e
            rw [hx] at e'
            cases e'
        | succ i =>
          have hi' : i < xs.length := by simpa using hi
          refine ⟨fun e => ?_, fun e => (ih i hi').2 e⟩
          have e' : againF ls (xs.getD i default) = true := e
          rw [hno i hi'] at e'
          cases e'
    · rw [if_neg hx] at h
      by_cases hf : f x = true
      · rw [if_pos hf] at h
        cases h
      · rw [if_neg hf] at h
        have ih := wrongL_spec ls f xs false seen h
        cases i with
        | zero => exact ⟨fun e => absurd e hx, fun _ => by simpa using hf⟩
        | succ i =>
          have hi' : i < xs.length := by simpa using hi
          refine ⟨fun e => ?_, fun e => (ih i hi').2 e⟩
          obtain ⟨h1, _, h3⟩ := (ih i hi').1 e
          refine ⟨h1, fun _ => by omega, fun j hj hji => ?_⟩
          cases j with
          | zero => simpa using hx
          | succ j => exact h3 j (by simpa using hj) (by omega)
theorem wrong_parts {ls : List Lk} {n : Nat} {p : Dat} (h : wrongN ls (n + 1) p = false) : againF ls p = false ∧ wrongL ls (wrongN ls n) p.items true false = false ∧ ∀ x ∈ p.tail, wrongN ls n x = false := by
  unfold wrongN at h
  simp only [Bool.or_eq_false_iff] at h
  refine ⟨h.1.1, h.1.2, fun x hx => ?_⟩
  have := h.2
  rw [List.any_eq_false] at this
  simpa using this x hx
/-- Where a ... stands among items that are not wrong. -/
theorem dots_at {ls : List Lk} {f : Dat → Bool} {xs : List Dat} (h : wrongL ls f xs true false = false) :
    (xs.findIdx? (againF ls) = none ∧ ∀ x ∈ xs, againF ls x = false ∧ f x = false) ∨
    ∃ i, xs.findIdx? (againF ls) = some (i + 1) ∧ i + 1 < xs.length ∧ againF ls (xs.getD (i + 1) default) = true ∧ (∀ x ∈ xs.take (i + 1), againF ls x = false ∧ f x = false) ∧ (∀ x ∈ xs.drop (i + 2), againF ls x = false ∧ f x = false) ∧ xs = xs.take i ++ xs.getD i default :: xs.getD (i + 1) default :: xs.drop (i + 2) := by
  have sp := wrongL_spec ls f xs true false h
  have mem_at : ∀ {l : List Dat} {x : Dat}, x ∈ l → ∃ j, j < l.length ∧ x = l.getD j default := by
    intro l x hx
    obtain ⟨j, hj, rfl⟩ := List.getElem_of_mem hx
    exact ⟨j, hj, by rw [List.getD_eq_getElem?_getD, List.getElem?_eq_getElem hj]; rfl⟩
  cases hi : xs.findIdx? (againF ls) with
  | none =>
    refine .inl ⟨rfl, fun x hx => ?_⟩
    rw [List.findIdx?_eq_none_iff] at hi
    have h1 := hi x hx
    obtain ⟨j, hj, rfl⟩ := mem_at hx
    exact ⟨h1, (sp j hj).2 h1⟩
  | some k =>
    rw [List.findIdx?_eq_some_iff_getElem] at hi
    obtain ⟨hk, ha, _⟩ := hi
    have ha' : againF ls (xs.getD k default) = true := by rw [List.getD_eq_getElem?_getD, List.getElem?_eq_getElem hk]; exact ha
    obtain ⟨_, h0, hu⟩ := (sp k hk).1 ha'
    have hk0 := h0 rfl
    obtain ⟨i, rfl⟩ : ∃ i, k = i + 1 := ⟨k - 1, by omega⟩
    refine .inr ⟨i, rfl, hk, ha', fun x hx => ?_, fun x hx => ?_, ?_⟩
    · obtain ⟨j, hj, rfl⟩ := mem_at hx
      rw [List.length_take] at hj
      have e : (xs.take (i + 1)).getD j default = xs.getD j default := by rw [List.getD_eq_getElem?_getD, List.getElem?_take, if_pos (by omega), ← List.getD_eq_getElem?_getD]
      rw [e]
      have := hu j (by omega) (by omega)
      exact ⟨this, (sp j (by omega)).2 this⟩
    · obtain ⟨j, hj, rfl⟩ := mem_at hx
      rw [List.length_drop] at hj
      have e : (xs.drop (i + 2)).getD j default = xs.getD (i + 2 + j) default := by simp [List.getD_eq_getElem?_getD]
      rw [e]
      have := hu (i + 2 + j) (by omega) (by omega)
      exact ⟨this, (sp _ (by omega)).2 this⟩
    · have e1 : xs = xs.take i ++ xs.drop i := (List.take_append_drop i xs).symm
      rw [drop_next (by omega : i < xs.length), drop_next (by omega : i + 1 < xs.length)] at e1
      exact e1
theorem range_flat_get {β : Type} (g : Dat → List β) (l : List Dat) : (List.range l.length).flatMap (fun i => g (l.getD i default)) = l.flatMap g := by
  have : ∀ j, j ≤ l.length → (List.range j).flatMap (fun i => g (l.getD i default)) = (l.take j).flatMap g := by
    intro j
    induction j with
    | zero => simp
    | succ j ih =>
      intro hj
      rw [range_flat, ih (by omega), take_nextK (by omega), List.flatMap_append]
      simp
  have h := this l.length (Nat.le_refl _)
  rwa [List.take_length] at h
/-- The names of the places. -/
def nmN (ls : List Lk) (n : Nat) (p : Dat) : List ByteArray := (placesN ls n p 0).map Prod.fst
theorem placesN_fst_succ (ls : List Lk) (n : Nat) (ih : ∀ p k, (placesN ls n p k).map Prod.fst = nmN ls n p) (p : Dat) (k : Int) : (placesN ls (n + 1) p k).map Prod.fst = if varF ls p then [p.s] else p.items.flatMap (nmN ls n) ++ p.tail.flatMap (nmN ls n) := by
  unfold placesN
  split
  · rfl
  · rw [List.map_append, List.map_flatMap, List.map_flatMap]
    congr 1
    · have e : (fun i => (placesN ls n (p.items.getD i default) (deepAt ls p.items k i)).map Prod.fst) = fun i => nmN ls n (p.items.getD i default) := by
        funext i
        exact ih _ _
      rw [e, range_flat_get]
    · congr 1
      funext x
      exact ih _ _
theorem placesN_fst (ls : List Lk) : ∀ (n : Nat) (p : Dat) (k : Int), (placesN ls n p k).map Prod.fst = nmN ls n p
  | 0, _, _ => rfl
  | n + 1, p, k => (placesN_fst_succ ls n (placesN_fst ls n) p k).trans (placesN_fst_succ ls n (placesN_fst ls n) p 0).symm
theorem nmN_succ (ls : List Lk) (n : Nat) (p : Dat) : nmN ls (n + 1) p = if varF ls p then [p.s] else p.items.flatMap (nmN ls n) ++ p.tail.flatMap (nmN ls n) := placesN_fst_succ ls n (placesN_fst ls n) p 0
theorem nm_again {ls : List Lk} {n : Nat} {x : Dat} (hg : goodN n x = true) (h : againF ls x = true) : nmN ls n x = [] := by
  cases n with
  | zero => rfl
  | succ n =>
    unfold againF isF at h
    simp only [Bool.and_eq_true, decide_eq_true_eq] at h
    obtain ⟨⟨hk, hs⟩, _⟩ := h
    obtain ⟨e1, e2⟩ := good_atom hg (by omega)
    rw [nmN_succ, if_neg (by unfold varF; simp [hs]), e1, e2]
    rfl
theorem allM_names {f : Dat → Dat → Option (List Bd)} {g : Dat → List ByteArray} : ∀ (ps ds : List Dat) (bs : List Bd), (∀ p ∈ ps, ∀ d b, f p d = some b → b.map Bd.name = g p) → allM f ps ds = some bs → bs.map Bd.name = ps.flatMap g
  | [], _, bs, _, h => by
    unfold allM at h
    cases h
    rfl
  | p :: ps, [], bs, _, h => by simp [allM] at h
  | p :: ps, d :: ds, bs, hf, h => by
    unfold allM at h
    cases h1 : f p d with
    | none => rw [h1] at h; cases h
    | some a =>
      cases h2 : allM f ps ds with
      | none => rw [h1, h2] at h; cases h
      | some b =>
        rw [h1, h2] at h
        cases h
        rw [List.map_append, List.flatMap_cons, hf p (by simp) d a h1, allM_names ps ds b (fun q hq => hf q (by simp [hq])) h2]
theorem mid_names (pl : List (ByteArray × Int)) (rows : List (List Bd)) : ((List.range pl.length).map fun k => (⟨(pl.getD k default).1, treeAt rows k⟩ : Bd)).map Bd.name = pl.map Prod.fst := by
  apply List.ext_getElem (by simp)
  intro i h1 h2
  simp at h1
  simp [List.getD_eq_getElem?_getD, h1]
/-- What matches binds the places' names, in order. -/
theorem match_names {ls : List Lk} {sm : Dat → Dat → Bool} : ∀ (n : Nat) (p d : Dat) (bs : List Bd), goodN n p = true → wrongN ls n p = false → matchN ls sm n p d = some bs → bs.map Bd.name = nmN ls n p
  | 0, _, _, _, h, _, _ => by simp [goodN] at h
  | n + 1, p, d, bs, hg, hw, h => by
    obtain ⟨w1, w2, w3⟩ := wrong_parts hw
    rw [nmN_succ]
    unfold matchN at h
    by_cases hk : p.kind = 3
    · rw [if_pos hk] at h
      obtain ⟨e1, e2⟩ := good_atom hg (by omega)
      rw [e1, e2]
      by_cases hl : 0 ≤ findF ls p.s
      · rw [if_pos hl] at h
        rw [if_neg (by unfold varF; simp; omega)]
        split at h
        · cases h; rfl
        · cases h
      · rw [if_neg hl] at h
        by_cases ha : p.s = anyB
        · rw [if_pos ha] at h
          cases h
          rw [if_neg (by unfold varF; simp [ha])]
          rfl
        · rw [if_neg ha] at h
          cases h
          have hd : p.s ≠ dotsB := by
            intro e
            have hl2 : findF ls dotsB < 0 := by rw [← e]; omega
            have : againF ls p = true := by unfold againF isF; simp [hk, e, hl2]
            rw [this] at w1
            cases w1
          rw [if_pos (by unfold varF; simp [hk, ha, hd]; omega)]
          rfl
    · rw [if_neg hk] at h
      rw [if_neg (by unfold varF; simp [hk])]
      by_cases h5 : p.kind = 5
      · rw [if_pos h5] at h
        obtain ⟨ht, hgs⟩ := good_list hg h5
        split at h
        · have htl : p.tail = [] ∨ ∃ t, p.tail = [t] := by
            unfold tailOk at ht
            rcases hp : p.tail with _ | ⟨t, _ | ⟨u, l⟩⟩
            · exact .inl rfl
            · exact .inr ⟨t, rfl⟩
            · rw [hp] at ht
              simp at ht
          have ih : ∀ q ∈ p.items, wrongN ls n q = false → ∀ d b, matchN ls sm n q d = some b → b.map Bd.name = nmN ls n q := fun q hq hwq d b hb => match_names n q d b (hgs q (by simp [hq])) hwq hb
          have iht : ∀ q ∈ p.tail, ∀ d b, matchN ls sm n q d = some b → b.map Bd.name = nmN ls n q := fun q hq d b hb => match_names n q d b (hgs q (by simp [hq])) (w3 q hq) hb
          unfold listM at h
          rcases dots_at w2 with ⟨e1, hall⟩ | ⟨i, e1, hi, ha, hah, hbe, esplit⟩
          · rw [e1] at h
            simp only at h
            rcases htl with e2 | ⟨t, e2⟩
            · rw [if_pos e2] at h
              split at h
              · rw [e2, List.flatMap_nil, List.append_nil]
                exact allM_names _ _ _ (fun q hq d b hb => ih q hq (hall q hq).2 d b hb) h
              · cases h
            · rw [if_neg (by rw [e2]; simp)] at h
              split at h
              · cases h
              · cases h1 : allM (matchN ls sm n) p.items d.items with
                | none => rw [h1] at h; cases h
                | some a =>
                  rw [h1] at h
                  simp only [Option.bind_some] at h
                  cases h2 : matchN ls sm n (p.tail.getD 0 default) (restM d p.items.length) with
                  | none => rw [h2] at h; cases h
                  | some b =>
                    rw [h2] at h
                    cases h
                    rw [List.map_append, allM_names _ _ _ (fun q hq d b hb => ih q hq (hall q hq).2 d b hb) h1]
                    rw [e2] at h2 ⊢
                    rw [iht t (by rw [e2]; simp) _ _ h2]
                    simp
          · rw [e1] at h
            simp only at h
            split at h
            · cases h
            · cases h1 : allM (matchN ls sm n) (p.items.take i) d.items with
              | none => rw [h1] at h; cases h
              | some a =>
                rw [h1] at h
                simp only [Option.bind_some] at h
                cases h2 : rowsM (matchN ls sm n (p.items.getD i default)) ((d.items.drop i).take (d.items.length - (p.items.drop (i + 2)).length - i)) with
                | none => rw [h2] at h; cases h
                | some rows =>
                  rw [h2] at h
                  simp only [Option.bind_some] at h
                  cases h3 : allM (matchN ls sm n) (p.items.drop (i + 2)) (d.items.drop (d.items.length - (p.items.drop (i + 2)).length)) with
                  | none => rw [h3] at h; cases h
                  | some b =>
                    rw [h3] at h
                    simp only [Option.bind_some] at h
                    have ha1 := allM_names _ _ _ (fun q hq d b hb => ih q (List.mem_of_mem_take hq) (hah q (List.take_subset_take_left _ (by omega) hq)).2 d b hb) h1
                    have hb1 := allM_names _ _ _ (fun q hq d b hb => ih q (List.mem_of_mem_drop hq) (hbe q hq).2 d b hb) h3
                    have hm1 := mid_names (placesN ls n (p.items.getD i default) 0) rows
                    have hnd : nmN ls n (p.items.getD (i + 1) default) = [] := nm_again (hgs _ (by rw [List.mem_append]; left; rw [List.getD_eq_getElem?_getD, List.getElem?_eq_getElem hi]; exact List.getElem_mem hi)) ha
                    have hsp : p.items.flatMap (nmN ls n) = (p.items.take i).flatMap (nmN ls n) ++ (nmN ls n (p.items.getD i default) ++ (p.items.drop (i + 2)).flatMap (nmN ls n)) := by
                      conv => lhs; rw [esplit]
                      rw [List.flatMap_append, List.flatMap_cons, List.flatMap_cons, hnd, List.nil_append]
                    rcases htl with e2 | ⟨t, e2⟩
                    · rw [if_pos e2] at h
                      cases h
                      rw [List.map_append, List.map_append, ha1, hb1, hm1, hsp, e2, placesN_fst]
                      simp
                    · rw [if_neg (by rw [e2]; simp)] at h
                      cases h4 : matchN ls sm n (p.tail.getD 0 default) (if 0 < d.tail.length then d.tail.getD 0 default else .mk 5 false [] false ByteArray.empty [] []) with
                      | none => rw [h4] at h; cases h
                      | some c =>
                        rw [h4] at h
                        cases h
                        rw [e2] at h4
                        have hc1 := iht t (by rw [e2]; simp) _ _ h4
                        rw [List.map_append, List.map_append, List.map_append, ha1, hb1, hm1, hsp, hc1, e2, placesN_fst]
                        simp
        · cases h
      · rw [if_neg h5] at h
        obtain ⟨e1, e2⟩ := good_atom hg h5
        rw [e1, e2]
        unfold sameM at h
        split at h
        · cases h; rfl
        · cases h
end Go.Proofs.Ythmpaepdbjldfaa
