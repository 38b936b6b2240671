/-
  Texts of this claim, merged: RcH. Lemmas and contracts; no conditions of our own.
-/
import Derived.Test.YtknbgbeepachgaaDoorG10
import Derived.Deep.DeepCutAuto

/-
  The document's Good of a datum, exactly.
-/
namespace Go.Proofs.YtknbgbeepachgaaDoor
open Go.RowKit Go.Shelf

theorem nil_empty (s : ByteArray) : s.toList = [] ↔ s = ByteArray.empty := toList_nil_iff_emptyBytes s
theorem size_one (s : ByteArray) : 1 ≤ (s.size : Int) ↔ s.toList ≠ [] := by
  rw [Ne, nil_empty]
  constructor
  · intro h e
    rw [e] at h
    simp at h
  · intro h
    rcases Nat.eq_zero_or_pos s.size with h0 | h0
    · exact absurd (ByteArray.size_eq_zero_iff.1 h0) h
    · omega
/-- Good, kind by kind, as the document asks. -/
theorem goodN_kind (n : Nat) (d : Dat) {nn nm : Bool} (hnn : nn = decide (d.items.length = 0 ∧ d.tail.length = 0)) (hnm : nm = (!d.neg && decide (d.limbs.length = 0))) : goodN (n + 1) d =
    if d.kind = 0 then nn && nm && !d.b && decide (d.s.toList = [])
    else if d.kind = 1 then nn && !d.b && decide (d.s.toList = []) && wgB d.neg d.limbs && decide ((d.limbs.length : Int) ≤ 64)
    else if d.kind = 2 then nn && nm && decide (d.s.toList = [])
    else if d.kind = 3 then nn && nm && !d.b && decide (1 ≤ (d.s.size : Int)) && decide ((d.s.size : Int) ≤ 64)
    else if d.kind = 4 then nn && nm && !d.b && decide ((d.s.size : Int) ≤ 1024)
    else if d.kind = 5 then nm && !d.b && decide (d.s.toList = []) && decide (tailOk d) && (d.items ++ d.tail).all (goodN n) else false := by
  unfold goodN
  rw [Bool.eq_iff_iff]
  subst hnn
  subst hnm
  have h1 := nil_empty d.s
  have h2 := size_one d.s
  have hp : PlainD d ↔ (d.kind ≠ 1 → d.neg = false ∧ d.limbs = []) ∧ (d.kind ≠ 2 → d.b = false) ∧ (d.kind ≠ 3 → d.kind ≠ 4 → d.s = ByteArray.empty) ∧ (d.kind ≠ 5 → d.items = [] ∧ d.tail = []) := Iff.rfl
  generalize (d.items ++ d.tail).all (goodN n) = q
  generalize wgB d.neg d.limbs = wg
  simp only [Bool.and_eq_true, decide_eq_true_eq, hp, List.length_eq_zero_iff]
  split
  · grind
  · grind
set_option maxRecDepth 100000 in
set_option maxHeartbeats 1500000 in
theorem refWhole_calls {P : Nat → Prop} {w : World} {a : Option Addr} {xs : List Int} (ng : Bool) (m c : Nat) (hm : xs.length = m) (h : LimbsOf w P a xs) (hb : m ≤ 35184372088832) (hx : ∀ x ∈ xs, 0 ≤ x ∧ x < 4294967296) :
    Calls Tryd.prog 56 #[.agg #[.bool ng, .slice a m c]] w fun e w' => e = .returned (.bool (wgB ng xs)) ∧ Upd [] w w' := by
  have hU : Upd [] w (w.alloc (.cells #[.bool ng, .slice a m c] 54)) := (Upd.refl [] w).alloc _
  cases m with
  | zero =>
    have hxs : xs = [] := List.eq_nil_of_length_eq_zero hm
    subst hxs
    have HU := Lib.hid hU
    clear h hx hm hU
    show Calls _ _ _ w fun e w' => e = .returned (.bool (!ng)) ∧ Upd [] w w'
    cases ng with
    | true =>
      go_enter Tryd.func56, Tryd.ntmps56
      go_wp2
      go_ret
      exact ⟨rfl, HU.out⟩
    | false =>
      go_enter Tryd.func56, Tryd.ntmps56
      go_wp2
      go_ret
      exact ⟨rfl, HU.out⟩
  | succ k =>
    obtain ⟨b, o, rfl, _, hc⟩ := h k (by omega)
    have c1 := hU.cell hc (by simp)
    have hxk := hx (xs.getD k 0) (by simp [List.getD_eq_getElem?_getD, hm])
    obtain ⟨x, hx'⟩ : ∃ x, x = xs.getD k 0 := ⟨_, rfl⟩
    have e : wgB ng xs = (x != 0) := by
      unfold wgB
      rw [if_neg (by omega), hm, Nat.add_sub_cancel, ← hx']
      by_cases h : x = 0 <;> simp [h]
    rw [e]
    rw [← hx'] at c1 hxk
    have HU := Lib.hid hU
    have hw1 : IntKind.i64.wrap (((k + 1 : Nat) : Int) - 1) = (k : Int) := by
      rw [show ((k + 1 : Nat) : Int) - 1 = (k : Int) by omega]
      exact IntWalk.i64_in _ (by omega)
    clear h hc hx hm hU hx' e
    by_cases x0 : x = 0
    · subst x0
      go_enter Tryd.func56, Tryd.ntmps56
      go_wp2
      go_ret
      exact ⟨rfl, HU.out⟩
    · have xb : (x != 0) = true := by simpa using x0
      go_enter Tryd.func56, Tryd.ntmps56
      go_wp2
      go_ret
      exact ⟨by simp [xb], HU.out⟩
def lst (d : Dat) : Nat → List Dat
  | 0 => d.items
  | _ => d.tail
def RIsSaid (n : Nat) : Prop := ∀ (d : Dat) (cs : List Value) (w : World), IsD w (fun _ => True) n cs d →
    Calls Tryd.prog 47 #[.agg cs.toArray] w fun e w' => e = .returned (.bool (goodN n d)) ∧ Upd [] w w'
set_option maxRecDepth 100000 in
set_option maxHeartbeats 4000000 in
theorem ris_step (n : Nat) (ih : RIsSaid n) : RIsSaid (n + 1) := by
  intro d cs w h
  have h0 := h
  obtain ⟨aL, cL, aI, cI, aT, cT, rfl, l1, r1, r2, hcap, hbd⟩ := h
  have hu1 : Upd [] w (w.alloc (.cells #[.int .i64 d.kind, .bool d.neg, .slice aL d.limbs.length cL, .bool d.b, .string d.s, .slice aI d.items.length cI, .slice aT d.tail.length cT] 56)) := (Upd.refl [] w).alloc _
  have hWG := Lib.hid (refWhole_calls d.neg d.limbs.length cL rfl (l1.upd0 hu1) hbd.2.2.1 hbd.2.1)
  have hT0 := Lib.hid (show ∀ (W : World), Upd [] w W → 0 < d.tail.length → ∃ b o, aT = some ⟨b, o, none⟩ ∧ W.cell? ⟨b, o, none⟩ = some (.int .i64 (d.tail.getD 0 default).kind) from fun W hu h1 => by
    obtain ⟨b, o, cs, e, _, hat, hd⟩ := r2 0 h1
    rw [Nat.zero_mul, Nat.add_zero] at hat
    obtain ⟨a1, c1, a2, c2, a3, c3, rfl⟩ := cells_agg hd
    have := (hat.upd hu (by simp)).cells.1
    exact ⟨b, o, e, this⟩)
  have hrow : ∀ j, j < 2 → ∃ av cv, ((j = 0 ∧ Value.slice av (lst d j).length cv = .slice aI d.items.length cI) ∨ (j = 1 ∧ Value.slice av (lst d j).length cv = .slice aT d.tail.length cT)) ∧ RowOf w (fun _ => True) (IsD w (fun _ => True) n) av (lst d j) ∧ (lst d j).length ≤ 35184372088832 := by
    intro j hj
    obtain rfl | rfl : j = 0 ∨ j = 1 := by omega
    · exact ⟨_, _, .inl ⟨rfl, rfl⟩, r1, hbd.2.2.2.2.1⟩
    · exact ⟨_, _, .inr ⟨rfl, rfl⟩, r2, hbd.2.2.2.2.2⟩
  have hall : (∀ k, k < 2 → (lst d k).all (goodN n) = true) → (d.items ++ d.tail).all (goodN n) = true := fun h => by
    rw [List.all_append]
    have a := h 0 (by omega)
    have b := h 1 (by omega)
    simp only [lst] at a b
    rw [a, b]
    rfl
  have hnot : ∀ k, k < 2 → (lst d k).all (goodN n) = false → (d.items ++ d.tail).all (goodN n) = false := fun k hk h => by
    rw [List.all_append]
    obtain rfl | rfl : k = 0 ∨ k = 1 := by omega
    · simp only [lst] at h; rw [h]; rfl
    · simp only [lst] at h; rw [h]; simp
  obtain ⟨nn, hnn⟩ : ∃ nn, nn = decide (d.items.length = 0 ∧ d.tail.length = 0) := ⟨_, rfl⟩
  obtain ⟨nm, hnm⟩ : ∃ nm, nm = (!d.neg && decide (d.limbs.length = 0)) := ⟨_, rfl⟩
  have hgk := goodN_kind n d hnn hnm
  obtain ⟨GG, hGG⟩ : ∃ GG, GG = goodN (n + 1) d := ⟨_, rfl⟩
  rw [← hGG] at hgk ⊢
  obtain ⟨tok, htok⟩ : ∃ tok, tok = decide (tailOk d) := ⟨_, rfl⟩
  have htk : tok = true ↔ d.tail.length = 0 ∨ (d.tail.length = 1 ∧ 0 < d.items.length ∧ (d.tail.getD 0 default).kind ≠ 5) := by rw [htok, decide_eq_true_eq]; exact Iff.rfl
  rw [← htok] at hgk
  clear htok
  have HROW := Lib.hid hrow
  have HALL := Lib.hid hall
  have HNOT := Lib.hid hnot
  have HIH := Lib.hid ih
  have HTK := Lib.hid htk
  have HTB : Hid (d.items.length ≤ 35184372088832 ∧ d.tail.length ≤ 35184372088832 ∧ d.limbs.length ≤ 35184372088832 ∧ d.s.size ≤ 140737488351232) := Lib.hid ⟨hbd.2.2.2.2.1, hbd.2.2.2.2.2, hbd.2.2.1, hbd.2.2.2.1⟩
  have HU1 := Lib.hid hu1
  have hBX : Blk (w.alloc (.cells #[.int .i64 d.kind, .bool d.neg, .slice aL d.limbs.length cL, .bool d.b, .string d.s, .slice aI d.items.length cI, .slice aT d.tail.length cT] 56)) w.heap.size [.int .i64 d.kind, .bool d.neg, .slice aL d.limbs.length cL, .bool d.b, .string d.s, .slice aI d.items.length cI, .slice aT d.tail.length cT] 56 := Blk.new w _ _
  have HBX := Lib.hid hBX
  clear h0 l1 r1 r2 hcap hbd hu1 ih hrow hall hnot hGG htk hBX
  unfold datCells at *
  generalize hlst : lst d = ld at *
  have HLST := Lib.hid hlst
  clear hlst
  generalize (d.items ++ d.tail).all (goodN n) = al at *
  obtain ⟨tk0, htk0⟩ : ∃ tk0, tk0 = (d.tail.getD 0 default).kind := ⟨_, rfl⟩
  rw [← htk0] at hT0 HTK
  clear htk0
  obtain ⟨kd, hkd⟩ : ∃ k, k = d.kind := ⟨_, rfl⟩
  rw [← hkd] at HBX HU1 hWG hgk ⊢
  clear hkd
  generalize wgB d.neg d.limbs = wg at *
  generalize d.neg = ng at *
  generalize d.limbs.length = nl at *
  generalize d.b = bb at *
  generalize d.s = ss at *
  obtain ⟨ni, hni⟩ : ∃ ni, ni = d.items.length := ⟨_, rfl⟩
  obtain ⟨nt, hnt⟩ : ∃ nt, nt = d.tail.length := ⟨_, rfl⟩
  rw [← hni, ← hnt] at HROW HTK hnn HTB HBX HU1 ⊢
  rw [← hnt] at hT0
  rw [← hni, ← hnt] at hWG
  clear hni hnt
  have hgk2 := Lib.hid hgk
  have HNN := Lib.hid hnn
  have HNM := Lib.hid hnm
  have htb := HTB.out
  clear hgk hnn hnm HTB
  have HGU := hgk2
  clear hgk2
  go_enter Tryd.func47, Tryd.ntmps47
  go_upto_region 1 with (fail)
  generalize w.alloc (.cells #[.int .i64 kd, .bool ng, .slice aL nl cL, .bool bb, .string ss, .slice aI ni cI, .slice aT nt cT] 56) = W1 at *
  generalize w.heap.size = X at *
  obtain ⟨x0, x1, x2, x3, x4, x5, x6⟩ := Blk.seven HBX.out
  go_cut [3] from 9 to 18 (fun s3 wx => s3 = .bool nn ∧ wx = W1)
  case first =>
    by_cases e1 : ni = 0
    · by_cases e2 : nt = 0
      · have e : Hid (nn = true) := Lib.hid (by rw [HNN.out]; simp [e1, e2])
        subst e1
        subst e2
        go_wp2
        go_meet
        case rel => exact ⟨by rw [e.out], rfl⟩
      · have e : Hid (nn = false) := Lib.hid (by rw [HNN.out]; simp [e2])
        have e2' : ((nt : Int) == 0) = false := by simpa using e2
        subst e1
        go_wp2
        go_meet
        case rel => exact ⟨by simp [e.out], rfl⟩
    · have e : Hid (nn = false) := Lib.hid (by rw [HNN.out]; simp [e1])
      have e2' : ((ni : Int) == 0) = false := by simpa using e1
      go_wp2
      go_meet
      case rel => exact ⟨by simp [e.out], rfl⟩
  case rest =>
  obtain ⟨rfl, hwc⟩ := hcut
  rw [hwc]
  clear hwc wc HNN
  go_upto_region 2 with (fail)
  go_cut [4] from 19 to 29 (fun s wx => s = .bool nm ∧ wx = W1)
  case first =>
    cases ng with
    | true =>
      have e : Hid (nm = false) := Lib.hid (by rw [HNM.out]; rfl)
      go_wp2
      go_meet
      case rel => exact ⟨by rw [e.out], rfl⟩
    | false =>
      by_cases e2 : nl = 0
      · have e : Hid (nm = true) := Lib.hid (by rw [HNM.out]; simp [e2])
        subst e2
        go_wp2
        go_meet
        case rel => exact ⟨by rw [e.out], rfl⟩
      · have e : Hid (nm = false) := Lib.hid (by rw [HNM.out]; simp [e2])
        have e2' : ((nl : Int) == 0) = false := by simpa using e2
        go_wp2
        go_meet
        case rel => exact ⟨by simp [e.out], rfl⟩
  case rest =>
  obtain ⟨rfl, hwc⟩ := hcut
  rw [hwc]
  clear hwc wc HNM
  by_cases h0 : kd = 0
  · subst h0
    have HG : Hid (GG = (nn && nm && !bb && decide (ss.toList = []))) := HGU
    clear HGU
    cases nn with
    | false =>
      have E9 : Hid (GG = false) := Lib.hid (by rw [HG.out]; simp)
      clear HG
      go_wp2
      go_ret
      exact ⟨by rw [E9.out]; rfl, HU1.out⟩
    | true =>
      cases nm with
      | false =>
        have E9 : Hid (GG = false) := Lib.hid (by rw [HG.out]; simp)
        clear HG
        go_wp2
        go_ret
        exact ⟨by rw [E9.out]; rfl, HU1.out⟩
      | true =>
        cases bb with
        | true =>
          have E9 : Hid (GG = false) := Lib.hid (by rw [HG.out]; simp)
          clear HG
          go_wp2
          go_ret
          exact ⟨by rw [E9.out]; rfl, HU1.out⟩
        | false =>
          by_cases gse : ss.toList = []
          · have E9 : Hid (GG = true) := Lib.hid (by rw [HG.out]; simp [gse])
            clear HG
            go_wp2
            go_ret
            exact ⟨by rw [E9.out]; rfl, HU1.out⟩
          · have gem : ss.toList.isEmpty = false := by simpa using gse
            have E9 : Hid (GG = false) := Lib.hid (by rw [HG.out]; simp [gse])
            clear HG
            go_wp2
            go_ret
            exact ⟨by rw [E9.out]; rfl, HU1.out⟩
  by_cases h2 : kd = 2
  · subst h2
    have HG : Hid (GG = (nn && nm && decide (ss.toList = []))) := HGU
    clear HGU
    cases nn with
    | false =>
      have E9 : Hid (GG = false) := Lib.hid (by rw [HG.out]; simp)
      clear HG
      go_wp2
      go_ret
      exact ⟨by rw [E9.out]; rfl, HU1.out⟩
    | true =>
      cases nm with
      | false =>
        have E9 : Hid (GG = false) := Lib.hid (by rw [HG.out]; simp)
        clear HG
        go_wp2
        go_ret
        exact ⟨by rw [E9.out]; rfl, HU1.out⟩
      | true =>
        by_cases gse : ss.toList = []
        · have E9 : Hid (GG = true) := Lib.hid (by rw [HG.out]; simp [gse])
          clear HG
          go_wp2
          go_ret
          exact ⟨by rw [E9.out]; rfl, HU1.out⟩
        · have gem : ss.toList.isEmpty = false := by simpa using gse
          have E9 : Hid (GG = false) := Lib.hid (by rw [HG.out]; simp [gse])
          clear HG
          go_wp2
          go_ret
          exact ⟨by rw [E9.out]; rfl, HU1.out⟩
  by_cases h3 : kd = 3
  · subst h3
    have HG : Hid (GG = (nn && nm && !bb && decide (1 ≤ (ss.size : Int)) && decide ((ss.size : Int) ≤ 64))) := HGU
    clear HGU
    cases nn with
    | false =>
      have E9 : Hid (GG = false) := Lib.hid (by rw [HG.out]; simp)
      clear HG
      go_wp2
      go_ret
      exact ⟨by rw [E9.out]; rfl, HU1.out⟩
    | true =>
      cases nm with
      | false =>
        have E9 : Hid (GG = false) := Lib.hid (by rw [HG.out]; simp)
        clear HG
        go_wp2
        go_ret
        exact ⟨by rw [E9.out]; rfl, HU1.out⟩
      | true =>
        cases bb with
        | true =>
          have E9 : Hid (GG = false) := Lib.hid (by rw [HG.out]; simp)
          clear HG
          go_wp2
          go_ret
          exact ⟨by rw [E9.out]; rfl, HU1.out⟩
        | false =>
          by_cases gs1 : 1 ≤ (ss.size : Int)
          · by_cases gs64 : (ss.size : Int) ≤ 64
            · have E9 : Hid (GG = true) := Lib.hid (by rw [HG.out]; simp [gs1, gs64])
              clear HG
              go_wp2
              go_ret
              exact ⟨by rw [E9.out]; rfl, HU1.out⟩
            · have E9 : Hid (GG = false) := Lib.hid (by rw [HG.out]; simp [gs1, gs64])
              clear HG
              go_wp2
              go_ret
              exact ⟨by rw [E9.out]; rfl, HU1.out⟩
          · have E9 : Hid (GG = false) := Lib.hid (by rw [HG.out]; simp [gs1])
            clear HG
            go_wp2
            go_ret
            exact ⟨by rw [E9.out]; rfl, HU1.out⟩
  by_cases h4 : kd = 4
  · subst h4
    have HG : Hid (GG = (nn && nm && !bb && decide ((ss.size : Int) ≤ 1024))) := HGU
    clear HGU
    cases nn with
    | false =>
      have E9 : Hid (GG = false) := Lib.hid (by rw [HG.out]; simp)
      clear HG
      go_wp2
      go_ret
      exact ⟨by rw [E9.out]; rfl, HU1.out⟩
    | true =>
      cases nm with
      | false =>
        have E9 : Hid (GG = false) := Lib.hid (by rw [HG.out]; simp)
        clear HG
        go_wp2
        go_ret
        exact ⟨by rw [E9.out]; rfl, HU1.out⟩
      | true =>
        cases bb with
        | true =>
          have E9 : Hid (GG = false) := Lib.hid (by rw [HG.out]; simp)
          clear HG
          go_wp2
          go_ret
          exact ⟨by rw [E9.out]; rfl, HU1.out⟩
        | false =>
          by_cases gs1024 : (ss.size : Int) ≤ 1024
          · have E9 : Hid (GG = true) := Lib.hid (by rw [HG.out]; simp [gs1024])
            clear HG
            go_wp2
            go_ret
            exact ⟨by rw [E9.out]; rfl, HU1.out⟩
          · have E9 : Hid (GG = false) := Lib.hid (by rw [HG.out]; simp [gs1024])
            clear HG
            go_wp2
            go_ret
            exact ⟨by rw [E9.out]; rfl, HU1.out⟩
  by_cases h1 : kd = 1
  · subst h1
    have HG : Hid (GG = (nn && !bb && decide (ss.toList = []) && wg && decide ((nl : Int) ≤ 64))) := HGU
    clear HGU
    cases nn with
    | false =>
      have E9 : Hid (GG = false) := Lib.hid (by rw [HG.out]; simp)
      clear HG
      go_wp2
      go_ret
      exact ⟨by rw [E9.out]; rfl, HU1.out⟩
    | true =>
      cases bb with
      | true =>
        have E9 : Hid (GG = false) := Lib.hid (by rw [HG.out]; simp)
        clear HG
        go_wp2
        go_ret
        exact ⟨by rw [E9.out]; rfl, HU1.out⟩
      | false =>
        by_cases gse : ss.toList = []
        · have HG2 : Hid (GG = (wg && decide ((nl : Int) ≤ 64))) := Lib.hid (by rw [HG.out]; simp [gse])
          clear HG
          go_wp2_with fail
          refine hWG.out.mono ?_
          rintro e w4 ⟨rfl, hu4⟩
          have HU4 := Lib.hid (HU1.out.then hu4)
          obtain ⟨x0, x1, x2, x3, x4, x5, x6⟩ := Blk.seven (hu4.blk HBX.out (by simp))
          clear hu4 hWG
          cases wg with
          | false =>
            have E9 : Hid (GG = false) := Lib.hid (by rw [HG2.out]; rfl)
            clear HG2
            go_wp2
            go_ret
            exact ⟨by rw [E9.out]; rfl, HU4.out⟩
          | true =>
            go_wp2
            go_ret
            exact ⟨by rw [HG2.out]; rfl, HU4.out⟩
        · have E9 : Hid (GG = false) := Lib.hid (by rw [HG.out]; simp [gse])
          clear HG
          go_wp2
          go_ret
          exact ⟨by rw [E9.out]; rfl, HU1.out⟩
  by_cases h5 : kd = 5
  · subst h5
    have HG : Hid (GG = (nm && !bb && decide (ss.toList = []) && tok && al)) := HGU
    clear HGU
    obtain ⟨ok, hok⟩ : ∃ ok, ok = (nm && !bb && decide (ss.toList = []) && tok) := ⟨_, rfl⟩
    have HOK := Lib.hid hok
    clear hok
    go_upto_region 15 with (fail)
    go_cut [162] from 126 to 162 (fun s wx => s = .bool (!ok) ∧ wx = W1)
    case first =>
      cases nm with
      | false =>
        have e : Hid (ok = false) := Lib.hid (by rw [HOK.out]; simp)
        clear HOK HG
        go_wp2
        go_meet
        case rel => exact ⟨by rw [e.out]; rfl, rfl⟩
      | true =>
      cases bb with
      | true =>
        have e : Hid (ok = false) := Lib.hid (by rw [HOK.out]; simp)
        clear HOK HG
        go_wp2
        go_meet
        case rel => exact ⟨by rw [e.out]; rfl, rfl⟩
      | false =>
      by_cases gse : ss.toList = []
      case neg =>
        have e : Hid (ok = false) := Lib.hid (by rw [HOK.out]; simp [gse])
        clear HOK HG
        go_wp2
        go_meet
        case rel => exact ⟨by rw [e.out]; rfl, rfl⟩
      have HOK2 : Hid (ok = tok) := Lib.hid (by rw [HOK.out]; simp [gse])
      clear HOK HG
      by_cases t2 : 1 < nt
      · have e : Hid (ok = false) := Lib.hid (by rw [HOK2.out]; exact Bool.eq_false_iff.2 (fun h => by have := HTK.out.1 h; omega))
        have t2' : decide ((1 : Int) < (nt : Int)) = true := decide_eq_true (by omega)
        clear HOK2
        go_wp2
        go_meet
        case rel => exact ⟨by rw [e.out]; rfl, rfl⟩
      · have t2' : decide ((1 : Int) < (nt : Int)) = false := decide_eq_false (by omega)
        by_cases t1 : nt = 1
        · by_cases i0 : ni = 0
          · have e : Hid (ok = false) := Lib.hid (by rw [HOK2.out]; exact Bool.eq_false_iff.2 (fun h => by have := HTK.out.1 h; omega))
            clear HOK2 hT0 HTK
            subst t1
            subst i0
            go_wp2
            go_meet
            case rel => exact ⟨by rw [e.out]; rfl, rfl⟩
          · obtain ⟨b, o, rfl, hc⟩ := hT0.out _ HU1.out (by omega)
            have i0' : ((ni : Int) == 0) = false := by simpa using i0
            have e : Hid (ok = !(tk0 == 5)) := Lib.hid (by
              rw [HOK2.out, Bool.eq_iff_iff, HTK.out]
              simp only [Bool.not_eq_true', beq_eq_false_iff_ne]
              constructor
              · intro h; omega
              · intro h; exact .inr ⟨t1, by omega, h⟩)
            clear HOK2 hT0 HTK
            subst t1
            go_wp2
            go_meet
            case rel => exact ⟨by rw [e.out]; simp, rfl⟩
        · have t0 : nt = 0 := by omega
          have e : Hid (ok = true) := Lib.hid (by rw [HOK2.out]; exact HTK.out.2 (.inl t0))
          clear HOK2 hT0 HTK
          subst t0
          go_wp2
          go_meet
          case rel => exact ⟨by rw [e.out]; rfl, rfl⟩
    case rest =>
    obtain ⟨rfl, hwc⟩ := hcut
    rw [hwc]
    clear hwc wc
    cases ok with
    | false =>
      have E9 : Hid (GG = false) := Lib.hid (by rw [HG.out, ← HOK.out]; rfl)
      clear HG HOK
      go_wp2
      go_ret
      exact ⟨by rw [E9.out]; rfl, HU1.out⟩
    | true =>
      have HG2 : Hid (GG = al) := Lib.hid (by rw [HG.out, ← HOK.out]; simp)
      clear HG HOK
      have i0 : ∀ w, (Instr.index 78 (.agg #[.slice aI ni cI, .slice aT nt cT]) (.int .i64 0)).run Tryd.prog w = .ok (.slice aI ni cI) w := fun _ => by kernel_rfl
      have i1 : ∀ w, (Instr.index 78 (.agg #[.slice aI ni cI, .slice aT nt cT]) (.int .i64 1)).run Tryd.prog w = .ok (.slice aT nt cT) w := fun _ => by kernel_rfl
      have HI0 := Lib.hid i0
      have HI1 := Lib.hid i1
      clear i0 i1
      go_wp2_with fail
      go_loopw [168] (fun i wr => ∃ j : Nat, j ≤ 2 ∧ i = .int .i64 j ∧ Hid (∀ k, k < j → (ld k).all (goodN n) = true) ∧ Hid (Upd [] w wr)) (fun i _ => 2 - (intOf i).toNat)
      case atStart => exact ⟨0, by omega, rfl, Lib.hid (fun k hk => absurd hk (by omega)), HU1⟩
      case round =>
        obtain ⟨j, hj, rfl, hA, hUr⟩ := hrel
        by_cases hj2 : j < 2
        · obtain ⟨av, cv, hcase, hds, hdl⟩ := HROW.out j hj2
          have hnj := HNOT.out j hj2
          obtain ⟨ds, hds9⟩ : ∃ ds, ds = ld j := ⟨_, rfl⟩
          rw [← hds9] at hcase hds hdl hnj
          have hix : ∀ w, (Instr.index 78 (.agg #[.slice aI ni cI, .slice aT nt cT]) (.int .i64 j)).run Tryd.prog w = .ok (.slice av ds.length cv) w := by
            rcases hcase with ⟨rfl, e⟩ | ⟨rfl, e⟩
            · rw [e]; exact HI0.out
            · rw [e]; exact HI1.out
          obtain ⟨m, hm⟩ : ∃ m, m = ds.length := ⟨_, rfl⟩
          rw [← hm] at hix hdl
          have hj2' : (j : Int) < 2 := by omega
          have hj3' : decide ((j : Int) < 2) = true := decide_eq_true hj2'
          have HDS := Lib.hid hds
          have HNJ := Lib.hid hnj
          have HM := Lib.hid hm
          have HD9 := Lib.hid hds9
          clear hcase hds hnj hm hds9
          go_wp2_with fail
          go_loopw [173] (fun i wr => ∃ i0 : Nat, i0 ≤ m ∧ i = .int .i64 i0 ∧ Hid (∀ k, k < i0 → goodN n (ds.getD k default) = true) ∧ Hid (Upd [] w wr)) (fun i _ => m - (intOf i).toNat)
          case atStart => exact ⟨0, by omega, rfl, Lib.hid (fun k hk => absurd hk (by omega)), hUr⟩
          case round =>
            obtain ⟨i0, hi0, rfl, hA1, hUk⟩ := hrel
            by_cases hlt : i0 < m
            · have hkl : i0 < ds.length := by rw [← HM.out]; exact hlt
              have hlt' : (i0 : Int) < (m : Int) := by omega
              obtain ⟨b, o, cs, rfl, _, hat, hd0⟩ := HDS.out i0 hkl
              have hd1 := hd0.upd hUk.out
              obtain ⟨yL, zL, yI, zI, yT, zT, rfl⟩ := cells_agg hd1
              obtain ⟨q0, q1, q2, q3, q4, q5, q6⟩ := (hat.upd hUk.out (by simp)).cells
              obtain ⟨x, hx⟩ : ∃ x, x = ds.getD i0 default := ⟨_, rfl⟩
              rw [← hx] at hd1 q0 q1 q2 q3 q4 q5 q6
              have hu7 : Upd [] wr (wr.alloc (.cells #[.int .i64 x.kind, .bool x.neg, .slice yL x.limbs.length zL, .bool x.b, .string x.s, .slice yI x.items.length zI, .slice yT x.tail.length zT] 56)) := (Upd.refl [] wr).alloc _
              have hC := Lib.hid (HIH.out x _ (wr.alloc (.cells #[.int .i64 x.kind, .bool x.neg, .slice yL x.limbs.length zL, .bool x.b, .string x.s, .slice yI x.items.length zI, .slice yT x.tail.length zT] 56)) (hd1.upd hu7))
              have hU2 := Lib.hid (hUk.out.then hu7)
              have hn1 : Hid (goodN n x = false → GG = false) := Lib.hid (fun h => by
                rw [HG2.out]
                exact HNJ.out (all_not hkl (by rw [← hx]; exact h)))
              have hn2 : Hid (goodN n x = true → ∀ k, k < i0 + 1 → goodN n (ds.getD k default) = true) := Lib.hid (fun h k hk => by
                by_cases e : k = i0
                · rw [e, ← hx]; exact h
                · exact hA1.out k (by omega))
              unfold datCells at hC
              clear hd0 hat hd1 hx hu7 hA1
              generalize goodN n x = gx at *
              generalize x.kind = kd9 at *
              generalize x.neg = ng9 at *
              generalize x.limbs.length = nl9 at *
              generalize x.b = bb9 at *
              generalize x.s = ss9 at *
              generalize x.items.length = ni9 at *
              generalize x.tail.length = nt9 at *
              go_wp2_with fail
              refine hC.out.mono ?_
              rintro e w2 ⟨rfl, hu2⟩
              have hU3 := Lib.hid (hU2.out.then hu2)
              clear hC hUk hU2 hu2 q0 q1 q2 q3 q4 q5 q6
              cases gx with
              | false =>
                have E9 := Lib.hid (hn1.out rfl)
                clear hn1 hn2 HG2
                go_wp2
                go_ret
                exact ⟨by rw [E9.out]; rfl, hU3.out⟩
              | true =>
                have hn3 := Lib.hid (hn2.out rfl)
                clear hn1 hn2
                go_wp2
                go_roundw
                case rel => exact ⟨i0 + 1, by omega, by go_num, hn3, hU3⟩
                case measure => simp [intOf]; omega
            · have hkm : i0 = m := by omega
              have hlt' : ¬ (i0 : Int) < (m : Int) := by omega
              have hA2 : Hid (∀ k, k < j + 1 → (ld k).all (goodN n) = true) := Lib.hid (fun k hk => by
                by_cases e : k = j
                · rw [e, ← HD9.out]
                  exact all_at (fun q hq => hA1.out q (by rw [hkm, HM.out]; exact hq))
                · exact hA.out k (by omega))
              clear hA1 hkm
              go_wp2
              go_roundw
              case rel => exact ⟨j + 1, by omega, by go_num, hA2, hUk⟩
              case measure => simp [intOf]; omega
        · have hj3 : j = 2 := by omega
          have E9 : Hid (GG = true) := Lib.hid (by rw [HG2.out]; exact HALL.out (fun k hk => hA.out k (by omega)))
          subst hj3
          clear HG2
          go_wp2
          go_ret
          exact ⟨by rw [E9.out]; rfl, hUr.out⟩
  have n0 : (kd == 0) = false := by simpa using h0
  have n1 : (kd == 1) = false := by simpa using h1
  have n2 : (kd == 2) = false := by simpa using h2
  have n3 : (kd == 3) = false := by simpa using h3
  have n4 : (kd == 4) = false := by simpa using h4
  have n5 : (kd == 5) = false := by simpa using h5
  have E9 : Hid (GG = false) := Lib.hid (by rw [HGU.out, if_neg h0, if_neg h1, if_neg h2, if_neg h3, if_neg h4, if_neg h5])
  clear HGU
  go_wp2
  go_ret
  exact ⟨by rw [E9.out]; rfl, HU1.out⟩
theorem ris_calls : ∀ n, RIsSaid n
  | 0 => fun _ _ _ h => h.elim
  | n + 1 => ris_step n (ris_calls n)
set_option maxRecDepth 100000 in
set_option maxHeartbeats 1500000 in
theorem RGood_calls {P : Nat → Prop} {n : Nat} {d : Dat} {cs : List Value} {w : World} (h : IsD w P n cs d) :
    Calls Tryd.prog 32 #[.agg cs.toArray] w fun e w' => e = .returned (.bool (decide (0 ≤ budN n d 5000 200) && goodN n d)) ∧ Upd [] w w' := by
  obtain ⟨k1, n1, a1, l1, p1, b1, s1, i1, m1, d1, t1, o1, q1, rfl⟩ := h.shaped
  have hC := Lib.hid (fun (W : World) (hu : Upd [] w W) => small_calls (h.upd hu) 5000 200 (by omega) (by omega) (by omega) (by omega))
  have hG := Lib.hid (fun (W : World) (hu : Upd [] w W) => ris_calls n d _ W ((h.upd hu).mono fun _ _ _ => trivial))
  have hB := Lib.hid (Blk.new w [.int .i64 k1, .bool n1, .slice a1 l1 p1, .bool b1, .string s1, .slice i1 m1 d1, .slice t1 o1 q1] 56)
  have hU := Lib.hid ((Upd.refl [] w).alloc (.cells #[.int .i64 k1, .bool n1, .slice a1 l1 p1, .bool b1, .string s1, .slice i1 m1 d1, .slice t1 o1 q1] 56))
  clear h
  unfold datCells at *
  obtain ⟨r, hr⟩ : ∃ r, r = decide (0 ≤ budN n d 5000 200) := ⟨_, rfl⟩
  rw [← hr] at hC ⊢
  clear hr
  generalize goodN n d = g at *
  go_enter Tryd.func32, Tryd.ntmps32
  go_wp2_with fail
  refine (hC.out _ hU.out).mono ?_
  rintro e w2 ⟨rfl, hu2⟩
  have hx2 := hu2.blk hB.out (by simp)
  obtain ⟨x0, x1, x2, x3, x4, x5, x6⟩ := Blk.seven hx2
  have HU2 := Lib.hid (hU.out.then hu2)
  clear hu2 hx2 hB hU hC
  cases r with
  | true =>
    go_wp2_with fail
    refine (hG.out _ HU2.out).mono ?_
    rintro e w3 ⟨rfl, hu3⟩
    have HU3 := Lib.hid (HU2.out.then hu3)
    clear hu3 hG
    go_wp2
    go_ret
    exact ⟨rfl, HU3.out⟩
  | false =>
    go_wp2
    go_ret
    exact ⟨rfl, HU2.out⟩
end Go.Proofs.YtknbgbeepachgaaDoor
