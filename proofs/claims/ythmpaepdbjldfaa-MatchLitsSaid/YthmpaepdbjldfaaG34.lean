/-
  Texts of this claim, merged: MaT, MaU, MaV, MaW, MaX. Lemmas and contracts; no conditions of our own.
-/
import Derived.Test.YthmpaepdbjldfaaG16
import Derived.Test.YthmpaepdbjldfaaG19
import Derived.Test.YthmpaepdbjldfaaG33

/-
  match.Match.
-/
namespace Go.Proofs.Ythmpaepdbjldfaa
set_option linter.unusedVariables false
set_option linter.unusedSimpArgs false
open Go.RowKit Go.Shelf

theorem match_calls (ls : List Lk) (m : Nat) : ∀ n, MatchSaid ls m n
  | 0 => fun _ _ _ _ _ _ _ _ _ _ _ _ _ _ _ _ _ _ _ h => h.elim
  | n + 1 =>
    have ih := match_calls ls m n
    have ia := all_step ih
    match_step (list_step ih ia (row_step ih ia))
/-- What Match answers. -/
def matchM (ls : List Lk) (m : Nat) (p d : Dat) : Option (List Bd) := if checkM ls m p = 0 ∧ goodM m d = true then matchN ls (sameN m) m p d else none
def MatchPost (w : World) (m : Nat) (res : Option (List Bd)) (e : Ending) (w' : World) : Prop :=
  Upd [] w w' ∧ match res with
    | none => e = .returned (.tuple #[.slice none 0 0, .bool false])
    | some bs => ∃ a c, e = .returned (.tuple #[.slice a bs.length c, .bool true]) ∧ RowK w' (fun b => w.heap.size ≤ b) 10 (IsB w' (fun b => w.heap.size ≤ b) m m) a bs ∧ bs.length ≤ c
theorem check_zero {ls : List Lk} {n : Nat} {p : Dat} (h : checkM ls n p = 0) : goodN n p = true ∧ wrongN ls n p = false ∧ ((placesN ls n p 0).map Prod.fst).Nodup := by
  unfold checkM at h
  by_cases h1 : goodM n p = false
  · rw [if_pos h1] at h
    cases h
  · rw [if_neg h1] at h
    by_cases h2 : ((placesN ls n p 0).map Prod.fst).Nodup
    · rw [if_neg (fun hh => hh h2)] at h
      by_cases h3 : wrongN ls n p = true
      · rw [if_pos h3] at h
        cases h
      · refine ⟨?_, by simpa using h3, h2⟩
        have h4 : goodM n p = true := by simpa using h1
        unfold goodM at h4
        rw [Bool.and_eq_true] at h4
        exact h4.2
    · rw [if_pos h2] at h
      cases h
set_option maxRecDepth 100000 in
set_option maxHeartbeats 3000000 in
theorem Match_calls {ls : List Lk} {m : Nat} {p d : Dat} {cp cd : List Value} {w : World} {aL : Option Addr} {P P' P2 : Nat → Prop} (nL cL : Nat) (hp : IsD w P m cp p) (hd : IsD w P' m cd d) (hL : Likes w P2 aL ls) (hnL : ls.length = nL) (hnb : nL ≤ 1000000)
    (hsp : szN m p ≤ 5000) (hsd : szN m d ≤ 5000) (hdd : dpN m d ≤ 200) :
    Calls Try.prog 19 #[.agg cp.toArray, .agg cd.toArray, .slice aL nL cL] w (MatchPost w m (matchM ls m p d)) := by
  have hp0 := hp.old
  have hd0 := hd.old
  have hL0 : Likes w (fun b => b < w.heap.size) aL ls := hL.mono (fun b hb _ => hb)
  have hC := Lib.hid (fun (W : World) (hu : Upd [] w W) => Check_calls nL cL (hp.upd hu) (hL.upd hu) hnL hnb (by omega))
  have hG := Lib.hid (fun (W : World) (hu : Upd [] w W) => Good_calls (hd.upd hu) (by omega))
  have hMt : Hid (checkM ls m p = 0 → goodM m d = true → ∀ (W : World) (M : Nat), Upd [] w W → MSt w.heap.size W M aL nL cL m m (.slice none 0 0) [] → Calls Try.prog 47 #[.pointer (some ⟨M, 0, none⟩), .agg cp.toArray, .agg cd.toArray] W (MPost w.heap.size W M aL nL cL m m (.slice none 0 0) [] (matchN ls (sameN m) m p d))) := Lib.hid (fun h1 h2 W M hu hM => by
    obtain ⟨c1, c2, _⟩ := check_zero h1
    have hgd : goodN m d = true := by
      unfold goodM at h2
      rw [Bool.and_eq_true] at h2
      exact h2.2
    exact match_calls ls m m p d cp cd W w.heap.size M aL nL cL m (.slice none 0 0) [] hM (hL0.upd hu) hnL hnb (Nat.le_refl _) (Nat.le_refl _) (hp0.upd hu) c1 c2 hsp (hd0.upd hu) hgd hsd hdd (by simp; omega))
  have HRU : Hid (matchM ls m p d = if checkM ls m p = 0 ∧ goodM m d = true then matchN ls (sameN m) m p d else none) := Lib.hid rfl
  have HG9 : Hid (goodM m d = (decide (0 ≤ budN m d 5000 200) && goodN m d)) := Lib.hid rfl
  obtain ⟨gg, hgg⟩ : ∃ g, g = (decide (0 ≤ budN m d 5000 200) && goodN m d) := ⟨_, rfl⟩
  rw [← hgg] at hG HG9
  obtain ⟨CC, hCC⟩ : ∃ c, c = checkM ls m p := ⟨_, rfl⟩
  rw [← hCC] at hC hMt HRU
  obtain ⟨RR, hRR⟩ : ∃ r, r = matchN ls (sameN m) m p d := ⟨_, rfl⟩
  rw [← hRR] at hMt HRU
  obtain ⟨RES, hRES⟩ : ∃ r, r = matchM ls m p d := ⟨_, rfl⟩
  rw [← hRES] at HRU ⊢
  obtain ⟨k1, n1, a1, l1, p1, b1, s1, i1, m1, d1, t1, o1, q1, rfl⟩ := hp.shaped7
  obtain ⟨k2, n2, a2, l2, p2, b2, s2, i2, m2, d2, t2, o2, q2, rfl⟩ := hd.shaped7
  obtain ⟨W2, hW2⟩ : ∃ W2, W2 = (w.alloc (.cells #[.int .i64 k1, .bool n1, .slice a1 l1 p1, .bool b1, .string s1, .slice i1 m1 d1, .slice t1 o1 q1] 27)).alloc (.cells #[.int .i64 k2, .bool n2, .slice a2 l2 p2, .bool b2, .string s2, .slice i2 m2 d2, .slice t2 o2 q2] 27) := ⟨_, rfl⟩
  have hu2 : Upd [] w W2 := by rw [hW2]; exact ((Upd.refl [] w).alloc _).alloc _
  have hb2 : Blk W2 w.heap.size [.int .i64 k1, .bool n1, .slice a1 l1 p1, .bool b1, .string s1, .slice i1 m1 d1, .slice t1 o1 q1] 27 := by rw [hW2]; exact (Blk.newAt rfl).alloc _
  have hb3 : Blk W2 (w.heap.size + 1) [.int .i64 k2, .bool n2, .slice a2 l2 p2, .bool b2, .string s2, .slice i2 m2 d2, .slice t2 o2 q2] 27 := by rw [hW2]; exact Blk.newAt (by simp)
  have HB2 := Lib.hid hb2
  have HB3 := Lib.hid hb3
  have HU2 := Lib.hid hu2
  have HW2 := Lib.hid hW2
  clear hgg hCC hRR hRES hp hd hL hp0 hd0 hL0 hnL hnb hsp hsd hdd hu2 hb2 hb3 hW2
  go_enter Try.func19, Try.ntmps19
  go_wp2_with fail
  rw [← HW2.out]
  refine (hC.out _ HU2.out).mono ?_
  rintro e w3 ⟨rfl, hu3⟩
  have hb2 := hu3.blk HB2.out (by simp)
  have hb3 := hu3.blk HB3.out (by simp)
  obtain ⟨x0, x1, x2, x3, x4, x5, x6⟩ := Blk.seven hb2
  obtain ⟨y0, y1, y2, y3, y4, y5, y6⟩ := Blk.seven hb3
  have HC2 := Lib.hid hb2
  have HC3 := Lib.hid hb3
  have HU3 := Lib.hid (HU2.out.then hu3)
  have hlt3 := hb3.lt
  clear hC hb2 hb3 hu3 HB2 HB3 HU2 HW2
  by_cases hc : CC = 0
  · subst hc
    go_wp2_with fail
    refine (hG.out _ HU3.out).mono ?_
    rintro e w4 ⟨rfl, hu4⟩
    have hb2 := hu4.blk HC2.out (by simp)
    have hb3 := hu4.blk HC3.out (by simp)
    obtain ⟨x0, x1, x2, x3, x4, x5, x6⟩ := Blk.seven hb2
    obtain ⟨y0, y1, y2, y3, y4, y5, y6⟩ := Blk.seven hb3
    have HU4 := Lib.hid (HU3.out.then hu4)
    have hlt4 := hb3.lt
    have hlt5 := hb2.lt
    clear hG hb2 hb3 hu4 HC2 HC3 HU3
    cases gg with
    | false =>
      have HX : Hid (RES = none) := Lib.hid (by rw [HRU.out, if_neg (fun h => by have := h.2; rw [HG9.out] at this; cases this)])
      clear HRU HG9 hMt
      go_wp2
      refine bodyPost_ret (v := .tuple #[.slice none 0 0, .bool false]) ?_ rfl ⟨HU4.out, by rw [HX.out]⟩
      simp [results, Try.results19, go_sem]
    | true =>
      have HX : Hid (RES = RR) := Lib.hid (by rw [HRU.out, if_pos ⟨by trivial, HG9.out⟩])
      have HMC := Lib.hid (hMt.out (by trivial) HG9.out)
      have hM5 : MSt w.heap.size (w4.alloc (.cells #[.slice aL nL cL, .slice none 0 0] 85)) w4.heap.size aL nL cL m m (.slice none 0 0) [] := ⟨Blk.newAt rfl, OwnK.nil _ _ _ _ _, HU4.out.size⟩
      have HM5 := Lib.hid hM5
      have HU5 := Lib.hid (HU4.out.alloc (.cells #[.slice aL nL cL, .slice none 0 0] 85))
      clear HRU HG9 hMt hM5
      go_wp2_with fail
      refine (HMC.out _ _ HU5.out HM5.out).mono ?_
      rintro e w6 ⟨rfl, hu6, hs6⟩
      have HU6 : Hid (Upd [] w w6) := Lib.hid (HU5.out.onto hu6 (fun x hx => by
        have hx2 : x = w4.heap.size := by simpa [Value.ownBlock] using hx
        have := HU4.out.size
        omega))
      have HS6 := Lib.hid hs6
      clear hu6 hs6 HMC HM5 HU5 x0 x1 x2 x3 x4 x5 x6 y0 y1 y2 y3 y4 y5 y6
      cases RR with
      | none =>
        clear HS6
        go_wp2
        refine bodyPost_ret (v := .tuple #[.slice none 0 0, .bool false]) ?_ rfl ⟨HU6.out, by rw [HX.out]⟩
        simp [results, Try.results19, go_sem]
      | some bs =>
        obtain ⟨v', hM7, _⟩ := HS6.out bs rfl
        rw [List.nil_append] at hM7
        obtain ⟨a7, c7, rfl, hR7, hc7⟩ := hM7.own.row
        have g1 := hM7.blk.cell_some (i := 1) rfl
        have HR7 := Lib.hid (hR7.map (Q := fun b => w.heap.size ≤ b) (R' := IsB w6 (fun b => w.heap.size ≤ b) m m) (by decide) (fun b _ hp => hp.1) (fun _ _ _ _ h => h) (fun _ _ h => h.mono (fun b _ hp => hp.1)))
        clear HS6 hM7 hR7
        go_wp2
        refine bodyPost_ret (v := .tuple #[.slice a7 bs.length c7, .bool true]) ?_ rfl ⟨HU6.out, by rw [HX.out]; exact ⟨a7, c7, rfl, HR7.out, hc7⟩⟩
        simp [results, Try.results19, go_sem]
  · have hc' : (CC == 0) = false := by simpa using hc
    have HX : Hid (RES = none) := Lib.hid (by rw [HRU.out, if_neg (fun h => hc h.1)])
    clear HRU HG9 hMt hG
    go_wp2
    refine bodyPost_ret (v := .tuple #[.slice none 0 0, .bool false]) ?_ rfl ⟨HU3.out, by rw [HX.out]⟩
    simp [results, Try.results19, go_sem]
end Go.Proofs.Ythmpaepdbjldfaa

/-
  Templates: the plain forms of what fills them; (match.scope).at, match.escaped, (*match.filler).fail.
-/
namespace Go.Proofs.Ythmpaepdbjldfaa
set_option linter.unusedVariables false
set_option linter.unusedSimpArgs false
open Go.RowKit Go.Shelf

/-- A name's tree, inner ones first. -/
def atF (s : List Bd) (nm : ByteArray) : Option Tr := (s.find? fun b => decide (b.name = nm)).map Bd.t
def escF (t : Dat) : Bool := decide (t.kind = 5) && (decide (t.items.length = 2) && (decide (t.tail.length = 0) && isF (t.items.getD 0 default) dotsB))
/-- The names that are bound to many. -/
def manyN : Nat → List Bd → Dat → Bool → List ByteArray
  | 0, _, _, _ => []
  | n + 1, s, t, pl => if t.kind = 3 then (match atF s t.s with | some x => if x.many && (pl || decide (t.s ≠ dotsB)) then [t.s] else [] | none => [])
    else if !pl && escF t then manyN n s (t.items.getD 1 default) true
    else (t.items ++ t.tail).flatMap fun x => manyN n s x pl
/-- What is left, and the first error. -/
structure St where
  left : Int
  e : Int
def St.fail (st : St) (e : Int) : St := if st.e = 0 then ⟨st.left, e⟩ else st
theorem find_atB {l : List Bd} {s : ByteArray} {j : Nat} (h : ∀ i, i < j → decide ((l.getD i default).name = s) = false) (hj : j < l.length) (e : (l.getD j default).name = s) : atF l s = some (l.getD j default).t := by
  have : l.find? (fun b => decide (b.name = s)) = some (l.getD j default) := by
    rw [List.find?_eq_some_iff_getElem]
    refine ⟨by simpa using e, j, hj, ?_, fun i hi => ?_⟩
    · rw [List.getD_eq_getElem?_getD, List.getElem?_eq_getElem hj]
      rfl
    · have := h i hi
      rw [List.getD_eq_getElem?_getD, List.getElem?_eq_getElem (by omega)] at this
      simpa using this
  unfold atF
  rw [this]
  rfl
theorem find_noneB {l : List Bd} {s : ByteArray} (h : ∀ i, i < l.length → decide ((l.getD i default).name = s) = false) : atF l s = none := by
  have : l.find? (fun b => decide (b.name = s)) = none := by
    rw [List.find?_eq_none]
    intro x hx
    obtain ⟨i, hi, rfl⟩ := List.getElem_of_mem hx
    have := h i hi
    rw [List.getD_eq_getElem?_getD, List.getElem?_eq_getElem hi] at this
    simpa using this
  unfold atF
  rw [this]
  rfl
/-- What at answers. -/
def AtPost (w : World) (P : Nat → Prop) (m N : Nat) (r : Option Tr) (e : Ending) (w' : World) : Prop :=
  Upd [] w w' ∧ match r with
    | none => e = .returned (.tuple #[zeroTr, .bool false])
    | some x => ∃ ct, e = .returned (.tuple #[.agg ct.toArray, .bool true]) ∧ IsT w P m N ct x
set_option maxRecDepth 100000 in
set_option maxHeartbeats 3000000 in
theorem at_calls {w : World} {P : Nat → Prop} {m N : Nat} {a : Option Addr} {s : List Bd} {P2 : Nat → Prop} (nm : ByteArray) (k c : Nat) (hk : s.length = k) (hR : RowK w P2 10 (IsB w P m N) a s) (hkb : k ≤ 100000000) :
    Calls Try.prog 103 #[.slice a k c, .string nm] w (AtPost w P m N (atF s nm)) := by
  have HR := Lib.hid hR
  have HK := Lib.hid hk
  have hB0 : Blk (w.alloc (.cells #[.int .i64 0, .bool false, .slice none 0 0, .bool false, .string ⟨#[]⟩, .slice none 0 0, .slice none 0 0, .bool false, .slice none 0 0] 64)) w.heap.size [.int .i64 0, .bool false, .slice none 0 0, .bool false, .string ⟨#[]⟩, .slice none 0 0, .slice none 0 0, .bool false, .slice none 0 0] 64 := Blk.newAt rfl
  have HB0 := Lib.hid hB0
  have HU0 := Lib.hid ((Upd.refl [] w).alloc (.cells #[.int .i64 0, .bool false, .slice none 0 0, .bool false, .string ⟨#[]⟩, .slice none 0 0, .slice none 0 0, .bool false, .slice none 0 0] 64))
  obtain ⟨AR, hAR⟩ : ∃ A, A = atF s nm := ⟨_, rfl⟩
  rw [← hAR]
  have HAR := Lib.hid hAR
  clear hR hk hB0 hAR
  go_enter Try.func103, Try.ntmps103
  go_wp2_with fail
  obtain ⟨W1, hW1⟩ : ∃ W1, W1 = w.alloc (.cells #[.int .i64 0, .bool false, .slice none 0 0, .bool false, .string ⟨#[]⟩, .slice none 0 0, .slice none 0 0, .bool false, .slice none 0 0] 64) := ⟨_, rfl⟩
  rw [← hW1] at HB0 HU0 ⊢
  clear hW1
  go_loopw [10] (fun i8 wr => ∃ j : Nat, j ≤ k ∧ i8 = .int .i64 j ∧ Hid (∀ i, i < j → decide ((s.getD i default).name = nm) = false) ∧ Hid (Upd [] W1 wr)) (fun i8 _ => k - (intOf i8).toNat)
  case atStart => exact ⟨0, by omega, rfl, Lib.hid (fun i hi => by omega), Lib.hid (Upd.refl _ _)⟩
  case round =>
    obtain ⟨j, hj, rfl, hG, hU⟩ := hrel
    have hbr := hU.out.blk HB0.out (by simp)
    obtain ⟨r0, r1, r2, r3, r4, r5, r6, r7, r8⟩ := hbr.nine
    have hlr := hbr.lt
    by_cases hlt : j < k
    · have hjs : j < s.length := by rw [HK.out]; exact hlt
      obtain ⟨b, o, cb, rfl, hp, hat, ct, rfl, hct⟩ := HR.out j hjs
      have hatr := hat.upd (HU0.out.then hU.out) (by simp)
      obtain ⟨tk, tn, ta, tl, tc, tb, ts, ti, tm, td, te, tf, tg, tK, tL, rfl⟩ := hct.shaped
      obtain ⟨g0, g1, g2, g3, g4, g5, g6, g7, g8, g9⟩ := hatr.ten
      have hltb : b < wr.heap.size := hatr.lt (by decide)
      have HF := Lib.hid (fun h => find_atB hG.out hjs h)
      have HNX : Hid (decide ((s.getD j default).name = nm) = false → ∀ i, i < j + 1 → decide ((s.getD i default).name = nm) = false) := Lib.hid (fun h i hi => by
        by_cases hij : i < j
        · exact hG.out i hij
        · rw [show i = j by omega]
          exact h)
      obtain ⟨x, hx⟩ : ∃ x, x = s.getD j default := ⟨_, rfl⟩
      rw [← hx] at hct HF HNX g0 g8 g9
      have HCT := Lib.hid hct
      obtain ⟨xn, hxn⟩ : ∃ n, n = x.name := ⟨_, rfl⟩
      obtain ⟨mny, hmny⟩ : ∃ b, b = x.t.many := ⟨_, rfl⟩
      obtain ⟨kln, hkln⟩ : ∃ k, k = x.t.kids.length := ⟨_, rfl⟩
      rw [← hxn] at g0 HF HNX
      rw [← hmny] at g8 HCT
      rw [← hkln] at g9 HCT
      have HU2 := Lib.hid (hU.out.alloc (.cells #[.string xn, .int .i64 tk, .bool tn, .slice ta tl tc, .bool tb, .string ts, .slice ti tm td, .slice te tf tg, .bool mny, .slice tK kln tL] 66))
      have hbA : Blk (wr.alloc (.cells #[.string xn, .int .i64 tk, .bool tn, .slice ta tl tc, .bool tb, .string ts, .slice ti tm td, .slice te tf tg, .bool mny, .slice tK kln tL] 66)) w.heap.size [.int .i64 0, .bool false, .slice none 0 0, .bool false, .string ⟨#[]⟩, .slice none 0 0, .slice none 0 0, .bool false, .slice none 0 0] 64 := hbr.alloc _
      have HBA := Lib.hid hbA
      clear hct hat hatr hx hxn hmny hkln hG hbA
      by_cases hr : xn = nm
      · have HX : Hid (AR = some x.t) := Lib.hid (by rw [HAR.out, HF.out hr])
        have hr' : (xn.toList == nm.toList) = true := by rw [hr]; simp
        have HR9 := Lib.hid hr
        have hbx : Blk (wr.alloc (.cells #[.string xn, .int .i64 tk, .bool tn, .slice ta tl tc, .bool tb, .string ts, .slice ti tm td, .slice te tf tg, .bool mny, .slice tK kln tL] 66)) wr.heap.size [.string xn, .int .i64 tk, .bool tn, .slice ta tl tc, .bool tb, .string ts, .slice ti tm td, .slice te tf tg, .bool mny, .slice tK kln tL] 66 := Blk.newAt rfl
        have HBX := Lib.hid hbx
        clear HF HNX HAR hbr hr hU hbx
        go_upto_region 5 with (fail)
        obtain ⟨W2, hW2⟩ : ∃ W2, W2 = wr.alloc (.cells #[.string xn, .int .i64 tk, .bool tn, .slice ta tl tc, .bool tb, .string ts, .slice ti tm td, .slice te tf tg, .bool mny, .slice tK kln tL] 66) := ⟨_, rfl⟩
        rw [← hW2] at HBA HU2 HBX ⊢
        clear hW2 r0 r1 r2 r3 r4 r5 r6 r7 r8 g0 g1 g2 g3 g4 g5 g6 g7 g8 g9
        obtain ⟨r0, r1, r2, r3, r4, r5, r6, r7, r8⟩ := HBA.out.nine
        obtain ⟨x0, x1, x2, x3, x4, x5, x6, x7, x8, x9⟩ := HBX.out.ten
        have hl1 := HBA.out.lt
        have hl2 := HBX.out.lt
        have f0 := HBA.out.free 0
        have f1 := HBA.out.free 1
        have f2 := HBA.out.free 2
        have f3 := HBA.out.free 3
        have f4 := HBA.out.free 4
        have f5 := HBA.out.free 5
        have f6 := HBA.out.free 6
        have f7 := HBA.out.free 7
        have f8 := HBA.out.free 8
        go_wp2
        have hBf := (((((((((HBA.out.set 0 (.int .i64 tk)).set 1 (.bool tn)).set 2 (.slice ta tl tc)).set 3 (.bool tb)).set 4 (.string ts)).set 5 (.slice ti tm td)).set 6 (.slice te tf tg)).set 7 (.bool mny)).set 8 (.slice tK kln tL))
        obtain ⟨k0, k1, k2, k3, k4, k5, k6, k7, k8⟩ := hBf.nine
        refine bodyPost_ret (v := .tuple #[.agg #[.int .i64 tk, .bool tn, .slice ta tl tc, .bool tb, .string ts, .slice ti tm td, .slice te tf tg, .bool mny, .slice tK kln tL], .bool true]) ?_ rfl ⟨?_, by rw [HX.out]; exact ⟨_, rfl, HCT.out⟩⟩
        · simp [results, Try.results103, go_sem, k0, k1, k2, k3, k4, k5, k6, k7, k8]
        · exact (HU0.out.then HU2.out).put9 (.inr (Nat.le_refl _)) 0 (.int .i64 tk) (.bool tn) (.slice ta tl tc) (.bool tb) (.string ts) (.slice ti tm td) (.slice te tf tg) (.bool mny) (.slice tK kln tL)
      · have HX := Lib.hid (HNX.out (decide_eq_false hr))
        have hr' : (xn.toList == nm.toList) = false := by rw [str_eq, decide_eq_false hr]
        clear HF HNX hr hbr
        go_wp2
        go_roundw
        case rel => exact ⟨j + 1, by omega, by go_num, HX, HU2⟩
        case measure => simp [intOf]; omega
    · obtain rfl : k = j := by omega
      have HX : Hid (AR = none) := Lib.hid (by rw [HAR.out, find_noneB (fun i hi => hG.out i (by rw [← HK.out]; exact hi))])
      have f0 := hbr.free 0
      have f1 := hbr.free 1
      have f2 := hbr.free 2
      have f3 := hbr.free 3
      have f4 := hbr.free 4
      have f5 := hbr.free 5
      have f6 := hbr.free 6
      have f7 := hbr.free 7
      have f8 := hbr.free 8
      have HBR := Lib.hid hbr
      clear hbr hG
      go_wp2
      have hBf := (((((((((HBR.out.set 0 (.int .i64 0)).set 1 (.bool false)).set 2 (.slice none 0 0)).set 3 (.bool false)).set 4 (.string ⟨#[]⟩)).set 5 (.slice none 0 0)).set 6 (.slice none 0 0)).set 7 (.bool false)).set 8 (.slice none 0 0))
      obtain ⟨k0, k1, k2, k3, k4, k5, k6, k7, k8⟩ := hBf.nine
      refine bodyPost_ret (v := .tuple #[zeroTr, .bool false]) ?_ rfl ⟨?_, by rw [HX.out]⟩
      · simp [results, Try.results103, go_sem, k0, k1, k2, k3, k4, k5, k6, k7, k8, zeroTr]
        rfl
      · exact (HU0.out.then hU.out).put9 (.inr (Nat.le_refl _)) 0 (.int .i64 0) (.bool false) (.slice none 0 0) (.bool false) (.string ⟨#[]⟩) (.slice none 0 0) (.slice none 0 0) (.bool false) (.slice none 0 0)
end Go.Proofs.Ythmpaepdbjldfaa

/-
  match.escaped, (*match.filler).fail, (match.scope).many.
-/
namespace Go.Proofs.Ythmpaepdbjldfaa
set_option linter.unusedVariables false
set_option linter.unusedSimpArgs false
open Go.RowKit Go.Shelf

set_option maxRecDepth 100000 in
set_option maxHeartbeats 3000000 in
theorem escaped_calls {P : Nat → Prop} {n : Nat} {t : Dat} {cs : List Value} {w : World} (h : IsD w P n cs t) :
    Calls Try.prog 81 #[.agg cs.toArray] w fun e w' => e = .returned (.bool (escF t)) ∧ Upd [] w w' := by
  cases n with
  | zero => exact h.elim
  | succ n =>
  obtain ⟨aL, cL, aI, cI, aT, cT, rfl, l1, r1, r2, hcap, hbd⟩ := h
  have HR1 := Lib.hid r1
  have HE : Hid (escF t = (decide (t.kind = 5) && (decide (t.items.length = 2) && (decide (t.tail.length = 0) && isF (t.items.getD 0 default) dotsB)))) := Lib.hid rfl
  obtain ⟨E, hE⟩ : ∃ E, E = escF t := ⟨_, rfl⟩
  rw [← hE] at HE ⊢
  have hU := Lib.hid ((Upd.refl [] w).alloc (.cells #[.int .i64 t.kind, .bool t.neg, .slice aL t.limbs.length cL, .bool t.b, .string t.s, .slice aI t.items.length cI, .slice aT t.tail.length cT] 27))
  clear hE l1 r1 r2 hcap hbd
  unfold datCells
  have HL2 : Hid (t.items.length = t.items.length) := Lib.hid rfl
  obtain ⟨ni, hni⟩ : ∃ ni, t.items.length = ni := ⟨_, rfl⟩
  obtain ⟨nt, hnt⟩ : ∃ nt, t.tail.length = nt := ⟨_, rfl⟩
  have HNI := Lib.hid hni
  rw [hni] at HE hU ⊢
  rw [hnt] at HE hU ⊢
  clear hni hnt HL2
  generalize t.kind = kd at *
  generalize t.neg = ng at *
  generalize t.limbs.length = nl at *
  generalize t.b = bb at *
  generalize t.s = ss at *
  go_enter Try.func81, Try.ntmps81
  by_cases hk : kd = 5
  · by_cases h2 : ni = 2
    · by_cases h0 : nt = 0
      · subst hk
        subst h2
        subst h0
        obtain ⟨b, o, cx, rfl, _, hat, hdx⟩ := HR1.out 0 (by rw [HNI.out]; omega)
        rw [Nat.zero_mul, Nat.add_zero] at hat
        have HI := Lib.hid (fun (W : World) (hu : Upd [] w W) => is_callsM dotsB (hdx.upd hu))
        obtain ⟨k1, n1, a1, l1, p1, b1, s1, i1, m1, d1, t1, o1, q1, rfl⟩ := hdx.shaped7
        obtain ⟨y0, y1, y2, y3, y4, y5, y6⟩ := hat.cells
        have hltb : b < w.heap.size := hat.lt
        have HX : Hid (E = isF (t.items.getD 0 default) dotsB) := Lib.hid (by rw [HE.out]; simp)
        unfold dotsB at HI HX
        generalize isF (t.items.getD 0 default) ⟨#[46, 46, 46]⟩ = r at *
        clear hat hdx HE
        go_wp2_with fail
        refine (HI.out _ hU.out).mono ?_
        rintro e w2 ⟨rfl, hu2⟩
        have HU2 := Lib.hid (hU.out.then hu2)
        clear hu2 HI
        go_wp2
        go_ret
        exact ⟨by rw [HX.out]; rfl, HU2.out⟩
      · have h0' : ((nt : Int) == 0) = false := by simpa using h0
        have HX : Hid (E = false) := Lib.hid (by rw [HE.out, decide_eq_false h0]; simp)
        subst hk
        subst h2
        clear HE
        go_wp2
        go_ret
        exact ⟨by rw [HX.out]; rfl, hU.out⟩
    · have h2' : ((ni : Int) == 2) = false := by
        have : ¬ (ni : Int) = 2 := by omega
        simpa using this
      have HX : Hid (E = false) := Lib.hid (by rw [HE.out, decide_eq_false h2]; simp)
      subst hk
      clear HE
      go_wp2
      go_ret
      exact ⟨by rw [HX.out]; rfl, hU.out⟩
  · have hk' : (kd == 5) = false := by simpa using hk
    have HX : Hid (E = false) := Lib.hid (by rw [HE.out, decide_eq_false hk]; simp)
    clear HE
    go_wp2
    go_ret
    exact ⟨by rw [HX.out]; rfl, hU.out⟩
set_option maxRecDepth 100000 in
set_option maxHeartbeats 3000000 in
theorem fail_calls {w : World} {F : Nat} {l e0 : Int} (e1 : Int) (hB : Blk w F [.int .i64 l, .int .i64 e0] 93) :
    Calls Try.prog 78 #[.pointer (some ⟨F, 0, none⟩), .int .i64 e1] w fun e w' => e = .returned (.agg #[.int .i64 0, .bool false, .slice none 0 0, .bool false, .string ⟨#[]⟩, .slice none 0 0, .slice none 0 0]) ∧ Blk w' F [.int .i64 l, .int .i64 (if e0 = 0 then e1 else e0)] 93 ∧ Upd [F] w w' := by
  have hltF := hB.lt
  have hu1 : Upd [F] w (w.alloc (.cells #[.int .i64 0, .bool false, .slice none 0 0, .bool false, .string ⟨#[]⟩, .slice none 0 0, .slice none 0 0] 27)) := (Upd.refl _ w).alloc _
  have hb1 : Blk (w.alloc (.cells #[.int .i64 0, .bool false, .slice none 0 0, .bool false, .string ⟨#[]⟩, .slice none 0 0, .slice none 0 0] 27)) w.heap.size [.int .i64 0, .bool false, .slice none 0 0, .bool false, .string ⟨#[]⟩, .slice none 0 0, .slice none 0 0] 27 := Blk.newAt rfl
  have hF1 := hB.alloc (.cells #[.int .i64 0, .bool false, .slice none 0 0, .bool false, .string ⟨#[]⟩, .slice none 0 0, .slice none 0 0] 27)
  have HU1 := Lib.hid hu1
  have HB1 := Lib.hid hb1
  have HF1 := Lib.hid hF1
  clear hB hu1 hb1 hF1
  go_enter Try.func78, Try.ntmps78
  go_upto_region 1 with (fail)
  obtain ⟨W1, hW1⟩ : ∃ W1, W1 = w.alloc (.cells #[.int .i64 0, .bool false, .slice none 0 0, .bool false, .string ⟨#[]⟩, .slice none 0 0, .slice none 0 0] 27) := ⟨_, rfl⟩
  rw [← hW1] at HU1 HB1 HF1 ⊢
  clear hW1
  have c0 := HF1.out.cell_some (i := 0) rfl
  have c1 := HF1.out.cell_some (i := 1) rfl
  have g1 := HF1.out.free 1
  have hlF := HF1.out.lt
  obtain ⟨r0, r1, r2, r3, r4, r5, r6⟩ := Blk.seven HB1.out
  have f0 := HB1.out.free 0
  have f1 := HB1.out.free 1
  have f2 := HB1.out.free 2
  have f3 := HB1.out.free 3
  have f4 := HB1.out.free 4
  have f5 := HB1.out.free 5
  have f6 := HB1.out.free 6
  have hlB := HB1.out.lt
  have hne : F ≠ w.heap.size := by omega
  have hne2 : w.heap.size ≠ F := by omega
  by_cases h0 : e0 = 0
  · subst h0
    go_upto_region 3 with (fail)
    obtain ⟨W2, hW2⟩ : ∃ W2, W2 = W1.setCell ⟨F, 1, none⟩ (.int .i64 e1) := ⟨_, rfl⟩
    have hb2 : Blk W2 w.heap.size [.int .i64 0, .bool false, .slice none 0 0, .bool false, .string ⟨#[]⟩, .slice none 0 0, .slice none 0 0] 27 := by rw [hW2]; exact HB1.out.set_other _ hne2
    have hF2 : Blk W2 F [.int .i64 l, .int .i64 e1] 93 := by rw [hW2]; exact HF1.out.set 1 _
    have hu2 : Upd [F] w W2 := by rw [hW2]; exact HU1.out.setCell _ (.inl (by simp))
    rw [← hW2]
    clear hW2 c0 c1 g1 r0 r1 r2 r3 r4 r5 r6 f0 f1 f2 f3 f4 f5 f6 HU1 HF1 HB1
    have HF2 := Lib.hid hF2
    have HB2 := Lib.hid hb2
    have HU2 := Lib.hid hu2
    obtain ⟨r0, r1, r2, r3, r4, r5, r6⟩ := Blk.seven hb2
    have f0 := hb2.free 0
    have f1 := hb2.free 1
    have f2 := hb2.free 2
    have f3 := hb2.free 3
    have f4 := hb2.free 4
    have f5 := hb2.free 5
    have f6 := hb2.free 6
    clear hb2 hF2 hu2
    go_wp2
    have hBf := HB2.out.put7 (.int .i64 0) (.bool false) (.slice none 0 0) (.bool false) (.string ⟨#[]⟩) (.slice none 0 0) (.slice none 0 0)
    obtain ⟨k0, k1, k2, k3, k4, k5, k6⟩ := Blk.seven hBf
    refine bodyPost_ret (v := .agg #[.int .i64 0, .bool false, .slice none 0 0, .bool false, .string ⟨#[]⟩, .slice none 0 0, .slice none 0 0]) ?_ rfl ⟨rfl, ?_, ?_⟩
    · simp [results, Try.results78, go_sem, k0, k1, k2, k3, k4, k5, k6]
    · have hup := (Upd.refl [w.heap.size] W2).put7 (b := w.heap.size) (.inl (by simp)) (.int .i64 0) (.bool false) (.slice none 0 0) (.bool false) (.string ⟨#[]⟩) (.slice none 0 0) (.slice none 0 0)
      exact hup.blk HF2.out (by simpa using hne)
    · exact HU2.out.put7 (.inr (Nat.le_refl _)) (.int .i64 0) (.bool false) (.slice none 0 0) (.bool false) (.string ⟨#[]⟩) (.slice none 0 0) (.slice none 0 0)
  · have h0' : (e0 == 0) = false := by simpa using h0
    go_wp2
    have hBf := HB1.out.put7 (.int .i64 0) (.bool false) (.slice none 0 0) (.bool false) (.string ⟨#[]⟩) (.slice none 0 0) (.slice none 0 0)
    obtain ⟨k0, k1, k2, k3, k4, k5, k6⟩ := Blk.seven hBf
    refine bodyPost_ret (v := .agg #[.int .i64 0, .bool false, .slice none 0 0, .bool false, .string ⟨#[]⟩, .slice none 0 0, .slice none 0 0]) ?_ rfl ⟨rfl, ?_, ?_⟩
    · simp [results, Try.results78, go_sem, k0, k1, k2, k3, k4, k5, k6]
    · have hup := (Upd.refl [w.heap.size] W1).put7 (b := w.heap.size) (.inl (by simp)) (.int .i64 0) (.bool false) (.slice none 0 0) (.bool false) (.string ⟨#[]⟩) (.slice none 0 0) (.slice none 0 0)
      exact hup.blk HF1.out (by simpa using hne)
    · exact HU1.out.put7 (.inr (Nat.le_refl _)) (.int .i64 0) (.bool false) (.slice none 0 0) (.bool false) (.string ⟨#[]⟩) (.slice none 0 0) (.slice none 0 0)
end Go.Proofs.Ythmpaepdbjldfaa

/-
  (match.scope).many.
-/
namespace Go.Proofs.Ythmpaepdbjldfaa
set_option linter.unusedVariables false
set_option linter.unusedSimpArgs false
open Go.RowKit Go.Shelf

theorem manyN_len : ∀ (n : Nat) (s : List Bd) (t : Dat) (pl : Bool), (manyN n s t pl).length ≤ szN n t
  | 0, _, _, _ => by simp [manyN]
  | n + 1, s, t, pl => by
    have hs : szN (n + 1) t = 1 + szL (szN n) t.items + szL (szN n) t.tail := rfl
    rw [hs]
    unfold manyN
    split
    · split
      · split
        · simp
          omega
        · simp
      · simp
    · split
      · rename_i h
        have he : escF t = true := by
          simp only [Bool.and_eq_true] at h
          exact h.2
        unfold escF at he
        simp only [Bool.and_eq_true, decide_eq_true_eq] at he
        have h1 := manyN_len n s (t.items.getD 1 default) true
        have h2 := szL_mem (f := szN n) (mem_getD (l := t.items) (j := 1) (by omega))
        omega
      · have := flat_len (szN n) (fun x => manyN n s x pl) (t.items ++ t.tail) (fun x _ => manyN_len n s x pl)
        rw [szL_append] at this
        omega
def ManySaid (n : Nat) : Prop := ∀ (t : Dat) (cs : List Value) (w : World) (P P2 P3 : Nat → Prop) (m N : Nat) (a : Option Addr) (s : List Bd) (k c : Nat) (pl : Bool), IsD w P n cs t → RowK w P2 10 (IsB w P3 m N) a s → s.length = k → k ≤ 100000000 → szN n t ≤ 100000 →
    Calls Try.prog 104 #[.slice a k c, .agg cs.toArray, .bool pl] w fun e w' => (∃ a' c', e = .returned (.slice a' (manyN n s t pl).length c') ∧ RowK w' (fun b => w.heap.size ≤ b) 1 IsS a' (manyN n s t pl) ∧ (manyN n s t pl).length ≤ c') ∧ Upd [] w w'
set_option maxRecDepth 100000 in
set_option maxHeartbeats 3000000 in
theorem many_step (n : Nat) (ih : ManySaid n) : ManySaid (n + 1) := by
  intro t cs w P P2 P3 m N a s k c pl h hR hk hkb hsz
  have hEs := Lib.hid (fun (W : World) (hu : Upd [] w W) => escaped_calls (h.upd hu))
  have hRu : ∀ W, Upd [] w W → RowK W P2 10 (IsB W P3 m N) a s := fun W hu => hR.upd (by decide) hu (by simp) (fun _ _ hb => hb.upd hu)
  have hAt := Lib.hid (fun (W : World) (hu : Upd [] w W) => at_calls t.s k c hk (hRu W hu) hkb)
  have hML := manyN_len (n + 1) s t pl
  have hszN : szN (n + 1) t = 1 + szL (szN n) t.items + szL (szN n) t.tail := rfl
  rw [hszN] at hsz hML
  obtain ⟨aL, cL, aI, cI, aT, cT, rfl, l1, r1, r2, hcap, hbd⟩ := h
  have hlI := len_le_szL (szN_pos n) t.items
  have hlT := len_le_szL (szN_pos n) t.tail
  have hCI : Hid (∀ (x : Dat), x ∈ t.items ++ t.tail → ∀ (cx : List Value) (W : World) (pl : Bool), Upd [] w W → IsD W (fun _ => True) n cx x → Calls Try.prog 104 #[.slice a k c, .agg cx.toArray, .bool pl] W fun e w' => (∃ a' c', e = .returned (.slice a' (manyN n s x pl).length c') ∧ RowK w' (fun b => W.heap.size ≤ b) 1 IsS a' (manyN n s x pl) ∧ (manyN n s x pl).length ≤ c') ∧ Upd [] W w') := Lib.hid (fun x hx cx W pl hu hd => ih x cx W _ P2 P3 m N a s k c pl hd (hRu W hu) hk hkb (by
    rcases List.mem_append.1 hx with hx | hx
    · have := szL_mem (f := szN n) hx
      omega
    · have := szL_mem (f := szN n) hx
      omega))
  have hCc : Hid (∀ (W : World) (b : Nat), Upd [] w W → Blk W b [.slice aI t.items.length cI, .slice aT t.tail.length cT] 25 → Calls Try.prog 105 #[.slice (some ⟨b, 0, none⟩) 2 2] W fun e w' => (∃ a' c', e = .returned (.slice a' (t.items ++ t.tail).length c') ∧ RowOf w' (fun _ => True) (IsD w' (fun _ => True) n) a' (t.items ++ t.tail)) ∧ Upd [] W w') := Lib.hid (fun W b hu hB =>
    (concat_calls (R := IsD W P n) (fun _ _ hd => hd.shaped) hB (r1.updD hu) (r2.updD hu) rfl rfl (by omega)).mono fun e w' hh => by
      obtain ⟨⟨v, e1, hO⟩, hu2⟩ := hh
      obtain ⟨a', c', e2, hr⟩ := hO.row (fun _ _ hd => hd.shaped)
      exact ⟨⟨a', c', by rw [e1, e2], hr.map (fun _ _ hp => hp) (fun _ _ _ _ hc => hc) (fun _ _ hd => (hd.upd hu2).mono fun _ _ _ => trivial)⟩, hu2⟩)
  have HU : Hid (manyN (n + 1) s t pl = if t.kind = 3 then (match atF s t.s with | some x => if x.many && (pl || decide (t.s ≠ dotsB)) then [t.s] else [] | none => [])
    else if !pl && escF t then manyN n s (t.items.getD 1 default) true
    else (t.items ++ t.tail).flatMap fun x => manyN n s x pl) := Lib.hid rfl
  obtain ⟨MM, hMM⟩ : ∃ M, M = manyN (n + 1) s t pl := ⟨_, rfl⟩
  rw [← hMM] at HU hML ⊢
  have HR1 := Lib.hid r1
  have HES2 : Hid (escF t = true → t.items.length = 2) := Lib.hid (fun h => by
    unfold escF at h
    simp only [Bool.and_eq_true, decide_eq_true_eq] at h
    exact h.2.1)
  have HLEN : Hid (∀ j, ((((t.items ++ t.tail).take j).flatMap fun x => manyN n s x pl)).length ≤ 100000) := Lib.hid (fun j => by
    have h1 := flat_len (szN n) (fun x => manyN n s x pl) ((t.items ++ t.tail).take j) (fun x _ => manyN_len n s x pl)
    have h2 := szL_takeM (szN n) (t.items ++ t.tail) j
    rw [szL_append] at h2
    omega)
  have hcl : (t.items ++ t.tail).length ≤ 100000 := by rw [List.length_append]; omega
  have hB1 := Lib.hid (Blk.new w [.int .i64 t.kind, .bool t.neg, .slice aL t.limbs.length cL, .bool t.b, .string t.s, .slice aI t.items.length cI, .slice aT t.tail.length cT] 27)
  have hU1 := Lib.hid ((Upd.refl [] w).alloc (.cells #[.int .i64 t.kind, .bool t.neg, .slice aL t.limbs.length cL, .bool t.b, .string t.s, .slice aI t.items.length cI, .slice aT t.tail.length cT] 27))
  clear hMM hR hRu hk hkb hszN hsz l1 r1 r2 hcap hbd hlI hlT ih
  unfold datCells at *
  obtain ⟨XS, hXS⟩ : ∃ X, X = t.items ++ t.tail := ⟨_, rfl⟩
  rw [← hXS] at hCI hCc HU HLEN hcl
  have HXS := Lib.hid hXS
  clear hXS
  generalize t.kind = kd at *
  generalize t.neg = ng at *
  generalize t.limbs.length = nl at *
  generalize t.b = bb at *
  generalize t.s = ss at *
  go_enter Try.func104, Try.ntmps104
  by_cases hk3 : kd = 3
  · subst hk3
    have HU2 : Hid (MM = (match atF s ss with | some x => if x.many && (pl || decide (ss ≠ dotsB)) then [ss] else [] | none => [])) := Lib.hid (by rw [HU.out, if_pos rfl])
    obtain ⟨AR, hAR⟩ : ∃ A, A = atF s ss := ⟨_, rfl⟩
    rw [← hAR] at hAt HU2
    clear HU hAR hCI hCc hEs HLEN
    go_wp2_with fail
    refine (hAt.out _ hU1.out).mono ?_
    rintro e w2 ⟨hu2, hpost⟩
    have HU3 := Lib.hid (hU1.out.then hu2)
    have hb2 := hu2.blk hB1.out (by simp)
    obtain ⟨x0, x1, x2, x3, x4, x5, x6⟩ := Blk.seven hb2
    have hlt2 := hb2.lt
    clear hAt hu2 hb2 hB1 hU1
    cases AR with
    | none =>
      have hpe : e = .returned (.tuple #[zeroTr, .bool false]) := hpost
      subst hpe
      have HX : Hid (MM = []) := HU2
      clear hpost HU2
      unfold zeroTr
      go_wp2
      go_ret
      exact ⟨⟨none, 0, by rw [HX.out]; rfl, by rw [HX.out]; exact RowK.nil _ _ _ _ _, by rw [HX.out]; exact Nat.le_refl _⟩, HU3.out.alloc _⟩
    | some x =>
      obtain ⟨ct, rfl, hct⟩ := hpost
      obtain ⟨tk, tn, ta, tl, tc, tb, ts, ti, tm, td, te, tf, tg, tK, tL, rfl⟩ := hct.shaped
      have HU2' : Hid (MM = if x.many && (pl || decide (ss ≠ dotsB)) then [ss] else []) := HU2
      obtain ⟨mny, hmny⟩ : ∃ b, b = x.many := ⟨_, rfl⟩
      obtain ⟨kln, hkln⟩ : ∃ b, b = x.kids.length := ⟨_, rfl⟩
      rw [← hmny] at HU2' ⊢
      rw [← hkln]
      clear HU2 hct hmny hkln
      have HU2 := HU2'
      clear HU2'
      cases mny with
      | false =>
        have HX : Hid (MM = []) := Lib.hid (by rw [HU2.out]; simp)
        clear HU2
        go_wp2
        go_ret
        exact ⟨⟨none, 0, by rw [HX.out]; rfl, by rw [HX.out]; exact RowK.nil _ _ _ _ _, by rw [HX.out]; exact Nat.le_refl _⟩, HU3.out.alloc _⟩
      | true =>
        cases pl with
        | true =>
          have HX : Hid (MM = [ss]) := Lib.hid (by rw [HU2.out]; simp)
          have HROW : Hid (∀ (W : World) (b : Nat), b = W.heap.size → w.heap.size ≤ W.heap.size → RowK (W.alloc (.cells #[.string ss] 9)) (fun b => w.heap.size ≤ b) 1 IsS (some ⟨b, 0, none⟩) [ss]) := Lib.hid (fun W b hb hW => by rw [hb]; exact RowK.one (Blk.new W [.string ss] 9) hW rfl rfl)
          clear HU2
          go_wp2
          go_ret
          exact ⟨⟨_, _, by rw [HX.out]; rfl, by rw [HX.out]; exact HROW.out _ _ (by simp) (HU3.out.alloc _).size, by rw [HX.out]; exact Nat.le_refl _⟩, (HU3.out.alloc _).alloc _⟩
        | false =>
          by_cases hd : ss = dotsB
          · have hd' : (ss.toList == [46, 46, 46]) = true := by rw [hd, show dotsB.toList = [46, 46, 46] from dots_list]; rfl
            have HD := Lib.hid hd
            clear hd
            have HX : Hid (MM = []) := Lib.hid (by rw [HU2.out]; simp [HD.out])
            clear HU2
            go_wp2
            go_ret
            exact ⟨⟨none, 0, by rw [HX.out]; rfl, by rw [HX.out]; exact RowK.nil _ _ _ _ _, by rw [HX.out]; exact Nat.le_refl _⟩, HU3.out.alloc _⟩
          · have hd' : (ss.toList == [46, 46, 46]) = false := by
              have : ¬ ss.toList = [46, 46, 46] := fun e => hd (str_inj (e.trans dots_list.symm))
              simpa using this
            have HD := Lib.hid hd
            clear hd
            have HX : Hid (MM = [ss]) := Lib.hid (by rw [HU2.out]; simp [HD.out])
            have HROW : Hid (∀ (W : World) (b : Nat), b = W.heap.size → w.heap.size ≤ W.heap.size → RowK (W.alloc (.cells #[.string ss] 9)) (fun b => w.heap.size ≤ b) 1 IsS (some ⟨b, 0, none⟩) [ss]) := Lib.hid (fun W b hb hW => by rw [hb]; exact RowK.one (Blk.new W [.string ss] 9) hW rfl rfl)
            clear HU2
            go_wp2
            go_ret
            exact ⟨⟨_, _, by rw [HX.out]; rfl, by rw [HX.out]; exact HROW.out _ _ (by simp) (HU3.out.alloc _).size, by rw [HX.out]; exact Nat.le_refl _⟩, (HU3.out.alloc _).alloc _⟩
  · have hk3' : (kd == 3) = false := by simpa using hk3
    have HU2 : Hid (MM = if !pl && escF t then manyN n s (t.items.getD 1 default) true else XS.flatMap fun x => manyN n s x pl) := Lib.hid (by rw [HU.out, if_neg hk3])
    clear HU hAt
    have hcase : (pl = false ∧ escF t = true) ∨ (pl = true ∨ escF t = false) := by
      cases pl
      · cases escF t
        · exact .inr (.inr rfl)
        · exact .inl ⟨rfl, rfl⟩
      · exact .inr (.inl rfl)
    have hloop : True := trivial
    rcases hcase with ⟨hp1, hp2⟩ | hp
    · subst hp1
      have HX : Hid (MM = manyN n s (t.items.getD 1 default) true) := Lib.hid (by rw [HU2.out, hp2]; rfl)
      have h2 := HES2.out hp2
      obtain ⟨b, o, cx, hAe, _, hat, hdx⟩ := HR1.out 1 (by omega)
      subst hAe
      rw [Nat.one_mul] at hat
      have hltb := hat.lt
      have HC := Lib.hid (fun W hu => hCI.out (t.items.getD 1 default) (by rw [HXS.out]; exact List.mem_append.2 (.inl (mem_getD (by omega)))) cx W true hu ((hdx.upd hu).mono fun _ _ _ => trivial))
      obtain ⟨k1, n1, a1, l1, p1, b1, s1, i1, m1, d1, t1, o1, q1, rfl⟩ := hdx.shaped7
      have HAT := Lib.hid hat
      rw [← HX.out] at HC
      rw [h2] at hB1 hU1 hEs ⊢
      rw [hp2] at hEs
      clear HU2 hCI hCc HLEN HXS HES2 HR1 hat hdx HX hp2 h2
      go_wp2_with fail
      refine (hEs.out _ hU1.out).mono ?_
      rintro e w2 ⟨rfl, hu2⟩
      have HU2 := Lib.hid (hU1.out.then hu2)
      have hb2 := hu2.blk hB1.out (by simp)
      obtain ⟨x0, x1, x2, x3, x4, x5, x6⟩ := Blk.seven hb2
      obtain ⟨y0, y1, y2, y3, y4, y5, y6⟩ := (HAT.out.upd HU2.out (by simp)).cells
      clear hEs hB1 hU1 hb2 hu2
      go_wp2_with fail
      refine (HC.out _ HU2.out).mono ?_
      rintro e w3 ⟨⟨a3, c3, rfl, hr3, hc3⟩, hu3⟩
      have HU3 := Lib.hid (HU2.out.then hu3)
      have HR3 := Lib.hid hr3
      have HSZ := Lib.hid HU2.out.size
      clear HC hu3 hr3
      go_wp2
      go_ret
      exact ⟨⟨a3, c3, rfl, HR3.out.map (by decide) (fun b _ hb => Nat.le_trans HSZ.out hb) (fun _ _ _ _ h => h) (fun _ _ h => h), hc3⟩, HU3.out⟩
    · have HX : Hid (MM = XS.flatMap fun x => manyN n s x pl) := Lib.hid (by
        rw [HU2.out]
        rcases hp with h | h
        · rw [h]; rfl
        · rw [h, Bool.and_false]; rfl)
      clear HU2 HES2 HR1 HXS
      cases pl with
      | true =>
        clear hEs hp
        go_upto_region 8 with (fail)
        obtain ⟨W2, hW2⟩ : ∃ W2, W2 = w.alloc (.cells #[.int .i64 kd, .bool ng, .slice aL nl cL, .bool bb, .string ss, .slice aI t.items.length cI, .slice aT t.tail.length cT] 27) := ⟨_, rfl⟩
        rw [← hW2] at hB1 hU1 ⊢
        clear hW2
        obtain ⟨x0, x1, x2, x3, x4, x5, x6⟩ := Blk.seven hB1.out
        have hlt2 := hB1.out.lt
        have HUw := hU1
        clear hB1 hU1
        have HCc := Lib.hid (hCc.out (W2.alloc (.cells #[.slice aI t.items.length cI, .slice aT t.tail.length cT] 25)) W2.heap.size (HUw.out.alloc _) (Blk.newAt rfl))
        have HU2b := Lib.hid (HUw.out.alloc (.cells #[.slice aI t.items.length cI, .slice aT t.tail.length cT] 25))
        clear hCc
        go_wp2_with fail
        refine HCc.out.mono ?_
        rintro e w4 ⟨⟨a4, c4, rfl, hr4⟩, hu4⟩
        have HU4 := Lib.hid (HU2b.out.then hu4)
        have HR4 := Lib.hid hr4
        have HSZ4 := Lib.hid HU4.out.size
        clear HCc HU2b hu4 hr4 HUw
        obtain ⟨nx, hnx⟩ : ∃ nx, XS.length = nx := ⟨_, rfl⟩
        rw [hnx] at hcl ⊢
        have HNX := Lib.hid hnx
        clear hnx
        go_wp2_with fail
        go_loopw [9, 57] (fun lv i8 wr => ∃ j : Nat, j ≤ nx ∧ i8 = .int .i64 j ∧ Hid (OwnK w4.heap.size wr 9 1 IsS lv ((XS.take j).flatMap fun x => manyN n s x true)) ∧ Hid (Upd [] w4 wr)) (fun _ i8 _ => nx - (intOf i8).toNat)
        case atStart => exact ⟨0, by omega, rfl, Lib.hid (OwnK.nil _ _ _ _ _), Lib.hid (Upd.refl _ _)⟩
        case round =>
          obtain ⟨j, hj, rfl, hO, hU⟩ := hrel
          by_cases hlt : j < nx
          · have hjs : j < XS.length := by rw [HNX.out]; exact hlt
            obtain ⟨b, o, cx, rfl, _, hat, hdx⟩ := HR4.out j hjs
            have hatr := hat.upd hU.out (by simp)
            have hdr := hdx.upd hU.out
            have hml := HLEN.out (j + 1)
            have htk : ((XS.take (j + 1)).flatMap fun x => manyN n s x true) = ((XS.take j).flatMap fun x => manyN n s x true) ++ manyN n s (XS.getD j default) true := by rw [take_nextK hjs, List.flatMap_append]; simp
            rw [htk, List.length_append] at hml
            have HC := Lib.hid (fun W (hu : Upd [] wr W) => hCI.out (XS.getD j default) (mem_getD hjs) cx W true ((HU4.out.then hU.out).then hu) (hdr.upd hu))
            obtain ⟨k1, n1, a1, l1, p1, b1, s1, i1, m1, d1, t1, o1, q1, rfl⟩ := hdx.shaped7
            obtain ⟨y0, y1, y2, y3, y4, y5, y6⟩ := hatr.cells
            have hltb : b < wr.heap.size := hatr.lt
            obtain ⟨NX, hNX⟩ : ∃ N, N = manyN n s (XS.getD j default) true := ⟨_, rfl⟩
            obtain ⟨PX, hPX⟩ : ∃ N, N = (XS.take j).flatMap fun x => manyN n s x true := ⟨_, rfl⟩
            rw [← hNX] at HC htk hml
            rw [← hPX] at htk hml hO
            have HTK := Lib.hid htk
            have HUA := Lib.hid ((Upd.refl [] wr).alloc (.cells #[.int .i64 k1, .bool n1, .slice a1 l1 p1, .bool b1, .string s1, .slice i1 m1 d1, .slice t1 o1 q1] 27))
            clear hat hatr hdx hdr htk hNX hPX
            go_wp2_with fail
            refine (HC.out _ HUA.out).mono ?_
            rintro e w6 ⟨⟨a6, c6, rfl, hr6, hc6⟩, hu6⟩
            have HO6 := Lib.hid (hO.out.then (HUA.out.then hu6))
            have HU6 := Lib.hid (hU.out.then (HUA.out.then hu6))
            have HR6 := Lib.hid hr6
            have HB6 : Hid (w4.heap.size ≤ w6.heap.size) := Lib.hid HU6.out.size
            clear HC HUA hr6 hc6 hu6 hO hU y0 y1 y2 y3 y4 y5 y6
            go_wp2_with (at_builtin; refine wpList_appk rfl _ _ 68 rfl w4.heap.size 9 _ 1 16 Try.underlying68 info_str rfl (by decide) (v := u9) (xs := PX) (ys := NX) rfl HO6.out rfl rfl HR6.out (fun _ _ h => h.one) (by omega) (by decide) HB6.out ?_; rintro q9 a9 c9 w9 - hO9 hu9 hb9)
            have HO9 := Lib.hid hO9
            have HU9 := Lib.hid (HU6.out.onto hu9 (fun k hk => (HO6.out.lt (by simpa using hk)).1))
            clear hO9 hu9 hb9
            go_wp2
            go_roundw
            case rel => exact ⟨j + 1, by omega, by go_num, Lib.hid (by rw [HTK.out]; exact HO9.out), HU9⟩
            case measure => simp [intOf]; omega
          · obtain rfl : nx = j := by omega
            have hO1 := hO.out
            rw [List.take_of_length_le (by rw [HNX.out]; exact Nat.le_refl _), ← HX.out] at hO1
            obtain ⟨a8, c8, rfl, hR8, hc8⟩ := hO1.row
            have HR8 := Lib.hid hR8
            clear hR8 hO hO1
            go_wp2
            go_ret
            exact ⟨⟨a8, c8, rfl, HR8.out.map (by decide) (fun b _ hp => Nat.le_trans HSZ4.out hp.1) (fun _ _ _ _ h => h) (fun _ _ h => h), hc8⟩, HU4.out.then hU.out⟩
      | false =>
        have he : escF t = false := by
          rcases hp with h | h
          · cases h
          · exact h
        rw [he] at hEs
        clear hp he
        go_wp2_with fail
        refine (hEs.out _ hU1.out).mono ?_
        rintro e W2 ⟨rfl, hu2⟩
        have hb2 := hu2.blk hB1.out (by simp)
        obtain ⟨x0, x1, x2, x3, x4, x5, x6⟩ := Blk.seven hb2
        have hlt2 := hb2.lt
        have HUw := Lib.hid (hU1.out.then hu2)
        clear hEs hb2 hu2 hB1 hU1
        have HCc := Lib.hid (hCc.out (W2.alloc (.cells #[.slice aI t.items.length cI, .slice aT t.tail.length cT] 25)) W2.heap.size (HUw.out.alloc _) (Blk.newAt rfl))
        have HU2b := Lib.hid (HUw.out.alloc (.cells #[.slice aI t.items.length cI, .slice aT t.tail.length cT] 25))
        clear hCc
        go_wp2_with fail
        refine HCc.out.mono ?_
        rintro e w4 ⟨⟨a4, c4, rfl, hr4⟩, hu4⟩
        have HU4 := Lib.hid (HU2b.out.then hu4)
        have HR4 := Lib.hid hr4
        have HSZ4 := Lib.hid HU4.out.size
        clear HCc HU2b hu4 hr4 HUw
        obtain ⟨nx, hnx⟩ : ∃ nx, XS.length = nx := ⟨_, rfl⟩
        rw [hnx] at hcl ⊢
        have HNX := Lib.hid hnx
        clear hnx
        go_wp2_with fail
        go_loopw [9, 57] (fun lv i8 wr => ∃ j : Nat, j ≤ nx ∧ i8 = .int .i64 j ∧ Hid (OwnK w4.heap.size wr 9 1 IsS lv ((XS.take j).flatMap fun x => manyN n s x false)) ∧ Hid (Upd [] w4 wr)) (fun _ i8 _ => nx - (intOf i8).toNat)
        case atStart => exact ⟨0, by omega, rfl, Lib.hid (OwnK.nil _ _ _ _ _), Lib.hid (Upd.refl _ _)⟩
        case round =>
          obtain ⟨j, hj, rfl, hO, hU⟩ := hrel
          by_cases hlt : j < nx
          · have hjs : j < XS.length := by rw [HNX.out]; exact hlt
            obtain ⟨b, o, cx, rfl, _, hat, hdx⟩ := HR4.out j hjs
            have hatr := hat.upd hU.out (by simp)
            have hdr := hdx.upd hU.out
            have hml := HLEN.out (j + 1)
            have htk : ((XS.take (j + 1)).flatMap fun x => manyN n s x false) = ((XS.take j).flatMap fun x => manyN n s x false) ++ manyN n s (XS.getD j default) false := by rw [take_nextK hjs, List.flatMap_append]; simp
            rw [htk, List.length_append] at hml
            have HC := Lib.hid (fun W (hu : Upd [] wr W) => hCI.out (XS.getD j default) (mem_getD hjs) cx W false ((HU4.out.then hU.out).then hu) (hdr.upd hu))
            obtain ⟨k1, n1, a1, l1, p1, b1, s1, i1, m1, d1, t1, o1, q1, rfl⟩ := hdx.shaped7
            obtain ⟨y0, y1, y2, y3, y4, y5, y6⟩ := hatr.cells
            have hltb : b < wr.heap.size := hatr.lt
            obtain ⟨NX, hNX⟩ : ∃ N, N = manyN n s (XS.getD j default) false := ⟨_, rfl⟩
            obtain ⟨PX, hPX⟩ : ∃ N, N = (XS.take j).flatMap fun x => manyN n s x false := ⟨_, rfl⟩
            rw [← hNX] at HC htk hml
            rw [← hPX] at htk hml hO
            have HTK := Lib.hid htk
            have HUA := Lib.hid ((Upd.refl [] wr).alloc (.cells #[.int .i64 k1, .bool n1, .slice a1 l1 p1, .bool b1, .string s1, .slice i1 m1 d1, .slice t1 o1 q1] 27))
            clear hat hatr hdx hdr htk hNX hPX
            go_wp2_with fail
            refine (HC.out _ HUA.out).mono ?_
            rintro e w6 ⟨⟨a6, c6, rfl, hr6, hc6⟩, hu6⟩
            have HO6 := Lib.hid (hO.out.then (HUA.out.then hu6))
            have HU6 := Lib.hid (hU.out.then (HUA.out.then hu6))
            have HR6 := Lib.hid hr6
            have HB6 : Hid (w4.heap.size ≤ w6.heap.size) := Lib.hid HU6.out.size
            clear HC HUA hr6 hc6 hu6 hO hU y0 y1 y2 y3 y4 y5 y6
            go_wp2_with (at_builtin; refine wpList_appk rfl _ _ 68 rfl w4.heap.size 9 _ 1 16 Try.underlying68 info_str rfl (by decide) (v := u9) (xs := PX) (ys := NX) rfl HO6.out rfl rfl HR6.out (fun _ _ h => h.one) (by omega) (by decide) HB6.out ?_; rintro q9 a9 c9 w9 - hO9 hu9 hb9)
            have HO9 := Lib.hid hO9
            have HU9 := Lib.hid (HU6.out.onto hu9 (fun k hk => (HO6.out.lt (by simpa using hk)).1))
            clear hO9 hu9 hb9
            go_wp2
            go_roundw
            case rel => exact ⟨j + 1, by omega, by go_num, Lib.hid (by rw [HTK.out]; exact HO9.out), HU9⟩
            case measure => simp [intOf]; omega
          · obtain rfl : nx = j := by omega
            have hO1 := hO.out
            rw [List.take_of_length_le (by rw [HNX.out]; exact Nat.le_refl _), ← HX.out] at hO1
            obtain ⟨a8, c8, rfl, hR8, hc8⟩ := hO1.row
            have HR8 := Lib.hid hR8
            clear hR8 hO hO1
            go_wp2
            go_ret
            exact ⟨⟨a8, c8, rfl, HR8.out.map (by decide) (fun b _ hp => Nat.le_trans HSZ4.out hp.1) (fun _ _ _ _ h => h) (fun _ _ h => h), hc8⟩, HU4.out.then hU.out⟩
theorem many_calls : ∀ n, ManySaid n
  | 0 => fun _ _ _ _ _ _ _ _ _ _ _ _ _ h => h.elim
  | n + 1 => many_step n (many_calls n)
end Go.Proofs.Ythmpaepdbjldfaa

/-
  Templates: the plain form of fill.
-/
namespace Go.Proofs.Ythmpaepdbjldfaa
set_option linter.unusedVariables false
set_option linter.unusedSimpArgs false
open Go.RowKit Go.Shelf

def zeroD : Dat := .mk 0 false [] false ByteArray.empty [] []
def mkL (is ts : List Dat) : Dat := .mk 5 false [] false ByteArray.empty is ts
/-- How many ... stand at the front. -/
def dotsRun (pl : Bool) : List Dat → Nat
  | [] => 0
  | x :: xs => if !pl && isF x dotsB then dotsRun pl xs + 1 else 0
/-- How many kids the names' trees have, if all have as many. -/
def kidsN (s : List Bd) (names : List ByteArray) : Option Nat := match names with
  | [] => none
  | nm :: r => let n := ((atF s nm).getD default).kids.length
    if r.all (fun q => decide (((atF s q).getD default).kids.length = n)) then some n else none
def inner (s : List Bd) (names : List ByteArray) (i : Nat) : List Bd := names.map fun q => ⟨q, ((atF s q).getD default).kids.getD i default⟩
/-- A template with k times ... behind it; f fills one, nm tells its names. -/
def rowF (f : List Bd → St → Dat × St) (nm : List Bd → List ByteArray) : Nat → List Bd → St → List Dat × St
  | 0, s, st => if st.e ≠ 0 then ([], st) else ([(f s st).1], (f s st).2)
  | k + 1, s, st => if st.e ≠ 0 then ([], st) else match kidsN s (nm s) with
    | none => ([], st.fail 5)
    | some n => (List.range n).foldl (fun a i => (a.1 ++ (rowF f nm k (inner s (nm s) i ++ s) a.2).1, (rowF f nm k (inner s (nm s) i ++ s) a.2).2)) ([], st)
/-- Items, each with what ... stand behind it; at most m of them. -/
def itemsF (g : Dat → Nat → St → List Dat × St) (pl : Bool) : Nat → List Dat → St → List Dat × St
  | 0, _, st => ([], st)
  | _ + 1, [], st => ([], st)
  | m + 1, x :: xs, st => if st.e ≠ 0 then ([], st) else
    let k := dotsRun pl xs
    let a := g x k st
    let b := itemsF g pl m (xs.drop k) a.2
    (a.1 ++ b.1, b.2)
/-- A template of n levels, whose trees' data have m. -/
def fillN (m : Nat) : Nat → Dat → List Bd → Bool → St → Dat × St
  | 0, _, _, _, st => (zeroD, st)
  | n + 1, t, s, pl, st0 =>
    let st1 : St := ⟨st0.left - 1, st0.e⟩
    let st : St := if st1.left < 0 then st1.fail 12 else st1
    if st.e ≠ 0 then (zeroD, st)
    else if !pl && isF t dotsB then (zeroD, st.fail 5)
    else if t.kind = 3 then (match atF s t.s with
      | none => (t, st)
      | some x => (x.d, ⟨st.left - ((szN m x.d : Int) - 1), (if x.many then st.fail 5 else st).e⟩))
    else if t.kind ≠ 5 then (t, st)
    else if !pl && escF t then fillN m n (t.items.getD 1 default) s true st
    else
      let r := itemsF (fun x k st => rowF (fun s st => fillN m n x s pl st) (fun s => manyN n s x pl) k s st) pl t.items.length t.items st
      if t.tail = [] then (mkL r.1 [], r.2)
      else
        let y := fillN m n (t.tail.getD 0 default) s pl r.2
        (normD (m + n + 1) (mkL r.1 [y.1]), y.2)
end Go.Proofs.Ythmpaepdbjldfaa
