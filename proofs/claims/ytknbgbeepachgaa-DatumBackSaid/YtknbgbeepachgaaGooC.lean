/-
  datum.good, datum.Good: the walk.
-/
import Derived.Test.YtknbgbeepachgaaGooB
import Derived.Laws.Closers25b
namespace Go.Proofs.Ytknbgbeepachgaa
open Go.RowKit

theorem list_one {α : Type} {ts : List α} (h : ts.length = 1) (z : α) : ts = [ts.getD 0 z] := by
  match ts, h with
  | [t], _ => rfl
theorem map_fix {f : Dat → Dat} {ds : List Dat} (h : ∀ i, i < ds.length → f (ds.getD i default) = ds.getD i default) : ds.map f = ds := by
  apply List.ext_getElem
  · simp
  · intro i h1 h2
    have := h i h2
    rw [List.getElem_map]
    simpa [List.getD_eq_getElem?_getD, h2] using this
theorem fix_list {n : Nat} {d : Dat} (hk : d.kind = 5) (hp : PlainD d) (hl : d.tail.length = 0 ∨ (d.tail.length = 1 ∧ 0 < d.items.length ∧ (d.tail.getD 0 default).kind ≠ 5)) (h : ∀ i, i < (d.items ++ d.tail).length → normD n ((d.items ++ d.tail).getD i default) = (d.items ++ d.tail).getD i default) : normD (n + 1) d = d := by
  obtain ⟨kd, ng, ls, bb, ss, is, ts⟩ := d
  obtain ⟨p1, p2, p3, p4⟩ := hp
  simp only [Dat.kind, Dat.neg, Dat.limbs, Dat.b, Dat.s, Dat.items, Dat.tail] at *
  subst hk
  obtain ⟨rfl, rfl⟩ := p1 (by omega)
  have e2 := p2 (by omega)
  have e3 := p3 (by omega) (by omega)
  subst e2; subst e3
  rw [normD_list]
  have hi : is.map (normD n) = is := map_fix fun i hi => by
    have := h i (by rw [List.length_append]; omega)
    rw [getD_append, if_pos hi] at this
    exact this
  rw [hi]
  rcases hl with h0 | ⟨h1, h2, h3⟩
  · have : ts = [] := List.eq_nil_of_length_eq_zero h0
    subst this
    rw [if_pos rfl]
  · have hne : ts ≠ [] := fun e => by rw [e] at h1; simp at h1
    rw [if_neg hne]
    have ht := h is.length (by rw [List.length_append]; omega)
    rw [getD_append, if_neg (by omega), Nat.sub_self] at ht
    rw [ht]
    unfold joinD
    rw [if_neg (fun e => by rw [e] at h2; simp at h2), if_neg (show ¬ (ts.getD 0 default).kind = 5 from h3), ← list_one h1]
theorem fix_flat {n : Nat} {d : Dat} (hk : d.kind = 0 ∨ d.kind = 2 ∨ d.kind = 3 ∨ d.kind = 4) (hp : PlainD d) : normD (n + 1) d = d := by
  obtain ⟨kd, ng, ls, bb, ss, is, ts⟩ := d
  obtain ⟨p1, p2, p3, p4⟩ := hp
  simp only [Dat.kind, Dat.neg, Dat.limbs, Dat.b, Dat.s, Dat.items, Dat.tail] at *
  obtain ⟨rfl, rfl⟩ := p1 (by omega)
  obtain ⟨rfl, rfl⟩ := p4 (by omega)
  rcases hk with rfl | rfl | rfl | rfl
  · rw [normD_other _ (by omega) (by omega) (by omega) (by omega) (by omega), p2 (by omega), p3 (by omega) (by omega)]
  · rw [normD_bool, p3 (by omega) (by omega)]
  · rw [normD_text _ (.inl rfl), p2 (by omega)]
  · rw [normD_text _ (.inr rfl), p2 (by omega)]
theorem fix_num {n : Nat} {d : Dat} (hk : d.kind = 1) (hp : PlainD d) (h1 : trimL d.limbs = d.limbs) (h2 : (d.neg && decide (0 < d.limbs.length)) = d.neg) : normD (n + 1) d = d := by
  obtain ⟨kd, ng, ls, bb, ss, is, ts⟩ := d
  obtain ⟨p1, p2, p3, p4⟩ := hp
  simp only [Dat.kind, Dat.neg, Dat.limbs, Dat.b, Dat.s, Dat.items, Dat.tail] at *
  subst hk
  obtain ⟨rfl, rfl⟩ := p4 (by omega)
  rw [normD_num, h1, p2 (by omega), p3 (by omega) (by omega)]
  exact congrArg (fun b => Dat.mk 1 b ls false ByteArray.empty [] []) h2
set_option maxRecDepth 100000 in
set_option maxHeartbeats 4000000 in
theorem good_step (n : Nat) (ih : GoodSaid n) : GoodSaid (n + 1) := by
  intro d cs w h hs
  have h0 := h
  obtain ⟨aL, cL, aI, cI, aT, cT, rfl, l1, r1, r2, hcap, hbd⟩ := h
  have hu1 : Upd [] w (w.alloc (.cells #[.int .i64 d.kind, .bool d.neg, .slice aL d.limbs.length cL, .bool d.b, .string d.s, .slice aI d.items.length cI, .slice aT d.tail.length cT] 27)) := (Upd.refl [] w).alloc _
  have hsz : 1 + szL (szN n) d.items + szL (szN n) d.tail ≤ 100000 := by rw [szN] at hs; exact hs
  have hlen : (d.items ++ d.tail).length ≤ 100000 := by
    have h1 := len_le_szL (szN_pos n) d.items
    have h2 := len_le_szL (szN_pos n) d.tail
    rw [List.length_append]
    omega
  have hBk := Lib.hid (blank_calls (h0.upd hu1))
  have hPt := Lib.hid (fun (W : World) (hu : Upd [] w W) => parts_calls (h0.upd hu) (by rw [List.length_append] at hlen; exact hlen))
  have hWG := Lib.hid (fun (W : World) (hu : Upd [] w W) => wholeGood_calls d.neg d.limbs.length cL rfl (l1.upd0 hu) hbd.2.2.1 hbd.2.1)
  have hCF := Lib.hid (fun (W : World) (a : Option Addr) (c : Nat) (hr : RowOf W (fun _ => True) (IsD W (fun _ => True) n) a (d.items ++ d.tail)) => containsFunc_calls ih (d.items ++ d.tail).length c rfl hr (by rw [szL_append]; omega) hlen)
  have hT0 := Lib.hid (show ∀ (W : World), Upd [] w W → 0 < d.tail.length → ∃ b o, aT = some ⟨b, o, none⟩ ∧ W.cell? ⟨b, o, none⟩ = some (.int .i64 (d.tail.getD 0 default).kind) from fun W hu h1 => by
    obtain ⟨b, o, cs, e, _, hat, hd⟩ := r2 0 h1
    rw [Nat.zero_mul, Nat.add_zero] at hat
    obtain ⟨a1, c1, a2, c2, a3, c3, rfl⟩ := cells_agg hd
    have := (hat.upd hu (by simp)).cells.1
    exact ⟨b, o, e, this⟩)
  have hFx := Lib.hid (fun (k : Int) (e : d.kind = k) (hp : PlainD d) (hk : k = 0 ∨ k = 2 ∨ k = 3 ∨ k = 4) => fix_flat (n := n) (by rw [e]; exact hk) hp)
  have hFn := Lib.hid (fun (e : d.kind = 1) (hp : PlainD d) => fix_num (n := n) e hp)
  have hFl := Lib.hid (fun (e : d.kind = 5) (hp : PlainD d) => fix_list (n := n) e hp)
  obtain ⟨q, hq⟩ : ∃ q, q = (d.items ++ d.tail).length := ⟨_, rfl⟩
  rw [← hq] at hPt hCF hFl
  clear hq
  have HU1 := Lib.hid hu1
  have hBX := Lib.hid (Blk.new w [.int .i64 d.kind, .bool d.neg, .slice aL d.limbs.length cL, .bool d.b, .string d.s, .slice aI d.items.length cI, .slice aT d.tail.length cT] 27)
  obtain ⟨kd, hkd⟩ : ∃ k, k = d.kind := ⟨_, rfl⟩
  have HKD := Lib.hid hkd
  have hlI : d.items.length ≤ 100000 := by rw [List.length_append] at hlen; omega
  have hlT : d.tail.length ≤ 100000 := by rw [List.length_append] at hlen; omega
  clear h0 hs l1 r1 r2 hcap hbd hu1 hsz hlen ih
  unfold datCells BlankPost at *
  rw [← hkd] at hBk hPt hBX HU1 ⊢
  clear hkd
  go_enter Try.func25, Try.ntmps25
  go_wp2_with fail
  refine hBk.out.mono ?_
  rintro e w2 ⟨⟨ng, aL', nL, cL', bb, ss, aI', nI, cI', aT', nT, cT', rfl, hb1, hb2, hPl⟩, hu2⟩
  have hx2 := hu2.blk hBX.out (by simp)
  obtain ⟨x0, x1, x2, x3, x4, x5, x6⟩ := Blk.seven hx2
  have hlt := hx2.lt
  have HX2 := Lib.hid hx2
  have HU2 := Lib.hid (HU1.out.then hu2)
  have HPL := Lib.hid hPl
  unfold datCells
  clear hBk hx2 hu2 hPl HU1 hBX
  have hw : IntKind.i64.wrap ((nI : Int) + (nT : Int)) = (nI : Int) + (nT : Int) := IntWalk.i64_in _ (by omega)
  have hu3 : ∀ o, Upd [] w (w2.alloc o) := fun o => HU2.out.alloc o
  have HU3 := Lib.hid hu3
  clear hu3
  by_cases g1 : ng = true
  · subst g1
    go_wp2
    go_ret
    exact ⟨⟨false, rfl, by simp⟩, HU3.out _⟩
  have g1 : ng = false := by simpa using g1
  subst g1
  by_cases g2 : 0 < nL
  · have g2' : (0 : Int) < (nL : Int) := by omega
    go_wp2
    go_ret
    exact ⟨⟨false, rfl, by simp⟩, HU3.out _⟩
  have g2 : nL = 0 := by omega
  subst g2
  by_cases g3 : bb = true
  · subst g3
    go_wp2
    go_ret
    exact ⟨⟨false, rfl, by simp⟩, HU3.out _⟩
  have g3 : bb = false := by simpa using g3
  subst g3
  by_cases g4 : ¬ ss.toList = []
  · go_wp2
    go_ret
    exact ⟨⟨false, rfl, by simp⟩, HU3.out _⟩
  have g4 : ss = ⟨#[]⟩ := (toList_nil_iff_emptyBytes ss).1 (Classical.not_not.1 g4)
  subst g4
  by_cases g5 : 0 < nI + nT
  · have g5' : (0 : Int) < (nI : Int) + (nT : Int) := by omega
    go_wp2
    go_ret
    exact ⟨⟨false, rfl, by simp⟩, HU3.out _⟩
  have g5' : ¬ (0 : Int) < (nI : Int) + (nT : Int) := by omega
  have HPD := Lib.hid (HPL.out rfl rfl rfl rfl (by omega))
  clear HPL
  by_cases h1 : kd = 1
  · subst h1
    have HN := Lib.hid (hFn.out HKD.out.symm HPD.out)
    clear hFx hFl hPt hCF hT0 hFn
    go_wp2_with fail
    refine (hWG.out _ (HU3.out _)).mono ?_
    rintro e w4 ⟨⟨r, rfl, hr⟩, hu4⟩
    have hx4 := hu4.blk (HX2.out.alloc _) (by simp)
    obtain ⟨x0, x1, x2, x3, x4, x5, x6⟩ := Blk.seven hx4
    have HU4 := Lib.hid ((HU3.out _).then hu4)
    have HRR := Lib.hid hr
    clear hu4 hr hx4 hWG
    cases r with
    | false =>
      go_wp2
      go_ret
      exact ⟨⟨false, rfl, by simp⟩, HU4.out⟩
    | true =>
      have hf := HN.out (HRR.out rfl).1 (HRR.out rfl).2
      have HF := Lib.hid hf
      clear hf HN HRR
      go_wp2
      go_ret
      exact ⟨⟨_, rfl, fun _ => HF.out⟩, HU4.out⟩
  by_cases h5 : kd = 5
  · subst h5
    have HL := Lib.hid (hFl.out HKD.out.symm HPD.out)
    clear hFx hFl hWG hFn
    by_cases t2 : 1 < d.tail.length
    · have t2' : (1 : Int) < ((d.tail.length : Nat) : Int) := by omega
      generalize d.tail.length = nt at *
      generalize d.items.length = ni at *
      go_wp2
      go_ret
      exact ⟨⟨false, rfl, by simp⟩, HU3.out _⟩
    have t2' : ¬ (1 : Int) < ((d.tail.length : Nat) : Int) := by omega
    have hend : Hid ((d.tail.length = 0 ∨ (d.tail.length = 1 ∧ 0 < d.items.length ∧ (d.tail.getD 0 default).kind ≠ 5)) → True) := Lib.hid (fun _ => trivial)
    clear hend
    by_cases t1 : d.tail.length = 1
    · by_cases i0 : d.items.length = 0
      · generalize d.tail.length = nt at *
        generalize d.items.length = ni at *
        subst t1
        subst i0
        go_wp2
        go_ret
        exact ⟨⟨false, rfl, by simp⟩, HU3.out _⟩
      · obtain ⟨b, o, rfl, hc⟩ := hT0.out _ (HU3.out (.cells #[.int .i64 5, .bool false, .slice aL' 0 cL', .bool false, .string ⟨#[]⟩, .slice aI' nI cI', .slice aT' nT cT'] 27)) (by omega)
        have i0' : ¬ ((d.items.length : Nat) : Int) = 0 := by omega
        obtain ⟨kt, hkt⟩ : ∃ kt, kt = (d.tail.getD 0 default).kind := ⟨_, rfl⟩
        have HKT := Lib.hid hkt
        rw [← hkt] at hc
        clear hkt
        by_cases hk5 : kt = 5
        · subst hk5
          clear HL hPt hCF hT0
          generalize d.tail.length = nt at *
          generalize d.items.length = ni at *
          subst t1
          go_wp2
          go_ret
          exact ⟨⟨false, rfl, by simp⟩, HU3.out _⟩
        · have HE := Lib.hid (HL.out (.inr ⟨t1, by omega, by rw [← HKT.out]; exact hk5⟩))
          clear HL hT0
          generalize d.tail.length = nt at *
          generalize d.items.length = ni at *
          subst t1
          go_wp2_with fail
          · go_ret
            exact ⟨⟨false, rfl, by simp⟩, HU3.out _⟩
          refine (hPt.out _ (HU3.out _)).mono ?_
          rintro e w4 ⟨⟨ap, cp, rfl, hrow⟩, hu4⟩
          have HU4 := Lib.hid ((HU3.out _).then hu4)
          have HC4 := Lib.hid (hCF.out w4 ap cp hrow)
          clear hu4 hrow hPt hCF
          go_wp2_with fail
          refine HC4.out.mono ?_
          rintro e w5 ⟨⟨r, rfl, hr⟩, hu5⟩
          have HU5 := Lib.hid (HU4.out.then hu5)
          have HRR := Lib.hid hr
          clear hu5 hr HC4
          cases r with
          | true =>
            clear HE HRR HPD
            go_wp2
            go_ret
            exact ⟨⟨false, rfl, by simp⟩, HU5.out⟩
          | false =>
            have HF := Lib.hid (HE.out (HRR.out rfl))
            clear HE HRR HPD
            go_wp2
            go_ret
            exact ⟨⟨_, rfl, fun _ => HF.out⟩, HU5.out⟩
    · have t0 : d.tail.length = 0 := by omega
      have HE := Lib.hid (HL.out (.inl t0))
      clear HL hT0
      generalize d.tail.length = nt at *
      generalize d.items.length = ni at *
      subst t0
      go_wp2_with fail
      refine (hPt.out _ (HU3.out _)).mono ?_
      rintro e w4 ⟨⟨ap, cp, rfl, hrow⟩, hu4⟩
      have HU4 := Lib.hid ((HU3.out _).then hu4)
      have HC4 := Lib.hid (hCF.out w4 ap cp hrow)
      clear hu4 hrow hPt hCF
      go_wp2_with fail
      refine HC4.out.mono ?_
      rintro e w5 ⟨⟨r, rfl, hr⟩, hu5⟩
      have HU5 := Lib.hid (HU4.out.then hu5)
      have HRR := Lib.hid hr
      clear hu5 hr HC4
      cases r with
      | true =>
        clear HE HRR HPD
        go_wp2
        go_ret
        exact ⟨⟨false, rfl, by simp⟩, HU5.out⟩
      | false =>
        have HF := Lib.hid (HE.out (HRR.out rfl))
        clear HE HRR HPD
        go_wp2
        go_ret
        exact ⟨⟨_, rfl, fun _ => HF.out⟩, HU5.out⟩
  clear hWG hFn hFl hPt hCF hT0
  by_cases h0 : kd = 0
  · subst h0
    have HF := Lib.hid (hFx.out 0 HKD.out.symm HPD.out (.inl rfl))
    clear hFx
    go_wp2
    go_ret
    exact ⟨⟨true, rfl, fun _ => HF.out⟩, HU3.out _⟩
  by_cases h2 : kd = 2
  · subst h2
    have HF := Lib.hid (hFx.out 2 HKD.out.symm HPD.out (.inr (.inl rfl)))
    clear hFx
    go_wp2
    go_ret
    exact ⟨⟨true, rfl, fun _ => HF.out⟩, HU3.out _⟩
  by_cases h3 : kd = 3
  · subst h3
    have HF := Lib.hid (hFx.out 3 HKD.out.symm HPD.out (.inr (.inr (.inl rfl))))
    clear hFx
    go_wp2
    all_goals
      go_ret
      exact ⟨⟨_, rfl, fun _ => HF.out⟩, HU3.out _⟩
  by_cases h4 : kd = 4
  · subst h4
    have HF := Lib.hid (hFx.out 4 HKD.out.symm HPD.out (.inr (.inr (.inr rfl))))
    clear hFx
    go_wp2
    all_goals
      go_ret
      exact ⟨⟨_, rfl, fun _ => HF.out⟩, HU3.out _⟩
  clear hFx
  go_wp2
  all_goals
    go_ret
    exact ⟨⟨false, rfl, by simp⟩, HU3.out _⟩
theorem good_calls : ∀ n, GoodSaid n
  | 0 => fun _ _ _ h => h.elim
  | n + 1 => good_step n (good_calls n)
end Go.Proofs.Ytknbgbeepachgaa
