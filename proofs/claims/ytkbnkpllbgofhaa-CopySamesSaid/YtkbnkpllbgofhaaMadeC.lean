/-
  Copy's statements: the walk of made.
-/
import Derived.Test.YtkbnkpllbgofhaaMadeH
namespace Go.Proofs.Ytkbnkpllbgofhaa
open Go.RowKit HeapM

section
variable {w0 w : World} {p bw bk pr n j : Nat} {X : List (Nat × List Value × TypeId)} {D A : List HObj} {o : HObj}
theorem made_ralloc (h : Two w0 w p bw bk pr n X A ((zeroG D).take j)) (ho : D[j]? = some o) (hf : fits ((zeroG D).take j) n o.1 o.2.length) :
    Calls Try.prog 36 #[rptr pr, .int .i64 o.1, .int .i64 o.2.length] w fun e w' => e = .returned (.tuple #[.int .i64 ((posOf D j : Int) + 1), .bool true]) ∧ Two w0 w' p bw bk pr n X A ((zeroG D).take (j + 1)) := by
  refine (two_ralloc h o.1 o.2.length).mono ?_
  unfold allocN allocB allocL
  rw [if_pos hf, if_pos hf, decide_eq_true hf, Int.toNat_natCast, ← zeroG_take ho]
  rintro e w' ⟨rfl, h'⟩
  refine ⟨?_, h'⟩
  rw [show HeapM.used ((zeroG D).take j) = posOf (zeroG D) j from rfl, zeroG_pos]
theorem made_alloc (h : Two w0 w p bw bk pr n X ((zeroG D).take j) A) (ho : D[j]? = some o) (hf : fits ((zeroG D).take j) n o.1 o.2.length) :
    Calls Try.prog 16 #[hptr p, .int .i64 o.1, .int .i64 o.2.length] w fun e w' => e = .returned (.tuple #[.int .i64 ((posOf D j : Int) + 1), .bool true]) ∧ Two w0 w' p bw bk pr n X ((zeroG D).take (j + 1)) A := by
  refine (two_alloc h o.1 o.2.length).mono ?_
  unfold allocN allocB allocL
  rw [if_pos hf, if_pos hf, decide_eq_true hf, Int.toNat_natCast, ← zeroG_take ho]
  rintro e w' ⟨rfl, h'⟩
  refine ⟨?_, h'⟩
  rw [show HeapM.used ((zeroG D).take j) = posOf (zeroG D) j from rfl, zeroG_pos]
end
theorem Two.side {w0 w w' : World} {p bw bk pr n : Nat} {LA LR : List HObj} {S : List Nat} (h : Two w0 w p bw bk pr n [] LA LR) (hu : Upd S w w')
    (hS : ∀ k, k ∈ S → w0.heap.size ≤ k ∧ ∃ cs t, Blk w k cs t ∧ t ∉ [72, 31, 5, 66, 61, 30]) : Two w0 w' p bw bk pr n [] LA LR := by
  obtain ⟨v, bs, r, hb⟩ := h.R
  have h1 : ∀ x, x ∈ [p, bw, bk] → x ∉ S := by
    intro x hx hs
    obtain ⟨cs, t, B, e⟩ := h.A.sort hx
    obtain ⟨_, cs', t', B', hn⟩ := hS x hs
    have := (B.inj B').2
    subst this
    rcases e with rfl | rfl | rfl <;> simp at hn
  have h2 : ∀ x, (x = pr ∨ v.ownBlock = some x ∨ x ∈ bs) → x ∉ S := by
    intro x hx hs
    obtain ⟨cs, t, B, e⟩ := r.sort hx
    obtain ⟨_, cs', t', B', hn⟩ := hS x hs
    have := (B.inj B').2
    subst this
    rcases e with rfl | rfl | rfl <;> simp at hn
  exact ⟨h.A.upd hu (h1 _ (by simp)) (h1 _ (by simp)) (h1 _ (by simp)), ⟨v, bs, r.upd hu (h2 _ (.inl rfl)) (fun g hg => h2 _ (.inr (.inl hg))) (fun b hb => h2 _ (.inr (.inr hb))), hb⟩, h.upd.fresh hu (fun k hk => (hS k hk).1), h.f1, h.f2, h.f3, h.f4, fun _ hx => by cases hx⟩
/-- What made's loops hold, besides the heaps. -/
structure MadeRel (w0 w : World) (p bw bk pr : Nat) (LA LR : List HObj) (lv : Value) (at_ : List Int) : Prop where
  two : Two w0 w p bw bk pr 3000 [] LA LR
  own : w.ownsRow w0.heap.size 3 1 lv at_.length (at_.map (.int .i64))
set_option maxRecDepth 100000 in
set_option maxHeartbeats 4000000 in
theorem made_calls {w : World} {a : Option Addr} {l : List ObjD} (n c : Nat) (hn : l.length = n) (hl : MemO w a l) (hr : RngO l) (h40 : n ≤ 40) (hsz : sizeTo l l.length ≤ 300) :
    Calls Try.prog 58 #[.slice a n c] w (MadePost (madeL l) (madeAt l) w) := by
  obtain ⟨D, hD⟩ : ∃ D, D = madeL l := ⟨_, rfl⟩
  have hk := Lib.hid (madeL_kinds hr)
  have hu : HeapM.used (madeL l) ≤ 3000 := by rw [madeL_used]; omega
  have hg := Lib.hid (fun i (h : i < l.length) => madeL_get h)
  have hat := Lib.hid (madeAt_pos l)
  have hDl := Lib.hid (madeL_len l)
  have hlen1 : Hid (∀ i, i < l.length → (l.getD i (0, [])).2.length ≤ 300) := by
    intro i hi
    have h1 := sizeTo_succ hi
    have h2 := sizeTo_mono (l := l) (show i + 1 ≤ l.length by omega) (Nat.le_refl _)
    omega
  rw [← hD] at hk hu hg hat hDl
  rw [← hD]
  have HD := Lib.hid hD
  have HL := Lib.hid hl
  have HR := Lib.hid hr
  have HN := Lib.hid hn
  have HU := Lib.hid hu
  clear hD hl hr hn hsz hu
  obtain ⟨at_, hat_⟩ : ∃ at_, at_ = madeAt l := ⟨_, rfl⟩
  rw [← hat_] at hat hg
  rw [← hat_]
  clear hat_
  go_enter Try.func58, Try.ntmps58
  go_wp2_with fail
  refine (new_A 3000 _ (by omega) (by omega)).mono ?_
  rintro e w1 ⟨p, bw, bk, rfl, hA, hp, hbw, hbk, hu1⟩
  have HA1 := Lib.hid hA; clear hA
  go_wp2_with fail
  refine (rnew_yes 3000 _ (by omega) (by omega)).mono ?_
  rintro e w2 ⟨pr, rfl, hR, hpr, hu2⟩
  have hs1 := hu1.size
  have hT0 : Two w w2 p bw bk pr 3000 [] [] [] := by
    refine ⟨HA1.out.upd0 hu2, ⟨.slice none 0 0, [], ?_, fun _ h => by cases h⟩, hu1.then hu2, hp, hbw, hbk, by omega, fun _ h => by cases h⟩
    exact ⟨hR.hp, own_mono hR.own hs1, hR.bodies, hR.kinds, hR.words, hR.low, hR.high, hR.room, hR.isNil⟩
  have hM0 : Hid (MadeRel w w2 p bw bk pr ((zeroG D).take 0) ((zeroG D).take 0) (.slice none 0 0) (posTo D 0)) := ⟨hT0, World.ownsRow_nil _ _ _ _⟩
  clear hT0 hR hu1 hu2 hpr hs1 hp hbw hbk HA1
  unfold hptr rptr
  go_wp2_with fail
  go_loopw [7, 20] (fun lv i wr => ∃ j : Nat, j ≤ n ∧ i = .int .i64 j ∧ Hid (MadeRel w wr p bw bk pr ((zeroG D).take j) ((zeroG D).take j) lv (posTo D j))) (fun _ i _ => n - (intOf i).toNat)
  case atStart => exact ⟨0, by omega, rfl, hM0⟩
  case round =>
    obtain ⟨j, hj, rfl, hM⟩ := hrel
    by_cases hlt : j < n
    · have hjl : j < l.length := by rw [HN.out]; exact hlt
      obtain ⟨b, o, a', c', rfl, g0, g1, -⟩ := (HL.out.upd hM.out.two.upd) j hjl
      obtain ⟨k0, k1, -, -⟩ := HR.out (l.getD j (0, [])) (by simp [List.getD_eq_getElem?_getD, hjl])
      have hgj := hg.out j hjl
      have hfit := zeroG_fits hk.out HU.out hgj
      have hlen := hlen1.out j hjl
      have hxl : ((l.getD j (0, [])).2.map (wordVal at_)).length = (l.getD j (0, [])).2.length := by simp
      have hps := posTo_succ D j
      have hpl := posTo_len D j
      generalize (l.getD j (0, [])).1 = K at *
      generalize (l.getD j (0, [])).2.map (wordVal at_) = xs at *
      generalize (l.getD j (0, [])).2.length = ln at *
      have Hgj := Lib.hid hgj
      have Hfit := Lib.hid hfit
      have Hps := Lib.hid hps
      have Hpl := Lib.hid hpl
      have Hxl := Lib.hid hxl
      clear hgj hfit hps hpl hxl hjl
      have hB1 : Blk (wr.alloc (.cells #[.int .u64 K, .slice a' ln c'] 138)) wr.heap.size [.int .u64 K, .slice a' ln c'] 138 := Blk.newAt rfl
      have hT1 := (hM.out.two.step ((Upd.refl [] wr).alloc (.cells #[.int .u64 K, .slice a' ln c'] 138)))
      have hO1 := own_upd0 hM.out.own ((Upd.refl [] wr).alloc (.cells #[.int .u64 K, .slice a' ln c'] 138))
      obtain ⟨W1, hW1⟩ : ∃ W1, W1 = wr.alloc (.cells #[.int .u64 K, .slice a' ln c'] 138) := ⟨_, rfl⟩
      obtain ⟨bo, hbo⟩ : ∃ bo, bo = wr.heap.size := ⟨_, rfl⟩
      rw [← hW1] at hB1 hT1 hO1
      rw [← hbo] at hB1
      have hcall := made_ralloc (two_all hT1) Hgj.out Hfit.out
      simp only [Hxl.out] at hcall
      have HC := Lib.hid hcall
      have HB1 := Lib.hid hB1
      have HO1 := Lib.hid hO1
      clear hcall hB1 hT1 hO1
      unfold rptr at *
      go_wp2_with fail
      rw [← hW1, ← hbo]
      clear hW1 hbo g0 g1
      refine HC.out.mono ?_
      rintro e w3 ⟨rfl, hT3⟩
      have hK3 := two_keep hT3
      have hB3 := Lib.hid (hK3 _ _ _ HB1.out (by decide))
      have hO3 := Lib.hid (own_keep HO1.out hK3 (by decide))
      have hcall := made_alloc (two_all hT3.drop) Hgj.out Hfit.out
      simp only [Hxl.out] at hcall
      have HC2 := Lib.hid hcall
      have d0 := hB3.out.cell_some (i := 0) rfl
      have d1 := hB3.out.cell_some (i := 1) rfl
      clear hcall hK3 HB1 HO1 HC hT3
      unfold hptr at *
      go_wp2_with fail
      refine HC2.out.mono ?_
      rintro e w4 ⟨rfl, hT4⟩
      have hK4 := two_keep hT4
      have hO4 := own_keep hO3.out hK4 (by decide)
      have hT4' := Lib.hid hT4.drop
      have hsz4 := hT4.upd.size
      rw [Hpl.out] at hO4
      clear hK4 hT4 hO3 HC2 hB3 d0 d1
      generalize hpp : posOf D j = pp at *
      have Hpp := Lib.hid hpp
      clear hpp
      go_wp2_with (at_builtin; refine wpList_app rfl _ _ 41 rfl w.heap.size 3 (.int .i64 0) 1 8 Try.underlying41 info_int rfl (by decide) _ _ _ rfl hO4 [.int .i64 ((pp : Int) + 1)] 1 rfl rfl (one1 rfl) (by unfold maxLen; omega) (by omega) (by omega) ?_; intro g cap w9 S hO9 hu9 hS9 hg9)
      have hT9 := hT4'.out.side hu9 (fun k hk => ⟨(hO4.lt k (hS9 k hk)).1, by
        obtain ⟨cs, B⟩ := own_blk hO4 (hS9 k hk)
        exact ⟨cs, _, B, by decide⟩⟩)
      have hM9 : Hid (MadeRel w w9 p bw bk pr ((zeroG D).take (j + 1)) ((zeroG D).take (j + 1)) (.slice (some ⟨g, 0, none⟩) (j + 1) cap) (posTo D (j + 1))) := by
        refine ⟨hT9, ?_⟩
        rw [Hps.out, List.length_append, Hpl.out, List.map_append]
        exact hO9
      clear hT9 hO9 hu9 hS9 hg9 hO4 hT4'
      go_wp2
      go_roundw
      case rel => exact ⟨j + 1, by omega, by go_num, hM9⟩
      case measure => simp [intOf]; omega
    · have hjn : j = D.length := by rw [hDl.out, HN.out]; omega
      have hM1 := hM.out
      rw [hjn, List.take_of_length_le (by rw [zeroG_len]; exact Nat.le_refl _), ← fillG_start, hDl.out, ← hat.out] at hM1
      obtain ⟨v, bs, hDu⟩ := hM1.two.duo
      have hO1 := hM1.own
      obtain ⟨sa, sc, hsv, hsl, hss⟩ := own_SlI hO1
      have hatl : at_.length = n := by rw [hat.out, posTo_len, HN.out]
      rw [hatl] at hsv hO1
      subst hsv
      have HDu := Lib.hid hDu
      have HO1 := Lib.hid hO1
      have HAL := Lib.hid hatl
      clear hM hM1 hDu hO1 hsl hss hjn hatl
      go_wp2_with fail
      go_loopw [54] (fun i wr => ∃ i0 : Nat, i0 ≤ n ∧ i = .int .i64 i0 ∧ Hid (Duo w wr p bw bk pr 3000 v bs (fillG D i0 0) (fillG D i0 0)) ∧ Hid (wr.ownsRow w.heap.size 3 1 (.slice sa n sc) n (at_.map (.int .i64)))) (fun i _ => n - (intOf i).toNat)
      case atStart => exact ⟨0, by omega, rfl, HDu, HO1⟩
      case round =>
        obtain ⟨i0, hi0, rfl, hDu, hO⟩ := hrel
        by_cases hlt2 : i0 < n
        · have hjl : i0 < l.length := by rw [HN.out]; exact hlt2
          obtain ⟨b, o, a', c', rfl, g0, g1, hmw⟩ := (HL.out.upd hDu.out.upd) i0 hjl
          obtain ⟨k0, k1, hrw, -⟩ := HR.out (l.getD i0 (0, [])) (by simp [List.getD_eq_getElem?_getD, hjl])
          have hgj := hg.out i0 hjl
          have hlen := hlen1.out i0 hjl
          clear hjl
          generalize (l.getD i0 (0, [])).1 = K at *
          generalize (l.getD i0 (0, [])).2 = xs at *
          obtain ⟨ln, hln⟩ : ∃ ln, ln = xs.length := ⟨_, rfl⟩
          rw [← hln] at g1 hlen
          have Hgj := Lib.hid hgj
          have Hmw := Lib.hid hmw
          have Hrw := Lib.hid hrw
          have Hln := Lib.hid hln
          have hU1 := (Upd.refl [] wr).alloc (.cells #[.int .u64 K, .slice a' ln c'] 138)
          have hD1 := Lib.hid (hDu.out.step hU1)
          have hO1 := Lib.hid (own_upd0 hO.out hU1)
          have hmw1 := Lib.hid (hmw.upd hU1)
          clear hgj hmw hrw hln hU1 hDu hO
          obtain ⟨_, _, e0, hsl0, hss⟩ := own_SlI hO1.out
          injection e0 with e1 e2 e3
          subst e1
          subst e3
          have hcw := Lib.hid (words18_calls ln c' n sc Hln.out.symm HAL.out hmw1.out Hrw.out hss (by omega) (by omega))
          clear hsl0 hss e2
          go_wp2_with fail
          refine hcw.out.mono ?_
          rintro e w3 ⟨a3, c3, rfl, hs3, hu3, hf3⟩
          have hD3 := Lib.hid (hD1.out.step hu3)
          have hO3 := Lib.hid (own_upd0 hO1.out hu3)
          have hvl : (xs.map (wordVal at_)).length = ln := by rw [List.length_map, Hln.out]
          have hvr : ∀ x, x ∈ xs.map (wordVal at_) → 0 ≤ x ∧ x < 18446744073709551616 := by
            intro x hx
            obtain ⟨z, hz, rfl⟩ := List.mem_map.1 hx
            exact wordVal_range _ (Hrw.out z hz)
          have hgn : fillG D i0 (xs.map (wordVal at_)).length = fillG D (i0 + 1) 0 := fillG_next Hgj.out
          have hgs := Lib.hid (fun k => fillG_set (k := k) Hgj.out)
          rw [hvl] at hgn
          have hps : at_.getD i0 0 = (posOf D i0 : Int) + 1 := by
            rw [hat.out]
            simp [posTo, List.getD_eq_getElem?_getD, HN.out, hlt2]
          rw [hvl]
          have Hvr := Lib.hid hvr
          have Hvl := Lib.hid hvl
          have Hgn := Lib.hid hgn
          have Hps := Lib.hid hps
          have Hf3 : Hid (∀ b' o', a3 = some ⟨b', o', none⟩ → b' ∉ bw :: bs) := by
            intro b' o' e hx
            obtain ⟨cs, t, B, _⟩ := hD1.out.sort hx
            have := B.lt
            have := hf3 b' o' e
            omega
          have Hs3 := Lib.hid hs3
          obtain ⟨ys, hys⟩ : ∃ ys, ys = xs.map (wordVal at_) := ⟨_, rfl⟩
          rw [← hys] at Hs3 Hvr Hvl hgs
          clear hs3 hu3 hf3 hvl hvr hgn hps hcw hD1 hO1 hmw1 Hmw Hrw g0 g1 hys Hgj
          go_wp2_with fail
          obtain ⟨wo, rfl⟩ : ∃ wo : World, wo = w3 := ⟨_, rfl⟩
          go_loopw [64] (fun i wr => ∃ k : Nat, k ≤ ln ∧ i = .int .i64 k ∧ Hid (Duo w wr p bw bk pr 3000 v bs (fillG D i0 k) (fillG D i0 k)) ∧ Hid (wr.ownsRow w.heap.size 3 1 (.slice sa n sc) n (at_.map (.int .i64))) ∧ Hid (SlI wr .u64 a3 ys)) (fun i _ => ln - (intOf i).toNat)
          case atStart => exact ⟨0, by omega, rfl, hD3, hO3, Hs3⟩
          case round =>
            obtain ⟨k, hk, rfl, hDu, hO, hS⟩ := hrel
            by_cases hlt3 : k < ln
            · have hkl : k < ys.length := by rw [Hvl.out]; exact hlt3
              obtain ⟨b3, o3, rfl, hc3⟩ := hS.out k hkl
              have hx := Hvr.out (ys.getD k 0) (by simp [List.getD_eq_getElem?_getD, hkl])
              obtain ⟨hs1, hs2⟩ := hgs.out k hkl
              obtain ⟨_, _, e0, hsl0, hss⟩ := own_SlI hO.out
              injection e0 with e1 e2 e3
              subst e1
              subst e3
              obtain ⟨b4, o4, rfl, hc4⟩ := hss i0 (by rw [hsl0]; exact hlt2)
              rw [Hps.out] at hc4
              have hL : k < (fillTo ys k).length := by rw [fillTo_len (by omega)]; exact hkl
              have hst := Lib.hid (set_A hDu.out.A hs2 k hL (ys.getD k 0) hx)
              rw [hs1] at hst
              have Hs1 := Lib.hid hs1
              have Hs2 := Lib.hid hs2
              have HL2 := Lib.hid hL
              have Hx := Lib.hid hx
              clear hs1 hs2 hL hkl hsl0 hss e2
              generalize ys.getD k 0 = x at *
              go_wp2_with fail
              refine hst.out.mono ?_
              rintro e w5 ⟨rfl, hA5, hu5⟩
              have hS1 : ∀ y, y ∈ [bw] → y ∈ bw :: bs := by simp
              have hD5 := Lib.hid (hDu.out.a hA5 hu5)
              have hO5 := Lib.hid (hDu.out.own hS1 hu5 hO.out (by decide))
              have hS5 := Lib.hid (hS.out.upd hu5 (fun b' o' e hb' => Hf3.out b' o' e (hS1 _ hb')))
              have hc5 : w5.cell? ⟨b4, o4 + i0, none⟩ = some (.int .i64 ((posOf D i0 : Int) + 1)) := by
                obtain ⟨_, _, e0, hsl0, hss⟩ := own_SlI hO5.out
                injection e0 with e1 e2 e3
                subst e3
                obtain ⟨b6, o6, e6, hc6⟩ := hss i0 (by rw [hsl0]; exact hlt2)
                rw [← e1] at e6
                cases e6
                rw [Hps.out] at hc6
                exact hc6
              have hg5 : getR (fillG D i0 k) ((posOf D i0 : Int) + 1) k = some ((fillTo ys k).getD k 0) := by
                unfold getR
                rw [objR_at Hs2.out]
                simp [List.getD_eq_getElem?_getD, HL2.out]
              have hrs := rset_calls hD5.out.R ((posOf D i0 : Int) + 1) k x Hx.out
              unfold setR at hrs
              rw [hg5] at hrs
              simp only [Option.isSome_some, if_true, show ((posOf D i0 : Int) + 1 - 1).toNat = posOf D i0 by omega, Int.toNat_natCast, Hs1.out] at hrs
              have HRS := Lib.hid hrs
              clear hrs hg5 Hs1 Hs2 HL2 hst hA5 hu5 hDu hO hS hc3 hc4
              generalize posOf D i0 = pp at *
              go_wp2_with fail
              refine HRS.out.mono ?_
              rintro e w6 ⟨rfl, hR6, hu6⟩
              have hS2 : ∀ y, y ∈ bs → y ∈ bw :: bs := fun y hy => List.mem_cons_of_mem _ hy
              have hD6 := Lib.hid (hD5.out.r hR6 hu6)
              have hO6 := Lib.hid (hD5.out.own hS2 hu6 hO5.out (by decide))
              have hS6 := Lib.hid (hS5.out.upd hu6 (fun b' o' e hb' => Hf3.out b' o' e (hS2 _ hb')))
              clear hR6 hu6 HRS hD5 hO5 hS5 hc5 hS1 hS2
              go_wp2
              go_roundw
              case rel => exact ⟨k + 1, by omega, by go_num, hD6, hO6, hS6⟩
              case measure => simp [intOf]; omega
            · have hkn : k = ln := by omega
              have hDn := hDu.out
              rw [hkn, Hgn.out] at hDn
              have HDn := Lib.hid hDn
              clear hDn hDu hkn hS
              go_wp2
              go_roundw
              case rel => exact ⟨i0 + 1, by omega, by go_num, HDn, hO⟩
              case measure => simp [intOf]; omega
        · have hin : i0 = D.length := by rw [hDl.out, HN.out]; omega
          have hDn := hDu.out
          rw [hin, fillG_done] at hDn
          obtain ⟨_, _, e0, hsl0, hss⟩ := own_SlI hO.out
          injection e0 with e1 e2 e3
          subst e1
          subst e3
          have HP : Hid (MadePost D at_ w (.returned (.tuple #[.pointer (some ⟨p, 0, none⟩), .pointer (some ⟨pr, 0, none⟩), .slice sa n sc])) wr) :=
            ⟨p, bw, bk, pr, v, bs, sa, sc, by rw [HAL.out], hDn, hss⟩
          clear hDn hDu hO hsl0 hss e2 hin
          go_wp2
          go_ret3
          exact HP.out
end Go.Proofs.Ytkbnkpllbgofhaa
