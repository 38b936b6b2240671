/-
  Texts of this claim, merged: MaY. Lemmas and contracts; no conditions of our own.
-/
import Derived.Test.YthmpaepdbjldfaaG34

/-
  (*match.filler).symbol.
-/
namespace Go.Proofs.Ythmpaepdbjldfaa
set_option linter.unusedVariables false
set_option linter.unusedSimpArgs false
open Go.RowKit Go.Shelf

def symF (m : Nat) (s : List Bd) (t : Dat) (st : St) : Dat × St := match atF s t.s with
  | none => (t, st)
  | some x => (x.d, ⟨st.left - ((szN m x.d : Int) - 1), (if x.many then st.fail 5 else st).e⟩)
/-- What fill answers. -/
def FillPost (w : World) (F : Nat) (P : Nat → Prop) (lv : Nat) (r : Dat × St) (e : Ending) (w' : World) : Prop :=
  (∃ cs, e = .returned (.agg cs.toArray) ∧ IsD w' (fun b => P b ∨ w.heap.size ≤ b) lv cs r.1) ∧ Blk w' F [.int .i64 r.2.left, .int .i64 r.2.e] 93 ∧ Upd [F] w w'
set_option maxRecDepth 100000 in
set_option maxHeartbeats 3000000 in
theorem symbol_calls {P P2 : Nat → Prop} {m n N : Nat} {t : Dat} {cs : List Value} {w : World} {F k c : Nat} {a : Option Addr} {s : List Bd} {l e0 : Int} (hB : Blk w F [.int .i64 l, .int .i64 e0] 93) (ht : IsD w P n cs t) (hPF : ∀ b, P b → b ≠ F) (hR : RowK w P2 10 (IsB w P m N) a s) (hk : s.length = k) (hkb : k ≤ 100000000) (hl : -1000000000 ≤ l ∧ l ≤ 1000000000) :
    Calls Try.prog 80 #[.pointer (some ⟨F, 0, none⟩), .agg cs.toArray, .slice a k c] w (FillPost w F P (m + n) (symF m s t ⟨l, e0⟩)) := by
  have hRu : ∀ W, Upd [] w W → RowK W P2 10 (IsB W P m N) a s := fun W hu => hR.upd (by decide) hu (by simp) (fun _ _ hb => hb.upd hu)
  have hAt := Lib.hid (fun (W : World) (hu : Upd [] w W) => at_calls t.s k c hk (hRu W hu) hkb)
  have hltF := hB.lt
  have HT := Lib.hid ht
  have HB := Lib.hid hB
  have HPF := Lib.hid hPF
  obtain ⟨AR, hAR⟩ : ∃ A, A = atF s t.s := ⟨_, rfl⟩
  obtain ⟨RR, hRR⟩ : ∃ R, R = symF m s t ⟨l, e0⟩ := ⟨_, rfl⟩
  have HN : Hid (AR = none → RR = (t, ⟨l, e0⟩)) := Lib.hid (fun h => by rw [hRR]; unfold symF; rw [← hAR, h])
  have HS : Hid (∀ x, AR = some x → RR = (x.d, ⟨l - ((szN m x.d : Int) - 1), (if x.many then (⟨l, e0⟩ : St).fail 5 else ⟨l, e0⟩).e⟩)) := Lib.hid (fun x h => by rw [hRR]; unfold symF; rw [← hAR, h])
  rw [← hAR] at hAt
  rw [← hRR]
  obtain ⟨yL, zL, yI, zI, yT, zT, rfl⟩ := cells_agg ht
  unfold datCells at *
  obtain ⟨W2, hW2⟩ : ∃ W2, W2 = (w.alloc (.cells #[.int .i64 t.kind, .bool t.neg, .slice yL t.limbs.length zL, .bool t.b, .string t.s, .slice yI t.items.length zI, .slice yT t.tail.length zT] 27)).alloc (.cells #[.int .i64 0, .bool false, .slice none 0 0, .bool false, .string ⟨#[]⟩, .slice none 0 0, .slice none 0 0] 27) := ⟨_, rfl⟩
  have hu2 : Upd [] w W2 := by rw [hW2]; exact ((Upd.refl [] w).alloc _).alloc _
  have hb2 : Blk W2 w.heap.size [.int .i64 t.kind, .bool t.neg, .slice yL t.limbs.length zL, .bool t.b, .string t.s, .slice yI t.items.length zI, .slice yT t.tail.length zT] 27 := by rw [hW2]; exact (Blk.newAt rfl).alloc _
  have hb3 : Blk W2 (w.heap.size + 1) [.int .i64 0, .bool false, .slice none 0 0, .bool false, .string ⟨#[]⟩, .slice none 0 0, .slice none 0 0] 27 := by rw [hW2]; exact Blk.newAt (by simp)
  have HB2 := Lib.hid hb2
  have HB3 := Lib.hid hb3
  have HU2 := Lib.hid hu2
  have HW2 := Lib.hid hW2
  clear hAR hRR ht hR hRu hk hkb hPF hB hu2 hb2 hb3 hW2
  generalize t.kind = kd at *
  generalize t.neg = ng at *
  generalize t.limbs.length = nl at *
  generalize t.b = bb at *
  generalize t.s = ss at *
  generalize t.items.length = ni at *
  generalize t.tail.length = nt at *
  go_enter Try.func80, Try.ntmps80
  go_wp2_with fail
  rw [← HW2.out]
  refine (hAt.out _ HU2.out).mono ?_
  rintro e w3 ⟨hu3, hpost⟩
  have HU3 := Lib.hid (HU2.out.then hu3)
  have HU23 := Lib.hid hu3
  have hb2 := hu3.blk HB2.out (by simp)
  have hb3 := hu3.blk HB3.out (by simp)
  have hF3 := HU3.out.blk HB.out (by simp)
  have HC2 := Lib.hid hb2
  have HC3 := Lib.hid hb3
  have HF3 := Lib.hid hF3
  obtain ⟨x0, x1, x2, x3, x4, x5, x6⟩ := Blk.seven hb2
  have hlt3 := hb3.lt
  clear hAt hu3 hb2 hb3 hF3 HB2 HB3 HU2 HW2 HB
  cases AR with
  | none =>
    have hpe : e = .returned (.tuple #[zeroTr, .bool false]) := hpost
    subst hpe
    have HX : Hid (RR = (t, ⟨l, e0⟩)) := Lib.hid (HN.out rfl)
    clear hpost HN HS
    unfold zeroTr
    go_upto_region 3 with (fail)
    obtain ⟨W4, hW4⟩ : ∃ W4, W4 = w3.alloc (.cells #[.int .i64 0, .bool false, .slice none 0 0, .bool false, .string ByteArray.empty, .slice none 0 0, .slice none 0 0, .bool false, .slice none 0 0] 64) := ⟨_, rfl⟩
    have hu34 : Upd [] w3 W4 := by rw [hW4]; exact (Upd.refl [] w3).alloc _
    rw [← hW4]
    have hb2 := hu34.blk HC2.out (by simp)
    have hb3 := hu34.blk HC3.out (by simp)
    have hF4 := hu34.blk HF3.out (by simp)
    have HU4 := Lib.hid (HU3.out.then hu34)
    have HB4 := Lib.hid hb3
    have HF4 := Lib.hid hF4
    clear hW4 x0 x1 x2 x3 x4 x5 x6
    obtain ⟨x0, x1, x2, x3, x4, x5, x6⟩ := Blk.seven hb2
    obtain ⟨r0, r1, r2, r3, r4, r5, r6⟩ := Blk.seven hb3
    have f0 := hb3.free 0
    have f1 := hb3.free 1
    have f2 := hb3.free 2
    have f3 := hb3.free 3
    have f4 := hb3.free 4
    have f5 := hb3.free 5
    have f6 := hb3.free 6
    have hlt4 := hb3.lt
    clear hb2 hb3 hF4 hu34 HC2 HC3 HF3
    go_wp2
    have hBf := HB4.out.put7 (.int .i64 kd) (.bool ng) (.slice yL nl zL) (.bool bb) (.string ss) (.slice yI ni zI) (.slice yT nt zT)
    have hUf := HU4.out.put7 (b := w.heap.size + 1) (.inr (Nat.le_succ _)) (.int .i64 kd) (.bool ng) (.slice yL nl zL) (.bool bb) (.string ss) (.slice yI ni zI) (.slice yT nt zT)
    have hup := (Upd.refl [w.heap.size + 1] W4).put7 (b := w.heap.size + 1) (.inl (by simp)) (.int .i64 kd) (.bool ng) (.slice yL nl zL) (.bool bb) (.string ss) (.slice yI ni zI) (.slice yT nt zT)
    obtain ⟨k0, k1, k2, k3, k4, k5, k6⟩ := Blk.seven hBf
    refine bodyPost_ret (v := .agg #[.int .i64 kd, .bool ng, .slice yL nl zL, .bool bb, .string ss, .slice yI ni zI, .slice yT nt zT]) ?_ rfl ⟨⟨[.int .i64 kd, .bool ng, .slice yL nl zL, .bool bb, .string ss, .slice yI ni zI, .slice yT nt zT], rfl, ?_⟩, ?_, hUf.mono (by simp)⟩
    · simp [results, Try.results80, go_sem, k0, k1, k2, k3, k4, k5, k6]
    · rw [HX.out, Nat.add_comm m n]
      exact ((HT.out.upd hUf).more m).mono (fun b _ hb => .inl hb)
    · rw [HX.out]
      exact hup.blk HF4.out (by simp; omega)
  | some x =>
    obtain ⟨ct, rfl, hct⟩ := hpost
    have HX := Lib.hid (HS.out x rfl)
    obtain ⟨N', rfl⟩ : ∃ N', N = N' + 1 := by
      cases N with
      | zero => exact hct.elim
      | succ N => exact ⟨N, rfl⟩
    obtain ⟨cd, aK, cK, rfl, ⟨hd, hsd, hdd⟩, _, _, _⟩ := hct
    obtain ⟨dk, dn, da, dl, dc, db, ds, di, dm, dd, dt, du, dv, rfl⟩ := hd.shaped7
    have hd3 := hd.upd HU23.out
    obtain ⟨mny, hmny⟩ : ∃ b, b = x.many := ⟨_, rfl⟩
    obtain ⟨kln, hkln⟩ : ∃ b, b = x.kids.length := ⟨_, rfl⟩
    rw [← hmny] at HX ⊢
    rw [← hkln]
    obtain ⟨sz, hsz⟩ : ∃ z, z = szN m x.d := ⟨_, rfl⟩
    rw [← hsz] at HX hsd
    have HSZ := Lib.hid hsz
    clear hd HS HN HU23 hmny hkln hsz
    cases mny with
    | false =>
      have hu34 : Upd [] w3 (w3.alloc (.cells #[.int .i64 dk, .bool dn, .slice da dl dc, .bool db, .string ds, .slice di dm dd, .slice dt du dv, .bool false, .slice aK kln cK] 64)) := (Upd.refl [] w3).alloc _
      have HTB4 : Hid (Blk (w3.alloc (.cells #[.int .i64 dk, .bool dn, .slice da dl dc, .bool db, .string ds, .slice di dm dd, .slice dt du dv, .bool false, .slice aK kln cK] 64)) w3.heap.size [.int .i64 dk, .bool dn, .slice da dl dc, .bool db, .string ds, .slice di dm dd, .slice dt du dv, .bool false, .slice aK kln cK] 64) := Lib.hid (Blk.newAt rfl)
      have HF4 := Lib.hid (hu34.blk HF3.out (by simp))
      have HR4 := Lib.hid (hu34.blk HC3.out (by simp))
      have HD4 := Lib.hid (hd3.upd hu34)
      have HU4 : Hid (Upd [F] w (w3.alloc (.cells #[.int .i64 dk, .bool dn, .slice da dl dc, .bool db, .string ds, .slice di dm dd, .slice dt du dv, .bool false, .slice aK kln cK] 64))) := Lib.hid ((HU3.out.then hu34).mono (by simp))
      have hF3lt := HF3.out.lt
      have hneTF : w3.heap.size ≠ F := by omega
      clear hu34 x0 x1 x2 x3 x4 x5 x6 HC2 HC3 HF3 hd3
      go_wp2_with fail
      obtain ⟨W5, hW5⟩ : ∃ W5, W5 = (w3.alloc (.cells #[.int .i64 dk, .bool dn, .slice da dl dc, .bool db, .string ds, .slice di dm dd, .slice dt du dv, .bool false, .slice aK kln cK] 64)) := ⟨_, rfl⟩
      rw [← hW5] at HTB4 HF4 HR4 HD4 HU4 ⊢
      clear hW5
      have HTB5 := HTB4
      have HF5 := HF4
      have HR5 := HR4
      have HD5 := HD4
      have HU5 := HU4
      obtain ⟨z0, z1, z2, z3, z4, z5, z6, z7, z8⟩ := HTB5.out.nine
      have c0 := HF5.out.cell_some (i := 0) rfl
      have fF := HF5.out.free 0
      have hlF := HF5.out.lt
      have hlT := HTB5.out.lt
      have HSz := Lib.hid (fun W (hu : Upd [] W5 W) => size_calls (HD5.out.upd hu) (by rw [← HSZ.out]; omega))
      rw [← HSZ.out] at HSz
      have hw1 : IntKind.i64.wrap ((sz : Int) - 1) = (sz : Int) - 1 := IntWalk.i64_in _ (by omega)
      have hw2 : IntKind.i64.wrap (l - ((sz : Int) - 1)) = l - ((sz : Int) - 1) := IntWalk.i64_in _ (by omega)
      refine wp_region_noPanic ?_
      go_region_law ((try dsimp (config := { proj := false }) only [List.getElem_toArray, List.getElem_cons_succ, List.getElem_cons_zero]); (first | (go_simp; go_wp2_with (go_at_call 39; refine (HSz.out _ (Upd.refl [] W5).drew).mono ?_; rintro e w6 ⟨rfl, hu6⟩; have hu := Upd.then (Upd.refl [] W5).drew hu6; have hT6 := hu.blk HTB5.out (by simp); have hF6 := hu.blk HF5.out (by simp); obtain ⟨z0, z1, z2, z3, z4, z5, z6, z7, z8⟩ := hT6.nine; have c0 := hF6.cell_some (i := 0) rfl; have fF := hF6.free 0; have hlF := hF6.lt; have hlT := hT6.lt))))
      all_goals refine NoPanic.normal ?_
      all_goals
        obtain ⟨W7, hW7⟩ : ∃ W7, W7 = w6.setCell ⟨F, 0, none⟩ (.int .i64 (l - ((sz : Int) - 1))) := ⟨_, rfl⟩
        rw [← hW7]
        have hT7 : Blk W7 w3.heap.size [.int .i64 dk, .bool dn, .slice da dl dc, .bool db, .string ds, .slice di dm dd, .slice dt du dv, .bool false, .slice aK kln cK] 64 := by rw [hW7]; exact hT6.set_other _ hneTF
        have hF7 : Blk W7 F [.int .i64 (l - ((sz : Int) - 1)), .int .i64 e0] 93 := by rw [hW7]; exact hF6.set 0 _
        have hR7 : Blk W7 (w.heap.size + 1) [.int .i64 0, .bool false, .slice none 0 0, .bool false, .string ⟨#[]⟩, .slice none 0 0, .slice none 0 0] 27 := by rw [hW7]; exact (hu.blk HR5.out (by simp)).set_other _ (by simp; omega)
        have hU7 : Upd [F] w W7 := by rw [hW7]; exact (HU5.out.then0 hu).setCell _ (.inl (by simp))
        have hD7 : IsD W7 P m [.int .i64 dk, .bool dn, .slice da dl dc, .bool db, .string ds, .slice di dm dd, .slice dt du dv] x.d := by rw [hW7]; exact (HD5.out.upd hu).set_other _ _ (fun b hb => HPF.out b hb)
        have HCp := Lib.hid (copy_calls hD7 (by rw [← HSZ.out]; omega) (by omega))
        have HF7 := Lib.hid hF7
        have HR7 := Lib.hid hR7
        have HU7 := Lib.hid hU7
        have hsz7 : w.heap.size ≤ W7.heap.size := hU7.size
        have hlR7 := hR7.lt
        clear hW7 hF7 hR7 hU7 hD7 hu hu6 hT6 hF6 z0 z1 z2 z3 z4 z5 z6 z7 z8 c0 fF hlF hlT HD5 HSz HF5 HTB5 HR5 HU5
        obtain ⟨z0, z1, z2, z3, z4, z5, z6, z7, z8⟩ := hT7.nine
        have hlT := hT7.lt
        clear hT7
        go_wp2_with fail
        refine HCp.out.mono ?_
        rintro e w8 ⟨⟨cs8, rfl, hD8⟩, hu8⟩
        obtain ⟨g0, g1, g2, g3, g4, g5, g6, g7, g8, g9, g10, g11, g12, rfl⟩ := hD8.shaped7
        have hR8 := hu8.blk HR7.out (by simp)
        have HF8 := Lib.hid (hu8.blk HF7.out (by simp))
        have HR8 := Lib.hid hR8
        have HU8 := Lib.hid (HU7.out.then0 hu8)
        have HD8 := Lib.hid hD8
        obtain ⟨r0, r1, r2, r3, r4, r5, r6⟩ := Blk.seven hR8
        have f0 := hR8.free 0
        have f1 := hR8.free 1
        have f2 := hR8.free 2
        have f3 := hR8.free 3
        have f4 := hR8.free 4
        have f5 := hR8.free 5
        have f6 := hR8.free 6
        have hlR := hR8.lt
        clear hR8 hu8 hD8 HCp HR7 HF7 HU7 z0 z1 z2 z3 z4 z5 z6 z7 z8
        go_wp2
        have hBf := HR8.out.put7 (.int .i64 g0) (.bool g1) (.slice g2 g3 g4) (.bool g5) (.string g6) (.slice g7 g8 g9) (.slice g10 g11 g12)
        have hUf := HU8.out.put7 (b := w.heap.size + 1) (.inr (Nat.le_succ _)) (.int .i64 g0) (.bool g1) (.slice g2 g3 g4) (.bool g5) (.string g6) (.slice g7 g8 g9) (.slice g10 g11 g12)
        have hup := (Upd.refl [w.heap.size + 1] w8).put7 (b := w.heap.size + 1) (.inl (by simp)) (.int .i64 g0) (.bool g1) (.slice g2 g3 g4) (.bool g5) (.string g6) (.slice g7 g8 g9) (.slice g10 g11 g12)
        obtain ⟨k0, k1, k2, k3, k4, k5, k6⟩ := Blk.seven hBf
        refine bodyPost_ret (v := .agg #[.int .i64 g0, .bool g1, .slice g2 g3 g4, .bool g5, .string g6, .slice g7 g8 g9, .slice g10 g11 g12]) ?_ rfl ⟨⟨[.int .i64 g0, .bool g1, .slice g2 g3 g4, .bool g5, .string g6, .slice g7 g8 g9, .slice g10 g11 g12], rfl, ?_⟩, ?_, hUf⟩
        · simp [results, Try.results80, go_sem, k0, k1, k2, k3, k4, k5, k6]
        · rw [HX.out]
          refine ((HD8.out.updS hup (fun b hb => ?_)).more n).mono (fun b _ hb => .inr (by omega))
          simp
          omega
        · rw [HX.out]
          exact hup.blk HF8.out (by simp; omega)
    | true =>
      have hu34 : Upd [] w3 (w3.alloc (.cells #[.int .i64 dk, .bool dn, .slice da dl dc, .bool db, .string ds, .slice di dm dd, .slice dt du dv, .bool true, .slice aK kln cK] 64)) := (Upd.refl [] w3).alloc _
      have HTB4 : Hid (Blk (w3.alloc (.cells #[.int .i64 dk, .bool dn, .slice da dl dc, .bool db, .string ds, .slice di dm dd, .slice dt du dv, .bool true, .slice aK kln cK] 64)) w3.heap.size [.int .i64 dk, .bool dn, .slice da dl dc, .bool db, .string ds, .slice di dm dd, .slice dt du dv, .bool true, .slice aK kln cK] 64) := Lib.hid (Blk.newAt rfl)
      have HF4 := Lib.hid (hu34.blk HF3.out (by simp))
      have HR4 := Lib.hid (hu34.blk HC3.out (by simp))
      have HD4 := Lib.hid (hd3.upd hu34)
      have HU4 : Hid (Upd [F] w (w3.alloc (.cells #[.int .i64 dk, .bool dn, .slice da dl dc, .bool db, .string ds, .slice di dm dd, .slice dt du dv, .bool true, .slice aK kln cK] 64))) := Lib.hid ((HU3.out.then hu34).mono (by simp))
      have hF3lt := HF3.out.lt
      have hneTF : w3.heap.size ≠ F := by omega
      clear hu34 x0 x1 x2 x3 x4 x5 x6 HC2 HC3 HF3 hd3
      go_wp2_with fail
      obtain ⟨W4, hW5⟩ : ∃ W4, W4 = (w3.alloc (.cells #[.int .i64 dk, .bool dn, .slice da dl dc, .bool db, .string ds, .slice di dm dd, .slice dt du dv, .bool true, .slice aK kln cK] 64)) := ⟨_, rfl⟩
      rw [← hW5] at HTB4 HF4 HR4 HD4 HU4 ⊢
      clear hW5
      refine (fail_calls 5 HF4.out).mono ?_
      rintro e W5 ⟨rfl, hF5, hu5⟩
      obtain ⟨e1, he1⟩ : ∃ e1, e1 = if e0 = 0 then 5 else e0 := ⟨_, rfl⟩
      rw [← he1] at hF5
      have HE1 : Hid (((⟨l, e0⟩ : St).fail 5).e = e1) := Lib.hid (by rw [he1]; unfold St.fail; split <;> rfl)
      have HTB5 := Lib.hid (hu5.blk HTB4.out (by simpa using hneTF))
      have HF5 := Lib.hid hF5
      have HR5 := Lib.hid (hu5.blk HR4.out (by simp; omega))
      have HD5 := Lib.hid (HD4.out.updS hu5 (fun b hb => by simpa using HPF.out b hb))
      have HU5 := Lib.hid (HU4.out.then hu5)
      clear he1 hF5 hu5 HTB4 HF4 HR4 HD4 HU4
      go_wp2_with fail
      obtain ⟨z0, z1, z2, z3, z4, z5, z6, z7, z8⟩ := HTB5.out.nine
      have c0 := HF5.out.cell_some (i := 0) rfl
      have fF := HF5.out.free 0
      have hlF := HF5.out.lt
      have hlT := HTB5.out.lt
      have HSz := Lib.hid (fun W (hu : Upd [] W5 W) => size_calls (HD5.out.upd hu) (by rw [← HSZ.out]; omega))
      rw [← HSZ.out] at HSz
      have hw1 : IntKind.i64.wrap ((sz : Int) - 1) = (sz : Int) - 1 := IntWalk.i64_in _ (by omega)
      have hw2 : IntKind.i64.wrap (l - ((sz : Int) - 1)) = l - ((sz : Int) - 1) := IntWalk.i64_in _ (by omega)
      refine wp_region_noPanic ?_
      go_region_law ((try dsimp (config := { proj := false }) only [List.getElem_toArray, List.getElem_cons_succ, List.getElem_cons_zero]); (first | (go_simp; go_wp2_with (go_at_call 39; refine (HSz.out _ (Upd.refl [] W5).drew).mono ?_; rintro e w6 ⟨rfl, hu6⟩; have hu := Upd.then (Upd.refl [] W5).drew hu6; have hT6 := hu.blk HTB5.out (by simp); have hF6 := hu.blk HF5.out (by simp); obtain ⟨z0, z1, z2, z3, z4, z5, z6, z7, z8⟩ := hT6.nine; have c0 := hF6.cell_some (i := 0) rfl; have fF := hF6.free 0; have hlF := hF6.lt; have hlT := hT6.lt))))
      all_goals refine NoPanic.normal ?_
      all_goals
        obtain ⟨W7, hW7⟩ : ∃ W7, W7 = w6.setCell ⟨F, 0, none⟩ (.int .i64 (l - ((sz : Int) - 1))) := ⟨_, rfl⟩
        rw [← hW7]
        have hT7 : Blk W7 w3.heap.size [.int .i64 dk, .bool dn, .slice da dl dc, .bool db, .string ds, .slice di dm dd, .slice dt du dv, .bool true, .slice aK kln cK] 64 := by rw [hW7]; exact hT6.set_other _ hneTF
        have hF7 : Blk W7 F [.int .i64 (l - ((sz : Int) - 1)), .int .i64 e1] 93 := by rw [hW7]; exact hF6.set 0 _
        have hR7 : Blk W7 (w.heap.size + 1) [.int .i64 0, .bool false, .slice none 0 0, .bool false, .string ⟨#[]⟩, .slice none 0 0, .slice none 0 0] 27 := by rw [hW7]; exact (hu.blk HR5.out (by simp)).set_other _ (by simp; omega)
        have hU7 : Upd [F] w W7 := by rw [hW7]; exact (HU5.out.then0 hu).setCell _ (.inl (by simp))
        have hD7 : IsD W7 P m [.int .i64 dk, .bool dn, .slice da dl dc, .bool db, .string ds, .slice di dm dd, .slice dt du dv] x.d := by rw [hW7]; exact (HD5.out.upd hu).set_other _ _ (fun b hb => HPF.out b hb)
        have HCp := Lib.hid (copy_calls hD7 (by rw [← HSZ.out]; omega) (by omega))
        have HF7 := Lib.hid hF7
        have HR7 := Lib.hid hR7
        have HU7 := Lib.hid hU7
        have hsz7 : w.heap.size ≤ W7.heap.size := hU7.size
        have hlR7 := hR7.lt
        clear hW7 hF7 hR7 hU7 hD7 hu hu6 hT6 hF6 z0 z1 z2 z3 z4 z5 z6 z7 z8 c0 fF hlF hlT HD5 HSz HF5 HTB5 HR5 HU5
        obtain ⟨z0, z1, z2, z3, z4, z5, z6, z7, z8⟩ := hT7.nine
        have hlT := hT7.lt
        clear hT7
        go_wp2_with fail
        refine HCp.out.mono ?_
        rintro e w8 ⟨⟨cs8, rfl, hD8⟩, hu8⟩
        obtain ⟨g0, g1, g2, g3, g4, g5, g6, g7, g8, g9, g10, g11, g12, rfl⟩ := hD8.shaped7
        have hR8 := hu8.blk HR7.out (by simp)
        have HF8 := Lib.hid (hu8.blk HF7.out (by simp))
        have HR8 := Lib.hid hR8
        have HU8 := Lib.hid (HU7.out.then0 hu8)
        have HD8 := Lib.hid hD8
        obtain ⟨r0, r1, r2, r3, r4, r5, r6⟩ := Blk.seven hR8
        have f0 := hR8.free 0
        have f1 := hR8.free 1
        have f2 := hR8.free 2
        have f3 := hR8.free 3
        have f4 := hR8.free 4
        have f5 := hR8.free 5
        have f6 := hR8.free 6
        have hlR := hR8.lt
        clear hR8 hu8 hD8 HCp HR7 HF7 HU7 z0 z1 z2 z3 z4 z5 z6 z7 z8
        go_wp2
        have hBf := HR8.out.put7 (.int .i64 g0) (.bool g1) (.slice g2 g3 g4) (.bool g5) (.string g6) (.slice g7 g8 g9) (.slice g10 g11 g12)
        have hUf := HU8.out.put7 (b := w.heap.size + 1) (.inr (Nat.le_succ _)) (.int .i64 g0) (.bool g1) (.slice g2 g3 g4) (.bool g5) (.string g6) (.slice g7 g8 g9) (.slice g10 g11 g12)
        have hup := (Upd.refl [w.heap.size + 1] w8).put7 (b := w.heap.size + 1) (.inl (by simp)) (.int .i64 g0) (.bool g1) (.slice g2 g3 g4) (.bool g5) (.string g6) (.slice g7 g8 g9) (.slice g10 g11 g12)
        obtain ⟨k0, k1, k2, k3, k4, k5, k6⟩ := Blk.seven hBf
        refine bodyPost_ret (v := .agg #[.int .i64 g0, .bool g1, .slice g2 g3 g4, .bool g5, .string g6, .slice g7 g8 g9, .slice g10 g11 g12]) ?_ rfl ⟨⟨[.int .i64 g0, .bool g1, .slice g2 g3 g4, .bool g5, .string g6, .slice g7 g8 g9, .slice g10 g11 g12], rfl, ?_⟩, ?_, hUf⟩
        · simp [results, Try.results80, go_sem, k0, k1, k2, k3, k4, k5, k6]
        · rw [HX.out]
          refine ((HD8.out.updS hup (fun b hb => ?_)).more n).mono (fun b _ hb => .inr (by omega))
          simp
          omega
        · rw [HX.out]
          show Blk _ F [.int .i64 (l - ((sz : Int) - 1)), .int .i64 ((⟨l, e0⟩ : St).fail 5).e] 93
          rw [HE1.out]
          exact hup.blk HF8.out (by simp; omega)
end Go.Proofs.Ythmpaepdbjldfaa
