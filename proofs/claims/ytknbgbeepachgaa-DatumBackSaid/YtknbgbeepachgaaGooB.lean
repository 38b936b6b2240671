/-
  datum.good.
-/
import Derived.Test.YtknbgbeepachgaaGooA
namespace Go.Proofs.Ytknbgbeepachgaa
open Go.RowKit

/-- What is good is as it must be. -/
def GoodSaid (n : Nat) : Prop := ∀ (d : Dat) (cs : List Value) (w : World), IsD w (fun _ => True) n cs d → szN n d ≤ 100000 →
    Calls Try.prog 25 #[.agg cs.toArray] w fun e w' => (∃ r : Bool, e = .returned (.bool r) ∧ (r = true → normD n d = d)) ∧ Upd [] w w'
set_option maxRecDepth 100000 in
set_option maxHeartbeats 1500000 in
theorem good1_calls {n : Nat} (ih : GoodSaid n) {d : Dat} {cs : List Value} {w : World} (h : IsD w (fun _ => True) n cs d) (hs : szN n d ≤ 100000) :
    Calls Try.prog 40 #[.agg cs.toArray] w fun e w' => (∃ r : Bool, e = .returned (.bool r) ∧ (r = false → normD n d = d)) ∧ Upd [] w w' := by
  obtain ⟨k1, n1, a1, l1, p1, b1, s1, i1, m1, d1, t1, o1, q1, rfl⟩ := h.shaped
  have hu : Upd [] w (w.alloc (.cells #[.int .i64 k1, .bool n1, .slice a1 l1 p1, .bool b1, .string s1, .slice i1 m1 d1, .slice t1 o1 q1] 27)) := (Upd.refl [] w).alloc _
  have hC := Lib.hid (ih d _ _ (h.upd hu) hs)
  have HU := Lib.hid hu
  unfold datCells at *
  clear h hs hu ih
  go_enter Try.func40, Try.ntmps40
  go_wp2_with fail
  refine hC.out.mono ?_
  rintro e w2 ⟨⟨r, rfl, hr⟩, hu2⟩
  have HR := Lib.hid hr
  have HU2 := Lib.hid (HU.out.then hu2)
  clear hC hr hu2
  go_wp2
  go_ret
  exact ⟨⟨_, rfl, fun h => HR.out (by simpa using h)⟩, HU2.out⟩
set_option maxRecDepth 100000 in
set_option maxHeartbeats 1500000 in
theorem indexFunc_calls {n : Nat} (ih : GoodSaid n) {w : World} {a : Option Addr} {ds : List Dat} (m c : Nat) (hm : ds.length = m) (h : RowOf w (fun _ => True) (IsD w (fun _ => True) n) a ds) (hs : szL (szN n) ds ≤ 100000) (hb : m ≤ 100000) :
    Calls Try.prog 45 #[.slice a m c, .func (.func 40) #[] #[]] w fun e w' => (∃ k : Int, e = .returned (.int .i64 k) ∧ (k < 0 → ∀ i, i < ds.length → normD n (ds.getD i default) = ds.getD i default)) ∧ Upd [] w w' := by
  have IH := Lib.hid ih
  have HR := Lib.hid h
  have HM := Lib.hid hm
  have HS := Lib.hid hs
  clear ih h hm hs
  go_enter Try.func45, Try.ntmps45
  go_wp2_with fail
  go_loopw [8] (fun i wr => ∃ j : Nat, j ≤ m ∧ i = .int .i64 j ∧ Hid (∀ i, i < j → normD n (ds.getD i default) = ds.getD i default) ∧ Hid (Upd [] w wr)) (fun i _ => m - (intOf i).toNat)
  case atStart => exact ⟨0, by omega, rfl, Lib.hid (fun i hi => by omega), Lib.hid (Upd.refl _ _)⟩
  case round =>
    obtain ⟨j, hj, rfl, hG, hU⟩ := hrel
    by_cases hlt : j < m
    · have hjd : j < ds.length := by rw [HM.out]; exact hlt
      obtain ⟨b, o, cs, rfl, _, hat, hd0⟩ := HR.out j hjd
      have hsz := szL_get (szN n) hjd
      have HG1 : Hid (normD n (ds.getD j default) = ds.getD j default → ∀ i, i < j + 1 → normD n (ds.getD i default) = ds.getD i default) := Lib.hid (fun h i hi => by
        by_cases hij : i < j
        · exact hG.out i hij
        · rw [show i = j by omega]
          exact h)
      obtain ⟨x, hx⟩ : ∃ x, x = ds.getD j default := ⟨_, rfl⟩
      rw [← hx] at hd0 hsz HG1
      clear hx
      obtain ⟨k1, n1, a1, l1, p1, b1, s1, i1, m1, d1, t1, o1, q1, rfl⟩ := hd0.shaped
      obtain ⟨x0, x1, x2, x3, x4, x5, x6⟩ := (hat.upd hU.out (by simp)).cells
      have HC := Lib.hid (good1_calls IH.out (hd0.upd hU.out) (Nat.le_trans hsz HS.out))
      unfold datCells at HC
      clear hat hd0 hsz
      go_wp2_with fail
      refine HC.out.mono ?_
      rintro e w5 ⟨⟨r, rfl, hr⟩, hu5⟩
      have HU5 := Lib.hid (hU.out.then hu5)
      have HRR := Lib.hid hr
      clear HC hu5 hr x0 x1 x2 x3 x4 x5 x6
      cases r with
      | true =>
        go_wp2
        go_ret
        exact ⟨⟨_, rfl, fun h => by omega⟩, HU5.out⟩
      | false =>
        have HX := Lib.hid (HG1.out (HRR.out rfl))
        clear HRR HG1
        go_wp2
        go_roundw
        case rel => exact ⟨j + 1, by omega, by go_num, HX, HU5⟩
        case measure => simp [intOf]; omega
    · have hjm : j = m := by omega
      subst hjm
      go_wp2
      go_ret
      exact ⟨⟨_, rfl, fun _ i hi => hG.out i (by rw [← HM.out]; exact hi)⟩, hU.out⟩
set_option maxRecDepth 100000 in
set_option maxHeartbeats 1500000 in
theorem containsFunc_calls {n : Nat} (ih : GoodSaid n) {w : World} {a : Option Addr} {ds : List Dat} (m c : Nat) (hm : ds.length = m) (h : RowOf w (fun _ => True) (IsD w (fun _ => True) n) a ds) (hs : szL (szN n) ds ≤ 100000) (hb : m ≤ 100000) :
    Calls Try.prog 38 #[.slice a m c, .func (.func 40) #[] #[]] w fun e w' => (∃ r : Bool, e = .returned (.bool r) ∧ (r = false → ∀ i, i < ds.length → normD n (ds.getD i default) = ds.getD i default)) ∧ Upd [] w w' := by
  have hC := Lib.hid (indexFunc_calls ih m c hm h hs hb)
  clear ih h hm hs
  go_enter Try.func38, Try.ntmps38
  go_wp2_with fail
  refine hC.out.mono ?_
  rintro e w2 ⟨⟨k, rfl, hk⟩, hu2⟩
  have HK := Lib.hid hk
  have HU2 := Lib.hid hu2
  clear hC hk hu2
  go_wp2
  go_ret
  exact ⟨⟨_, rfl, fun h => HK.out (by simp at h; omega)⟩, HU2.out⟩
end Go.Proofs.Ytknbgbeepachgaa
