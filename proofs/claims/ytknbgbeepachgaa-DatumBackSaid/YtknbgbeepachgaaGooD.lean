/-
  datum.Good.
-/
import Derived.Test.YtknbgbeepachgaaGooC
namespace Go.Proofs.Ytknbgbeepachgaa
open Go.RowKit

set_option maxRecDepth 100000 in
set_option maxHeartbeats 1500000 in
theorem Good_calls {P : Nat → Prop} {n : Nat} {d : Dat} {cs : List Value} {w : World} (h : IsD w P n cs d) (hs : szN n d ≤ 100000) :
    Calls Try.prog 13 #[.agg cs.toArray] w fun e w' => (∃ r, e = .returned (.bool r) ∧ (r = true → normD n d = d)) ∧ Upd [] w w' := by
  obtain ⟨k1, n1, a1, l1, p1, b1, s1, i1, m1, d1, t1, o1, q1, rfl⟩ := h.shaped
  have hC := Lib.hid (fun (W : World) (hu : Upd [] w W) => within_calls P n d _ W 5000 200 (h.upd hu) (by omega) (by omega) (by omega) (by omega))
  have hG := Lib.hid (fun (W : World) (hu : Upd [] w W) => good_calls n d _ W (h.any.upd hu) hs)
  have hB := Lib.hid (Blk.new w [.int .i64 k1, .bool n1, .slice a1 l1 p1, .bool b1, .string s1, .slice i1 m1 d1, .slice t1 o1 q1] 27)
  have hU := Lib.hid ((Upd.refl [] w).alloc (.cells #[.int .i64 k1, .bool n1, .slice a1 l1 p1, .bool b1, .string s1, .slice i1 m1 d1, .slice t1 o1 q1] 27))
  clear h hs
  unfold datCells at *
  obtain ⟨r, hr⟩ : ∃ r, r = budN n d 5000 200 := ⟨_, rfl⟩
  rw [← hr] at hC
  clear hr
  go_enter Try.func13, Try.ntmps13
  go_wp2_with fail
  refine (hC.out _ hU.out).mono ?_
  rintro e w2 ⟨rfl, hu2⟩
  have hx2 := hu2.blk hB.out (by simp)
  obtain ⟨x0, x1, x2, x3, x4, x5, x6⟩ := Blk.seven hx2
  have HU2 := Lib.hid (hU.out.then hu2)
  clear hu2 hx2 hB hU hC
  by_cases h0 : (0 : Int) ≤ r
  · go_wp2_with fail
    refine (hG.out _ HU2.out).mono ?_
    rintro e w3 ⟨⟨q, rfl, hq⟩, hu3⟩
    have HU3 := Lib.hid (HU2.out.then hu3)
    have HQ := Lib.hid hq
    clear hu3 hq hG
    cases q with
    | false =>
      clear HQ
      go_wp2
      go_ret
      exact ⟨⟨false, rfl, by simp⟩, HU3.out⟩
    | true =>
      have hf := HQ.out rfl
      have HF := Lib.hid hf
      clear HQ hf
      go_wp2
      go_ret
      exact ⟨⟨true, rfl, fun _ => HF.out⟩, HU3.out⟩
  · go_wp2
    go_ret
    exact ⟨.inl rfl, HU2.out⟩
end Go.Proofs.Ytknbgbeepachgaa
