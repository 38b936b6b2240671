/-
  datum.parts and Depth.
-/
import Derived.Test.YtknbgbeepachgaaDatH
namespace Go.Proofs.Ytknbgbeepachgaa
open Go.RowKit

theorem OwnD.row {R : List Value → Dat → Prop} (hsh : ∀ cs d, R cs d → Shaped cs) {w0 w : World} {v : Value} {ds : List Dat} (h : OwnD R w0 w v ds) : ∃ a c, v = .slice a ds.length c ∧ RowOf w (fun _ => True) R a ds := by
  obtain ⟨css, h1, h2, h3⟩ := h
  have h4 := h3
  rcases h3.2 with ⟨rfl, h0⟩ | ⟨g, c, _, rfl, hb, _⟩
  · exact ⟨none, 0, by rw [h0], fun i hi => absurd hi (by omega)⟩
  · refine ⟨_, c, rfl, fun i hi => ⟨g, 0, css.getD i [], rfl, trivial, ?_, h2 i hi⟩⟩
    have hlen : ∀ cs ∈ css, cs.length = 7 := by
      intro cs hc
      obtain ⟨k, hk, rfl⟩ := List.getElem_of_mem hc
      have := (hsh _ _ (h2 k (by omega))).len
      simpa [List.getD_eq_getElem?_getD, hk] using this
    refine ⟨(hsh _ _ (h2 i hi)).len, fun j hj => ?_⟩
    rw [show 0 + i * 7 + j = i * 7 + j by omega, h4.cellAt (i * 7 + j) (by omega)]
    exact flatten_get hlen (by omega) hj
set_option maxRecDepth 100000 in
set_option maxHeartbeats 1500000 in
theorem partsR_calls {P : Nat → Prop} {n : Nat} {d : Dat} {cs : List Value} {w : World} (h : IsD w P (n + 1) cs d) (hs : d.items.length + d.tail.length ≤ 100000) :
    Calls Try.prog 39 #[.agg cs.toArray] w fun e w' => (∃ a c, e = .returned (.slice a (d.items ++ d.tail).length c) ∧ RowOf w' (fun _ => True) (IsD w P n) a (d.items ++ d.tail)) ∧ Upd [] w w' := by
  obtain ⟨aL, cL, aI, cI, aT, cT, rfl, h1, h2, h3, h4⟩ := h
  unfold datCells
  have hu1 : Upd [] w ((w.alloc (.cells #[.int .i64 d.kind, .bool d.neg, .slice aL d.limbs.length cL, .bool d.b, .string d.s, .slice aI d.items.length cI, .slice aT d.tail.length cT] 27)).alloc (.cells #[.slice aI d.items.length cI, .slice aT d.tail.length cT] 25)) := ((Upd.refl [] w).alloc _).alloc _
  have HI := Lib.hid (fun W (hu : Upd [] w W) => h2.map (R' := IsD w P n) (w' := W) (fun _ _ hp => hp) (fun _ _ _ _ hc => hu.cell hc (by simp)) (fun _ _ h => h))
  have HT := Lib.hid (fun W (hu : Upd [] w W) => h3.map (R' := IsD w P n) (w' := W) (fun _ _ hp => hp) (fun _ _ _ _ hc => hu.cell hc (by simp)) (fun _ _ h => h))
  have hU := Lib.hid hu1
  clear h1 h2 h3 h4 hu1
  go_enter Try.func39, Try.ntmps39
  go_wp2_with fail
  refine (concat_calls (P := P) (R := IsD w P n) (fun _ _ h => h.shaped) (is := d.items) (ts := d.tail) (Blk.newAt (by simp)) (HI.out _ hU.out) (HT.out _ hU.out) rfl rfl hs).mono ?_
  rintro e w2 ⟨⟨v, rfl, hO⟩, hu2⟩
  have hU2 := Lib.hid (hU.out.then hu2)
  obtain ⟨a, c, rfl, hR⟩ := hO.row (fun _ _ h => h.shaped)
  have HR := Lib.hid hR
  clear hO hR hu2 hU HI HT
  go_wp2
  go_ret
  exact ⟨⟨a, c, by rw [List.length_append]; rfl, HR.out⟩, hU2.out⟩
theorem parts_calls {P : Nat → Prop} {n : Nat} {d : Dat} {cs : List Value} {w : World} (h : IsD w P (n + 1) cs d) (hs : d.items.length + d.tail.length ≤ 100000) :
    Calls Try.prog 39 #[.agg cs.toArray] w fun e w' => (∃ a c, e = .returned (.slice a (d.items ++ d.tail).length c) ∧ RowOf w' (fun _ => True) (IsD w' (fun _ => True) n) a (d.items ++ d.tail)) ∧ Upd [] w w' :=
  (partsR_calls h hs).mono fun _ _ ⟨⟨a, c, e1, hr⟩, hu⟩ => ⟨⟨a, c, e1, hr.map (fun _ _ hp => hp) (fun _ _ _ _ hc => hc) (fun _ _ hd => (hd.upd hu).mono fun _ _ _ => trivial)⟩, hu⟩
end Go.Proofs.Ytknbgbeepachgaa
