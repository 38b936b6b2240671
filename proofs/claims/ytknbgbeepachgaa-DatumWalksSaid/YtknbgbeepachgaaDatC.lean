/-
  datum.copied and Copy: data in new memory.
-/
import Derived.Test.YtknbgbeepachgaaDatL
namespace Go.Proofs.Ytknbgbeepachgaa
open Go.RowKit

theorem info_u32 : (Try.prog.info? 61).map (fun i => (i.zero, i.size, i.bytes)) = some (some (.int .u32 0), 1, 4) := by kernel_rfl
theorem own_limbs {w0 w : World} {n : Nat} {v : Value} {xs : List Int} (h : w.ownsRow w0.heap.size 61 1 v n (xs.map (.int .u32))) : ∃ a c, v = .slice a n c ∧ LimbsOf w (fun b => w0.heap.size ≤ b) a xs ∧ n ≤ c := by
  have hl : xs.length = n := by have := h.1; simpa using this
  rcases h.2 with ⟨rfl, h0⟩ | ⟨g, cap, cur, rfl, hb, _, hcap, _⟩
  · subst h0
    exact ⟨none, 0, rfl, fun i hi => absurd hi (by omega), Nat.le_refl _⟩
  · refine ⟨_, cap, rfl, fun i hi => ⟨g, 0, rfl, hb, ?_⟩, hcap⟩
    have := h.cells (g := g) rfl i (.int .u32 (xs.getD i 0)) (by simp [List.getElem?_eq_getElem hi, List.getD_eq_getElem?_getD])
    rwa [show (⟨g, 0, none⟩ : Addr).add i = ⟨g, 0 + i, none⟩ by unfold Addr.add; split <;> simp_all] at this
set_option maxRecDepth 100000 in
set_option maxHeartbeats 1500000 in
theorem clone_calls {P : Nat → Prop} {w : World} {a : Option Addr} {xs : List Int} (n c : Nat) (hn : xs.length = n) (h : LimbsOf w P a xs) (hb : n ≤ 35184372088832) :
    Calls Try.prog 44 #[.slice a n c] w fun e w' => (∃ a' c', e = .returned (.slice a' n c') ∧ LimbsOf w' (fun b => w.heap.size ≤ b) a' xs ∧ n ≤ c') ∧ Upd [] w w' := by
  cases a with
  | none =>
    have h0 : xs = [] := by
      cases xs with
      | nil => rfl
      | cons x xs => obtain ⟨b, o, e, _⟩ := h 0 (by simp); cases e
    subst h0
    have hn' : n = 0 := by simpa using hn.symm
    subst hn'
    clear h hn
    have hnil : ∀ W, (binOp .eql 22 (.slice none 0 c) (.slice none 0 0)).run Try.prog W = .ok (.bool true) W := fun W => by kernel_rfl
    go_enter Try.func44, Try.ntmps44
    go_wp2
    go_ret
    exact ⟨⟨none, 0, rfl, fun i hi => absurd hi (by simp), Nat.le_refl _⟩, Upd.refl _ _⟩
  | some ad =>
    have hnews : ∀ j u, (xs.map (Value.int .u32))[j]? = some u → (w.alloc (.cells #[] 61)).cell? (ad.add j) = some u := by
      intro j u hj
      have hjl : j < xs.length := by
        have := (List.getElem?_eq_some_iff.1 hj).1
        simpa using this
      obtain ⟨b, o, e, _, hc⟩ := h j hjl
      injection e with e
      subst e
      have : (⟨b, o, none⟩ : Addr).add j = ⟨b, o + j, none⟩ := by unfold Addr.add; split <;> simp_all
      rw [this]
      refine (((Upd.refl [] w).alloc _).cell hc (by simp)).trans ?_
      rw [← hj]
      simp [List.getD_eq_getElem?_getD, hjl]
    have hone : ∀ u ∈ xs.map (Value.int .u32), u.oneCell' = true := by
      intro u hu
      obtain ⟨x, _, rfl⟩ := List.mem_map.1 hu
      rfl
    obtain ⟨us, hus⟩ : ∃ us, us = xs.map (Value.int .u32) := ⟨_, rfl⟩
    have hl : us.length = n * 1 := by rw [hus, List.length_map, hn, Nat.mul_one]
    rw [← hus] at hnews hone
    have HUS := Lib.hid hus
    have HNW := Lib.hid hnews
    have hrow := World.ownsRow_lit (e := 61) (size := 1) w #[] 0 (Nat.le_refl w.heap.size) (by decide) rfl
    have HR := Lib.hid hrow
    have hU := Lib.hid ((Upd.refl [] w).alloc (.cells #[] 61))
    clear h hrow hus hnews hn
    have hnil : ∀ W, (binOp .eql 22 (.slice (some ad) n c) (.slice none 0 0)).run Try.prog W = .ok (.bool false) W := fun W => by kernel_rfl
    go_enter Try.func44, Try.ntmps44
    obtain ⟨i, hi, hz0, hz1, hz2⟩ := info_parts info_u32
    go_wp2_with (at_builtin; refine wpList_append_own_at _ rfl _ _ 22 rfl w.heap.size 61 i (.int .u32 0) 1 4 Try.underlying22 hi hz0 hz1 hz2 rfl (by decide) _ _ _ rfl HR.out ad n c us rfl hl HNW.out hone (by unfold maxLen; omega) (by omega) (by simp) ?_; intro v9 w9 hO9 hg9 _ _)
    have hO10 : w9.ownsRow w.heap.size 61 1 v9 n (xs.map (.int .u32)) := by
      rw [← HUS.out]
      simpa using hO9
    have hg9' : World.grownBy (w.alloc (.cells #[] 61)) w9 (some w.heap.size) := hg9
    have hU9 := Lib.hid (hU.out.onto (Upd.of_grown (S := [w.heap.size]) hg9' (fun k hk => by simpa [eq_comm] using hk)) (fun x hx => by simp at hx; omega))
    obtain ⟨a', c', rfl, hL, hLc⟩ := own_limbs hO10
    have HL := Lib.hid hL
    clear hO9 hO10 hg9 hg9' HR HNW hnil hL hU
    go_wp2
    go_ret
    exact ⟨⟨a', c', rfl, HL.out, hLc⟩, hU9.out⟩
end Go.Proofs.Ytknbgbeepachgaa
