/-
  How many data there are, and how deep; datum.Size, datum.few, pavaneref03.Small.
-/
import Derived.Test.YtknbgbeepachgaaDatW
namespace Go.Proofs.Ytknbgbeepachgaa
open Go.RowKit

def szL (f : Dat → Nat) : List Dat → Nat
  | [] => 0
  | x :: xs => f x + szL f xs
def szN : Nat → Dat → Nat
  | 0, _ => 1000001
  | n + 1, d => 1 + szL (szN n) d.items + szL (szN n) d.tail
def dpL (f : Dat → Nat) : List Dat → Nat
  | [] => 0
  | x :: xs => max (f x) (dpL f xs)
def dpN : Nat → Dat → Nat
  | 0, _ => 0
  | n + 1, d => 1 + max (dpL (dpN n) d.items) (dpL (dpN n) d.tail)
theorem szL_append (f : Dat → Nat) : ∀ (a b : List Dat), szL f (a ++ b) = szL f a + szL f b
  | [], b => by simp [szL]
  | x :: xs, b => by rw [List.cons_append, szL, szL, szL_append f xs b]; omega
theorem dpL_append (f : Dat → Nat) : ∀ (a b : List Dat), dpL f (a ++ b) = max (dpL f a) (dpL f b)
  | [], b => by simp [dpL]
  | x :: xs, b => by rw [List.cons_append, dpL, dpL, dpL_append f xs b]; omega
theorem take_next {ds : List Dat} {i : Nat} (hi : i < ds.length) : ds.take (i + 1) = ds.take i ++ [ds.getD i default] := by
  rw [List.take_add_one, List.getElem?_eq_getElem hi, List.getD_eq_getElem?_getD, List.getElem?_eq_getElem hi]
  rfl
theorem szL_next (f : Dat → Nat) {ds : List Dat} {i : Nat} (hi : i < ds.length) : szL f (ds.take (i + 1)) = szL f (ds.take i) + f (ds.getD i default) := by
  rw [take_next hi, szL_append]
  simp [szL]
theorem dpL_next (f : Dat → Nat) {ds : List Dat} {i : Nat} (hi : i < ds.length) : dpL f (ds.take (i + 1)) = max (dpL f (ds.take i)) (f (ds.getD i default)) := by
  rw [take_next hi, dpL_append]
  simp [dpL]
theorem szL_take (f : Dat → Nat) (ds : List Dat) (i : Nat) : szL f (ds.take i) ≤ szL f ds := by
  have h := szL_append f (ds.take i) (ds.drop i)
  rw [List.take_append_drop] at h
  omega
theorem dpL_take (f : Dat → Nat) (ds : List Dat) (i : Nat) : dpL f (ds.take i) ≤ dpL f ds := by
  have h := dpL_append f (ds.take i) (ds.drop i)
  rw [List.take_append_drop] at h
  omega
theorem szL_get (f : Dat → Nat) {ds : List Dat} {i : Nat} (hi : i < ds.length) : f (ds.getD i default) ≤ szL f ds := by
  have h1 := szL_next f hi
  have h2 := szL_take f ds (i + 1)
  omega
theorem dpL_get (f : Dat → Nat) {ds : List Dat} {i : Nat} (hi : i < ds.length) : f (ds.getD i default) ≤ dpL f ds := by
  have h1 := dpL_next f hi
  have h2 := dpL_take f ds (i + 1)
  omega
theorem len_le_szL {f : Dat → Nat} (hf : ∀ x, 1 ≤ f x) : ∀ ds : List Dat, ds.length ≤ szL f ds
  | [] => Nat.le_refl _
  | x :: xs => by have := hf x; have := len_le_szL hf xs; rw [szL, List.length_cons]; omega
theorem szN_pos : ∀ (n : Nat) (d : Dat), 1 ≤ szN n d
  | 0, _ => by rw [szN]; omega
  | n + 1, d => by rw [szN]; omega

/-! ### The budget tells both -/
theorem budL_some {n : Nat} (ih : ∀ (d : Dat) (left deep : Int), 0 ≤ budN n d left deep → budN n d left deep = left - szN n d ∧ (dpN n d : Int) ≤ deep) : ∀ (ds : List Dat) (left deep : Int), 0 ≤ left → 0 ≤ budL (budN n) ds left deep → 0 < deep → budL (budN n) ds left deep = left - szL (szN n) ds ∧ (dpL (dpN n) ds : Int) + 1 ≤ deep
  | [], left, deep, h0, h, hd => by simp [budL, szL, dpL] at *; omega
  | x :: xs, left, deep, h0, h, hd => by
    rw [budL] at h ⊢
    split at h
    · omega
    · rename_i hc
      rw [if_neg hc]
      have h1 := ih x left (deep - 1) (by omega)
      have h2 := budL_some ih xs _ deep (by omega) h hd
      rw [h2.1, h1.1, szL, dpL]
      omega
theorem budN_some : ∀ (n : Nat) (d : Dat) (left deep : Int), 0 ≤ budN n d left deep → budN n d left deep = left - szN n d ∧ (dpN n d : Int) ≤ deep
  | 0, _, _, _, h => by simp [budN] at h
  | n + 1, d, left, deep, h => by
    rw [budN] at h ⊢
    split at h
    · omega
    · rename_i hc
      split at h
      · omega
      · rename_i hc2
        rw [if_neg hc, if_neg hc2]
        have h1 := budL_some (budN_some n) d.items (left - 1) deep (by omega) (by omega) (by omega)
        have h2 := budL_some (budN_some n) d.tail _ deep (by omega) h (by omega)
        rw [h2.1, h1.1, szN, dpN]
        omega
theorem budL_fits {n : Nat} (ih : ∀ (d : Dat) (left deep : Int), (szN n d : Int) ≤ left → (dpN n d : Int) ≤ deep → left ≤ 1000000 → budN n d left deep = left - szN n d) : ∀ (ds : List Dat) (left deep : Int), (szL (szN n) ds : Int) ≤ left → (dpL (dpN n) ds : Int) + 1 ≤ deep → left ≤ 1000000 → budL (budN n) ds left deep = left - szL (szN n) ds
  | [], left, deep, h0, h, hd => by simp [budL, szL]
  | x :: xs, left, deep, h0, h, hd => by
    rw [szL] at h0
    rw [dpL] at h
    have h1 := ih x left (deep - 1) (by omega) (by omega) hd
    rw [budL, h1, if_neg (by omega), budL_fits ih xs _ deep (by omega) (by omega) (by omega), szL]
    omega
theorem budN_fits : ∀ (n : Nat) (d : Dat) (left deep : Int), (szN n d : Int) ≤ left → (dpN n d : Int) ≤ deep → left ≤ 1000000 → budN n d left deep = left - szN n d
  | 0, _, left, _, h, _, hl => by rw [szN] at h; omega
  | n + 1, d, left, deep, h, hd, hl => by
    rw [szN] at h
    rw [dpN] at hd
    rw [budN, if_neg (by omega)]
    have h1 := budL_fits (budN_fits n) d.items (left - 1) deep (by omega) (by omega) (by omega)
    rw [h1, if_neg (by omega), budL_fits (budN_fits n) d.tail _ deep (by omega) (by omega) (by omega), szN]
    omega

/-! ### Callers of the budget -/
set_option maxHeartbeats 1500000 in
theorem small_calls {P : Nat → Prop} {n : Nat} {d : Dat} {cs : List Value} {w : World} (h : IsD w P n cs d) (most deep : Int) (h1 : 0 ≤ most) (h2 : most ≤ 4294967296) (h3 : -4294967296 ≤ deep) (h4 : deep ≤ 4294967296) :
    Calls Try.prog 14 #[.agg cs.toArray, .int .i64 most, .int .i64 deep] w fun e w' => e = .returned (.bool (decide (0 ≤ budN n d most deep))) ∧ Upd [] w w' := by
  obtain ⟨yL, zL, yI, zI, yT, zT, rfl⟩ := cells_agg h
  have hU := Lib.hid ((Upd.refl [] w).alloc (.cells (datCells d.kind d.neg yL d.limbs.length zL d.b d.s yI d.items.length zI yT d.tail.length zT).toArray 27))
  have hC := Lib.hid (budget_calls P n d _ (w.alloc (.cells (datCells d.kind d.neg yL d.limbs.length zL d.b d.s yI d.items.length zI yT d.tail.length zT).toArray 27)) most deep (h.upd ((Upd.refl [] w).alloc _)) (by omega) h2 h3 h4)
  unfold datCells at hC hU ⊢
  clear h
  generalize d.kind = kd9 at *
  generalize d.neg = ng9 at *
  generalize d.limbs.length = nl9 at *
  generalize d.b = bb9 at *
  generalize d.s = ss9 at *
  generalize d.items.length = ni9 at *
  generalize d.tail.length = nt9 at *
  generalize budN n d most deep = r at *
  go_enter Try.func14, Try.ntmps14
  go_wp2_with fail
  refine hC.out.mono ?_
  rintro e w2 ⟨rfl, hu2⟩
  have hU3 := Lib.hid (hU.out.then hu2)
  clear hC hU hu2
  go_wp2
  go_ret
  exact ⟨rfl, hU3.out⟩
set_option maxHeartbeats 1500000 in
theorem few_calls {P : Nat → Prop} {n : Nat} {d : Dat} {cs : List Value} {w : World} (h : IsD w P n cs d) (hs : szN n d ≤ 100000) (hd : dpN n d ≤ 10000) :
    Calls Try.prog 20 #[.agg cs.toArray] w fun e w' => e = .returned (.bool true) ∧ Upd [] w w' := by
  obtain ⟨yL, zL, yI, zI, yT, zT, rfl⟩ := cells_agg h
  have hU := Lib.hid ((Upd.refl [] w).alloc (.cells (datCells d.kind d.neg yL d.limbs.length zL d.b d.s yI d.items.length zI yT d.tail.length zT).toArray 27))
  have hC := Lib.hid (within_calls P n d _ (w.alloc (.cells (datCells d.kind d.neg yL d.limbs.length zL d.b d.s yI d.items.length zI yT d.tail.length zT).toArray 27)) 100000 10000 (h.upd ((Upd.refl [] w).alloc _)) (by omega) (by omega) (by omega) (by omega))
  rw [budN_fits n d 100000 10000 (by omega) (by omega) (by omega)] at hC
  have hge : (0 : Int) ≤ 100000 - szN n d := by omega
  unfold datCells at hC hU ⊢
  clear h hs hd
  generalize d.kind = kd9 at *
  generalize d.neg = ng9 at *
  generalize d.limbs.length = nl9 at *
  generalize d.b = bb9 at *
  generalize d.s = ss9 at *
  generalize d.items.length = ni9 at *
  generalize d.tail.length = nt9 at *
  generalize (100000 : Int) - szN n d = r at *
  go_enter Try.func20, Try.ntmps20
  go_wp2_with fail
  refine hC.out.mono ?_
  rintro e w2 ⟨rfl, hu2⟩
  have hU3 := Lib.hid (hU.out.then hu2)
  clear hC hU hu2
  go_wp2
  go_ret
  exact ⟨rfl, hU3.out⟩
end Go.Proofs.Ytknbgbeepachgaa
