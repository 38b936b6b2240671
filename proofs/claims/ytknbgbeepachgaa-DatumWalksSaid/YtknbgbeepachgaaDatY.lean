/-
  What norm makes of a datum; datum.joined.
-/
import Derived.Test.YtknbgbeepachgaaDatK
import Derived.Test.YtknbgbeepachgaaDatX
namespace Go.Proofs.Ytknbgbeepachgaa
open Go.RowKit

/-! ### The plain part -/
theorem szL_same {f g : Dat → Nat} (h : ∀ d, f d ≤ 1000000 → g d = f d) : ∀ ds : List Dat, szL f ds ≤ 1000000 → szL g ds = szL f ds
  | [], _ => rfl
  | d :: ds, hs => by
    rw [szL] at hs
    rw [szL, szL, h d (by omega), szL_same h ds (by omega)]
theorem szN_one : ∀ (n : Nat) (d : Dat), szN n d ≤ 1000000 → szN (n + 1) d = szN n d
  | 0, _, h => by rw [szN] at h; omega
  | n + 1, d, h => by
    rw [szN] at h
    rw [szN, szN, szL_same (szN_one n) d.items (by omega), szL_same (szN_one n) d.tail (by omega)]
theorem dpL_same {f g s : Dat → Nat} (h : ∀ d, s d ≤ 1000000 → g d = f d) : ∀ ds : List Dat, szL s ds ≤ 1000000 → dpL g ds = dpL f ds
  | [], _ => rfl
  | d :: ds, hs => by
    rw [szL] at hs
    rw [dpL, dpL, h d (by omega), dpL_same h ds (by omega)]
theorem dpN_one : ∀ (n : Nat) (d : Dat), szN n d ≤ 1000000 → dpN (n + 1) d = dpN n d
  | 0, _, h => by rw [szN] at h; omega
  | n + 1, d, h => by
    rw [szN] at h
    rw [dpN, dpN, dpL_same (dpN_one n) d.items (by omega), dpL_same (dpN_one n) d.tail (by omega)]
/-- Items, and what stands behind them. -/
def joinD (l : List Dat) (t : Dat) : Dat :=
  if l = [] then t else if t.kind = 5 then .mk 5 false [] false ByteArray.empty (l ++ t.items) t.tail else .mk 5 false [] false ByteArray.empty l [t]
/-- As it must be. -/
def normD : Nat → Dat → Dat
  | 0, _ => default
  | n + 1, d =>
    if d.kind = 1 then .mk 1 (d.neg && decide (0 < (trimL d.limbs).length)) (trimL d.limbs) false ByteArray.empty [] []
    else if d.kind = 2 then .mk 2 false [] d.b ByteArray.empty [] []
    else if d.kind = 3 ∨ d.kind = 4 then .mk d.kind false [] false d.s [] []
    else if d.kind = 5 then (if d.tail = [] then .mk 5 false [] false ByteArray.empty (d.items.map (normD n)) [] else joinD (d.items.map (normD n)) (normD n (d.tail.getD 0 default)))
    else .mk d.kind false [] false ByteArray.empty [] []
theorem szL_map {f : Dat → Nat} {g : Dat → Dat} (h : ∀ d, f d ≤ 1000000 → f (g d) ≤ f d) : ∀ ds : List Dat, szL f ds ≤ 1000000 → szL f (ds.map g) ≤ szL f ds
  | [], _ => Nat.le_refl _
  | d :: ds, hs => by
    rw [szL] at hs
    have h1 := h d (by omega)
    have h2 := szL_map h ds (by omega)
    rw [List.map_cons, szL, szL]
    omega
theorem dpL_map {f s : Dat → Nat} {g : Dat → Dat} (h : ∀ d, s d ≤ 1000000 → f (g d) ≤ f d) : ∀ ds : List Dat, szL s ds ≤ 1000000 → dpL f (ds.map g) ≤ dpL f ds
  | [], _ => Nat.le_refl _
  | d :: ds, hs => by
    rw [szL] at hs
    have h1 := h d (by omega)
    have h2 := dpL_map h ds (by omega)
    rw [List.map_cons, dpL, dpL]
    omega
theorem szN_mk (n : Nat) (k : Int) (g : Bool) (ls : List Int) (b : Bool) (s : ByteArray) (i t : List Dat) : szN (n + 1) (.mk k g ls b s i t) = 1 + szL (szN n) i + szL (szN n) t := by rw [szN]; rfl
theorem dpN_mk (n : Nat) (k : Int) (g : Bool) (ls : List Int) (b : Bool) (s : ByteArray) (i t : List Dat) : dpN (n + 1) (.mk k g ls b s i t) = 1 + max (dpL (dpN n) i) (dpL (dpN n) t) := by rw [dpN]; rfl
theorem joinD_sz (n : Nat) (l : List Dat) (t : Dat) (hs : 1 + szL (szN n) l + szN n t ≤ 1000000) : szN (n + 1) (joinD l t) ≤ 1 + szL (szN n) l + szN n t := by
  unfold joinD
  split
  · rw [szN_one n t (by omega)]
    omega
  · split
    · cases n with
      | zero => rw [szN] at hs; omega
      | succ n =>
        have h := hs
        rw [szN] at h
        rw [szN_mk, szL_append, szL_same (f := szN n) (szN_one n) t.items (by omega), szL_same (f := szN n) (szN_one n) t.tail (by omega)]
        rw [show szN (n + 1) t = 1 + szL (szN n) t.items + szL (szN n) t.tail by rw [szN]]
        omega
    · rw [szN_mk]
      simp only [szL]
      omega
theorem joinD_dp (n : Nat) (l : List Dat) (t : Dat) (hs : 1 + szL (szN n) l + szN n t ≤ 1000000) : dpN (n + 1) (joinD l t) ≤ 1 + max (dpL (dpN n) l) (dpN n t) := by
  unfold joinD
  split
  · rw [dpN_one n t (by omega)]
    omega
  · split
    · cases n with
      | zero => rw [szN] at hs; omega
      | succ n =>
        have h := hs
        rw [szN] at h
        rw [dpN_mk, dpL_append, dpL_same (f := dpN n) (s := szN n) (dpN_one n) t.items (by omega), dpL_same (f := dpN n) (s := szN n) (dpN_one n) t.tail (by omega)]
        rw [show dpN (n + 1) t = 1 + max (dpL (dpN n) t.items) (dpL (dpN n) t.tail) by rw [dpN]]
        omega
    · rw [dpN_mk]
      simp only [dpL]
      omega
theorem szN_flat (n : Nat) (k : Int) (g : Bool) (ls : List Int) (b : Bool) (s : ByteArray) : szN (n + 1) (.mk k g ls b s [] []) = 1 := by rw [szN]; rfl
theorem dpN_flat (n : Nat) (k : Int) (g : Bool) (ls : List Int) (b : Bool) (s : ByteArray) : dpN (n + 1) (.mk k g ls b s [] []) = 1 := by rw [dpN]; rfl
theorem tail0_sz {f : Dat → Nat} {ds : List Dat} (h : ds ≠ []) : f (ds.getD 0 default) ≤ szL f ds := szL_get f (List.length_pos_iff.2 h)
theorem normD_sz : ∀ (n : Nat) (d : Dat), szN n d ≤ 1000000 → szN n (normD n d) ≤ szN n d
  | 0, _, h => by rw [szN] at h; omega
  | n + 1, d, h => by
    have h0 := h
    rw [szN] at h0
    rw [normD]
    have hi := szL_map (normD_sz n) d.items (by omega)
    have hp := szN_pos (n + 1) d
    split
    · rw [szN_flat]; exact hp
    · split
      · rw [szN_flat]; exact hp
      · split
        · rw [szN_flat]; exact hp
        · split
          · split
            · rename_i ht
              rw [szN_mk, szN]
              simp only [szL]
              omega
            · rename_i ht
              have h1 := tail0_sz (f := szN n) ht
              have h2 := normD_sz n (d.tail.getD 0 default) (by omega)
              have h3 := joinD_sz n (d.items.map (normD n)) (normD n (d.tail.getD 0 default)) (by omega)
              rw [show szN (n + 1) d = 1 + szL (szN n) d.items + szL (szN n) d.tail by rw [szN]]
              omega
          · rw [szN_flat]; exact hp
theorem dpN_pos (n : Nat) (d : Dat) : 1 ≤ dpN (n + 1) d := by rw [dpN]; omega
theorem normD_dp : ∀ (n : Nat) (d : Dat), szN n d ≤ 1000000 → dpN n (normD n d) ≤ dpN n d
  | 0, _, h => by rw [szN] at h; omega
  | n + 1, d, h => by
    have h0 := h
    rw [szN] at h0
    rw [normD]
    have hi := dpL_map (normD_dp n) d.items (by omega)
    have hs := szL_map (normD_sz n) d.items (by omega)
    have hp := dpN_pos n d
    split
    · rw [dpN_flat]; exact hp
    · split
      · rw [dpN_flat]; exact hp
      · split
        · rw [dpN_flat]; exact hp
        · split
          · split
            · rename_i ht
              rw [dpN_mk, dpN]
              simp only [dpL]
              omega
            · rename_i ht
              have h1 := tail0_sz (f := szN n) ht
              have h1' := dpL_get (dpN n) (List.length_pos_iff.2 ht)
              have h2 := normD_sz n (d.tail.getD 0 default) (by omega)
              have h2' := normD_dp n (d.tail.getD 0 default) (by omega)
              have h3 := joinD_dp n (d.items.map (normD n)) (normD n (d.tail.getD 0 default)) (by omega)
              rw [show dpN (n + 1) d = 1 + max (dpL (dpN n) d.items) (dpL (dpN n) d.tail) by rw [dpN]]
              omega
          · rw [dpN_flat]; exact hp
end Go.Proofs.Ytknbgbeepachgaa
