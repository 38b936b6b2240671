/-
  What is as it must be stays; the plain part of DatumBack.
-/
import Derived.Test.YtknbgbeepachgaaDat2
namespace Go.Proofs.Ytknbgbeepachgaa
open Go.RowKit

theorem trimL_twice (xs : List Int) : trimL (trimL xs) = trimL xs := by
  unfold trimL
  rw [List.reverse_reverse]
  congr 1
  generalize xs.reverse = ys
  induction ys with
  | nil => rfl
  | cons y ys ih =>
    by_cases h : (y == 0) = true
    · simp only [List.dropWhile_cons, h, if_true]
      exact ih
    · simp only [List.dropWhile_cons, h, if_false, Bool.false_eq_true]
/-- Nothing stands in it, and it is as it must be. -/
def FlatNF (d : Dat) : Prop := d.kind ≠ 5 ∧ ∀ n, normD (n + 1) d = d
/-- It is as it must be, in so many levels. -/
def NFD : Nat → Dat → Prop
  | 0, _ => False
  | n + 1, d => FlatNF d ∨ ∃ is ts, d = .mk 5 false [] false ByteArray.empty is ts ∧ (∀ x ∈ is, NFD n x) ∧ (ts = [] ∨ (is ≠ [] ∧ ∃ t, ts = [t] ∧ NFD n t ∧ t.kind ≠ 5))
theorem NFD.one : ∀ {n : Nat} {d : Dat}, NFD n d → NFD (n + 1) d
  | 0, _, h => h.elim
  | n + 1, d, h => by
    rcases h with h | ⟨is, ts, e, h1, h2⟩
    · exact .inl h
    · refine .inr ⟨is, ts, e, fun x hx => (h1 x hx).one, ?_⟩
      rcases h2 with h2 | ⟨h2, t, h3, h4, h5⟩
      · exact .inl h2
      · exact .inr ⟨h2, t, h3, h4.one, h5⟩
theorem map_id_of {f : Dat → Dat} : ∀ {ds : List Dat}, (∀ x ∈ ds, f x = x) → ds.map f = ds
  | [], _ => rfl
  | d :: ds, h => by rw [List.map_cons, h d (by simp), map_id_of fun x hx => h x (by simp [hx])]
theorem NFD.fix : ∀ {n : Nat} {d : Dat}, NFD n d → normD n d = d
  | 0, _, h => h.elim
  | n + 1, d, h => by
    rcases h with h | ⟨is, ts, rfl, h1, h2⟩
    · exact h.2 n
    · rw [normD_list, map_id_of fun x hx => (h1 x hx).fix]
      rcases h2 with rfl | ⟨h2, t, rfl, h4, h5⟩
      · rw [if_pos rfl]
      · rw [if_neg (by simp), show [t].getD 0 default = t from rfl, h4.fix]
        unfold joinD
        rw [if_neg h2, if_neg h5]
theorem NFD.join {n : Nat} {l : List Dat} {t : Dat} (hl : ∀ x ∈ l, NFD n x) (ht : NFD n t) : NFD (n + 1) (joinD l t) := by
  unfold joinD
  split
  · exact ht.one
  · rename_i hne
    split
    · rename_i hk
      cases n with
      | zero => exact ht.elim
      | succ n =>
        rcases ht with ht | ⟨is, ts, rfl, h1, h2⟩
        · exact absurd hk ht.1
        · refine .inr ⟨l ++ is, ts, rfl, fun x hx => ?_, ?_⟩
          · rcases List.mem_append.1 hx with hx | hx
            · exact hl x hx
            · exact (h1 x hx).one
          · rcases h2 with rfl | ⟨h2, s, rfl, h4, h5⟩
            · exact .inl rfl
            · exact .inr ⟨by simp [hne], s, rfl, h4.one, h5⟩
    · rename_i hk
      exact .inr ⟨l, [t], rfl, hl, .inr ⟨hne, t, rfl, ht, hk⟩⟩
theorem mem_sz {f : Dat → Nat} {x : Dat} : ∀ {ds : List Dat}, x ∈ ds → f x ≤ szL f ds
  | [], h => by simp at h
  | d :: ds, h => by
    rw [szL]
    rcases List.mem_cons.1 h with rfl | h
    · omega
    · have := mem_sz (f := f) h
      omega
theorem flat_num (ng : Bool) (ls : List Int) : FlatNF (.mk 1 (ng && decide (0 < (trimL ls).length)) (trimL ls) false ByteArray.empty [] []) := by
  refine ⟨by simp [Dat.kind], fun n => ?_⟩
  rw [normD_num, trimL_twice]
  congr 1
  cases ng <;> simp
theorem normD_nf : ∀ (n : Nat) (d : Dat), szN n d ≤ 1000000 → NFD n (normD n d)
  | 0, _, h => by rw [szN] at h; omega
  | n + 1, d, h => by
    obtain ⟨kd, ng, ls, bb, ss, is, ts⟩ := d
    rw [szN_mk] at h
    by_cases h1 : kd = 1
    · subst h1
      rw [normD_num]
      exact .inl (flat_num ng ls)
    by_cases h2 : kd = 2
    · subst h2
      rw [normD_bool]
      exact .inl ⟨by simp [Dat.kind], fun n => by rw [normD_bool]⟩
    by_cases h3 : kd = 3 ∨ kd = 4
    · rw [normD_text n h3]
      exact .inl ⟨by simp only [Dat.kind]; omega, fun n => by rw [normD_text n h3]⟩
    by_cases h5 : kd = 5
    · subst h5
      rw [normD_list]
      have hi : ∀ x ∈ is.map (normD n), NFD n x := by
        intro x hx
        obtain ⟨y, hy, rfl⟩ := List.mem_map.1 hx
        have := mem_sz (f := szN n) hy
        exact normD_nf n y (by omega)
      split
      · exact .inr ⟨_, _, rfl, hi, .inl rfl⟩
      · rename_i hne
        have := tail0_sz (f := szN n) hne
        exact NFD.join hi (normD_nf n _ (by omega))
    · have h3' : kd ≠ 3 := fun e => h3 (.inl e)
      have h4' : kd ≠ 4 := fun e => h3 (.inr e)
      rw [normD_other n h1 h2 h3' h4' h5]
      exact .inl ⟨h5, fun n => by rw [normD_other n h1 h2 h3' h4' h5]⟩
theorem normD_twice {n : Nat} {d : Dat} (h : szN n d ≤ 1000000) : normD n (normD n d) = normD n d := (normD_nf n d h).fix
/-- What was put together: a first one and the rest. -/
theorem pair_form {n : Nat} {a b : Dat} (ha : szN n a ≤ 100000) (hb : szN n b ≤ 100000) : ∃ is ts, normD (n + 1) (pairD a b) = .mk 5 false [] false ByteArray.empty (normD n a :: is) ts ∧ restD is ts = normD n b := by
  have hy := normD_nf n b (by omega)
  rw [pairD, normD_list, if_neg (by simp)]
  rw [show [b].getD 0 default = b from rfl, List.map_cons, List.map_nil]
  unfold joinD
  rw [if_neg (by simp)]
  by_cases hk : (normD n b).kind = 5
  · rw [if_pos hk]
    cases n with
    | zero => exact hy.elim
    | succ n =>
      rcases hy with hy | ⟨is, ts, e, h1, h2⟩
      · exact absurd hk hy.1
      · refine ⟨is, ts, ?_, ?_⟩
        · rw [e]
          rfl
        · rw [e]
          unfold restD
          rcases h2 with rfl | ⟨h2, t, rfl, h4, h5⟩
          · exact if_neg (by simp)
          · exact if_neg (by simp [h2])
  · rw [if_neg hk]
    exact ⟨_, _, rfl, by unfold restD; rw [if_pos (by simp)]; rfl⟩
theorem pairD_sz {n : Nat} (a b : Dat) : szN (n + 1) (pairD a b) = 1 + szN n a + szN n b := by
  unfold pairD
  rw [szN_mk]
  simp [szL]
theorem pairD_dp {n : Nat} (a b : Dat) : dpN (n + 1) (pairD a b) = 1 + max (dpN n a) (dpN n b) := by
  unfold pairD
  rw [dpN_mk]
  simp [dpL]
theorem pair_more {n : Nat} {x : Dat} {is ts : List Dat} : szN n x < szN (n + 1) (.mk 5 false [] false ByteArray.empty (x :: is) ts) := by
  rw [szN_mk, szL]
  omega
end Go.Proofs.Ytknbgbeepachgaa
