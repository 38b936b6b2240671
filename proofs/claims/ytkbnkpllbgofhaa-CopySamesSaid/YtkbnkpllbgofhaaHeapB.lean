/-
  Words of the heap: Small, Is, Ref, Symbol, Special, and the document's own.
-/
import Derived.Test.YtkbnkpllbgofhaaHeapL
import Derived.Laws.BitsLemmas
namespace Go.Proofs.Ytkbnkpllbgofhaa
open Go.RowKit HeapM

/-- A word's kind, and its number. -/
def isKind (x : Int) : Int := x % 4
def isNum (x : Int) : Int := if x % 4 = 0 then wrap64 x / 4 else x / 4
def smallOk (n : Int) : Bool := decide (-2305843009213693952 ≤ n ∧ n < 2305843009213693952)
def smallW (n : Int) : Int := if smallOk n then (n * 4) % 18446744073709551616 else 0
def tagW (n t : Int) : Int := if n < 0 ∨ 1099511627776 < n then 0 else n * 4 + t
theorem wraps_u64 (n : Int) (h₀ : 0 ≤ n) (h₁ : n < 2 ^ 64) : IntKind.u64.wrap n = n := by rw [IntKind.wrap_u64]; omega
theorem and3 (x : Int) (h0 : 0 ≤ x) (h1 : x ≤ 18446744073709551615) : bits .and .u64 x 3 = x % 4 := bits_mask .u64 64 (by decide) wraps_u64 2 (by decide) x h0 (by omega)
theorem or3 (x y : Int) (h0 : 0 ≤ x) (h1 : x % 4 = 0) (h2 : x < 18446744073709551616) (h3 : 0 ≤ y) (h4 : y < 4) : bits .or .u64 x y = x + y :=
  bits_join .u64 64 (by decide) wraps_u64 2 x y h0 (by simpa using h1) (by omega) h3 (by omega) (by omega)

theorem wrap_small (n : Int) : IntKind.u64.wrap (IntKind.u64.wrap n * 4) = (n * 4) % 18446744073709551616 := by simp only [IntKind.wrap_u64]; omega
set_option maxHeartbeats 400000 in
theorem small_calls (n : Int) (w : World) (h : -9223372036854775808 ≤ n) (h' : n ≤ 9223372036854775807) :
    Calls Try.prog 19 #[.int .i64 n] w fun e w' => e = .returned (.tuple #[.int .u64 (smallW n), .bool (smallOk n)]) ∧ w = w' := by
  unfold smallW
  cases hs : smallOk n with
  | false =>
    have h1 : (n / 2305843009213693952 != n / 9223372036854775808) = true := by
      simp only [smallOk, decide_eq_false_iff_not] at hs
      rw [bne_iff_ne]
      omega
    clear hs
    go_enter Try.func19, Try.ntmps19
    go_wp2
    go_ret2
    exact ⟨rfl, rfl⟩
  | true =>
    have h1 : (n / 2305843009213693952 != n / 9223372036854775808) = false := by
      simp only [smallOk, decide_eq_true_eq] at hs
      rw [bne_eq_false_iff_eq]
      omega
    clear hs
    go_enter Try.func19, Try.ntmps19
    go_wp2
    go_ret2
    rw [wrap_small]
    exact ⟨rfl, rfl⟩
set_option maxHeartbeats 400000 in
theorem is_calls (n : Int) (w : World) (h : 0 ≤ n) (h' : n ≤ 18446744073709551615) :
    Calls Try.prog 20 #[.int .u64 n] w fun e w' => e = .returned (.tuple #[.int .i64 (isKind n), .int .i64 (isNum n)]) ∧ w = w' := by
  have e := and3 n h h'
  have hw : wrap64 (n % 4) = n % 4 := IntWalk.wrap64_in _ (by omega)
  unfold isKind isNum
  by_cases h0 : n % 4 = 0
  · have h1 : (n % 4 != 0) = false := by rw [bne_eq_false_iff_eq]; exact h0
    rw [if_pos h0, h0]
    have H0 := Lib.hid h0; clear h0
    go_enter Try.func20, Try.ntmps20
    go_wp2
    go_ret2
    exact ⟨rfl, rfl⟩
  · have h1 : (n % 4 != 0) = true := by rw [bne_iff_ne]; exact h0
    rw [if_neg h0]
    have H0 := Lib.hid h0; clear h0
    go_enter Try.func20, Try.ntmps20
    go_wp2
    go_ret2
    exact ⟨rfl, rfl⟩
set_option maxHeartbeats 400000 in
theorem tagged_calls (n t : Int) (w : World) (h2 : 0 ≤ t) (h3 : t ≤ 3) :
    Calls Try.prog 73 #[.int .i64 n, .int .u64 t] w fun e w' => e = .returned (.int .u64 (tagW n t)) ∧ w = w' := by
  unfold tagW
  by_cases h : n < 0 ∨ 1099511627776 < n
  · rw [if_pos h]
    rcases h with h | h
    · go_enter Try.func73, Try.ntmps73
      go_wp2
      go_ret
      exact ⟨rfl, rfl⟩
    · have : ¬ n < 0 := by omega
      go_enter Try.func73, Try.ntmps73
      go_wp2
      go_ret
      exact ⟨rfl, rfl⟩
  · rw [if_neg h]
    have h4 : 0 ≤ n := by omega
    have h5 : n ≤ 1099511627776 := by omega
    have e := or3 (n * 4) t (by omega) (by omega) (by omega) h2 (by omega)
    clear h
    go_enter Try.func73, Try.ntmps73
    go_wp2
    go_ret
    exact ⟨rfl, rfl⟩
theorem ref_calls (n : Int) (w : World) : Calls Try.prog 21 #[.int .i64 n] w fun e w' => e = .returned (.int .u64 (tagW n 1)) ∧ w = w' := by
  go_enter Try.func21, Try.ntmps21
  go_wp2_with (go_at_call 73; refine (tagged_calls _ _ _ (by omega) (by omega)).mono ?_; rintro e w' ⟨rfl, rfl⟩)
  go_ret
  exact ⟨rfl, rfl⟩
theorem symbol_calls (n : Int) (w : World) : Calls Try.prog 22 #[.int .i64 n] w fun e w' => e = .returned (.int .u64 (tagW n 2)) ∧ w = w' := by
  go_enter Try.func22, Try.ntmps22
  go_wp2_with (go_at_call 73; refine (tagged_calls _ _ _ (by omega) (by omega)).mono ?_; rintro e w' ⟨rfl, rfl⟩)
  go_ret
  exact ⟨rfl, rfl⟩
theorem special_calls (n : Int) (w : World) : Calls Try.prog 23 #[.int .i64 n] w fun e w' => e = .returned (.int .u64 (tagW n 3)) ∧ w = w' := by
  go_enter Try.func23, Try.ntmps23
  go_wp2_with (go_at_call 73; refine (tagged_calls _ _ _ (by omega) (by omega)).mono ?_; rintro e w' ⟨rfl, rfl⟩)
  go_ret
  exact ⟨rfl, rfl⟩
/-! ### Scanned -/
def scanned (k : Int) : Bool := decide (4 ≤ k ∧ k ≤ 8)
set_option maxHeartbeats 400000 in
theorem index_int {w : World} {a : Option Addr} {xs : List Int} (n c : Nat) (x : Int) (hn : xs.length = n) (hs : SlI w .i64 a xs) (hm : n ≤ 9223372036854775807) :
    Calls Try.prog 99 #[.slice a n c, .int .i64 x] w fun e w' => e = .returned (.int .i64 (place xs x)) ∧ w = w' := by
  have HN := Lib.hid hn; clear hn
  have HS := Lib.hid hs; clear hs
  obtain ⟨P, hP⟩ : ∃ P, P = place xs x := ⟨_, rfl⟩
  rw [← hP]
  have HP := Lib.hid hP; clear hP
  go_enter Try.func99, Try.ntmps99
  go_wp2
  go_loop [8] (fun i => ∃ j : Nat, j ≤ n ∧ i = .int .i64 j ∧ Hid (∀ i, i < j → xs.getD i 0 ≠ x)) (fun i => n - (intOf i).toNat)
  case atStart => exact ⟨0, by omega, rfl, fun i hi => absurd hi (by omega)⟩
  case round =>
    obtain ⟨j, hj, rfl, hall⟩ := hrel
    by_cases hlt : j < n
    · obtain ⟨b, o, rfl, hc⟩ := HS.out j (by rw [HN.out]; exact hlt)
      by_cases he : xs.getD j 0 = x
      · have hp := Lib.hid (HP.out.trans (place_at hall.out (by rw [HN.out]; exact hlt) he))
        have hb : (x == xs.getD j 0) = true := by rw [he]; simp
        have HE := Lib.hid he; clear he
        generalize xs.getD j 0 = y at *
        go_wp2
        go_ret
        exact ⟨ret_int hp.out.symm, rfl⟩
      · have hb : (x == xs.getD j 0) = false := by rw [beq_eq_false_iff_ne]; exact fun h => he h.symm
        have hn2 : Hid (∀ i, i < j + 1 → xs.getD i 0 ≠ x) := by
          intro i hi
          rcases Nat.lt_or_ge i j with h | h
          · exact hall.out i h
          · have : i = j := by omega
            rw [this]
            exact he
        clear he
        generalize xs.getD j 0 = y at *
        go_wp2
        go_round
        case rel => exact ⟨j + 1, by omega, by go_num, hn2⟩
        case measure => simp [intOf]; omega
    · have hp := Lib.hid (HP.out.trans (place_none (xs := xs) (x := x) (fun i hi => hall.out i (by rw [HN.out] at hi; omega))))
      go_wp2
      go_ret
      exact ⟨ret_int hp.out.symm, rfl⟩
set_option maxHeartbeats 400000 in
theorem contains_int {w : World} {a : Option Addr} {xs : List Int} (n c : Nat) (x : Int) (hn : xs.length = n) (hs : SlI w .i64 a xs) (hm : n ≤ 9223372036854775807) :
    Calls Try.prog 76 #[.slice a n c, .int .i64 x] w fun e w' => e = .returned (.bool (decide (x ∈ xs))) ∧ w = w' := by
  have hc := index_int n c x hn hs hm
  rw [← place_nonneg]
  generalize place xs x = y at *
  clear hn hs
  go_enter Try.func76, Try.ntmps76
  go_wp2_with (go_at_call 99; refine hc.mono ?_; rintro e w' ⟨rfl, rfl⟩)
  go_ret
  exact ⟨rfl, rfl⟩
set_option maxHeartbeats 400000 in
theorem scanned_calls (k : Int) (w : World) : Calls Try.prog 33 #[.int .i64 k] w fun e w' => e = .returned (.bool (scanned k)) ∧ Upd [] w w' := by
  have hc := fun W h => contains_int (w := W) (a := some ⟨w.heap.size, 0, none⟩) (xs := [4, 5, 6, 7, 8]) 5 5 k rfl h (by omega)
  have HC := Lib.hid hc
  clear hc
  have e : (decide (k = 4) || (decide (k = 5) || (decide (k = 6) || (decide (k = 7) || decide (k = 8))))) = scanned k := by
    rw [Bool.eq_iff_iff]
    simp [scanned]
    omega
  have HE := Lib.hid e; clear e
  generalize scanned k = s at *
  go_enter Try.func33, Try.ntmps33
  go_wp2_with (go_at_call 76; refine (HC.out _ (SlI.of_blk (t := 3) (rest := []) (Blk.newAt rfl))).mono ?_; rintro e w' ⟨rfl, rfl⟩)
  go_ret
  exact ⟨ret_bool HE.out, (Upd.refl [] w).alloc _⟩

/-! ### The document's -/
set_option maxHeartbeats 400000 in
theorem rsmall_calls (n : Int) (w : World) : Calls Try.prog 28 #[.int .i64 n] w fun e w' => e = .returned (.tuple #[.int .u64 (smallW n), .bool (smallOk n)]) ∧ w = w' := by
  unfold smallW
  cases hs : smallOk n with
  | false =>
    simp only [smallOk, decide_eq_false_iff_not] at hs
    by_cases h1 : n < -2305843009213693952
    · clear hs
      go_enter Try.func28, Try.ntmps28
      go_wp2
      go_ret2
      exact ⟨rfl, rfl⟩
    · have h2 : 2305843009213693952 ≤ n := by omega
      clear hs
      go_enter Try.func28, Try.ntmps28
      go_wp2
      go_ret2
      exact ⟨rfl, rfl⟩
  | true =>
    simp only [smallOk, decide_eq_true_eq] at hs
    obtain ⟨h1, h2⟩ := hs
    have h3 : ¬ n < -2305843009213693952 := by omega
    have h4 : ¬ 2305843009213693952 ≤ n := by omega
    go_enter Try.func28, Try.ntmps28
    go_wp2
    go_ret2
    rw [wrap_small]
    exact ⟨rfl, rfl⟩
theorem tdiv4 (n : Int) (h0 : n % 4 = 0) : wrap64 ((wrap64 n).tdiv 4) = wrap64 n / 4 := by
  have e : (wrap64 n) % 4 = 0 := by unfold wrap64; omega
  have e2 : (wrap64 n).tdiv 4 = wrap64 n / 4 := by
    rw [Int.tdiv_eq_ediv_of_dvd (by omega)]
  rw [e2]
  apply IntWalk.wrap64_in
  have : -9223372036854775808 ≤ wrap64 n ∧ wrap64 n ≤ 9223372036854775807 := by unfold wrap64; omega
  omega
set_option maxHeartbeats 400000 in
theorem ris_calls (n : Int) (w : World) (h : 0 ≤ n) (h' : n ≤ 18446744073709551615) :
    Calls Try.prog 29 #[.int .u64 n] w fun e w' => e = .returned (.tuple #[.int .i64 (isKind n), .int .i64 (isNum n)]) ∧ w = w' := by
  unfold isKind isNum
  by_cases h0 : n % 4 = 0
  · have h1 : (n % 4 == 0) = true := by simpa using h0
    rw [if_pos h0, h0]
    have e := Lib.hid (tdiv4 n h0)
    have H0 := Lib.hid h0; clear h0
    go_enter Try.func29, Try.ntmps29
    go_wp2
    go_ret2
    exact ⟨by rw [e.out]; rfl, rfl⟩
  · have h1 : (n % 4 == 0) = false := by simpa using h0
    rw [if_neg h0]
    have H0 := Lib.hid h0; clear h0
    go_enter Try.func29, Try.ntmps29
    go_wp2
    go_ret2
    exact ⟨rfl, rfl⟩
set_option maxHeartbeats 400000 in
theorem rtagged_calls (n t : Int) (w : World) (h2 : 0 ≤ t) (h3 : t ≤ 3) :
    Calls Try.prog 75 #[.int .i64 n, .int .u64 t] w fun e w' => e = .returned (.int .u64 (tagW n t)) ∧ w = w' := by
  unfold tagW
  by_cases h : n < 0 ∨ 1099511627776 < n
  · rw [if_pos h]
    rcases h with h | h
    · go_enter Try.func75, Try.ntmps75
      go_wp2
      go_ret
      exact ⟨rfl, rfl⟩
    · have : ¬ n < 0 := by omega
      go_enter Try.func75, Try.ntmps75
      go_wp2
      go_ret
      exact ⟨rfl, rfl⟩
  · rw [if_neg h]
    have h4 : 0 ≤ n := by omega
    have h5 : n ≤ 1099511627776 := by omega
    clear h
    go_enter Try.func75, Try.ntmps75
    go_wp2
    go_ret
    exact ⟨rfl, rfl⟩
theorem rref_calls (n : Int) (w : World) : Calls Try.prog 30 #[.int .i64 n] w fun e w' => e = .returned (.int .u64 (tagW n 1)) ∧ w = w' := by
  go_enter Try.func30, Try.ntmps30
  go_wp2_with (go_at_call 75; refine (rtagged_calls _ _ _ (by omega) (by omega)).mono ?_; rintro e w' ⟨rfl, rfl⟩)
  go_ret
  exact ⟨rfl, rfl⟩
theorem rsymbol_calls (n : Int) (w : World) : Calls Try.prog 31 #[.int .i64 n] w fun e w' => e = .returned (.int .u64 (tagW n 2)) ∧ w = w' := by
  go_enter Try.func31, Try.ntmps31
  go_wp2_with (go_at_call 75; refine (rtagged_calls _ _ _ (by omega) (by omega)).mono ?_; rintro e w' ⟨rfl, rfl⟩)
  go_ret
  exact ⟨rfl, rfl⟩
theorem rspecial_calls (n : Int) (w : World) : Calls Try.prog 32 #[.int .i64 n] w fun e w' => e = .returned (.int .u64 (tagW n 3)) ∧ w = w' := by
  go_enter Try.func32, Try.ntmps32
  go_wp2_with (go_at_call 75; refine (rtagged_calls _ _ _ (by omega) (by omega)).mono ?_; rintro e w' ⟨rfl, rfl⟩)
  go_ret
  exact ⟨rfl, rfl⟩
set_option maxHeartbeats 400000 in
theorem rscanned_calls (k : Int) (w : World) : Calls Try.prog 34 #[.int .i64 k] w fun e w' => e = .returned (.bool (scanned k)) ∧ w = w' := by
  by_cases h1 : 3 < k
  · by_cases h2 : k ≤ 8
    · have e : scanned k = true := by simp [scanned]; omega
      rw [e]
      clear e
      go_enter Try.func34, Try.ntmps34
      go_wp2
      go_ret
      exact ⟨rfl, rfl⟩
    · have e : scanned k = false := by simp [scanned]; omega
      rw [e]
      clear e
      go_enter Try.func34, Try.ntmps34
      go_wp2
      go_ret
      exact ⟨rfl, rfl⟩
  · have e : scanned k = false := by simp [scanned]; omega
    rw [e]
    clear e
    go_enter Try.func34, Try.ntmps34
    go_wp2
    go_ret
    exact ⟨rfl, rfl⟩
end Go.Proofs.Ytkbnkpllbgofhaa
