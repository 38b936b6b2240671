/-
  Copy's statements: words, roots.
-/
import Derived.Test.YtkbnkpllbgofhaaMade
namespace Go.Proofs.Ytkbnkpllbgofhaa
open Go.RowKit HeapM

def wordVal (at_ : List Int) (x : WordD) : Int := if x.1 = true ∧ 0 < at_.length then tagW (at_.getD (x.2 % (at_.length : Int)).toNat 0) 1 else x.2
theorem wordVal_range (at_ : List Int) {x : WordD} (h : 0 ≤ x.2 ∧ x.2 < 18446744073709551616) : 0 ≤ wordVal at_ x ∧ wordVal at_ x < 18446744073709551616 := by
  unfold wordVal
  split
  · unfold tagW
    split <;> omega
  · exact h
/-- A slice of fresh words. -/
def WPost (k : IntKind) (xs : List Int) (w : World) (e : Ending) (w' : World) : Prop := ∃ a c, e = .returned (.slice a xs.length c) ∧ SlI w' k a xs ∧ Upd [] w w' ∧ ∀ b o, a = some ⟨b, o, none⟩ → w.heap.size ≤ b
theorem info_u64 : (Try.prog.info? 30).map (fun i => (i.zero, i.size, i.bytes)) = some (some (.int .u64 0), 1, 8) := by kernel_rfl
theorem own_fresh {w w' : World} {k : IntKind} {e : TypeId} {v : Value} {xs : List Int} (h : w'.ownsRow w.heap.size e 1 v xs.length (xs.map (.int k))) (hu : Upd [] w w') : WPost k xs w (.returned v) w' := by
  have hl := h.lt
  obtain ⟨a, c, rfl, h1, h2⟩ := own_SlI h
  exact ⟨a, c, rfl, h2, hu, fun b o e => (hl b (by subst e; rfl)).1⟩
set_option maxHeartbeats 1000000 in
theorem roots_calls {w : World} {a : Option Addr} {xs : List Int} (n c : Nat) (hn : xs.length = n) (hs : SlI w .u64 a xs) (hm : n ≤ 4294967296) :
    Calls Try.prog 59 #[.slice a n c] w (WPost .u64 xs w) := by
  have HS := Lib.hid hs
  have HN := Lib.hid hn
  clear hs hn
  go_enter Try.func59, Try.ntmps59
  go_wp2_with fail
  go_loopw [3, 8] (fun lv i wr => ∃ j : Nat, j ≤ n ∧ i = .int .i64 j ∧ Hid (Upd [] w wr) ∧ Hid (wr.ownsRow w.heap.size 31 1 lv j ((xs.take j).map (.int .u64)))) (fun _ i _ => n - (intOf i).toNat)
  case atStart => exact ⟨0, by omega, rfl, Upd.refl _ _, World.ownsRow_nil _ _ _ _⟩
  case round =>
    obtain ⟨j, hj, rfl, hU, hO⟩ := hrel
    by_cases hlt : j < n
    · have hjl : j < xs.length := by rw [HN.out]; exact hlt
      obtain ⟨b, o, rfl, hc⟩ := (HS.out.upd0 hU.out) j hjl
      have htk : (xs.take (j + 1)).map (Value.int .u64) = (xs.take j).map (Value.int .u64) ++ [.int .u64 (xs.getD j 0)] := by
        rw [List.take_succ_eq_append_getElem hjl, List.map_append]
        simp [List.getD_eq_getElem?_getD, hjl]
      have HT := Lib.hid htk
      have hsz := hU.out.size
      clear hjl htk
      generalize xs.getD j 0 = x at *
      go_wp2_with (at_builtin; refine wpList_app rfl _ _ 37 rfl w.heap.size 31 (.int .u64 0) 1 8 Try.underlying37 info_word rfl (by decide) _ _ _ rfl hO.out [.int .u64 x] 1 rfl rfl (one1 rfl) (by unfold maxLen; omega) (by omega) (by omega) ?_; intro g cap w9 S hO9 hu9 hS9 hg9)
      have hU9 := Lib.hid (hU.out.fresh hu9 (fun k hk => (hO.out.lt k (hS9 k hk)).1))
      rw [← HT.out] at hO9
      have HO9 := Lib.hid hO9
      clear hO9 hu9 hS9 hg9 hO hU hc
      go_wp2
      go_roundw
      case rel => exact ⟨j + 1, by omega, by go_num, hU9, HO9⟩
      case measure => simp [intOf]; omega
    · have hjn : j = xs.length := by rw [HN.out]; omega
      have hO1 := hO.out
      rw [List.take_of_length_le (by omega), hjn] at hO1
      have HP := Lib.hid (own_fresh hO1 hU.out)
      clear hO hO1 hU hjn
      go_wp2
      go_ret
      exact HP.out
set_option maxRecDepth 100000 in
set_option maxHeartbeats 1000000 in
theorem words18_calls {w : World} {a a2 : Option Addr} {l : List WordD} {at_ : List Int} (n c m c2 : Nat) (hn : l.length = n) (hm : at_.length = m) (hs : MemW w a l) (hr : RngW l) (ha : SlI w .i64 a2 at_) (hnm : n ≤ 4294967296) (hmm : m ≤ 65536) :
    Calls Try.prog 60 #[.slice a n c, .slice a2 m c2] w (WPost .u64 (l.map (wordVal at_)) w) := by
  have HS := Lib.hid hs
  have HR := Lib.hid hr
  have HN := Lib.hid hn
  have HM := Lib.hid hm
  have HA := Lib.hid ha
  clear hs hn hr hm ha
  go_enter Try.func60, Try.ntmps60
  go_wp2_with fail
  go_loopw [5, 10] (fun lv i wr => ∃ j : Nat, j ≤ n ∧ i = .int .i64 j ∧ Hid (Upd [] w wr) ∧ Hid (wr.ownsRow w.heap.size 30 1 lv j (((l.take j).map (wordVal at_)).map (.int .u64)))) (fun _ i _ => n - (intOf i).toNat)
  case atStart => exact ⟨0, by omega, rfl, Upd.refl _ _, World.ownsRow_nil _ _ _ _⟩
  case round =>
    obtain ⟨j, hj, rfl, hU, hO⟩ := hrel
    by_cases hlt : j < n
    · have hjl : j < l.length := by rw [HN.out]; exact hlt
      obtain ⟨b, o, rfl, hc0, hc1⟩ := (HS.out.upd hU.out) j hjl
      have hxr := HR.out (l.getD j (false, 0)) (by simp [List.getD_eq_getElem?_getD, hjl])
      have htk : ((l.take (j + 1)).map (wordVal at_)).map (Value.int .u64) = ((l.take j).map (wordVal at_)).map (Value.int .u64) ++ [.int .u64 (wordVal at_ (l.getD j (false, 0)))] := by
        have e : l.getD j (false, 0) = l[j] := by simp [List.getD_eq_getElem?_getD, hjl]
        rw [List.take_succ_eq_append_getElem hjl, List.map_append, List.map_append, e]
        rfl
      have HT := Lib.hid htk
      have hsz := hU.out.size
      clear hjl htk
      obtain ⟨⟨P, N⟩, hx⟩ : ∃ x, x = l.getD j (false, 0) := ⟨_, rfl⟩
      rw [← hx] at hc0 hc1 HT hxr
      clear hx
      simp only at hc0 hc1 hxr
      have hO2 := Lib.hid (own_upd0 hO.out ((Upd.refl [] wr).alloc (.cells #[.bool P, .int .u64 N] 140)))
      have hU2 := Lib.hid (hU.out.alloc (.cells #[.bool P, .int .u64 N] 140))
      by_cases hP : P = true ∧ 0 < m
      · obtain ⟨rfl, hm0⟩ := hP
        have hv : wordVal at_ (true, N) = tagW (at_.getD (N % (m : Int)).toNat 0) 1 := by
          unfold wordVal
          rw [if_pos ⟨rfl, by rw [HM.out]; exact hm0⟩, HM.out]
        rw [hv] at HT
        clear hv
        have hi1 : 0 ≤ N % (m : Int) := Int.emod_nonneg _ (by omega)
        have hi2 : N % (m : Int) < m := Int.emod_lt_of_pos _ (by omega)
        obtain ⟨ix, hix⟩ : ∃ ix : Nat, N % (m : Int) = ix := ⟨(N % (m : Int)).toNat, by omega⟩
        rw [hix, Int.toNat_natCast] at HT
        obtain ⟨b2, o2, rfl, hca⟩ := (HA.out.upd0 hU.out) ix (by rw [HM.out]; omega)
        have hix3 : ix < m := by omega
        clear hi1 hi2
        have hb2 := World.block_lt_of_cell? wr _ hca
        simp only at hb2
        generalize at_.getD ix 0 = pl at *
        go_wp2_with fail
        refine (rref_calls _ _).mono ?_
        rintro e w' ⟨rfl, rfl⟩
        clear hix hca hc0 hc1
        generalize tagW pl 1 = y at *
        go_wp2_with (at_builtin; refine wpList_app rfl _ _ 59 rfl w.heap.size 30 (.int .u64 0) 1 8 Try.underlying59 info_u64 rfl (by decide) _ _ _ rfl hO2.out [.int .u64 y] 1 (by simp; rfl) rfl (one1 rfl) (by unfold maxLen; omega) (by omega) (by simp; omega) ?_; intro g cap w9 S hO9 hu9 hS9 hg9)
        have hU9 := Lib.hid (hU2.out.fresh hu9 (fun k hk => (hO2.out.lt k (hS9 k hk)).1))
        rw [← HT.out] at hO9
        have HO9 := Lib.hid hO9
        clear hO9 hu9 hS9 hg9 hO hO2 hU hU2
        go_wp2
        go_roundw
        case rel => exact ⟨j + 1, by omega, by go_num, hU9, HO9⟩
        case measure => simp [intOf]; omega
      · have hv : wordVal at_ (P, N) = N := by
          unfold wordVal
          rw [if_neg (by rw [HM.out]; exact hP)]
        rw [hv] at HT
        clear hv
        have hPB : (P = false) ∨ (P = true ∧ m = 0) := by
          cases P
          · exact .inl rfl
          · exact .inr ⟨rfl, by simp at hP; omega⟩
        clear hP
        rcases hPB with rfl | ⟨rfl, rfl⟩
        · go_wp2_with (at_builtin; refine wpList_app rfl _ _ 59 rfl w.heap.size 30 (.int .u64 0) 1 8 Try.underlying59 info_u64 rfl (by decide) _ _ _ rfl hO2.out [.int .u64 N] 1 (by simp; rfl) rfl (one1 rfl) (by unfold maxLen; omega) (by omega) (by simp; omega) ?_; intro g cap w9 S hO9 hu9 hS9 hg9)
          have hU9 := Lib.hid (hU2.out.fresh hu9 (fun k hk => (hO2.out.lt k (hS9 k hk)).1))
          rw [← HT.out] at hO9
          have HO9 := Lib.hid hO9
          clear hO9 hu9 hS9 hg9 hO hO2 hU hU2 hc0 hc1
          go_wp2
          go_roundw
          case rel => exact ⟨j + 1, by omega, by go_num, hU9, HO9⟩
          case measure => simp [intOf]; omega
        · go_wp2_with (at_builtin; refine wpList_app rfl _ _ 59 rfl w.heap.size 30 (.int .u64 0) 1 8 Try.underlying59 info_u64 rfl (by decide) _ _ _ rfl hO2.out [.int .u64 N] 1 (by simp; rfl) rfl (one1 rfl) (by unfold maxLen; omega) (by omega) (by simp; omega) ?_; intro g cap w9 S hO9 hu9 hS9 hg9)
          have hU9 := Lib.hid (hU2.out.fresh hu9 (fun k hk => (hO2.out.lt k (hS9 k hk)).1))
          rw [← HT.out] at hO9
          have HO9 := Lib.hid hO9
          clear hO9 hu9 hS9 hg9 hO hO2 hU hU2 hc0 hc1
          go_wp2
          go_roundw
          case rel => exact ⟨j + 1, by omega, by go_num, hU9, HO9⟩
          case measure => simp [intOf]; omega
    · have hjn : j = (l.map (wordVal at_)).length := by rw [List.length_map, HN.out]; omega
      have hO1 := hO.out
      rw [List.take_of_length_le (by rw [HN.out]; omega), hjn] at hO1
      have HP := Lib.hid (own_fresh hO1 hU.out)
      clear hO hO1 hU hjn
      go_wp2
      go_ret
      exact HP.out
end Go.Proofs.Ytkbnkpllbgofhaa
