/-
  datum.Walk: its iterator's contract.
-/
import Derived.Test.YtknbgbeepachgaaWalkB
namespace Go.Proofs.Ytknbgbeepachgaa
open Go.RowKit Go.Shelf
attribute [local go_sem] Oper.semAt_some

theorem room_wide (k : Nat) : Fence.wide.room k := fun d h => by simp [Fence.wide] at h
theorem yield_any {m : Nat} (m' : Nat) {P : Program} {l : Nat} {args : Array Value} {W : World} {R : Ending → World → Prop} (h : YieldAt Fence.wide m P l args W R) : YieldAt Fence.wide m' P l args W R := by
  obtain ⟨fn, tmps, assign, body, hy, hR⟩ := h
  exact ⟨fn, tmps, assign, body, hy, hR.1, fun c cs _ => hR.2 c cs (room_wide _)⟩
set_option maxHeartbeats 1000000 in
theorem Walk_calls {k0 : Int} {ng : Bool} {aL : Option Addr} {nL cL : Nat} {bb : Bool} {s0 : ByteArray} {aI : Option Addr} {nI cI : Nat} {aT : Option Addr} {nT cT : Nat} (w : World) :
    Calls Try.prog 18 #[.agg #[.int .i64 k0, .bool ng, .slice aL nL cL, .bool bb, .string s0, .slice aI nI cI, .slice aT nT cT]] w fun e w' => e = .returned (.func (.func 28) #[] #[.pointer (some ⟨w.heap.size, 0, none⟩)]) ∧ w' = w.alloc (.cells #[.int .i64 k0, .bool ng, .slice aL nL cL, .bool bb, .string s0, .slice aI nI cI, .slice aT nT cT] 27) := by
  go_enter Try.func18, Try.ntmps18
  go_wp2
  go_ret
  exact ⟨rfl, rfl⟩
set_option maxRecDepth 100000 in
set_option maxHeartbeats 2000000 in
theorem walk1_in (w : World) (n₀ n m l lb Bt : Nat) (J Jx : List (Cd w n₀ n) → World → Prop) (hJ : ∀ pre W W', J pre W → Upd [] W W' → J pre W') {d : Dat} {cs : List Value} {W : World}
    (hY : ∀ m pre x W, J pre W → pre.length < (walkD n d).length → YieldAt Fence.wide m Try.prog l #[.agg x.1.1.toArray] W fun e W' =>
      (e = .returned (.bool true) ∧ J (pre ++ [x]) W' ∧ KW n₀ lb W W') ∨ (e = .returned (.bool false) ∧ Jx (pre ++ [x]) W'))
    (h : IsD w (fun b => b < n₀) n cs d) (hb : Below n₀ w W) (hr : RowOk n₀ lb W) (hs : szN n d ≤ 100000) (hd : dpN n d ≤ 10000) (hB : Blk W Bt cs 27) (h0 : J [] W) :
    CallsIn Fence.wide m Try.prog 28 #[.func (.yield l) #[] #[], .pointer (some ⟨Bt, 0, none⟩)] W fun e W' => (∃ v, e = .returned v) ∧
      ((∃ ys, datsOf ys = walkD n d ∧ J ys W') ∨ (∃ pre, datsOf pre <+: walkD n d ∧ Jx pre W')) := by
  have hdW : IsD W (fun b => b < n₀) n cs d := IsD.map (m := 0) (fun _ _ hp => hp) (fun b o v hp hc => (hb.cell (p := ⟨b, o, none⟩) hp).trans hc) h
  obtain ⟨k9, n9, a9, l9, c9, b9, s9, i9, m9, d9, t9, o9, p9, rfl⟩ := h.shaped
  unfold datCells at *
  have HF := Lib.hid (few_calls hdW hs hd)
  have HW := Lib.hid (fun (W2 : World) (hu : Upd [] W W2) => walk_in w n₀ n (walkD n d).length l lb J Jx hJ hY n 0 (m - 1) d _ [] W2 rfl h (hb.trans (KW.upd hr hu).below) (hr.kw (KW.upd hr hu)) hs (hJ _ _ _ h0 hu) (by simp))
  have HB := Lib.hid hB
  obtain ⟨x0, x1, x2, x3, x4, x5, x6⟩ := Blk.seven hB
  obtain ⟨D, hD⟩ : ∃ D, D = walkD n d := ⟨_, rfl⟩
  rw [← hD] at HW ⊢
  clear hdW hY h hb hr hs hd hB h0 hJ hD
  refine callsIn_of_wp Try.func28 rfl trivial ?_ rfl
  simp only [Try.ntmps28, List.size_toArray, List.length_cons, List.length_nil, Nat.reduceAdd, Nat.reduceSub, Array.replicate_succ, Array.replicate_zero, List.push_toArray, List.append_toArray, List.nil_append, List.cons_append]
  gi_wp2_with fail
  refine ⟨trivial, fun h => by simp [Fence.wide] at h, CallsIn.mono (callsIn_wide.2 HF.out) ?_⟩
  rintro e W2 ⟨rfl, hu2⟩
  obtain ⟨x0, x1, x2, x3, x4, x5, x6⟩ := Blk.seven (hu2.blk HB.out (by simp))
  have HU2 := Lib.hid hu2
  clear hu2 HF
  gi_wp2_with fail
  refine ⟨trivial, fun h => by simp [Fence.wide] at h, CallsIn.mono (HW.out W2 HU2.out) ?_⟩
  rintro e W3 (⟨rfl, ys, hy1, hy2, _⟩ | ⟨rfl, ys, hy1, hy2⟩)
  · have HY := Lib.hid (And.intro hy1 hy2)
    clear hy1 hy2 HW
    gi_wp2
    go_end0
    exact ⟨⟨_, rfl⟩, .inl ⟨ys, HY.out.1, HY.out.2⟩⟩
  · have HY := Lib.hid (And.intro hy1 hy2)
    clear hy1 hy2 HW
    gi_wp2
    go_end0
    exact ⟨⟨_, rfl⟩, .inr ⟨ys, HY.out.1, HY.out.2⟩⟩
end Go.Proofs.Ytknbgbeepachgaa
