/-
  datum.walk: it tells all that is in a datum, itself first.
-/
import Derived.Test.YtknbgbeepachgaaWalkA
import Derived.RangeFuncBox
import Derived.Shelf.Abstract
import Derived.OwnWalkIn
import Derived.TacticsInMore
import Derived.LoopNIn
import Derived.LoopIn
namespace Go.Proofs.Ytknbgbeepachgaa
open Go.RowKit Go.Shelf
attribute [local go_sem] Oper.semAt_some

/-- A datum in cells, in old blocks. -/
abbrev Cd (w : World) (n₀ N : Nat) : Type := { p : List Value × Dat // IsD w (fun b => b < n₀) N p.1 p.2 }
def datsOf {w : World} {n₀ N : Nat} (ys : List (Cd w n₀ N)) : List Dat := ys.map (fun y => y.1.2)
/-- What walk answers. -/
def WalkPost {w : World} {n₀ N : Nat} (lb : Nat) (J Jx : List (Cd w n₀ N) → World → Prop) (pre : List (Cd w n₀ N)) (W : World) (ds : List Dat) (e : Ending) (W' : World) : Prop :=
  (e = .returned (.bool true) ∧ ∃ ys, datsOf ys = ds ∧ J (pre ++ ys) W' ∧ KW n₀ lb W W') ∨ (e = .returned (.bool false) ∧ ∃ ys, datsOf ys <+: ds ∧ Jx (pre ++ ys) W')
set_option maxRecDepth 100000 in
set_option maxHeartbeats 2000000 in
theorem walk_in (w : World) (n₀ N M l lb : Nat) (J Jx : List (Cd w n₀ N) → World → Prop) (hJ : ∀ pre W W', J pre W → Upd [] W W' → J pre W')
    (hY : ∀ m pre x W, J pre W → pre.length < M → YieldAt Fence.wide m Try.prog l #[.agg x.1.1.toArray] W fun e W' =>
      (e = .returned (.bool true) ∧ J (pre ++ [x]) W' ∧ KW n₀ lb W W') ∨ (e = .returned (.bool false) ∧ Jx (pre ++ [x]) W')) :
    ∀ (n k m : Nat) (d : Dat) (cs : List Value) (pre : List (Cd w n₀ N)) (W : World), n + k = N → IsD w (fun b => b < n₀) n cs d → Below n₀ w W → RowOk n₀ lb W → szN n d ≤ 100000 → J pre W → pre.length + (walkD n d).length ≤ M →
      CallsIn Fence.wide m Try.prog 29 #[.agg cs.toArray, .func (.yield l) #[] #[]] W (WalkPost lb J Jx pre W (walkD n d)) := by
  intro n
  induction n with
  | zero => intro k m d cs pre W _ h; exact h.elim
  | succ n ih =>
    intro k m d cs pre W hk h hb hr hs hj hM
    have IH := Lib.hid ih
    clear ih
    have hN := h.more k
    rw [hk] at hN
    obtain ⟨x, hx⟩ : ∃ x : Cd w n₀ N, x.1 = (cs, d) := ⟨⟨(cs, d), hN⟩, rfl⟩
    obtain ⟨k9, n9, a9, l9, c9, b9, s9, i9, m9, d9, t9, o9, p9, rfl⟩ := h.shaped
    unfold datCells at *
    refine callsIn_of_wp Try.func29 rfl trivial ?_ rfl
    simp only [Try.ntmps29, List.size_toArray, List.length_cons, List.length_nil, Nat.reduceAdd, Nat.reduceSub, Array.replicate_succ, Array.replicate_zero, List.push_toArray, List.append_toArray, List.nil_append, List.cons_append]
    have hu1 : Upd [] W (W.alloc (.cells #[.int .i64 k9, .bool n9, .slice a9 l9 c9, .bool b9, .string s9, .slice i9 m9 d9, .slice t9 o9 p9] 27)) := (Upd.refl [] W).alloc _
    have hy := hY (m - 1) pre x _ (hJ _ _ _ hj hu1) (by rw [walkD, List.length_cons] at hM; omega)
    rw [hx] at hy
    obtain ⟨fn, tmps, assign, body, hy, hR⟩ := hy
    have HR := Lib.hid hR
    clear hR
    have hkw1 : KW n₀ lb W (W.alloc (.cells #[.int .i64 k9, .bool n9, .slice a9 l9 c9, .bool b9, .string s9, .slice i9 m9 d9, .slice t9 o9 p9] 27)) := KW.upd hr hu1
    have hm1 : Mine lb (W.alloc (.cells #[.int .i64 k9, .bool n9, .slice a9 l9 c9, .bool b9, .string s9, .slice i9 m9 d9, .slice t9 o9 p9] 27)) W.heap.size := Mine.new hr hu1 (Nat.le_refl _) (by simp)
    have hbx : Blk (W.alloc (.cells #[.int .i64 k9, .bool n9, .slice a9 l9 c9, .bool b9, .string s9, .slice i9 m9 d9, .slice t9 o9 p9] 27)) W.heap.size [.int .i64 k9, .bool n9, .slice a9 l9 c9, .bool b9, .string s9, .slice i9 m9 d9, .slice t9 o9 p9] 27 := Blk.newAt rfl
    have hds : datsOf [x] = [d] := by
      unfold datsOf
      rw [List.map_cons, hx]
      rfl
    have hlen : d.items.length + d.tail.length ≤ 100000 := by
      have h1 := len_le_szL (szN_pos n) d.items
      have h2 := len_le_szL (szN_pos n) d.tail
      rw [szN] at hs
      omega
    have hszL : szL (szN n) (d.items ++ d.tail) ≤ 100000 := by
      rw [szN] at hs
      rw [szL_append]
      omega
    have HPT := Lib.hid (fun (W' : World) (hu : Below n₀ w W') => partsN_calls (w0 := w) (w := W') h (fun b o v hp hc => (hu.cell (p := ⟨b, o, none⟩) hp).trans hc) hlen)
    have HSZ := Lib.hid (And.intro hszL (And.intro hlen hM))
    have HDS := Lib.hid hds
    have HK1 := Lib.hid (And.intro hkw1 (And.intro hm1 hbx))
    have HR0 := Lib.hid hr
    have HB0 := Lib.hid hb
    have HJ := Lib.hid hJ
    have hwD : walkD (n + 1) d = d :: (d.items ++ d.tail).flatMap (walkD n) := rfl
    rw [hwD] at HSZ ⊢
    obtain ⟨ds, hdd⟩ : ∃ ds, ds = d.items ++ d.tail := ⟨_, rfl⟩
    rw [← hdd] at HPT HSZ ⊢
    clear hwD hkw1 hm1 hbx hds hlen hszL hu1 hj hY hN hs hM hr hb hJ hdd
    gi_wp2_with fail
    refine ⟨fun h => by simp [Fence.wide] at h, HR.out.mono ?_⟩
    clear HR hy
    rintro e W2 (⟨rfl, hJ2, hk2⟩ | ⟨rfl, hJx⟩)
    · have hx2 := hk2.keeps HK1.out.2.2 HK1.out.2.1.box HK1.out.2.1.row
      obtain ⟨x0, x1, x2, x3, x4, x5, x6⟩ := Blk.seven hx2
      have HK2 := Lib.hid (HK1.out.1.trans hk2)
      have HJ2 := Lib.hid hJ2
      clear hJ2 hk2 hx2 HK1
      gi_wp2_with fail
      refine ⟨trivial, fun h => by simp [Fence.wide] at h, CallsIn.mono (callsIn_wide.2 (HPT.out W2 (HB0.out.trans HK2.out.below))) ?_⟩
      rintro e W3 ⟨⟨a3, c3, rfl, hrow⟩, hu3⟩
      have HR2 := Lib.hid (HR0.out.kw HK2.out)
      have HK3 := Lib.hid (HK2.out.trans (KW.upd HR2.out hu3))
      have HJ3 := Lib.hid (HJ.out _ _ _ HJ2.out hu3)
      have HRow := Lib.hid hrow
      have HU3 := Lib.hid hu3
      clear hrow hu3 HJ2 HPT HK2 x0 x1 x2 x3 x4 x5 x6
      have hB3 : Below n₀ w W3 := HB0.out.trans HK3.out.below
      have hR3 : RowOk n₀ lb W3 := HR0.out.kw HK3.out
      have hel : ∀ i, i < ds.length → ∃ b o cs, a3 = some ⟨b, o, none⟩ ∧ Mine lb W3 b ∧ At7 W3 b (o + i * 7) cs ∧ IsD w (fun b => b < n₀) n cs (ds.getD i default) := by
        intro i hi
        obtain ⟨b, o, cs, e, hb, hat, hd⟩ := HRow.out i hi
        exact ⟨b, o, cs, e, Mine.new HR2.out HU3.out hb hat.lt, hat, hd⟩
      have HB3 := Lib.hid hB3
      have HR3 := Lib.hid hR3
      have HEL := Lib.hid hel
      obtain ⟨q, hq⟩ : ∃ q, q = ds.length := ⟨_, rfl⟩
      have hq5 : q ≤ 100000 := by
        have h1 := len_le_szL (szN_pos n) ds
        have h2 := HSZ.out.1
        omega
      rw [← hq] at HEL ⊢
      have HQ := Lib.hid hq
      clear hB3 hR3 hel HRow HU3 HR2 hq
      gi_wp2_with fail
      gi_loopw [14] (fun i wr => ∃ j : Nat, j ≤ q ∧ i = .int .i64 j ∧ Hid (∃ ys, datsOf ys = (ds.take j).flatMap (walkD n) ∧ J (pre ++ [x] ++ ys) wr) ∧ Hid (KW n₀ lb W3 wr))
        (fun i _ => q - (intOf i).toNat)
      case atStart => exact ⟨0, Nat.zero_le _, rfl, Lib.hid ⟨[], rfl, by rw [List.append_nil]; exact HJ3.out⟩, Lib.hid (KW.refl _ _ _)⟩
      case round =>
        obtain ⟨j, hj, rfl, hys, hkw⟩ := hrel
        obtain ⟨ys, hyd, hyj⟩ := hys.out
        have HYD := Lib.hid hyd
        clear hys hyd
        by_cases hlt : j < q
        · obtain ⟨b, o, cs, rfl, hmb, hat, hd⟩ := HEL.out j hlt
          have hat' := hkw.out.at7 hat hmb
          obtain ⟨y, hy⟩ : ∃ y, y = ds.getD j default := ⟨_, rfl⟩
          have hjl : j < ds.length := by rw [← HQ.out]; exact hlt
          have hsy := szL_get (szN n) hjl
          have hnx := flatMap_next (f := walkD n) hjl
          have hpx := fun (q : List Dat) (hq : q <+: walkD n (ds.getD j default)) => flatMap_pre hjl hq
          have hall : ((ds.take j).flatMap (walkD n)).length + (walkD n y).length ≤ (ds.flatMap (walkD n)).length := by
            have h1 := (hpx _ (List.prefix_refl _)).length_le
            rw [List.length_append, ← hy] at h1
            exact h1
          rw [← hy] at hd hsy hnx hpx
          obtain ⟨k1, n1, a1, l1, c1, b1, s1, i1, m1, d1, t1, o1, p1, rfl⟩ := hd.shaped
          unfold datCells at *
          obtain ⟨q0, q1, q2, q3, q4, q5, q6⟩ := hat'.cells
          have hR4 := HR3.out.kw hkw.out
          have hu4 : Upd [] wr (wr.alloc (.cells #[.int .i64 k1, .bool n1, .slice a1 l1 c1, .bool b1, .string s1, .slice i1 m1 d1, .slice t1 o1 p1] 27)) := (Upd.refl [] wr).alloc _
          have hk4 := hkw.out.trans (KW.upd hR4 hu4)
          have hyl : ys.length = ((ds.take j).flatMap (walkD n)).length := by
            rw [← HYD.out]
            unfold datsOf
            rw [List.length_map]
          have hih := IH.out (k + 1) (m - 1) y _ (pre ++ [x] ++ ys) _ (by omega) hd (HB3.out.trans hk4.below) (HR3.out.kw hk4) (Nat.le_trans hsy HSZ.out.1) (HJ.out _ _ _ hyj hu4) (by
            have h1 := HSZ.out.2.2
            rw [List.length_cons] at h1
            rw [List.length_append, List.length_append, List.length_singleton, hyl]
            omega)
          have HIH := Lib.hid hih
          have HK4 := Lib.hid hk4
          have HNX := Lib.hid (And.intro hnx hpx)
          clear hat hat' hd hsy hnx hpx hall hR4 hu4 hk4 hyl hih hmb hyj hy hjl
          gi_wp2_with fail
          refine ⟨trivial, fun h => by simp [Fence.wide] at h, CallsIn.mono HIH.out ?_⟩
          rintro e W5 (⟨rfl, zs, hz1, hz2, hz3⟩ | ⟨rfl, zs, hz1, hz2⟩)
          · have HZ := Lib.hid (And.intro hz1 (And.intro hz2 hz3))
            clear hz1 hz2 hz3 HIH
            gi_wp2
            go_roundw
            case rel =>
              refine ⟨j + 1, by omega, by go_num, Lib.hid ⟨ys ++ zs, ?_, by rw [← List.append_assoc]; exact HZ.out.2.1⟩, Lib.hid (HK4.out.trans HZ.out.2.2)⟩
              unfold datsOf at *
              rw [List.map_append, HYD.out, HZ.out.1, HNX.out.1]
            case measure => simp [intOf]; omega
          · have HZ := Lib.hid (And.intro hz1 hz2)
            clear hz1 hz2 HIH
            gi_wp2
            go_ret
            refine .inr ⟨rfl, [x] ++ (ys ++ zs), ?_, by rw [← List.append_assoc, ← List.append_assoc]; exact HZ.out.2⟩
            have h1 := HDS.out
            have h2 := HYD.out
            have h3 := HNX.out.2 _ HZ.out.1
            unfold datsOf at *
            rw [List.map_append, List.map_append, h1, h2]
            exact (List.prefix_append_right_inj [d]).2 h3
        · obtain rfl : j = q := by omega
          have HJJ := Lib.hid hyj
          clear hyj
          gi_wp2
          go_ret
          refine .inl ⟨rfl, [x] ++ ys, ?_, by rw [← List.append_assoc]; exact HJJ.out, HK3.out.trans hkw.out⟩
          have h1 := HDS.out
          have h2 := HYD.out
          rw [HQ.out, List.take_length] at h2
          unfold datsOf at *
          rw [List.map_append, h1, h2]
          rfl
    · gi_wp2
      go_ret
      exact .inr ⟨rfl, [x], by rw [HDS.out]; exact List.prefix_append [d] _, hJx⟩
end Go.Proofs.Ytknbgbeepachgaa
