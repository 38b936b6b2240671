/-
  datum.norm, datum.Norm.
-/
import Derived.Test.YtknbgbeepachgaaDatO
namespace Go.Proofs.Ytknbgbeepachgaa
open Go.RowKit

theorem norm_calls : ∀ n, NormSaid n
  | 0 => fun _ _ _ _ h => h.elim
  | n + 1 => fun P d cs w h hs => by
    by_cases hk : d.kind = 5
    · exact norm_list n (norm_calls n) P d cs w h hs hk
    · exact norm_flats n P d cs w h hk
set_option maxRecDepth 100000 in
set_option maxHeartbeats 1500000 in
theorem Norm_calls {P : Nat → Prop} {n : Nat} {d : Dat} {cs : List Value} {w : World} (h : IsD w P n cs d) (hs : szN n d ≤ 100000) (hd : dpN n d ≤ 10000) :
    Calls Try.prog 10 #[.agg cs.toArray] w (NormPost w n (normD n d)) := by
  obtain ⟨D, hD⟩ : ∃ D, D = normD n d := ⟨_, rfl⟩
  rw [← hD]
  obtain ⟨k, ng, aL, nL, cL, bb, ss, aI, nI, cI, aT, nT, cT, rfl⟩ := h.shaped
  have hu1 := ((Upd.refl [] w).alloc (.cells #[.int .i64 k, .bool ng, .slice aL nL cL, .bool bb, .string ss, .slice aI nI cI, .slice aT nT cT] 27)).alloc (.cells #[.int .i64 0, .bool false, .slice none 0 0, .bool false, .string ⟨#[]⟩, .slice none 0 0, .slice none 0 0] 27)
  have hF := Lib.hid (few_calls (h.upd hu1) hs hd)
  have hC := Lib.hid (fun (W : World) (hu : Upd [] w W) => norm_calls n P d _ W (h.upd hu) hs)
  rw [← hD] at hC
  have hB := Lib.hid ((Blk.new w [.int .i64 k, .bool ng, .slice aL nL cL, .bool bb, .string ss, .slice aI nI cI, .slice aT nT cT] 27).alloc (.cells #[.int .i64 0, .bool false, .slice none 0 0, .bool false, .string ⟨#[]⟩, .slice none 0 0, .slice none 0 0] 27))
  have hR : Hid (Blk ((w.alloc (.cells #[.int .i64 k, .bool ng, .slice aL nL cL, .bool bb, .string ss, .slice aI nI cI, .slice aT nT cT] 27)).alloc (.cells #[.int .i64 0, .bool false, .slice none 0 0, .bool false, .string ⟨#[]⟩, .slice none 0 0, .slice none 0 0] 27)) (w.heap.size + 1) [.int .i64 0, .bool false, .slice none 0 0, .bool false, .string ⟨#[]⟩, .slice none 0 0, .slice none 0 0] 27) := Lib.hid (Blk.newAt (by simp))
  have hU := Lib.hid hu1
  clear h hs hd hu1 hD
  unfold datCells at *
  go_enter Try.func10, Try.ntmps10
  go_wp2_with fail
  refine hF.out.mono ?_
  rintro e w2 ⟨rfl, hu2⟩
  have hU2 := hU.out.then hu2
  obtain ⟨q0, q1, q2, q3, q4, q5, q6⟩ := Blk.seven (hu2.blk hB.out (by simp))
  have hr2 := hu2.blk hR.out (by simp)
  have hlt := hr2.lt
  have HR2 := Lib.hid hr2
  have HU2 := Lib.hid hU2
  clear hF hB hR hU hu2 hr2 hU2
  go_wp2_with fail
  refine (hC.out _ HU2.out).mono ?_
  rintro e w3 ⟨⟨cs3, rfl, hD3⟩, hu3⟩
  obtain ⟨k3, n3, a3, l3, c3, b3, s3, i3, m3, d3, t3, x3, y3, rfl⟩ := hD3.shaped
  unfold datCells at *
  have hr3 := hu3.blk HR2.out (by simp)
  obtain ⟨p0, p1, p2, p3, p4, p5, p6⟩ := Blk.seven hr3
  obtain ⟨f0, f1, f2, f3, f4, f5, f6⟩ := Blk.frees hr3
  have HR3 := Lib.hid hr3
  have HU3 := Lib.hid (HU2.out.then hu3)
  have HD3 : Hid (IsD w3 (fun b => w.heap.size + 2 ≤ b) n _ _) := Lib.hid (hD3.mono fun b _ hb => by omega)
  clear hr3 hu3 hD3 q0 q1 q2 q3 q4 q5 q6 hC
  go_wp2
  have hb := HR3.out.put7 (.int .i64 k3) (.bool n3) (.slice a3 l3 c3) (.bool b3) (.string s3) (.slice i3 m3 d3) (.slice t3 x3 y3)
  obtain ⟨k0, k1, k2, k3', k4, k5, k6⟩ := Blk.seven hb
  refine bodyPost_ret (v := .agg #[.int .i64 k3, .bool n3, .slice a3 l3 c3, .bool b3, .string s3, .slice i3 m3 d3, .slice t3 x3 y3]) ?_ rfl ⟨⟨[.int .i64 k3, .bool n3, .slice a3 l3 c3, .bool b3, .string s3, .slice i3 m3 d3, .slice t3 x3 y3], rfl, (HD3.out.put7 (w.heap.size + 1) (fun k hk => by omega) _ _ _ _ _ _ _).mono fun b _ hb => by omega⟩, HU3.out.put7 (.inr (Nat.le_succ _)) _ _ _ _ _ _ _⟩
  simp [results, Try.results10, go_sem, k0, k1, k2, k3', k4, k5, k6]
end Go.Proofs.Ytknbgbeepachgaa
