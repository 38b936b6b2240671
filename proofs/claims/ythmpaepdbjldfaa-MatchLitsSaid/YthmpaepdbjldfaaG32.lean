/-
  Texts of this claim, merged: MaS. Lemmas and contracts; no conditions of our own.
-/
import Derived.Test.YthmpaepdbjldfaaG31

/-
  (*match.matcher).row: one variable more.
-/
namespace Go.Proofs.Ythmpaepdbjldfaa
set_option linter.unusedVariables false
set_option linter.unusedSimpArgs false
open Go.RowKit Go.Shelf

noncomputable def row27 : Code := (Try.f99.body.bind (findRegion 27)).getD .skip
set_option maxRecDepth 1000000 in
set_option maxHeartbeats 3000000 in
theorem row_region27 {Q : Exit → Act → World → Prop} {W20 : World} {base M T kp q B nL cL m N : Nat} {aL : Option Addr} {v : Value} {bs : List Bd} {bd : Bd} (u1 u2 u3 u4 u5 u6 u7 u8 u9 u10 u11 u12 u13 u15 u16 u17 u18 u19 u20 u23 u24 u25 u26 u27 u28 u29 u30 u31 u32 u33 u34 u35 u36 u37 u38 u39 u40 u41 u42 u43 u44 u45 u46 u47 u48 u49 u50 u51 u52 u53 u54 u55 u56 u57 u58 u59 u60 u61 u62 u63 u64 u65 u66 u67 u68 u69 u70 u71 u72 u73 u74 u75 u76 u77 u78 u79 u80 u81 u82 u83 u84 u85 u86 u87 u88 u89 u90 u91 u92 u93 u94 u95 u96 u97 u98 u99 u100 u101 u102 u103 u104 u105 u106 u107 u108 u109 u110 u111 u112 u113 u114 u115 u116 u117 u118 u119 u120 u121 u122 u123 u124 u125 u126 u127 u128 u129 u130 u131 u132 u133 u134 u135 u136 u137 u138 u139 u140 u141 u142 u143 u144 u145 u146 u147 u148 u149 u150 u151 u152 u153 u154 u155 u156 u157 u158 u159 u160 u161 u162 u163 u164 u165 u166 u167 u168 u169 u170 u171 u172 u173 u174 u175 u176 u177 u178 u179 u180 u181 u182 u183 u184 u185 : Value) {nm : ByteArray} {aK : Option Addr} {lK cK : Nat}
    (hM : MSt base W20 M aL nL cL m N v bs) (hn : W20.cell? ⟨B, 0, none⟩ = some (.string nm)) (hT : W20.cell? ⟨T, q * 9, none⟩ = some (.int .i64 0) ∧ W20.cell? ⟨T, q * 9 + 1, none⟩ = some (.bool false) ∧ W20.cell? ⟨T, q * 9 + 2, none⟩ = some (.slice none 0 0) ∧ W20.cell? ⟨T, q * 9 + 3, none⟩ = some (.bool false) ∧ W20.cell? ⟨T, q * 9 + 4, none⟩ = some (.string ⟨#[]⟩) ∧ W20.cell? ⟨T, q * 9 + 5, none⟩ = some (.slice none 0 0) ∧ W20.cell? ⟨T, q * 9 + 6, none⟩ = some (.slice none 0 0) ∧ W20.cell? ⟨T, q * 9 + 7, none⟩ = some (.bool true) ∧ W20.cell? ⟨T, q * 9 + 8, none⟩ = some (.slice aK lK cK)) (hBM : B ≠ M) (hTM : T ≠ M) (hvB : v.ownBlock ≠ some B) (hvT : v.ownBlock ≠ some T) (hq : q < kp) (hbl : bs.length ≤ 1000000)
    (hbd : ∀ W, Upd [] W20 W → IsB W (BIn base M v) m N [.string nm, .int .i64 0, .bool false, .slice none 0 0, .bool false, .string ⟨#[]⟩, .slice none 0 0, .slice none 0 0, .bool true, .slice aK lK cK] bd)
    (hQ : ∀ (y141 y142 y143 y144 y145 y146 y147 y148 y149 y150 y151 y152 y153 y154 y155 y156 : Value) (W40 : World) (v' : Value), MSt base W40 M aL nL cL m N v' (bs ++ [bd]) → Upd (M :: v.ownBlock.toList) W20 W40 → (v'.ownBlock = v.ownBlock ∨ ∃ g, v'.ownBlock = some g ∧ W20.heap.size ≤ g) → Q .normal { tmps := #[.pointer (some ⟨M, 0, none⟩), u1, u2, u3, u4, u5, u6, u7, u8, u9, u10, u11, u12, u13, .slice (some ⟨T, 0, none⟩) kp kp, u15, u16, u17, u18, u19, u20, .int .i64 (q : Int), .pointer (some ⟨B, 0, none⟩), u23, u24, u25, u26, u27, u28, u29, u30, u31, u32, u33, u34, u35, u36, u37, u38, u39, u40, u41, u42, u43, u44, u45, u46, u47, u48, u49, u50, u51, u52, u53, u54, u55, u56, u57, u58, u59, u60, u61, u62, u63, u64, u65, u66, u67, u68, u69, u70, u71, u72, u73, u74, u75, u76, u77, u78, u79, u80, u81, u82, u83, u84, u85, u86, u87, u88, u89, u90, u91, u92, u93, u94, u95, u96, u97, u98, u99, u100, u101, u102, u103, u104, u105, u106, u107, u108, u109, u110, u111, u112, u113, u114, u115, u116, u117, u118, u119, u120, u121, u122, u123, u124, u125, u126, u127, u128, u129, u130, u131, u132, u133, u134, u135, u136, u137, u138, u139, u140, y141, y142, y143, y144, y145, y146, y147, y148, y149, y150, y151, y152, y153, y154, y155, y156, u157, u158, u159, u160, u161, u162, u163, u164, u165, u166, u167, u168, u169, u170, u171, u172, u173, u174, u175, u176, u177, u178, u179, u180, u181, u182, u183, u184, u185], defers := [] } W40) :
    Code.wp Try.prog row27 Q { tmps := #[.pointer (some ⟨M, 0, none⟩), u1, u2, u3, u4, u5, u6, u7, u8, u9, u10, u11, u12, u13, .slice (some ⟨T, 0, none⟩) kp kp, u15, u16, u17, u18, u19, u20, .int .i64 (q : Int), .pointer (some ⟨B, 0, none⟩), u23, u24, u25, u26, u27, u28, u29, u30, u31, u32, u33, u34, u35, u36, u37, u38, u39, u40, u41, u42, u43, u44, u45, u46, u47, u48, u49, u50, u51, u52, u53, u54, u55, u56, u57, u58, u59, u60, u61, u62, u63, u64, u65, u66, u67, u68, u69, u70, u71, u72, u73, u74, u75, u76, u77, u78, u79, u80, u81, u82, u83, u84, u85, u86, u87, u88, u89, u90, u91, u92, u93, u94, u95, u96, u97, u98, u99, u100, u101, u102, u103, u104, u105, u106, u107, u108, u109, u110, u111, u112, u113, u114, u115, u116, u117, u118, u119, u120, u121, u122, u123, u124, u125, u126, u127, u128, u129, u130, u131, u132, u133, u134, u135, u136, u137, u138, u139, u140, u141, u142, u143, u144, u145, u146, u147, u148, u149, u150, u151, u152, u153, u154, u155, u156, u157, u158, u159, u160, u161, u162, u163, u164, u165, u166, u167, u168, u169, u170, u171, u172, u173, u174, u175, u176, u177, u178, u179, u180, u181, u182, u183, u184, u185], defers := [] } W20 := by
  conv => arg 2; whnf
  obtain ⟨t0, t1, t2, t3, t4, t5, t6, t7, t8⟩ := hT
  have hltT : T < W20.heap.size := World.block_lt_of_cell? W20 _ t0
  have hltB : B < W20.heap.size := World.block_lt_of_cell? W20 _ hn
  have hltM : M < W20.heap.size := hM.blk.lt
  have c1 := hM.blk.cell_some (i := 1) rfl
  obtain ⟨dn, d0, d1, d2, d3, d4, d5, d6, d7, d8⟩ : W20.drew.cell? ⟨B, 0, none⟩ = _ ∧ W20.drew.cell? ⟨T, q * 9, none⟩ = _ ∧ W20.drew.cell? ⟨T, q * 9 + 1, none⟩ = _ ∧ W20.drew.cell? ⟨T, q * 9 + 2, none⟩ = _ ∧ W20.drew.cell? ⟨T, q * 9 + 3, none⟩ = _ ∧ W20.drew.cell? ⟨T, q * 9 + 4, none⟩ = _ ∧ W20.drew.cell? ⟨T, q * 9 + 5, none⟩ = _ ∧ W20.drew.cell? ⟨T, q * 9 + 6, none⟩ = _ ∧ W20.drew.cell? ⟨T, q * 9 + 7, none⟩ = _ ∧ W20.drew.cell? ⟨T, q * 9 + 8, none⟩ = _ := ⟨hn, t0, t1, t2, t3, t4, t5, t6, t7, t8⟩
  have hq1 : (q : Int) < (kp : Int) := by omega
  have hq0 : (0 : Int) ≤ (q : Int) := by omega
  have hBn : B ∉ v.ownBlock.toList := fun hx => hvB (by simpa using hx)
  have hTn : T ∉ v.ownBlock.toList := fun hx => hvT (by simpa using hx)
  have hMn : M ∉ v.ownBlock.toList := fun hx => hM.ne (by simpa using hx)
  have HM := Lib.hid hM
  have HBD := Lib.hid hbd
  have HQ := Lib.hid hQ
  have hlow : base ≤ W20.heap.size := by have := hM.low; omega
  have HWU := Lib.hid (show Upd [] W20 ((W20.alloc (.cells #[.string nm, .int .i64 0, .bool false, .slice none 0 0, .bool false, .string ⟨#[]⟩, .slice none 0 0, .slice none 0 0, .bool true, .slice aK lK cK] 66)).drew) from ((Upd.refl [] W20).alloc _).drew)
  have HROW : Hid (RowK ((W20.alloc (.cells #[.string nm, .int .i64 0, .bool false, .slice none 0 0, .bool false, .string ⟨#[]⟩, .slice none 0 0, .slice none 0 0, .bool true, .slice aK lK cK] 66)).drew) (fun _ => True) 10 (IsB ((W20.alloc (.cells #[.string nm, .int .i64 0, .bool false, .slice none 0 0, .bool false, .string ⟨#[]⟩, .slice none 0 0, .slice none 0 0, .bool true, .slice aK lK cK] 66)).drew) (BIn base M v) m N) (some ⟨W20.heap.size, 0, none⟩) [bd]) := Lib.hid (RowK.one (Blk.new W20 [.string nm, .int .i64 0, .bool false, .slice none 0 0, .bool false, .string ⟨#[]⟩, .slice none 0 0, .slice none 0 0, .bool true, .slice aK lK cK] 66).drew trivial rfl (HBD.out _ HWU.out))
  clear hM hbd hQ hq hvB hvT
  refine wp_region_noPanic ?_
  go_region_law ((try dsimp (config := { proj := false }) only [List.getElem_toArray, List.getElem_cons_succ, List.getElem_cons_zero]); (first
    | (refine step_appk rfl _ _ 37 rfl base 66 _ 10 160 Try.underlying37 info_bind rfl (by decide) (v := v) (xs := bs) (ys := [bd]) rfl (HM.out.upd HWU.out).own rfl rfl HROW.out (fun _ _ h => h.one) (by show bs.length + 1 ≤ 100000000; omega) (by decide) (Nat.le_trans hlow HWU.out.size) ?_; rintro q10 a10 c10 w30 - hO30 hu30 hv30; have xn := Upd.cell hu30 (cell_allocO dn) hBn; have x0 := Upd.cell hu30 (cell_allocO d0) hTn; have x1 := Upd.cell hu30 (cell_allocO d1) hTn; have x2 := Upd.cell hu30 (cell_allocO d2) hTn; have x3 := Upd.cell hu30 (cell_allocO d3) hTn; have x4 := Upd.cell hu30 (cell_allocO d4) hTn; have x5 := Upd.cell hu30 (cell_allocO d5) hTn; have x6 := Upd.cell hu30 (cell_allocO d6) hTn; have x7 := Upd.cell hu30 (cell_allocO d7) hTn; have x8 := Upd.cell hu30 (cell_allocO d8) hTn; have hMw := HM.out.upd HWU.out; have hBM30 := hu30.blk hMw.blk hMn; have c1 := hBM30.cell_some (i := 1) rfl; have fM := hBM30.free 1; have hlM := hBM30.lt)))
  all_goals refine NoPanic.normal ?_
  all_goals
    have hfin := MSt.added (HM.out.upd HWU.out) hO30 hu30 hv30
    refine HQ.out _ _ _ _ _ _ _ _ _ _ _ _ _ _ _ _ _ (.slice a10 q10 c10) hfin.1 ((HWU.out.mono (by simp)).then hfin.2) ?_
    rcases hv30 with h | h
    · exact .inl h
    · exact .inr ⟨_, h, by simp⟩
end Go.Proofs.Ythmpaepdbjldfaa
