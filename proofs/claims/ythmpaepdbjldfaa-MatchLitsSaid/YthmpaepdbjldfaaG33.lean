/-
  Texts of this claim, merged: MaN. Lemmas and contracts; no conditions of our own.
-/
import Derived.Test.YthmpaepdbjldfaaG32
import Derived.Laws.MakeOwn
import Derived.Deep.DeepCutAuto
import Derived.Deep.CutBlock

/-
  (*match.matcher).row.
-/
namespace Go.Proofs.Ythmpaepdbjldfaa
set_option linter.unusedVariables false
set_option linter.unusedSimpArgs false
open Go.RowKit Go.Shelf

theorem cut_row {w : World} {P : Nat → Prop} {R : List Value → Dat → Prop} {a : Option Addr} {ds : List Dat} {c k : Nat} (h : RowOf w P R a ds) (hk : ds.length ≤ c) {AX : Option Addr} (hAX : AX = if c = k then a else a.map (fun x => x.add (k * 7))) : RowOf w P R AX (ds.drop k) := by
  intro i hi
  have hi2 := hi
  rw [List.length_drop] at hi2
  obtain ⟨b, o, cs, e, hp, ha, hr⟩ := h (k + i) (by omega)
  rw [if_neg (by omega), e] at hAX
  have hadd : (⟨b, o, none⟩ : Addr).add (k * 7) = ⟨b, o + k * 7, none⟩ := by unfold Addr.add; split <;> simp_all
  refine ⟨b, o + k * 7, cs, by rw [hAX]; simp [hadd], hp, ?_, ?_⟩
  · rwa [Nat.add_assoc, ← Nat.add_mul]
  · simpa [List.getD_eq_getElem?_getD] using hr
theorem take_row {w : World} {P : Nat → Prop} {R : List Value → Dat → Prop} {a : Option Addr} {ds : List Dat} (h : RowOf w P R a ds) (k : Nat) : RowOf w P R a (ds.take k) := RowK.take (k := 7) h k
/-- The trees' cells, the first j of them marked. -/
def ztm (k j : Nat) : List (List Value) := (List.range k).map fun t => zt (decide (t < j)) (.slice none 0 0)
theorem ztm_len (k j : Nat) : ∀ cs ∈ ztm k j, cs.length = 9 := by
  intro cs hc
  obtain ⟨t, _, rfl⟩ := List.mem_map.1 hc
  rfl
theorem ztm_getD {k j t : Nat} (h : t < k) : (ztm k j).getD t [] = zt (decide (t < j)) (.slice none 0 0) := by
  unfold ztm
  rw [List.getD_eq_getElem?_getD, List.getElem?_map, List.getElem?_range h]
  rfl
theorem ztm_zero (k : Nat) : ztm k 0 = List.replicate k (zt false (.slice none 0 0)) := by
  unfold ztm
  apply List.ext_getElem (by simp)
  intro t h1 h2
  simp
theorem ztm_all (k : Nat) : ztm k k = (List.replicate k (Value.slice none 0 0)).map (zt true) := by
  unfold ztm
  apply List.ext_getElem (by simp)
  intro t h1 h2
  simp at h1
  simp [h1]
theorem ztm_set {k j : Nat} (h : j < k) : (ztm k j).flatten.set (j * 9 + 7) (.bool true) = (ztm k (j + 1)).flatten := by
  rw [flatten_setK (ztm_len k j) (i := j) (j := 7) (.bool true) (by simpa [ztm] using h) (by decide), ztm_getD h]
  congr 1
  apply List.ext_getElem (by simp [ztm])
  intro t h1 h2
  simp [ztm] at h2
  by_cases htj : t = j
  · subst htj
    rw [List.getElem_set_self]
    simp [ztm, zt]
  · rw [List.getElem_set_ne (Ne.symm htj)]
    simp only [ztm, List.getElem_map, List.getElem_range]
    congr 1
    by_cases h3 : t < j
    · simp [h3, Nat.lt_succ_of_lt h3]
    · simp [h3]
      omega
theorem rowsM_step {f : Dat → Option (List Bd)} {l : List Dat} {j : Nat} (h : j < l.length) : rowsM f (l.drop j) = (f (l.getD j default)).bind fun a => (rowsM f (l.drop (j + 1))).bind fun b => some (a :: b) := by
  rw [drop_next h]
  rfl
theorem tst_zero {W : World} {base2 T m N kp : Nat} (hB : Blk W T (ztm kp kp).flatten 64) : TSt base2 W T m N (List.replicate kp (.slice none 0 0)) (fun _ => []) := by
  have hg : ∀ t, (List.replicate kp (Value.slice none 0 0)).getD t (.slice none 0 0) = .slice none 0 0 := by
    intro t
    rw [List.getD_eq_getElem?_getD, List.getElem?_replicate]
    split <;> rfl
  refine ⟨by rw [← ztm_all]; exact hB, fun t ht => ?_, fun t ht => ?_, fun s t hs ht hst b hb => ?_⟩
  · rw [hg]
    exact OwnK.nil _ _ _ _ _
  · rw [hg]
    simp [Value.ownBlock]
  · rw [hg] at hb
    cases hb
theorem dat_elem : Try.prog.underlying 25 = some (.slice (Try.prog.elem 25)) := by kernel_rfl
theorem dat_size (W : World) : (sizeOf (Try.prog.elem 25)).run Try.prog W = .ok 7 W := by kernel_rfl
theorem slice_lh (a : Option Addr) (len cap l h : Nat) (h1 : l ≤ h) (h2 : h ≤ cap) (W : World) : (Instr.slice 25 (.slice a len cap) (some (.int .i64 (l : Int))) (some (.int .i64 (h : Int))) none).run Try.prog W = .ok (.slice (if cap = l then a else a.map (fun x => x.add (l * 7))) (h - l) (cap - l)) W := by
  rw [run_slice_lh (P := Try.prog) (w := W) 25 a len cap dat_elem .i64 .i64 (l : Int) (h : Int) (by omega) (by omega) (by omega), dat_size]
  simp [Result.andThen, sliced]
theorem slice_l (a : Option Addr) (len cap l : Nat) (h1 : l ≤ len) (W : World) : (Instr.slice 25 (.slice a len cap) (some (.int .i64 (l : Int))) none none).run Try.prog W = .ok (.slice (if cap = l then a else a.map (fun x => x.add (l * 7))) (len - l) (cap - l)) W := by
  rw [run_slice_l (P := Try.prog) (w := W) 25 a len cap dat_elem .i64 (l : Int) (by omega) (by omega), dat_size]
  simp [Result.andThen, sliced]
theorem TSt.congr {base2 : Nat} {W : World} {T m N : Nat} {vs : List Value} {kss kss' : Nat → List Tr} (h : TSt base2 W T m N vs kss) (e : ∀ t, t < vs.length → kss t = kss' t) : TSt base2 W T m N vs kss' :=
  ⟨h.blk, fun t ht => by rw [← e t ht]; exact h.own t ht, h.ne, h.dis⟩
/-- Ten cells of a row. -/
theorem AtK.ten {w : World} {b o : Nat} {x0 x1 x2 x3 x4 x5 x6 x7 x8 x9 : Value} (h : AtK w 10 b o [x0, x1, x2, x3, x4, x5, x6, x7, x8, x9]) :
    w.cell? ⟨b, o, none⟩ = some x0 ∧ w.cell? ⟨b, o + 1, none⟩ = some x1 ∧ w.cell? ⟨b, o + 2, none⟩ = some x2 ∧ w.cell? ⟨b, o + 3, none⟩ = some x3 ∧ w.cell? ⟨b, o + 4, none⟩ = some x4 ∧ w.cell? ⟨b, o + 5, none⟩ = some x5 ∧ w.cell? ⟨b, o + 6, none⟩ = some x6 ∧ w.cell? ⟨b, o + 7, none⟩ = some x7 ∧ w.cell? ⟨b, o + 8, none⟩ = some x8 ∧ w.cell? ⟨b, o + 9, none⟩ = some x9 :=
  ⟨h.cell0 rfl, h.cell rfl, h.cell rfl, h.cell rfl, h.cell rfl, h.cell rfl, h.cell rfl, h.cell rfl, h.cell rfl, h.cell rfl⟩
theorem Blk.ten {w : World} {b : Nat} {t : TypeId} {x0 x1 x2 x3 x4 x5 x6 x7 x8 x9 : Value} (h : Blk w b [x0, x1, x2, x3, x4, x5, x6, x7, x8, x9] t) :
    w.cell? ⟨b, 0, none⟩ = some x0 ∧ w.cell? ⟨b, 1, none⟩ = some x1 ∧ w.cell? ⟨b, 2, none⟩ = some x2 ∧ w.cell? ⟨b, 3, none⟩ = some x3 ∧ w.cell? ⟨b, 4, none⟩ = some x4 ∧ w.cell? ⟨b, 5, none⟩ = some x5 ∧ w.cell? ⟨b, 6, none⟩ = some x6 ∧ w.cell? ⟨b, 7, none⟩ = some x7 ∧ w.cell? ⟨b, 8, none⟩ = some x8 ∧ w.cell? ⟨b, 9, none⟩ = some x9 :=
  ⟨h.cell_some rfl, h.cell_some rfl, h.cell_some rfl, h.cell_some rfl, h.cell_some rfl, h.cell_some rfl, h.cell_some rfl, h.cell_some rfl, h.cell_some rfl, h.cell_some rfl⟩
theorem zero_isD (W : World) (P : Nat → Prop) (m : Nat) : IsD W P (m + 1) [.int .i64 0, .bool false, .slice none 0 0, .bool false, .string ⟨#[]⟩, .slice none 0 0, .slice none 0 0] default :=
  ⟨none, 0, none, 0, none, 0, rfl, fun i hi => absurd hi (by simp [Dat.limbs, default, instInhabitedDat]), fun i hi => absurd hi (by simp [Dat.items, default, instInhabitedDat]), fun i hi => absurd hi (by simp [Dat.tail, default, instInhabitedDat]), ⟨Nat.le_refl _, Nat.le_refl _, Nat.le_refl _⟩, ⟨show (-9223372036854775808 : Int) ≤ 0 by decide, show (0 : Int) ≤ 9223372036854775807 by decide⟩, by simp [Dat.limbs, default, instInhabitedDat], Nat.zero_le _, show ByteArray.empty.size ≤ 140737488351232 by decide, Nat.zero_le _, Nat.zero_le _⟩
/-- A variable's tree that has come many times. -/
theorem many_isB {W : World} {P : Nat → Prop} {m n N : Nat} {nm : ByteArray} {ks : List Tr} {aK : Option Addr} {cK : Nat} (hN : n + 1 ≤ N) (hR : RowK W P 9 (IsT W P (m + 1) n) aK ks) (hc : ks.length ≤ cK) (hl : ks.length ≤ 1000000) :
    IsB W P (m + 1) N [.string nm, .int .i64 0, .bool false, .slice none 0 0, .bool false, .string ⟨#[]⟩, .slice none 0 0, .slice none 0 0, .bool true, .slice aK ks.length cK] ⟨nm, .mk default true ks⟩ := by
  obtain ⟨N', rfl⟩ : ∃ N', N = N' + 1 := ⟨N - 1, by omega⟩
  refine ⟨_, rfl, [.int .i64 0, .bool false, .slice none 0 0, .bool false, .string ⟨#[]⟩, .slice none 0 0, .slice none 0 0], aK, cK, rfl, ⟨zero_isD W P m, ?_, ?_⟩, ?_, hc, hl⟩
  · show 1 + szL (szN m) [] + szL (szN m) [] ≤ 5000
    simp [szL]
  · show 1 + max (dpL (dpN m) []) (dpL (dpN m) []) ≤ 200
    simp [dpL]
  · exact hR.map (by decide) (fun _ _ h => h) (fun _ _ _ _ h => h) (fun _ _ h => h.le (by omega))
theorem addr_add (b o k : Nat) : (⟨b, o, none⟩ : Addr).add k = ⟨b, o + k, none⟩ := by unfold Addr.add; split <;> simp_all
theorem five_isD (W : World) (P : Nat → Prop) (m : Nat) : IsD W P (m + 1) [.int .i64 5, .bool false, .slice none 0 0, .bool false, .string ⟨#[]⟩, .slice none 0 0, .slice none 0 0] (.mk 5 false [] false ByteArray.empty [] []) :=
  ⟨none, 0, none, 0, none, 0, rfl, fun i hi => absurd hi (by simp [Dat.limbs]), fun i hi => absurd hi (by simp [Dat.items]), fun i hi => absurd hi (by simp [Dat.tail]), ⟨Nat.le_refl _, Nat.le_refl _, Nat.le_refl _⟩, ⟨show (-9223372036854775808 : Int) ≤ 5 by decide, show (5 : Int) ≤ 9223372036854775807 by decide⟩, by simp [Dat.limbs], Nat.zero_le _, show ByteArray.empty.size ≤ 140737488351232 by decide, Nat.zero_le _, Nat.zero_le _⟩
theorem five_few (m : Nat) : FewD (m + 1) (.mk 5 false [] false ByteArray.empty [] []) := by
  refine ⟨?_, ?_, ?_⟩
  · unfold goodN
    have hkk : (Dat.mk 5 false [] false ByteArray.empty [] []).kind = 5 := rfl
    rw [hkk, if_neg (show ¬ ((5 : Int) = 0 ∨ (5 : Int) = 2) by decide), if_neg (show ¬ (5 : Int) = 1 by decide), if_neg (show ¬ (5 : Int) = 3 by decide), if_neg (show ¬ (5 : Int) = 4 by decide), if_pos rfl]
    rw [Bool.and_eq_true]
    refine ⟨decide_eq_true ⟨fun _ => ⟨rfl, rfl⟩, fun _ => rfl, fun _ _ => rfl, fun h => absurd rfl h⟩, ?_⟩
    rw [Bool.and_eq_true]
    exact ⟨decide_eq_true (.inl rfl), rfl⟩
  · show 1 + szL (szN m) [] + szL (szN m) [] ≤ 5000
    simp [szL]
  · show 1 + max (dpL (dpN m) []) (dpL (dpN m) []) ≤ 200
    simp [dpL]
theorem made_rep (z : Array Value) (hz : 0 < z.size) (k : Nat) : (madeCells z (k * z.size)).toList = (List.replicate k z.toList).flatten := by
  have hlen : ∀ cs ∈ List.replicate k z.toList, cs.length = z.size := by
    intro cs hc
    rw [(List.mem_replicate.1 hc).2]
    simp
  have hfl : (List.replicate k z.toList).flatten.length = k * z.size := by
    rw [List.length_flatten, List.map_replicate, List.sum_replicate_nat]
    simp
  apply List.ext_getElem
  · rw [hfl, Array.length_toList, size_madeCells]
  intro i h1 h2
  rw [hfl] at h2
  have hdm : i = i / z.size * z.size + i % z.size := by
    have := Nat.div_add_mod i z.size
    rw [Nat.mul_comm] at this
    omega
  have hq : i / z.size < k := by rw [Nat.div_lt_iff_lt_mul hz]; omega
  have hr : i % z.size < z.size := Nat.mod_lt _ hz
  have e := flatten_getK hlen (i := i / z.size) (j := i % z.size) (by simpa using hq) hr
  rw [← hdm] at e
  have e2 : (List.replicate k z.toList).getD (i / z.size) [] = z.toList := by
    rw [List.getD_eq_getElem?_getD, List.getElem?_replicate, if_pos hq]
    rfl
  rw [e2, List.getElem?_eq_getElem (by rw [hfl]; exact h2), List.getElem?_eq_getElem (by simpa using hr)] at e
  injection e with e
  rw [e]
  simp [madeCells, hr]
theorem makeTrees_run (k : Nat) (hk : k ≤ 100000) (W : World) : (Instr.makeSlice 62 (.int .i64 (k : Int)) (.int .i64 (k : Int))).run Try.prog W = .ok (.slice (some ⟨W.heap.size, 0, none⟩) k k) (W.alloc (.cells (List.replicate k (zt false (.slice none 0 0))).flatten.toArray 64)) := by
  obtain ⟨i, hi, hz0, hz1, hz2⟩ := info_parts info_tree
  have h := run_make (P := Try.prog) W 62 64 i zeroTr Try.underlying62 hi hz0 .i64 .i64 k k (by omega) (by omega) (by rw [hz2]; omega) (by omega)
  rw [h, hz1]
  have e : madeCells zeroTr.cells ((k : Int).toNat * 9) = (List.replicate k (zt false (.slice none 0 0))).flatten.toArray := by
    have := made_rep zeroTr.cells (by decide) k
    have hs : zeroTr.cells.size = 9 := rfl
    rw [hs] at this
    have h2 : madeCells zeroTr.cells (k * 9) = (List.replicate k zeroTr.cells.toList).flatten.toArray := by rw [← this]
    rw [Int.toNat_natCast, h2]
    rfl
  rw [e, Int.toNat_natCast]
set_option maxRecDepth 100000 in
set_option maxHeartbeats 4000000 in
theorem row_step {ls : List Lk} {m n : Nat} (ihM : MatchSaid ls m n) (ihA : AllSaid ls m n) : RowSaid ls m n := by
  intro p d cp cd w base M aL nL cL N v bs0 i hM hL hnL hnb hnN hnm hkp hkd hp hgp hwp hsp hd hgd hsd hdd hcnt hfi
  obtain ⟨m', rfl⟩ : ∃ m', m = m' + 1 := ⟨m - 1, by omega⟩
  obtain ⟨w1, w2, w3⟩ := wrong_parts hwp
  obtain ⟨ht, hgs⟩ := good_list hgp hkp
  have hFd : FewD (m' + 1) d := ⟨hgd, hsd, hdd⟩
  have hszp : szN (n + 1) p = 1 + szL (szN n) p.items + szL (szN n) p.tail := rfl
  obtain ⟨hi, hda, hah, hbe, hsplit⟩ : i + 1 < p.items.length ∧ againF ls (p.items.getD (i + 1) default) = true ∧ (∀ x ∈ p.items.take (i + 1), againF ls x = false ∧ wrongN ls n x = false) ∧ (∀ x ∈ p.items.drop (i + 2), againF ls x = false ∧ wrongN ls n x = false) ∧ p.items = p.items.take i ++ p.items.getD i default :: p.items.getD (i + 1) default :: p.items.drop (i + 2) := by
    rcases dots_at w2 with ⟨h1, _⟩ | ⟨i', h1, h2⟩
    · rw [h1] at hfi
      cases hfi
    · rw [h1] at hfi
      injection hfi with hfi
      have : i' = i := by omega
      subst this
      exact h2
  have HPSL : Hid (∀ P, P = placesN ls n (p.items.getD i default) 0 → P.length ≤ 100000) := Lib.hid (fun P hP => by
    rw [hP]
    have h1 := placesN_len ls n (p.items.getD i default) 0
    have h2 := szL_mem (f := szN n) (mem_getD (l := p.items) (j := i) (by omega))
    omega)
  obtain ⟨xL, yL, xI, yI, xT, yT, rfl, pl1, pr1, pr2, pcap, pbd⟩ := hp
  obtain ⟨uL, vL, uI, vI, uT, vT, rfl, dl1, dr1, dr2, dcap, dbd⟩ := hd
  have hpi : p.items.length ≤ 100000 := by have := len_le_szL (szN_pos n) p.items; omega
  have hdi : d.items.length ≤ 100000 := by
    have := len_le_szL (szN_pos m') d.items
    have : szN (m' + 1) d = 1 + szL (szN m') d.items + szL (szN m') d.tail := rfl
    omega
  have hsz3 : szL (szN n) p.items = szL (szN n) (p.items.take i) + (szN n (p.items.getD i default) + (szN n (p.items.getD (i + 1) default) + szL (szN n) (p.items.drop (i + 2)))) := by
    conv => lhs; rw [hsplit]
    rw [szL_append]
    rfl
  have hone : p.items.getD i default ∈ p.items := mem_getD (by omega)
  have hone2 : p.items.getD i default ∈ p.items.take (i + 1) := by
    rw [take_nextK (by omega)]
    simp
  have HAh : Hid (i ≤ d.items.length → ∀ (c : Nat) (W : World), Upd [] w W → Calls Try.prog 100 #[.pointer (some ⟨M, 0, none⟩), .slice xI i c, .slice uI d.items.length vI] W (MPost base W M aL nL cL (m' + 1) N v bs0 (allM (matchN ls (sameN (m' + 1)) n) (p.items.take i) d.items))) := Lib.hid (fun hle c W hu =>
    ihA (p.items.take i) d.items W base M aL nL cL N v bs0 xI uI i c _ vI (hM.upd hu) (hL.upd hu) hnL hnb (by omega) (by omega) (by rw [List.length_take]; omega) rfl hle (by omega) (take_row (pr1.updD hu) i) (fun q hq => ⟨hgs q (by simp [List.mem_of_mem_take hq]), (hah q (List.take_subset_take_left _ (by omega) hq)).2⟩) (by omega) ((dr1.updD hu).more 1) (fun x hx => (hFd.sub hkd (List.mem_append.2 (.inl hx))).up) (by omega))
  have HPl : Hid (∀ (co : List Value), IsD w (fun b => b < base) n co (p.items.getD i default) → ∀ W, Upd (M :: v.ownBlock.toList) w W → Calls Try.prog 56 #[.agg co.toArray, .int .i64 0, .slice aL nL cL] W fun e w' => (∃ a' c', e = .returned (.slice a' (placesN ls n (p.items.getD i default) 0).length c') ∧ RowK w' (fun b => W.heap.size ≤ b) 2 IsP a' (placesN ls n (p.items.getD i default) 0) ∧ (placesN ls n (p.items.getD i default) 0).length ≤ c') ∧ Upd [] W w') := Lib.hid (fun co hco W hu =>
    places_calls ls n _ co W aL _ _ 0 nL cL (hM.isD hu hco) (hM.likes hu hL) hnL hnb (by omega) (by omega) (by omega))
  have HAhL : Hid (∀ a, allM (matchN ls (sameN (m' + 1)) n) (p.items.take i) d.items = some a → a.length ≤ szL (szN n) (p.items.take i)) := Lib.hid (fun a h => allM_len (fun q hq => ⟨hgs q (by simp [List.mem_of_mem_take hq]), (hah q (List.take_subset_take_left _ (by omega) hq)).2⟩) h)
  have HSZT : Hid (bs0.length + (szL (szN n) (p.items.take i) + szN n (p.items.getD i default) + szL (szN n) (p.items.drop (i + 2))) + szL (szN n) p.tail ≤ 10000) := Lib.hid (by omega)
  have HNN1 : Hid (n + 1 ≤ N) := Lib.hid hnN
  have HBe : Hid (∀ (nn nb cB cE : Nat) (AB AE : Option Addr) (W : World) (v2 : Value) (bsX : List Bd), nb = (p.items.drop (i + 2)).length → nb ≤ d.items.length - nn → RowOf w (fun b => b < base) (IsD w (fun b => b < base) n) AB (p.items.drop (i + 2)) → RowOf w (fun b => b < base) (IsD w (fun b => b < base) m') AE (d.items.drop nn) → MSt base W M aL nL cL (m' + 1) N v2 bsX → Upd (M :: v.ownBlock.toList) w W → bsX.length + szL (szN n) (p.items.drop (i + 2)) ≤ 10000 →
      Calls Try.prog 100 #[.pointer (some ⟨M, 0, none⟩), .slice AB nb cB, .slice AE (d.items.length - nn) cE] W (MPost base W M aL nL cL (m' + 1) N v2 bsX (allM (matchN ls (sameN (m' + 1)) n) (p.items.drop (i + 2)) (d.items.drop nn)))) := Lib.hid (fun nn nb cB cE AB AE W v2 bsX hnb2 hle hrB hrE hM2 hu hcn =>
    ihA (p.items.drop (i + 2)) (d.items.drop nn) W base M aL nL cL N v2 bsX AB AE nb cB _ cE hM2 (hM.likes hu hL) hnL hnb (by omega) (by omega) hnb2.symm (by rw [List.length_drop]) hle (by omega) (hM.row hu hrB) (fun q hq => ⟨hgs q (by simp [List.mem_of_mem_drop hq]), (hbe q hq).2⟩) (by omega) ((hM.row hu hrE).more 1) (fun x hx => (hFd.sub hkd (List.mem_append.2 (.inl (List.mem_of_mem_drop hx)))).up) hcn)
  have HBeL : Hid (∀ (ds : List Dat) (b : List Bd), allM (matchN ls (sameN (m' + 1)) n) (p.items.drop (i + 2)) ds = some b → b.length ≤ szL (szN n) (p.items.drop (i + 2))) := Lib.hid (fun ds b h => allM_len (fun q hq => ⟨hgs q (by simp [List.mem_of_mem_drop hq]), (hbe q hq).2⟩) h)
  have HTm : Hid (∀ t, p.tail = [t] → ∀ (W : World) (v2 : Value) (bsX : List Bd) (ct cr : List Value) (r : Dat), FewD (m' + 1) r → MSt base W M aL nL cL (m' + 1) N v2 bsX → Upd (M :: v.ownBlock.toList) w W → IsD w (fun b => b < base) n ct t → IsD w (fun b => b < base) (m' + 1) cr r → bsX.length + szL (szN n) p.tail ≤ 10000 →
      Calls Try.prog 47 #[.pointer (some ⟨M, 0, none⟩), .agg ct.toArray, .agg cr.toArray] W (MPost base W M aL nL cL (m' + 1) N v2 bsX (matchN ls (sameN (m' + 1)) n t r))) := Lib.hid (fun t et W v2 bsX ct cr r hr hM2 hu hct hcr hcn => by
    have htm : t ∈ p.tail := by rw [et]; simp
    have hst := szL_mem (f := szN n) htm
    exact ihM t r ct cr W base M aL nL cL N v2 bsX hM2 (hM.likes hu hL) hnL hnb (by omega) (by omega) (hM.isD hu hct) (hgs t (by simp [et])) (w3 t htm) (by omega) (hM.isD hu hcr) hr.1 hr.2.1 hr.2.2 (by omega))
  have HFR : Hid (0 < d.tail.length → FewD (m' + 1) (d.tail.getD 0 default)) := Lib.hid (fun h => (hFd.sub hkd (List.mem_append.2 (.inr (mem_getD h)))).up)
  have HTC := Lib.hid (tail_cases hgp hkp)
  have HTD := Lib.hid (tail_cases hgd hkd)
  have HOne : Hid (∀ (co : List Value), IsD w (fun b => b < base) n co (p.items.getD i default) → ∀ (j : Nat) (cx : List Value), j < d.items.length → IsD w (fun b => b < base) m' cx (d.items.getD j default) → ∀ (W : World) (base1 M1 : Nat), base ≤ base1 → Upd (M :: v.ownBlock.toList) w W → MSt base1 W M1 aL nL cL (m' + 1) n (.slice none 0 0) [] → Calls Try.prog 47 #[.pointer (some ⟨M1, 0, none⟩), .agg co.toArray, .agg cx.toArray] W (MPost base1 W M1 aL nL cL (m' + 1) n (.slice none 0 0) [] (matchN ls (sameN (m' + 1)) n (p.items.getD i default) (d.items.getD j default)))) := Lib.hid (fun co hco j cx hj hcx W base1 M1 hb1 hu hM1 => by
    have hfx := (hFd.sub hkd (List.mem_append.2 (.inl (mem_getD hj)))).up
    have hso := szL_mem (f := szN n) hone
    exact ihM _ _ co cx W base1 M1 aL nL cL n (.slice none 0 0) [] hM1 ((hM.likes hu hL).mono (fun b _ hb => Nat.lt_of_lt_of_le hb hb1)) hnL hnb (Nat.le_refl _) (by omega) ((hM.isD hu hco).mono (fun b _ hb => Nat.lt_of_lt_of_le hb hb1)) (hgs _ (List.mem_append.2 (.inl hone))) (hah _ hone2).2 (by omega) (((hM.isD hu hcx).more 1).mono (fun b _ hb => Nat.lt_of_lt_of_le hb hb1)) hfx.1 hfx.2.1 hfx.2.2 (by show 0 + szN n (p.items.getD i default) ≤ 10000; omega))
  have HOnL : Hid (∀ (x : Dat) (bs : List Bd), matchN ls (sameN (m' + 1)) n (p.items.getD i default) x = some bs → bs.length = (placesN ls n (p.items.getD i default) 0).length) := Lib.hid (fun x bs h => by
    have h1 := congrArg List.length (match_names n _ x bs (hgs _ (List.mem_append.2 (.inl hone))) (hah _ hone2).2 h)
    rw [List.length_map] at h1
    unfold nmN at h1
    rwa [List.length_map] at h1)
  obtain ⟨RES, hRES⟩ : ∃ R, R = listM ls (matchN ls (sameN (m' + 1)) n) (fun x => placesN ls n x 0) p d := ⟨_, rfl⟩
  rw [← hRES]
  have HUnf : Hid (RES = if d.items.length < (p.items.take i).length + (p.items.drop (i + 2)).length ∨ (p.tail = [] ∧ 0 < d.tail.length) then none
    else (allM (matchN ls (sameN (m' + 1)) n) (p.items.take i) d.items).bind fun a => (rowsM (matchN ls (sameN (m' + 1)) n (p.items.getD i default)) ((d.items.drop i).take (d.items.length - (p.items.drop (i + 2)).length - i))).bind fun rows =>
      (allM (matchN ls (sameN (m' + 1)) n) (p.items.drop (i + 2)) (d.items.drop (d.items.length - (p.items.drop (i + 2)).length))).bind fun b =>
        if p.tail = [] then some (a ++ (List.range (placesN ls n (p.items.getD i default) 0).length).map (fun k => (⟨((placesN ls n (p.items.getD i default) 0).getD k default).1, treeAt rows k⟩ : Bd)) ++ b)
        else (matchN ls (sameN (m' + 1)) n (p.tail.getD 0 default) (if 0 < d.tail.length then d.tail.getD 0 default else .mk 5 false [] false ByteArray.empty [] [])).bind fun c => some (a ++ (List.range (placesN ls n (p.items.getD i default) 0).length).map (fun k => (⟨((placesN ls n (p.items.getD i default) 0).getD k default).1, treeAt rows k⟩ : Bd)) ++ b ++ c)) := Lib.hid (by rw [hRES]; unfold listM; rw [hfi])
  obtain ⟨bP, oP, hxI⟩ : ∃ b o, xI = some ⟨b, o, none⟩ := by
    obtain ⟨b, o, _, e, _⟩ := pr1 0 (by omega)
    exact ⟨b, o, e⟩
  subst hxI
  obtain ⟨pt, hpt⟩ : ∃ pt, p.tail.length = pt := ⟨_, rfl⟩
  obtain ⟨dt, hdt⟩ : ∃ dt, d.tail.length = dt := ⟨_, rfl⟩
  have HPT := Lib.hid hpt
  have HDT := Lib.hid hdt
  unfold datCells
  rw [hpt] at pcap pbd ⊢
  rw [hdt] at dcap dbd HUnf ⊢
  have HPR1 := Lib.hid pr1
  have HPR2 := Lib.hid pr2
  have HDR1 := Lib.hid dr1
  have HDR2 := Lib.hid dr2
  have HM := Lib.hid hM
  have HPB := Lib.hid (And.intro pcap pbd)
  have HDB := Lib.hid (And.intro dcap dbd)
  have hmM : M < w.heap.size := hM.blk.lt
  have hpc : p.items.length ≤ yI := pcap.2.1
  have hdc : d.items.length ≤ vI := dcap.2.1
  rw [hkp] at *
  rw [hkd] at *
  obtain ⟨W3, hW3⟩ : ∃ W3, W3 = (w.alloc (.cells #[.int .i64 5, .bool p.neg, .slice xL p.limbs.length yL, .bool p.b, .string p.s, .slice (some ⟨bP, oP, none⟩) p.items.length yI, .slice xT pt yT] 27)).alloc (.cells #[.int .i64 5, .bool d.neg, .slice uL d.limbs.length vL, .bool d.b, .string d.s, .slice uI d.items.length vI, .slice uT dt vT] 27) := ⟨_, rfl⟩
  have hu3 : Upd [] w W3 := by rw [hW3]; exact ((Upd.refl [] w).alloc _).alloc _
  have hb4 : Blk W3 w.heap.size [.int .i64 5, .bool p.neg, .slice xL p.limbs.length yL, .bool p.b, .string p.s, .slice (some ⟨bP, oP, none⟩) p.items.length yI, .slice xT pt yT] 27 := by rw [hW3]; exact (Blk.newAt rfl).alloc _
  have hb5 : Blk W3 (w.heap.size + 1) [.int .i64 5, .bool d.neg, .slice uL d.limbs.length vL, .bool d.b, .string d.s, .slice uI d.items.length vI, .slice uT dt vT] 27 := by rw [hW3]; exact Blk.newAt (by simp)
  obtain ⟨bP', oP', co, eo, hbo, hato, hdo⟩ := pr1 i (by omega)
  injection eo with eo
  injection eo with e1 e2
  subst e1; subst e2
  have hdoS := hdo
  obtain ⟨k1, n1, a1, l1, p1, b1, s1, i1, m1, d1, t1, o1, q1, rfl⟩ := hdo.shaped7
  have hato3 := hato.upd hu3 (by simp)
  have HB4 := Lib.hid hb4
  have HB5 := Lib.hid hb5
  have HU3 := Lib.hid hu3
  have HW3 := Lib.hid hW3
  have HDO := Lib.hid hdo
  obtain ⟨x0, x1, x2, x3, x4, x5, x6⟩ := Blk.seven hb4
  obtain ⟨y0, y1, y2, y3, y4, y5, y6⟩ := Blk.seven hb5
  obtain ⟨z0, z1, z2, z3, z4, z5, z6⟩ := hato3.cells
  have hlt3 := hb5.lt
  have hltP : bP < W3.heap.size := hato3.lt
  clear hpt hdt hM hL hnL hgp hwp hsp hgd hsd hdd hcnt w1 w2 w3 ht hgs hFd hszp pl1 pr1 pr2 pcap pbd dl1 dr1 dr2 dcap dbd hRES hu3 hb4 hb5 hW3 hfi hda hah hbe hsplit hsz3 hone hone2 hato hato3 hdo hdoS
  generalize p.neg = png at *
  generalize p.limbs.length = pll at *
  generalize p.b = pb at *
  generalize p.s = pss at *
  generalize d.neg = dng at *
  generalize d.limbs.length = dll at *
  generalize d.b = db at *
  generalize d.s = dss at *
  obtain ⟨i2, hi2e⟩ : ∃ i2, i2 = i + 2 := ⟨_, rfl⟩
  have HI2 := Lib.hid hi2e
  obtain ⟨K, hK⟩ : ∃ K, K = ((i + 1 : Nat) : Int) := ⟨_, rfl⟩
  rw [← hK]
  have hj1 : IntKind.i64.wrap (K - 1) = (i : Int) := by rw [IntWalk.i64_in _ (by omega)]; omega
  have hj2 : IntKind.i64.wrap (K + 1) = (i2 : Int) := by rw [IntWalk.i64_in _ (by omega)]; omega
  have hii : (i : Int) < (p.items.length : Int) := by omega
  have hiy : (i : Int) ≤ (yI : Int) := by omega
  have hi2 : (i2 : Int) ≤ (p.items.length : Int) := by omega
  have hi2y : (i2 : Int) ≤ (yI : Int) := by omega
  have hi0 : (0 : Int) ≤ (i : Int) := by omega
  have hi20 : (0 : Int) ≤ (i2 : Int) := by omega
  clear hK hi2e
  go_enter Try.func99, Try.ntmps99
  go_wp2_with fail
  rw [← HW3.out]
  go_region_held3 (fun w' => w'.cell? ⟨w.heap.size, 5, none⟩ = some (.slice (some ⟨bP, oP, none⟩) p.items.length yI) ∧ w'.cell? ⟨bP, oP + i * 7, none⟩ = some (.int .i64 k1) ∧ w'.cell? ⟨bP, oP + i * 7 + 1, none⟩ = some (.bool n1) ∧ w'.cell? ⟨bP, oP + i * 7 + 2, none⟩ = some (.slice a1 l1 p1) ∧ w'.cell? ⟨bP, oP + i * 7 + 3, none⟩ = some (.bool b1) ∧ w'.cell? ⟨bP, oP + i * 7 + 4, none⟩ = some (.string s1) ∧ w'.cell? ⟨bP, oP + i * 7 + 5, none⟩ = some (.slice i1 m1 d1) ∧ w'.cell? ⟨bP, oP + i * 7 + 6, none⟩ = some (.slice t1 o1 q1)) (first | with_reducible exact ⟨x5, z0, z1, z2, z3, z4, z5, z6⟩ | go_keep) (fail)
  obtain ⟨AB, hAB⟩ : ∃ AB : Option Addr, AB = if yI = i2 then some ⟨bP, oP, none⟩ else some ⟨bP, oP + i2 * 7, none⟩ := ⟨_, rfl⟩
  rw [← hAB]
  obtain ⟨nb, hnb2⟩ : ∃ nb, nb = p.items.length - i2 := ⟨_, rfl⟩
  rw [← hnb2]
  obtain ⟨NN, hNN⟩ : ∃ NN : Int, NN = (d.items.length : Int) - (nb : Int) := ⟨_, rfl⟩
  have hwn : IntKind.i64.wrap ((d.items.length : Int) - (nb : Int)) = NN := by rw [IntWalk.i64_in _ (by omega), hNN]
  have HAB := Lib.hid hAB
  have HNB := Lib.hid hnb2
  have HNN := Lib.hid hNN
  obtain ⟨W4, hW4⟩ : ∃ W4, W4 = (W3.alloc (.cells #[.int .i64 k1, .bool n1, .slice a1 l1 p1, .bool b1, .string s1, .slice i1 m1 d1, .slice t1 o1 q1] 27)).drew := ⟨_, rfl⟩
  rw [← hW4]
  have hu34 : Upd [] W3 W4 := by rw [hW4]; exact ((Upd.refl [] W3).alloc _).drew
  have hb6 : Blk W4 W3.heap.size [.int .i64 k1, .bool n1, .slice a1 l1 p1, .bool b1, .string s1, .slice i1 m1 d1, .slice t1 o1 q1] 27 := by rw [hW4]; exact (Blk.new W3 _ _).drew
  have HB6 := Lib.hid hb6
  have hb4 := hu34.blk HB4.out (by simp)
  have hb5 := hu34.blk HB5.out (by simp)
  have HU4 := Lib.hid (HU3.out.then hu34)
  have HM4 := Lib.hid (HM.out.upd HU4.out)
  have HB4' := Lib.hid hb4
  have HB5' := Lib.hid hb5
  obtain ⟨x0, x1, x2, x3, x4, x5, x6⟩ := Blk.seven hb4
  obtain ⟨y0, y1, y2, y3, y4, y5, y6⟩ := Blk.seven hb5
  have hlt6 := hb6.lt
  clear hAB hnb2 hNN hW4 hu34 hb6 hb4 hb5 HB4 HB5 HU3 HW3 z0 z1 z2 z3 z4 z5 z6 hj1 hj2 hii hiy hi2 hi2y hi20
  have htl : (p.items.take i).length = i := by rw [List.length_take]; omega
  have hbl : (p.items.drop (i + 2)).length = nb := by rw [List.length_drop, HNB.out, HI2.out]
  obtain ⟨AR, hAR⟩ : ∃ A, A = if d.items.length < i + nb ∨ (p.tail = [] ∧ 0 < dt) then none else allM (matchN ls (sameN (m' + 1)) n) (p.items.take i) d.items := ⟨_, rfl⟩
  have HAR := Lib.hid hAR
  have HU2 : Hid (RES = AR.bind fun a => (rowsM (matchN ls (sameN (m' + 1)) n (p.items.getD i default)) ((d.items.drop i).take (d.items.length - nb - i))).bind fun rows =>
      (allM (matchN ls (sameN (m' + 1)) n) (p.items.drop (i + 2)) (d.items.drop (d.items.length - nb))).bind fun b =>
        if p.tail = [] then some (a ++ (List.range (placesN ls n (p.items.getD i default) 0).length).map (fun k => (⟨((placesN ls n (p.items.getD i default) 0).getD k default).1, treeAt rows k⟩ : Bd)) ++ b)
        else (matchN ls (sameN (m' + 1)) n (p.tail.getD 0 default) (if 0 < dt then d.tail.getD 0 default else .mk 5 false [] false ByteArray.empty [] [])).bind fun c => some (a ++ (List.range (placesN ls n (p.items.getD i default) 0).length).map (fun k => (⟨((placesN ls n (p.items.getD i default) 0).getD k default).1, treeAt rows k⟩ : Bd)) ++ b ++ c)) := Lib.hid (by
    rw [HUnf.out, htl, hbl, hAR]
    split <;> rfl)
  clear HUnf htl hbl hAR
  go_upto_region 3 with (fail)
  go_cut [71] from 48 to 71 (fun s wx => s = .bool AR.isNone ∧ Hid (Upd (M :: v.ownBlock.toList) w wx) ∧ Hid (Upd (M :: v.ownBlock.toList) W4 wx) ∧ Hid (∀ a, AR = some a → ∃ v1, MSt base wx M aL nL cL (m' + 1) N v1 (bs0 ++ a) ∧ (v1.ownBlock = v.ownBlock ∨ ∃ g, v1.ownBlock = some g ∧ W4.heap.size ≤ g)))
  case first =>
    by_cases hc1 : d.items.length < i + nb
    · have hX : AR = none := by rw [HAR.out, if_pos (.inl hc1)]
      have hc2 : NN < (i : Int) := by have := HNN.out; omega
      subst hX
      clear HU2 HAR
      go_wp2
      go_meet
      case rel => exact ⟨rfl, Lib.hid (HU4.out.mono (by simp)), Lib.hid (Upd.refl _ _), Lib.hid (fun a h => by cases h)⟩
    have hc2 : ¬ NN < (i : Int) := by have := HNN.out; omega
    by_cases hc3 : p.tail = [] ∧ 0 < dt
    · have hX : AR = none := by rw [HAR.out, if_pos (.inr hc3)]
      have hpt0 : pt = 0 := by rw [← HPT.out, hc3.1]; rfl
      have hdt0 : (0 : Int) < ((dt : Nat) : Int) := by have := hc3.2; omega
      subst hpt0
      subst hX
      clear HU2 HAR hc3
      go_wp2
      go_meet
      case rel => exact ⟨rfl, Lib.hid (HU4.out.mono (by simp)), Lib.hid (Upd.refl _ _), Lib.hid (fun a h => by cases h)⟩
    have hgr : (pt = 0 ∧ ¬ (0 : Int) < (dt : Int)) ∨ ¬ (pt : Int) = 0 := by
      by_cases h : pt = 0
      · left
        refine ⟨h, ?_⟩
        have hpe : p.tail = [] := List.eq_nil_of_length_eq_zero (by rw [HPT.out]; exact h)
        have : ¬ 0 < dt := fun hh => hc3 ⟨hpe, hh⟩
        omega
      · exact .inr (by omega)
    have HC := Lib.hid (HAh.out (by omega) i W4 HU4.out)
    have hX : AR = allM (matchN ls (sameN (m' + 1)) n) (p.items.take i) d.items := by rw [HAR.out, if_neg (fun h => by rcases h with h | h; exact hc1 h; exact hc3 h)]
    rw [← hX] at HC
    clear HU2 HAR HAh hc3 hX
    rcases hgr with ⟨hg1, hg2⟩ | hg1
    · obtain rfl : dt = 0 := by omega
      subst hg1
      clear hg2
      go_wp2_with fail
      refine HC.out.mono ?_
      rintro e w5 ⟨rfl, hu5, hs5⟩
      have HU5 := Lib.hid ((HU4.out.mono (by simp)).then hu5)
      have HU45 := Lib.hid hu5
      have HS5 := Lib.hid hs5
      clear hu5 hs5 HC
      go_wp2
      go_meet
      case rel => exact ⟨by cases AR <;> rfl, HU5, HU45, HS5⟩
    · go_wp2_with fail
      refine HC.out.mono ?_
      rintro e w5 ⟨rfl, hu5, hs5⟩
      have HU5 := Lib.hid ((HU4.out.mono (by simp)).then hu5)
      have HU45 := Lib.hid hu5
      have HS5 := Lib.hid hs5
      clear hu5 hs5 HC
      go_wp2
      go_meet
      case rel => exact ⟨by cases AR <;> rfl, HU5, HU45, HS5⟩
  case rest =>
  obtain ⟨rfl, HU5, HU45, HS5⟩ := hcut
  have hn4 : w.heap.size ∉ M :: v.ownBlock.toList := HM4.out.notin HB4'.out (by decide) (by decide)
  have hn5 : w.heap.size + 1 ∉ M :: v.ownBlock.toList := HM4.out.notin HB5'.out (by decide) (by decide)
  have hn6 : W3.heap.size ∉ M :: v.ownBlock.toList := HM4.out.notin HB6.out (by decide) (by decide)
  have hb4 := HU45.out.blk HB4'.out hn4
  have hb5 := HU45.out.blk HB5'.out hn5
  have hb6 := HU45.out.blk HB6.out hn6
  have HSW : Hid (w.heap.size ≤ W4.heap.size) := Lib.hid HU4.out.size
  clear x0 x1 x2 x3 x4 x5 x6 y0 y1 y2 y3 y4 y5 y6 hn4 hn5 hn6 HAh hwn
  obtain ⟨x0, x1, x2, x3, x4, x5, x6⟩ := Blk.seven hb4
  obtain ⟨y0, y1, y2, y3, y4, y5, y6⟩ := Blk.seven hb5
  obtain ⟨z0, z1, z2, z3, z4, z5, z6⟩ := Blk.seven hb6
  have hlt6' := hb6.lt
  have HC4 := Lib.hid hb4
  have HC5 := Lib.hid hb5
  have HC6 := Lib.hid hb6
  clear hb4 hb5 hb6 HB4' HB5' HB6 HM4
  cases AR with
  | none =>
    have HX : Hid (RES = none) := Lib.hid (by rw [HU2.out]; rfl)
    clear HU2 HS5
    go_wp2
    go_ret
    exact ⟨by rw [HX.out]; rfl, HU5.out, fun bs h => by rw [HX.out] at h; cases h⟩
  | some a =>
    have hcond : ¬ d.items.length < i + nb := fun h => by
      have := HAR.out
      rw [if_pos (.inl h)] at this
      cases this
    have HLEN : Hid (a.length ≤ szL (szN n) (p.items.take i)) := Lib.hid (by
      have := HAR.out
      split at this
      · cases this
      · exact HAhL.out a this.symm)
    clear HAR
    obtain ⟨v1, hM5, hV5⟩ := HS5.out a rfl
    have HMW : Hid (M < wc.heap.size ∧ ∀ g, v1.ownBlock = some g → g < wc.heap.size) := Lib.hid ⟨hM5.blk.lt, fun g hg => (hM5.own.lt hg).2⟩
    have HM5 := Lib.hid hM5
    have HV5 : Hid (v1.ownBlock = v.ownBlock ∨ ∃ g, v1.ownBlock = some g ∧ w.heap.size ≤ g) := Lib.hid (by
      rcases hV5 with h | ⟨g, h, hg⟩
      · exact .inl h
      · exact .inr ⟨g, h, Nat.le_trans HSW.out hg⟩)
    obtain ⟨PS, hPS⟩ : ∃ P, P = placesN ls n (p.items.getD i default) 0 := ⟨_, rfl⟩
    rw [← hPS] at HU2 HPl
    have HPS := Lib.hid hPS
    have hpsl : PS.length ≤ 100000 := HPSL.out PS hPS
    have HU3 : Hid (RES = (rowsM (matchN ls (sameN (m' + 1)) n (p.items.getD i default)) ((d.items.drop i).take (d.items.length - nb - i))).bind fun rows =>
      (allM (matchN ls (sameN (m' + 1)) n) (p.items.drop (i + 2)) (d.items.drop (d.items.length - nb))).bind fun b =>
        if p.tail = [] then some (a ++ (List.range PS.length).map (fun k => (⟨(PS.getD k default).1, treeAt rows k⟩ : Bd)) ++ b)
        else (matchN ls (sameN (m' + 1)) n (p.tail.getD 0 default) (if 0 < dt then d.tail.getD 0 default else .mk 5 false [] false ByteArray.empty [] [])).bind fun c => some (a ++ (List.range PS.length).map (fun k => (⟨(PS.getD k default).1, treeAt rows k⟩ : Bd)) ++ b ++ c)) := Lib.hid (by rw [HU2.out]; rfl)
    have HPC := Lib.hid (fun W hu => HPl.out _ HDO.out W hu)
    have c0 := hM5.blk.cell_some (i := 0) rfl
    have hlM : M < wc.heap.size := hM5.blk.lt
    clear HU2 HS5 hM5 hV5 HPl hPS
    go_wp2_with fail
    go_region_held3 (fun w' => w'.cell? ⟨M, 0, none⟩ = some (.slice aL nL cL) ∧ w'.cell? ⟨W3.heap.size, 0, none⟩ = some (.int .i64 k1) ∧ w'.cell? ⟨W3.heap.size, 1, none⟩ = some (.bool n1) ∧ w'.cell? ⟨W3.heap.size, 2, none⟩ = some (.slice a1 l1 p1) ∧ w'.cell? ⟨W3.heap.size, 3, none⟩ = some (.bool b1) ∧ w'.cell? ⟨W3.heap.size, 4, none⟩ = some (.string s1) ∧ w'.cell? ⟨W3.heap.size, 5, none⟩ = some (.slice i1 m1 d1) ∧ w'.cell? ⟨W3.heap.size, 6, none⟩ = some (.slice t1 o1 q1)) (first | with_reducible exact ⟨c0, z0, z1, z2, z3, z4, z5, z6⟩ | go_keep | exact ⟨Upd.cell hu c0 (by simp), Upd.cell hu z0 (by simp), Upd.cell hu z1 (by simp), Upd.cell hu z2 (by simp), Upd.cell hu z3 (by simp), Upd.cell hu z4 (by simp), Upd.cell hu z5 (by simp), Upd.cell hu z6 (by simp)⟩) (first | (go_at_call 56; refine (HPC.out _ HU5.out.drew).mono ?_; rintro e w6 ⟨⟨aN, cN, rfl, hRN, hcN⟩, hu6⟩; have hu := Upd.then (Upd.refl [] wc).drew hu6))
    have hb4 := hu.blk HC4.out (by simp)
    have hb5 := hu.blk HC5.out (by simp)
    have hb6 := hu.blk HC6.out (by simp)
    have HM6 := Lib.hid (HM5.out.upd hu)
    have HU6 := Lib.hid (HU5.out.then0 hu)
    have HRN := Lib.hid hRN
    have HSZ6 : Hid (wc.heap.size ≤ w6.heap.size) := Lib.hid hu.size
    obtain ⟨x0, x1, x2, x3, x4, x5, x6⟩ := Blk.seven hb4
    obtain ⟨y0, y1, y2, y3, y4, y5, y6⟩ := Blk.seven hb5
    have hlt6 := hb6.lt
    have HC4' := Lib.hid hb4
    have HC5' := Lib.hid hb5
    have HC6' := Lib.hid hb6
    clear hb4 hb5 hb6 HC4 HC5 HC6 hRN hcN hu hu6 HPC c0 z0 z1 z2 z3 z4 z5 z6 HM5
    have hmk := makeTrees_run PS.length hpsl w6
    obtain ⟨kp, hkp2⟩ : ∃ k, k = PS.length := ⟨_, rfl⟩
    rw [← hkp2] at hmk ⊢
    have HKP := Lib.hid hkp2
    have hkpl : kp ≤ 100000 := by omega
    clear hkp2
    have HT0 : Hid (Blk (w6.alloc (.cells (List.replicate kp (zt false (.slice none 0 0))).flatten.toArray 64)) w6.heap.size (ztm kp 0).flatten 64) := Lib.hid (by rw [ztm_zero]; exact Blk.new w6 _ _)
    have HU67 := Lib.hid ((Upd.refl [] w6).alloc (.cells (List.replicate kp (zt false (.slice none 0 0))).flatten.toArray 64))
    go_wp2_with fail
    generalize w6.alloc (.cells (List.replicate kp (zt false (.slice none 0 0))).flatten.toArray 64) = W7 at *
    obtain ⟨T, hT⟩ : ∃ T, T = w6.heap.size := ⟨_, rfl⟩
    have HTT := Lib.hid hT
    rw [← hT] at HT0 ⊢
    clear hmk hT
    go_loopw [83] (fun i8 wr => ∃ j : Nat, j ≤ kp ∧ i8 = .int .i64 j ∧ Hid (Blk wr T (ztm kp j).flatten 64) ∧ Hid (Upd [T] W7 wr)) (fun i8 _ => kp - (intOf i8).toNat)
    case atStart => exact ⟨0, by omega, rfl, HT0, Lib.hid (Upd.refl _ _)⟩
    case round =>
      obtain ⟨j, hj, rfl, hB, hU⟩ := hrel
      by_cases hlt : j < kp
      · have cj : wr.cell? ⟨T, j * 9 + 7, none⟩ = some (.bool false) := by
          rw [hB.out.cell, flatten_getK (ztm_len kp j) (by simpa [ztm] using hlt) (by decide), ztm_getD hlt, decide_eq_false (by omega)]
          rfl
        have fj := hB.out.free (j * 9 + 7)
        have hTl := hB.out.lt
        have HB2 : Hid (Blk (wr.setCell ⟨T, j * 9 + 7, none⟩ (.bool true)) T (ztm kp (j + 1)).flatten 64) := Lib.hid (by
          have := hB.out.set (j * 9 + 7) (.bool true)
          rwa [ztm_set hlt] at this)
        have HU2 : Hid (Upd [T] W7 (wr.setCell ⟨T, j * 9 + 7, none⟩ (.bool true))) := Lib.hid (hU.out.setCell _ (.inl (by simp)))
        clear hB hU
        go_wp2
        go_roundw
        case rel => exact ⟨j + 1, by omega, by go_num, HB2, HU2⟩
        case measure => simp [intOf]; omega
      · obtain rfl : kp = j := by omega
        have hT1 := HTT.out
        have hU68 : Upd [] w6 wr := HU67.out.onto hU.out (fun x hx => by simp at hx; omega)
        clear hT1
        have HTS := Lib.hid (tst_zero (base2 := w6.heap.size) (m := m' + 1) (N := n) hB.out)
        have HM8 := Lib.hid (HM6.out.upd hU68)
        have HU8 := Lib.hid (HU6.out.then0 hU68)
        have HU68 := Lib.hid hU68
        have hb4 := hU68.blk HC4'.out (by simp)
        have hb5 := hU68.blk HC5'.out (by simp)
        obtain ⟨x0, x1, x2, x3, x4, x5, x6⟩ := Blk.seven hb4
        obtain ⟨y0, y1, y2, y3, y4, y5, y6⟩ := Blk.seven hb5
        have hltq := hb5.lt
        clear hb4 hb5 hU68 hB hU
        obtain ⟨nn, hnn⟩ : ∃ nn : Nat, nn = d.items.length - nb := ⟨_, rfl⟩
        obtain rfl : NN = (nn : Int) := by have := HNN.out; omega
        have hin : i ≤ nn := by omega
        have hnd : nn ≤ d.items.length := by omega
        rw [← hnn] at HU3
        have HNn := Lib.hid hnn
        have HNB2 : Hid (nb ≤ d.items.length) := Lib.hid (by omega)
        have hs1 : (i : Int) ≤ (nn : Int) := by omega
        have hs2 : (nn : Int) ≤ (vI : Int) := by omega
        clear hnn HNN hcond
        obtain ⟨AD, hAD⟩ : ∃ AD : Option Addr, AD = if vI = i then uI else uI.map (fun x => x.add (i * 7)) := ⟨_, rfl⟩
        have HAD := Lib.hid hAD
        have hsl := slice_lh uI d.items.length vI i nn hin (by omega)
        rw [← hAD] at hsl
        clear hAD hs1 hs2
        go_wp2_with fail
        clear hsl
        obtain ⟨cnt, hcnt2⟩ : ∃ cnt, cnt = nn - i := ⟨_, rfl⟩
        rw [← hcnt2] at HU3 ⊢
        have HCNT := Lib.hid hcnt2
        have hcl : cnt ≤ 100000 := by omega
        have HIX : Hid (∀ j, j < cnt → i + j < d.items.length ∧ ((d.items.drop i).take cnt).getD j default = d.items.getD (i + j) default ∧ j < ((d.items.drop i).take cnt).length) := Lib.hid (fun j hj => by
          refine ⟨by omega, ?_, by rw [List.length_take, List.length_drop]; omega⟩
          rw [List.getD_eq_getElem?_getD, List.getElem?_take, if_pos hj, List.getElem?_drop, ← List.getD_eq_getElem?_getD])
        have HLL : Hid (((d.items.drop i).take cnt).length = cnt) := Lib.hid (by rw [List.length_take, List.length_drop]; omega)
        obtain ⟨L, hL9⟩ : ∃ L, L = (d.items.drop i).take cnt := ⟨_, rfl⟩
        rw [← hL9] at HU3 HIX HLL
        have HRX := Lib.hid (cut_row HDR1.out hdc HAD.out)
        clear hcnt2 hL9 x0 x1 x2 x3 x4 x5 x6 y0 y1 y2 y3 y4 y5 y6
        obtain ⟨W8, hW8⟩ : ∃ W8, W8 = wr := ⟨_, rfl⟩
        rw [← hW8] at HTS HM8 HU8 HU68 hltq ⊢
        clear hW8
        go_loopw [98] (fun i8 wq => ∃ (j : Nat) (rs : List (List Bd)) (vs : List Value), j ≤ cnt ∧ i8 = .int .i64 j ∧ Hid (rowsM (matchN ls (sameN (m' + 1)) n (p.items.getD i default)) L = (rowsM (matchN ls (sameN (m' + 1)) n (p.items.getD i default)) (L.drop j)).map (fun b => rs ++ b)) ∧ Hid (rs.length = j ∧ (∀ r ∈ rs, r.length = kp) ∧ vs.length = kp) ∧
          Hid (TSt w6.heap.size wq T (m' + 1) n vs (fun t => rs.map fun r => (r.getD t default).t)) ∧ Hid (Upd [] w6 wq)) (fun i8 _ => cnt - (intOf i8).toNat)
        case atStart => exact ⟨0, [], List.replicate kp (.slice none 0 0), by omega, rfl, Lib.hid (by simp), Lib.hid ⟨rfl, by simp, by simp⟩, HTS, HU68⟩
        case round =>
          clear HTS HM8 HU8 HU68
          obtain ⟨j, rs, vs, hj, rfl, hR, hrs, hTS, hU⟩ := hrel
          have hb4 := hU.out.blk HC4'.out (by simp)
          have hb5 := hU.out.blk HC5'.out (by simp)
          have hb6 := hU.out.blk HC6'.out (by simp)
          have HMr := Lib.hid (HM6.out.upd hU.out)
          have HUr := Lib.hid (HU6.out.then0 hU.out)
          by_cases hlt : j < cnt
          · obtain ⟨ix1, ix2, ix3⟩ := HIX.out j hlt
            obtain ⟨b, o, cx, hAe, hbx, hat, hdx⟩ := HRX.out j (by rw [List.length_drop]; omega)
            have hdx2 : (d.items.drop i).getD j default = d.items.getD (i + j) default := by simp [List.getD_eq_getElem?_getD]
            rw [hdx2] at hdx
            have HR2 : Hid (rowsM (matchN ls (sameN (m' + 1)) n (p.items.getD i default)) L = ((matchN ls (sameN (m' + 1)) n (p.items.getD i default) (d.items.getD (i + j) default)).bind fun a => (rowsM (matchN ls (sameN (m' + 1)) n (p.items.getD i default)) (L.drop (j + 1))).bind fun b => some (a :: b)).map (fun b => rs ++ b)) := Lib.hid (by rw [hR.out, rowsM_step ix3, ix2])
            have HOC := Lib.hid (HOne.out _ HDO.out (i + j) cx ix1 hdx)
            have HOL := Lib.hid (HOnL.out (d.items.getD (i + j) default))
            obtain ⟨k2, n2, a2, l2, p2, b2, s2, i3, m2, d2, t2, o2, q2, rfl⟩ := hdx.shaped7
            have hat2 := hat.upd HUr.out (HM.out.old hbx)
            obtain ⟨y0, y1, y2, y3, y4, y5, y6⟩ := hat2.cells
            have hltb : b < wr.heap.size := hat2.lt
            obtain ⟨z0, z1, z2, z3, z4, z5, z6⟩ := Blk.seven hb6
            have hltz := hb6.lt
            have c0 := HMr.out.blk.cell_some (i := 0) rfl
            have hltM : M < wr.heap.size := HMr.out.blk.lt
            rw [hAe]
            obtain ⟨W9, hW9⟩ : ∃ W9, W9 = (wr.alloc (.cells #[.int .i64 k2, .bool n2, .slice a2 l2 p2, .bool b2, .string s2, .slice i3 m2 d2, .slice t2 o2 q2] 27)).alloc (.cells #[.slice aL nL cL, .slice none 0 0] 85) := ⟨_, rfl⟩
            have hu9 : Upd [] wr W9 := by rw [hW9]; exact ((Upd.refl [] wr).alloc _).alloc _
            have hM9b : Blk W9 (wr.heap.size + 1) [.slice aL nL cL, .slice none 0 0] 85 := by rw [hW9]; exact Blk.newAt (by simp)
            have HM9 : Hid (MSt wr.heap.size W9 (wr.heap.size + 1) aL nL cL (m' + 1) n (.slice none 0 0) []) := Lib.hid ⟨hM9b, OwnK.nil _ _ _ _ _, by omega⟩
            have HU9 := Lib.hid hu9
            have HUr9 := Lib.hid (HUr.out.then0 hu9)
            have HBs : Hid (base ≤ wr.heap.size) := Lib.hid (by have := HMr.out.low; omega)
            have HW9 := Lib.hid hW9
            have HC49 := Lib.hid (hu9.blk hb4 (by simp))
            have HC59 := Lib.hid (hu9.blk hb5 (by simp))
            have HC69 := Lib.hid (hu9.blk hb6 (by simp))
            have HTSr := Lib.hid hTS.out
            have HU69 := Lib.hid (hU.out.then hu9)
            have hs69 := hU.out.size
            obtain ⟨MR, hMR⟩ : ∃ R, R = matchN ls (sameN (m' + 1)) n (p.items.getD i default) (d.items.getD (i + j) default) := ⟨_, rfl⟩
            rw [← hMR] at HR2 HOC HOL
            clear hat hat2 hdx hdx2 hb4 hb5 hb6 hu9 hM9b hW9 hTS hU hR ix1 ix2 ix3 hMR
            go_wp2_with fail
            rw [← HW9.out]
            refine (HOC.out W9 wr.heap.size (wr.heap.size + 1) HBs.out HUr9.out HM9.out).mono ?_
            rintro e w10 ⟨rfl, hu10, hs10⟩
            have HN : Hid (∀ x, x ∈ (wr.heap.size + 1) :: (Value.slice none 0 0).ownBlock.toList → x = wr.heap.size + 1) := Lib.hid (fun x hx => by simpa [Value.ownBlock] using hx)
            have HU610 : Hid (Upd [] w6 w10) := Lib.hid (HU69.out.onto hu10 (fun x hx => by have := HN.out x hx; omega))
            have HUr10 : Hid (Upd [] wr w10) := Lib.hid (HU9.out.onto hu10 (fun x hx => by have := HN.out x hx; omega))
            have HU910 : Hid (Upd [wr.heap.size + 1] W9 w10) := Lib.hid (hu10.mono (fun x hx _ => by have := HN.out x hx; simp [this]))
            have HS10 := Lib.hid hs10
            clear hu10 hs10 HOC HW9 y0 y1 y2 y3 y4 y5 y6 z0 z1 z2 z3 z4 z5 z6 c0
            cases MR with
            | none =>
              have HX : Hid (RES = none) := Lib.hid (by rw [HU3.out, HR2.out]; rfl)
              have HUF := Lib.hid (HU6.out.then0 HU610.out)
              clear HU3 HR2 HOL HS10
              go_wp2
              go_ret
              exact ⟨by rw [HX.out]; rfl, HUF.out, fun bs h => by rw [HX.out] at h; cases h⟩
            | some bs =>
              obtain ⟨vi, hMi, hVi⟩ := HS10.out bs rfl
              have hbl : bs.length = kp := by rw [HOL.out bs rfl, HKP.out, HPS.out]
              obtain ⟨aI, cI, rfl, hRI, _⟩ := hMi.own.row
              rw [show (([] : List Bd) ++ bs).length = kp from hbl] at *
              have hcI := hMi.blk.cell_some (i := 1) rfl
              have hlI := hMi.blk.lt
              rw [List.nil_append] at hRI
              obtain ⟨B1, hB1⟩ : ∃ B1, B1 = wr.heap.size := ⟨_, rfl⟩
              have HRI : Hid (RowK w10 (fun b => B1 ≤ b ∧ b < w10.heap.size) 10 (IsB w10 (fun b => B1 ≤ b ∧ b < w10.heap.size) (m' + 1) n) aI bs) := Lib.hid (hRI.map (by decide) (fun b hb hp => ⟨by rw [hB1]; exact hp.1, hb⟩) (fun _ _ _ _ h => h) (fun _ _ h => h.mono (fun b hb hp => ⟨by rw [hB1]; exact hp.1, hb⟩)))
              have HTS10 := Lib.hid (HTSr.out.upd HUr10.out)
              have HOB : Hid (∀ t, t < kp → ∀ b, (vs.getD t (.slice none 0 0)).ownBlock = some b → b < B1 ∨ w10.heap.size ≤ b) := Lib.hid (fun t ht b hb => .inl (by rw [hB1]; exact ((HTSr.out.own t (by rw [hrs.out.2.2]; exact ht)).lt hb).2))
              have hTB : T < B1 := by rw [hB1]; exact HTSr.out.blk.lt
              have hB610 : w6.heap.size ≤ B1 := by rw [hB1]; exact hs69
              have HR3 : Hid (rowsM (matchN ls (sameN (m' + 1)) n (p.items.getD i default)) L = (rowsM (matchN ls (sameN (m' + 1)) n (p.items.getD i default)) (L.drop (j + 1))).map (fun b => (rs ++ [bs]) ++ b)) := Lib.hid (by
                rw [HR2.out]
                simp only [Option.bind_some]
                cases rowsM (matchN ls (sameN (m' + 1)) n (p.items.getD i default)) (L.drop (j + 1)) with
                | none => rfl
                | some b => simp)
              clear hMi hVi hRI HS10 HOL HR2 HTSr HUr10 HU910 HU9 HU69 HMr HUr HUr9 HC49 HC59 HC69 HM9 HN HBs hs69 hltM hltz
              go_wp2_with fail
              go_loopw [114] (fun i8 ws => ∃ (q : Nat) (vs2 : List Value), q ≤ kp ∧ i8 = .int .i64 q ∧ Hid (vs2.length = kp) ∧ Hid (TSt w6.heap.size ws T (m' + 1) n vs2 (fun t => (rs.map fun r => (r.getD t default).t) ++ if t < q then [(bs.getD t default).t] else [])) ∧
                Hid (∀ t, t < kp → ∀ b, (vs2.getD t (.slice none 0 0)).ownBlock = some b → b < B1 ∨ w10.heap.size ≤ b) ∧ Hid (RowK ws (fun b => B1 ≤ b ∧ b < w10.heap.size) 10 (IsB ws (fun b => B1 ≤ b ∧ b < w10.heap.size) (m' + 1) n) aI bs) ∧ Hid (Upd [] w6 ws) ∧ w10.heap.size ≤ ws.heap.size) (fun i8 _ => kp - (intOf i8).toNat)
              case atStart => exact ⟨0, vs, by omega, rfl, Lib.hid hrs.out.2.2, Lib.hid (HTS10.out.congr (fun t _ => by simp)), HOB, HRI, HU610, Nat.le_refl _⟩
              case round =>
                clear HTS10 HOB HRI HU610 hcI hlI hB1
                obtain ⟨q, vs2, hq, rfl, hv2, hTS, hOB, hRI, hU, hsz⟩ := hrel
                by_cases hltq2 : q < kp
                · obtain ⟨bI, oI, cb, rfl, hpI, hatI, ct, rfl, hct⟩ := hRI.out q (by omega)
                  obtain ⟨tk, tn, ta, tl, tc, tb, ts, ti, tm, td, te, tf, tg, tK, tL, rfl⟩ := hct.shaped
                  obtain ⟨g0, g1, g2, g3, g4, g5, g6, g7, g8, g9⟩ := hatI.ten
                  have hltI : bI < wr.heap.size := hatI.lt (by decide)
                  obtain ⟨u0, u1', u2, u3, u4', u5, u6, u7, u8⟩ := hTS.out.cells (q := q) (by rw [hv2.out]; exact hltq2)
                  have hltT : T < wr.heap.size := hTS.out.blk.lt
                  have hvq' := hTS.out.own q (by rw [hv2.out]; exact hltq2)
                  obtain ⟨aq, cq, hvq, _⟩ := hvq'.slice
                  obtain ⟨lq, hlq⟩ : ∃ lq, ((rs.map fun r => (r.getD q default).t) ++ if q < q then [(bs.getD q default).t] else []).length = lq := ⟨_, rfl⟩
                  rw [hlq] at hvq
                  have hlq2 : lq ≤ 1000000 := by
                    rw [← hlq]
                    have := hrs.out.1
                    simp
                    omega
                  rw [hvq] at u8
                  obtain ⟨nm, hnm⟩ : ∃ nm, nm = (bs.getD q default).name := ⟨_, rfl⟩
                  obtain ⟨mny, hmny⟩ : ∃ b, b = (bs.getD q default).t.many := ⟨_, rfl⟩
                  obtain ⟨kln, hkln⟩ : ∃ k, k = (bs.getD q default).t.kids.length := ⟨_, rfl⟩
                  rw [← hnm] at g0
                  rw [← hmny] at g8 hct
                  rw [← hkln] at g9 hct
                  obtain ⟨W20, hW20⟩ : ∃ W20, W20 = wr.alloc (.cells #[.string nm, .int .i64 tk, .bool tn, .slice ta tl tc, .bool tb, .string ts, .slice ti tm td, .slice te tf tg, .bool mny, .slice tK kln tL] 66) := ⟨_, rfl⟩
                  have hur20 : Upd [] wr W20 := by rw [hW20]; exact (Upd.refl [] wr).alloc _
                  have hB20 : Blk W20 wr.heap.size [.string nm, .int .i64 tk, .bool tn, .slice ta tl tc, .bool tb, .string ts, .slice ti tm td, .slice te tf tg, .bool mny, .slice tK kln tL] 66 := by rw [hW20]; exact Blk.newAt rfl
                  have hTS20 := hTS.out.upd hur20
                  obtain ⟨css, h1, h2, h3, h4⟩ := hTS20.own q (by rw [hv2.out]; exact hltq2)
                  have hx20 : IsT W20 (PIn w6.heap.size T vs2) (m' + 1) n [.int .i64 tk, .bool tn, .slice ta tl tc, .bool tb, .string ts, .slice ti tm td, .slice te tf tg, .bool mny, .slice tK kln tL] (bs.getD q default).t := (hct.upd hur20).mono (fun b _ hb => ⟨by omega, by omega, fun v hv e => by
                    obtain ⟨t, ht, rfl⟩ := List.getElem_of_mem hv
                    have := hOB.out t (by rw [← hv2.out]; exact ht) b (by rw [List.getD_eq_getElem?_getD, List.getElem?_eq_getElem ht]; exact e)
                    omega⟩)
                  have hvn := hTS20.ne q (by rw [hv2.out]; exact hltq2)
                  have hbase20 : w6.heap.size ≤ W20.heap.size := (hU.out.then hur20).size
                  rw [hvq] at h4 hvn
                  rw [hlq] at h4
                  obtain ⟨x0, x1, x2, x3, x4, x5, x6, x7, x8, x9⟩ := hB20.ten
                  have hl20 := hB20.lt
                  have v8 := hur20.cell u8 (by simp)
                  have hltT20 : T < W20.heap.size := hTS20.blk.lt
                  have hneT : wr.heap.size ≠ T := by omega
                  have HW20 := Lib.hid hW20
                  have HB20 := Lib.hid hB20
                  have H1 := Lib.hid (And.intro h1 (And.intro h2 h3))
                  have H4 := Lib.hid h4
                  have HTS20 := Lib.hid hTS20
                  have HX20 := Lib.hid hx20
                  have HVN := Lib.hid hvn
                  have HUR20 := Lib.hid hur20
                  have HVQ := Lib.hid hvq
                  have HLQ := Lib.hid hlq
                  have HVB : Hid (∀ k, (Value.slice aq lq cq).ownBlock = some k → k < wr.heap.size) := Lib.hid (fun k hk => (hvq'.lt (by rw [hvq]; exact hk)).2)
                  clear hW20 h1 h2 h3 h4 hTS20 hx20 hvn hur20 hB20 hvq hlq hvq' hnm hmny hkln hatI hct
                  go_wp2_with fail
                  rw [← HW20.out]
                  clear g0 g1 g2 g3 g4 g5 g6 g7 g8 g9 u0 u1' u2 u3 u4' u5 u6 u7 u8
                  have HQD : Hid (rs.length = j ∧ (∀ r ∈ rs, r.length = kp) ∧ vs2.length = kp) := Lib.hid ⟨hrs.out.1, hrs.out.2.1, hv2.out⟩
                  refine row_region21 (base2 := w6.heap.size) (T := T) (kp := kp) (q := q) (B := wr.heap.size) (lq := lq) (cq := cq) (aq := aq) (css := css) _ _ _ _ _ _ _ _ _ _ _ _ _ _ _ _ _ _ _ _ _ _ _ _ _ _ _ _ _ _ _ _ _ _ _ _ _ _ _ _ _ _ _ _ _ _ _ _ _ _ _ _ _ _ _ _ _ _ _ _ _ _ _ _ _ _ _ _ _ _ _ _ _ _ _ _ _ _ _ _ _ _ _ _ _ _ _ _ _ _ _ _ _ _ _ _ _ _ _ _ _ _ _ _ _ _ _ _ _ _ _ _ _ _ _ _ _ _ _ _ _ _ _ _ _ _ _ _ _ _ _ _ _ _ _ _ _ _ _ _ _ _ _ _ _ _ _ _ _ _ _ _ _ _ _ _ _ _ _ _ _ _ _ _ _ _ _ _ _ _ _ _ _ _ _ _ _ _ _ _ _ _ _ HB20.out v8 (fun j => HTS20.out.blk.free j) hneT H4.out (by rw [flat9_len H1.out.2.2, H1.out.1, HLQ.out]) HVN.out (fun e => by have := HVB.out _ e; omega) hlq2 hltq2 hbase20 ?_
                  intro Y1 Y2 Y3 Y4 Y5 Y6 Y7 Y8 Y9 Y10 Y11 Y12 Y13 W30 w30 W40 g cap hu3 hsz3 hO30 hu30 hg30 hW40
                  have hfin : TSt w6.heap.size W40 T (m' + 1) n (vs2.set q (.slice (some ⟨g, 0, none⟩) (lq + 1) cap)) (fun t => if t = q then ((rs.map fun r => (r.getD q default).t) ++ if q < q then [(bs.getD q default).t] else []) ++ [(bs.getD q default).t] else ((rs.map fun r => (r.getD t default).t) ++ if t < q then [(bs.getD t default).t] else [])) ∧ Upd (T :: (Value.slice aq lq cq).ownBlock.toList) W30 W40 := by
                    obtain ⟨h1, h2, h3⟩ := H1.out
                    have hlq := HLQ.out
                    have hvq := HVQ.out
                    have hk9 : css.flatten.length = lq * 9 := by rw [flat9_len h3, h1, hlq]
                    rw [← hvq] at hu30 hg30 ⊢
                    subst hlq
                    exact grow_fin (HTS20.out.upd hu3) (by rw [hv2.out]; exact hltq2) h1 (fun i hi => (h2 i hi).upd hu3) h3 hO30 hu30 hg30 (HX20.out.upd hu3) hk9 hW40
                  have hwr40 : Upd (T :: (Value.slice aq lq cq).ownBlock.toList) wr W40 := ((HUR20.out.then hu3).mono (by simp)).then hfin.2
                  have HTSn := Lib.hid (hfin.1.congr (kss' := fun t => (rs.map fun r => (r.getD t default).t) ++ if t < q + 1 then [(bs.getD t default).t] else []) (fun t _ => by
                    by_cases h : t = q
                    · subst h
                      rw [if_pos rfl, if_neg (by omega), if_pos (by omega), List.append_nil]
                    · rw [if_neg h]
                      by_cases h2 : t < q
                      · rw [if_pos h2, if_pos (by omega)]
                      · rw [if_neg h2, if_neg (by omega)]))
                  have hgb : g < B1 ∨ w10.heap.size ≤ g := by
                    rcases hg30 with h | h
                    · exact hOB.out q hltq2 g (by rw [HVQ.out]; exact h)
                    · right
                      rw [h]
                      have := HUR20.out.size
                      omega
                  have HOBn : Hid (∀ t, t < kp → ∀ b, ((vs2.set q (.slice (some ⟨g, 0, none⟩) (lq + 1) cap)).getD t (.slice none 0 0)).ownBlock = some b → b < B1 ∨ w10.heap.size ≤ b) := Lib.hid (fun t ht b hb => by
                    by_cases h : t = q
                    · subst h
                      rw [getD_set_same (by rw [hv2.out]; exact hltq2)] at hb
                      have hgb2 : g = b := Option.some.inj hb
                      rw [← hgb2]
                      exact hgb
                    · rw [getD_set_other h] at hb
                      exact hOB.out t ht b hb)
                  have hsep : ∀ b, B1 ≤ b ∧ b < w10.heap.size → b ∉ T :: (Value.slice aq lq cq).ownBlock.toList := by
                    intro b hb hx
                    rcases List.mem_cons.1 hx with h | h
                    · omega
                    · have := hOB.out q hltq2 b (by rw [HVQ.out]; simpa using h)
                      omega
                  have HRIn := Lib.hid (hRI.out.upd (R' := IsB W40 (fun b => B1 ≤ b ∧ b < w10.heap.size) (m' + 1) n) (by decide) hwr40 hsep (fun _ _ h => h.updS hwr40 hsep))
                  have HUn : Hid (Upd [] w6 W40) := Lib.hid (hU.out.onto hwr40 (fun x hx => by
                    rcases List.mem_cons.1 hx with h | h
                    · have := HTT.out
                      omega
                    · exact (hTS.out.own q (by rw [hv2.out]; exact hltq2) |>.lt (by rw [HVQ.out]; simpa using h)).1))
                  have hszn : w10.heap.size ≤ W40.heap.size := Nat.le_trans hsz hwr40.size
                  have HV2n : Hid ((vs2.set q (.slice (some ⟨g, 0, none⟩) (lq + 1) cap)).length = kp) := Lib.hid (by rw [List.length_set]; exact hv2.out)
                  clear hfin hwr40 hgb hsep hu3 hsz3 hO30 hu30 hg30 hW40 hTS hOB hRI hU HB20 H1 H4 HTS20 HX20 HVN HUR20 HVQ HLQ HVB x0 x1 x2 x3 x4 x5 x6 x7 x8 x9 v8
                  go_wp2
                  go_roundw
                  case rel => exact ⟨q + 1, vs2.set q (.slice (some ⟨g, 0, none⟩) (lq + 1) cap), by omega, by go_num, HV2n, HTSn, HOBn, HRIn, HUn, hszn⟩
                  case measure => simp [intOf]; omega
                · obtain rfl : kp = q := by omega
                  have HTSn := Lib.hid (hTS.out.congr (kss' := fun t => (rs ++ [bs]).map fun r => (r.getD t default).t) (fun t ht => by
                    rw [if_pos (by rw [← hv2.out]; exact ht)]
                    simp))
                  have HRSn : Hid ((rs ++ [bs]).length = j + 1 ∧ (∀ r ∈ rs ++ [bs], r.length = kp) ∧ vs2.length = kp) := Lib.hid ⟨by rw [List.length_append, hrs.out.1]; rfl, fun r hr => by
                    rcases List.mem_append.1 hr with h | h
                    · exact hrs.out.2.1 r h
                    · rw [List.mem_singleton.1 h]
                      exact hbl, hv2.out⟩
                  have HUn := hU
                  clear hTS hOB hRI hv2 hrs hU hbl
                  go_wp2
                  go_roundw
                  case rel => exact ⟨j + 1, rs ++ [bs], vs2, by omega, by go_num, HR3, HRSn, HTSn, HUn⟩
                  case measure => simp [intOf]; omega
          · obtain rfl : cnt = j := by omega
            have HRW : Hid (rowsM (matchN ls (sameN (m' + 1)) n (p.items.getD i default)) L = some rs) := Lib.hid (by
              rw [hR.out, List.drop_of_length_le (by rw [HLL.out]; exact Nat.le_refl _)]
              simp [rowsM])
            have HUB : Hid (RES = (allM (matchN ls (sameN (m' + 1)) n) (p.items.drop (i + 2)) (d.items.drop nn)).bind fun b =>
              if p.tail = [] then some (a ++ (List.range PS.length).map (fun k => (⟨(PS.getD k default).1, treeAt rs k⟩ : Bd)) ++ b)
              else (matchN ls (sameN (m' + 1)) n (p.tail.getD 0 default) (if 0 < dt then d.tail.getD 0 default else .mk 5 false [] false ByteArray.empty [] [])).bind fun c => some (a ++ (List.range PS.length).map (fun k => (⟨(PS.getD k default).1, treeAt rs k⟩ : Bd)) ++ b ++ c)) := Lib.hid (by rw [HU3.out, HRW.out]; rfl)
            clear HU3 HRW hR HIX HLL HRX HOne HOnL
            obtain ⟨W11, hW11⟩ : ∃ W11, W11 = wr := ⟨_, rfl⟩
            rw [← hW11] at hTS hU HMr HUr hb4 hb5 ⊢
            clear hW11 hb6
            have HTK : Hid (∀ t, t < kp → ∃ aK cK, vs.getD t (.slice none 0 0) = .slice aK (rs.map fun r => (r.getD t default).t).length cK ∧ RowK W11 (fun b => w6.heap.size ≤ b ∧ b < W11.heap.size) 9 (IsT W11 (fun b => w6.heap.size ≤ b ∧ b < W11.heap.size) (m' + 1) n) aK (rs.map fun r => (r.getD t default).t) ∧ (rs.map fun r => (r.getD t default).t).length ≤ cK) := Lib.hid (fun t ht => by
              obtain ⟨aK, cK, e, hr, hc⟩ := (hTS.out.own t (by rw [hrs.out.2.2]; exact ht)).row
              exact ⟨aK, cK, e, hr.map (by decide) (fun b hb hp => ⟨hp.1, hb⟩) (fun _ _ _ _ h => h) (fun _ _ h => h.mono (fun b hb hp => ⟨hp.1, hb⟩)), hc⟩)
            have HTC2 : Hid (∀ t, t < kp → _) := Lib.hid (fun t ht => hTS.out.cells (q := t) (by rw [hrs.out.2.2]; exact ht))
            have HTB := Lib.hid hTS.out.blk
            have hTlt := hTS.out.blk.lt
            have hTge : w6.heap.size ≤ T := by have := HTT.out; omega
            have HC411 := Lib.hid hb4
            have HC511 := Lib.hid hb5
            have HRN11 := Lib.hid (HRN.out.upd (by decide) hU.out (by simp) (fun _ _ h => h) |>.map (Q := fun b => wc.heap.size ≤ b ∧ b < W11.heap.size) (by decide) (fun b hb hp => ⟨hp, hb⟩) (fun _ _ _ _ h => h) (fun _ _ h => h))
            have hsz11 : w6.heap.size ≤ W11.heap.size := hU.out.size
            obtain ⟨MID, hMID⟩ : ∃ MID, MID = (List.range PS.length).map (fun k => (⟨(PS.getD k default).1, treeAt rs k⟩ : Bd)) := ⟨_, rfl⟩
            rw [← hMID] at HUB
            have HML : Hid (MID.length = kp ∧ ∀ t, t < kp → MID.getD t default = ⟨(PS.getD t default).1, treeAt rs t⟩) := Lib.hid ⟨by rw [hMID, List.length_map, List.length_range, HKP.out], fun t ht => by
              rw [hMID, List.getD_eq_getElem?_getD, List.getElem?_map, List.getElem?_range (by rw [← HKP.out]; exact ht)]
              rfl⟩
            have HRSL : Hid (rs.length ≤ 100000) := Lib.hid (by rw [hrs.out.1]; exact hcl)
            have hMw := HMW.out.1
            have hsw6 := HSZ6.out
            clear hTS hU hrs hMID hb4 hb5 HRN hltq
            go_wp2_with fail
            go_loopw [136] (fun i8 wq => ∃ (j : Nat) (v2 : Value), j ≤ kp ∧ i8 = .int .i64 j ∧ Hid (MSt base wq M aL nL cL (m' + 1) N v2 ((bs0 ++ a) ++ MID.take j)) ∧ Hid (v2.ownBlock = v1.ownBlock ∨ ∃ g, v2.ownBlock = some g ∧ W11.heap.size ≤ g) ∧ Hid (Upd (M :: v1.ownBlock.toList) W11 wq)) (fun i8 _ => kp - (intOf i8).toNat)
            case atStart => exact ⟨0, v1, by omega, rfl, Lib.hid (by simpa using HMr.out), Lib.hid (.inl rfl), Lib.hid (Upd.refl _ _)⟩
            case round =>
              obtain ⟨j, v2, hj, rfl, hM2, hV2, hU⟩ := hrel
              have hout : ∀ b, wc.heap.size ≤ b → b ∉ M :: v1.ownBlock.toList := by
                intro b hb hx
                rcases List.mem_cons.1 hx with h | h
                · omega
                · have := HMW.out.2 b (by simpa using h)
                  omega
              by_cases hlt : j < kp
              · obtain ⟨b, o, rfl, hbl2, y0, y1⟩ := (HRN11.out.upd (by decide) hU.out (fun b hb => hout b hb.1) (fun _ _ h => h)).place (i := j) (by rw [← HKP.out]; exact hlt)
                obtain ⟨aK, cK, hvt, hRK, hcK⟩ := HTK.out j hlt
                have hcells := HTC2.out j hlt
                rw [hvt] at hcells
                have hTn := hout T (by omega)
                have hml := HML.out.2 j hlt
                obtain ⟨nm, hnm⟩ : ∃ nm, nm = (PS.getD j default).1 := ⟨_, rfl⟩
                obtain ⟨dp, hdp⟩ : ∃ dp, dp = (PS.getD j default).2 := ⟨_, rfl⟩
                rw [← hnm] at y0 hml
                rw [← hdp] at y1
                have hlK : (rs.map fun r => (r.getD j default).t).length ≤ 1000000 := by rw [List.length_map]; have := HRSL.out; omega
                obtain ⟨ks, hks⟩ : ∃ ks, ks = rs.map fun r => (r.getD j default).t := ⟨_, rfl⟩
                have htr : treeAt rs j = .mk default true ks := by rw [hks]; rfl
                rw [htr] at hml
                rw [← hks] at hvt hRK hcK hcells hlK
                obtain ⟨W20, hW20⟩ : ∃ W20, W20 = wr.alloc (.cells #[.string nm, .int .i64 dp] 99) := ⟨_, rfl⟩
                have hur20 : Upd [] wr W20 := by rw [hW20]; exact (Upd.refl [] wr).alloc _
                have hB20 : Blk W20 wr.heap.size [.string nm, .int .i64 dp] 99 := by rw [hW20]; exact Blk.newAt rfl
                have hu1120 : Upd (M :: v1.ownBlock.toList) W11 W20 := hU.out.then0 hur20
                have hszr : W11.heap.size ≤ wr.heap.size := hU.out.size
                have hMwr : M < wr.heap.size := by omega
                have hM20 := hM2.out.upd hur20
                have hvB : v2.ownBlock ≠ some wr.heap.size := fun e => by have := (hM2.out.own.lt e).2; omega
                have hvT : v2.ownBlock ≠ some T := fun e => by
                  rcases hV2.out with h | ⟨g, h, hg⟩
                  · exact hTn (by rw [h] at e; rw [e]; simp)
                  · rw [h] at e
                    injection e with e
                    omega
                have htk : MID.take (j + 1) = MID.take j ++ [⟨nm, .mk default true ks⟩] := by rw [take_nextK (by rw [HML.out.1]; exact hlt), hml]
                have hmlen : (((bs0 ++ a) ++ MID.take j)).length ≤ 1000000 := by
                  rw [List.length_append, List.length_append, List.length_take]
                  have := HSZT.out
                  have := HLEN.out
                  omega
                have hbdW : ∀ W, Upd [] W20 W → IsB W (BIn base M v2) (m' + 1) N [.string nm, .int .i64 0, .bool false, .slice none 0 0, .bool false, .string ⟨#[]⟩, .slice none 0 0, .slice none 0 0, .bool true, .slice aK ks.length cK] ⟨nm, .mk default true ks⟩ := by
                  intro W hW
                  have huW : Upd (M :: v1.ownBlock.toList) W11 W := hu1120.then0 hW
                  have hsep : ∀ b, w6.heap.size ≤ b ∧ b < W11.heap.size → b ∉ M :: v1.ownBlock.toList := fun b hb => hout b (by omega)
                  have hin2 : ∀ b, w6.heap.size ≤ b ∧ b < W11.heap.size → BIn base M v2 b := fun b hb => ⟨by have := hM2.out.low; omega, by omega, fun e => by
                    rcases hV2.out with h | ⟨g, h, hg⟩
                    · exact hsep b hb (by rw [h] at e; rw [e]; simp)
                    · rw [h] at e
                      injection e with e
                      omega⟩
                  exact many_isB HNN1.out (hRK.map (by decide) (fun b _ hb => hin2 b hb) (fun b o u hb hc => huW.cell hc (hsep b hb)) (fun cs t ht => IsT.map (k := 0) (fun b _ hb => hin2 b hb) (fun b o u hb hc => huW.cell hc (hsep b hb)) ht)) hcK hlK
                have hT20 := hcells
                have hcT : ∀ k u, W11.cell? ⟨T, k, none⟩ = some u → W20.cell? ⟨T, k, none⟩ = some u := fun k u hc => hu1120.cell hc hTn
                have HT20 := Lib.hid (And.intro (hcT _ _ hcells.1) (And.intro (hcT _ _ hcells.2.1) (And.intro (hcT _ _ hcells.2.2.1) (And.intro (hcT _ _ hcells.2.2.2.1) (And.intro (hcT _ _ hcells.2.2.2.2.1) (And.intro (hcT _ _ hcells.2.2.2.2.2.1) (And.intro (hcT _ _ hcells.2.2.2.2.2.2.1) (And.intro (hcT _ _ hcells.2.2.2.2.2.2.2.1) (hcT _ _ hcells.2.2.2.2.2.2.2.2)))))))))
                have HW20 := Lib.hid hW20
                have HBD := Lib.hid hbdW
                have HM20 := Lib.hid hM20
                have HNM := Lib.hid (hB20.cell_some (i := 0) rfl)
                have HU20 := Lib.hid hu1120
                have HTK2 := Lib.hid htk
                have HVBT := Lib.hid (And.intro hvB hvT)
                have HSZ20 : Hid (W11.heap.size ≤ W20.heap.size) := Lib.hid hu1120.size
                clear hout hcells hT20 hcT hbdW hM20 hB20 hu1120 htk hvB hvT hW20 hur20 hTn hvt hRK hcK hnm hdp hml htr hks hM2 hU
                go_wp2_with fail
                rw [← HW20.out]
                clear y0 y1
                refine row_region27 (base := base) (M := M) (T := T) (kp := kp) (q := j) (B := wr.heap.size) (v := v2) (aK := aK) (lK := ks.length) (cK := cK) _ _ _ _ _ _ _ _ _ _ _ _ _ _ _ _ _ _ _ _ _ _ _ _ _ _ _ _ _ _ _ _ _ _ _ _ _ _ _ _ _ _ _ _ _ _ _ _ _ _ _ _ _ _ _ _ _ _ _ _ _ _ _ _ _ _ _ _ _ _ _ _ _ _ _ _ _ _ _ _ _ _ _ _ _ _ _ _ _ _ _ _ _ _ _ _ _ _ _ _ _ _ _ _ _ _ _ _ _ _ _ _ _ _ _ _ _ _ _ _ _ _ _ _ _ _ _ _ _ _ _ _ _ _ _ _ _ _ _ _ _ _ _ _ _ _ _ _ _ _ _ _ _ _ _ _ _ _ _ _ _ _ _ _ _ _ _ _ _ _ _ _ _ _ _ _ _ _ _ _ _ _ HM20.out HNM.out HT20.out (by omega) (by omega) HVBT.out.1 HVBT.out.2 hlt hmlen HBD.out ?_
                intro Y0 Y1 Y2 Y3 Y4 Y5 Y6 Y7 Y8 Y9 Y10 Y11 Y12 Y13 Y14 Y15 W40 v' hM40 hu40 hv40
                have HMn : Hid (MSt base W40 M aL nL cL (m' + 1) N v' ((bs0 ++ a) ++ MID.take (j + 1))) := Lib.hid (by rw [HTK2.out, ← List.append_assoc]; exact hM40)
                have HVn : Hid (v'.ownBlock = v1.ownBlock ∨ ∃ g, v'.ownBlock = some g ∧ W11.heap.size ≤ g) := Lib.hid (own_later HSZ20.out hV2.out hv40)
                have HUn := Lib.hid (MSt.trans HU20.out hV2.out hu40)
                clear hM40 hu40 hv40 HM20 HNM HU20 HTK2 HVBT HBD HT20 HW20
                go_wp2
                go_roundw
                case rel => exact ⟨j + 1, v', by omega, by go_num, HMn, HVn, HUn⟩
                case measure => simp [intOf]; omega
              · obtain rfl : kp = j := by omega
                have hmt : MID.take kp = MID := List.take_of_length_le (by rw [HML.out.1]; exact Nat.le_refl _)
                rw [hmt] at hM2
                have hn4 := HMr.out.notin HC411.out (by decide) (by decide)
                have hn5 := HMr.out.notin HC511.out (by decide) (by decide)
                have hb4 := hU.out.blk HC411.out hn4
                have hb5 := hU.out.blk HC511.out hn5
                have HUz := Lib.hid (MSt.trans HUr.out HV5.out hU.out)
                have HVz := Lib.hid (own_later HUr.out.size HV5.out hV2.out)
                have HMz := hM2
                obtain ⟨x0, x1, x2, x3, x4, x5, x6⟩ := Blk.seven hb4
                obtain ⟨y0, y1, y2, y3, y4, y5, y6⟩ := Blk.seven hb5
                have hltq := hb5.lt
                have HC4z := Lib.hid hb4
                have HC5z := Lib.hid hb5
                obtain ⟨AE, hAE⟩ : ∃ AE : Option Addr, AE = if vI = nn then uI else uI.map (fun x => x.add (nn * 7)) := ⟨_, rfl⟩
                have hsl := slice_l uI d.items.length vI nn hnd
                rw [← hAE] at hsl
                have hmidl : MID.length ≤ szN n (p.items.getD i default) := by rw [HML.out.1, HKP.out, HPS.out]; exact placesN_len ls n _ 0
                have hcB : ((bs0 ++ a) ++ MID).length + szL (szN n) (p.items.drop (i + 2)) ≤ 10000 := by
                  rw [List.length_append, List.length_append]
                  have := HSZT.out
                  have := HLEN.out
                  omega
                have HCN : Hid (∀ b : List Bd, b.length ≤ szL (szN n) (p.items.drop (i + 2)) → (((bs0 ++ a) ++ MID) ++ b).length + szL (szN n) p.tail ≤ 10000) := Lib.hid (fun b hb => by
                  rw [List.length_append, List.length_append, List.length_append]
                  have := HSZT.out
                  have := HLEN.out
                  omega)
                have HCB := Lib.hid (HBe.out nn nb (yI - i2) (vI - nn) AB AE wr v2 ((bs0 ++ a) ++ MID) (by rw [List.length_drop, HNB.out, HI2.out]) (by have := HNB2.out; have := HNn.out; omega)
                  (by rw [← HI2.out]; exact cut_row HPR1.out hpc (by rw [HAB.out]; simp [addr_add])) (cut_row HDR1.out hdc hAE) HMz.out HUz.out hcB)
                obtain ⟨BR, hBR⟩ : ∃ B, B = allM (matchN ls (sameN (m' + 1)) n) (p.items.drop (i + 2)) (d.items.drop nn) := ⟨_, rfl⟩
                rw [← hBR] at HUB HCB
                have HBL : Hid (∀ b, BR = some b → b.length ≤ szL (szN n) (p.items.drop (i + 2))) := Lib.hid (fun b h => HBeL.out _ b (by rw [← hBR]; exact h))
                clear hmt hn4 hn5 hb4 hb5 hAE hmidl hcB hBR HC411 HC511 HBe HBeL HRN11 HTK HTC2 HTB hM2 hU
                go_wp2_with fail
                refine HCB.out.mono ?_
                rintro e w13 ⟨rfl, hu13, hs13⟩
                have hn4 := HMz.out.notin HC4z.out (by decide) (by decide)
                have hn5 := HMz.out.notin HC5z.out (by decide) (by decide)
                have hb4 := hu13.blk HC4z.out hn4
                have hb5 := hu13.blk HC5z.out hn5
                have HUy := Lib.hid (MSt.trans HUz.out HVz.out hu13)
                have HSz := Lib.hid HUz.out.size
                have HS13 := Lib.hid hs13
                obtain ⟨x0, x1, x2, x3, x4, x5, x6⟩ := Blk.seven hb4
                obtain ⟨y0, y1, y2, y3, y4, y5, y6⟩ := Blk.seven hb5
                have hltq13 := hb5.lt
                have HC4y := Lib.hid hb4
                have HC5y := Lib.hid hb5
                clear hsl HCB hu13 hs13 hn4 hn5 hb4 hb5 HC4z HC5z
                cases BR with
                | none =>
                  have HX : Hid (RES = none) := Lib.hid (by rw [HUB.out]; rfl)
                  clear HUB HS13
                  go_wp2
                  go_ret
                  exact ⟨by rw [HX.out]; rfl, HUy.out, fun bs h => by rw [HX.out] at h; cases h⟩
                | some b =>
                  obtain ⟨v3, hM3, hV3⟩ := HS13.out b rfl
                  have HM3 := Lib.hid hM3
                  have HVy := Lib.hid (own_later HSz.out HVz.out hV3)
                  have HUC : Hid (RES = if p.tail = [] then some (a ++ MID ++ b)
                    else (matchN ls (sameN (m' + 1)) n (p.tail.getD 0 default) (if 0 < dt then d.tail.getD 0 default else .mk 5 false [] false ByteArray.empty [] [])).bind fun c => some (a ++ MID ++ b ++ c)) := Lib.hid (by rw [HUB.out]; rfl)
                  have hcn := HCN.out b (HBL.out b rfl)
                  clear HUB HS13 hM3 hV3 HBL HCN
                  by_cases hpt : pt = 0
                  · have hpe : p.tail = [] := List.eq_nil_of_length_eq_zero (by rw [HPT.out]; exact hpt)
                    have HX : Hid (RES = some (a ++ MID ++ b)) := Lib.hid (by rw [HUC.out, if_pos hpe])
                    have hpt1 : (pt : Int) = 0 := by omega
                    clear HUC hpe
                    go_wp2
                    go_ret
                    exact ⟨by rw [HX.out]; rfl, HUy.out, fun bs h => by
                      rw [HX.out] at h
                      cases h
                      exact ⟨v3, by simpa using HM3.out, HVy.out⟩⟩
                  · obtain ⟨t, het⟩ : ∃ t, p.tail = [t] := by
                      rcases HTC.out with h | h
                      · exact absurd (by rw [← HPT.out, h]; rfl) hpt
                      · exact h
                    have hpt1 : pt = 1 := by rw [← HPT.out, het]; rfl
                    subst hpt1
                    obtain ⟨bT, oT, ctp, rfl, hbT, hatT, hdT⟩ := HPR2.out 0 (by rw [HPT.out]; omega)
                    rw [show p.tail.getD 0 default = t by rw [het]; rfl] at hdT
                    rw [Nat.zero_mul, Nat.add_zero] at hatT
                    have HDT2 := Lib.hid hdT
                    obtain ⟨kz, nz, az, lz, pz, bz, sz, iz, mz, dz, tz, oz, qz, rfl⟩ := hdT.shaped7
                    have hatT13 := hatT.upd HUy.out (HM.out.old hbT)
                    obtain ⟨z0, z1, z2, z3, z4, z5, z6⟩ := hatT13.cells
                    have hltT13 : bT < w13.heap.size := hatT13.lt
                    have hnx : w.heap.size ∉ M :: v3.ownBlock.toList := HM3.out.notin HC4y.out (by decide) (by decide)
                    have hnz : bT ∉ M :: v3.ownBlock.toList := HM3.out.old hbT
                    obtain ⟨W6, hW6⟩ : ∃ W6, W6 = w13.alloc (.cells #[.int .i64 5, .bool false, .slice none 0 0, .bool false, .string ⟨#[]⟩, .slice none 0 0, .slice none 0 0] 27) := ⟨_, rfl⟩
                    have hu136 : Upd [] w13 W6 := by rw [hW6]; exact (Upd.refl [] w13).alloc _
                    have hr6 : Blk W6 w13.heap.size [.int .i64 5, .bool false, .slice none 0 0, .bool false, .string ⟨#[]⟩, .slice none 0 0, .slice none 0 0] 27 := by rw [hW6]; exact Blk.newAt rfl
                    have HU136 := Lib.hid hu136
                    have HR6 := Lib.hid hr6
                    have hnr : w13.heap.size ∉ M :: v3.ownBlock.toList := (HM3.out.upd hu136).notin hr6 (by decide) (by decide)
                    have HW6 := Lib.hid hW6
                    have HET := Lib.hid het
                    clear hatT hatT13 hdT hu136 hr6 hW6 het hpt
                    by_cases hdt0 : 0 < dt
                    · obtain ⟨bU, oU, ctd, rfl, hbU, hatU, hdU⟩ := HDR2.out 0 (by rw [HDT.out]; exact hdt0)
                      obtain ⟨MT, hMT⟩ : ∃ R, R = matchN ls (sameN (m' + 1)) n t (d.tail.getD 0 default) := ⟨_, rfl⟩
                      have HUD : Hid (RES = MT.bind fun c => some (a ++ MID ++ b ++ c)) := Lib.hid (by rw [HUC.out, if_neg (by rw [HET.out]; simp), if_pos hdt0, hMT, HET.out]; rfl)
                      have HTl : Hid (∀ (W0 W : World), MSt base W M aL nL cL (m' + 1) N v3 (((bs0 ++ a) ++ MID) ++ b) → Upd (M :: v.ownBlock.toList) w W → Calls Try.prog 47 #[.pointer (some ⟨M, 0, none⟩), .agg #[.int .i64 kz, .bool nz, .slice az lz pz, .bool bz, .string sz, .slice iz mz dz, .slice tz oz qz], .agg ctd.toArray] W (MPost base W M aL nL cL (m' + 1) N v3 (((bs0 ++ a) ++ MID) ++ b) MT)) := Lib.hid (fun _ W h1 h2 => by rw [hMT]; exact HTm.out t HET.out W v3 _ _ _ _ (HFR.out (by rw [HDT.out]; exact hdt0)) h1 h2 HDT2.out (hdU.more 1) hcn)
                      obtain ⟨k2, n2, a2, l2, p2, b2, s2, i3, m2, d2, t2, o2, q2, rfl⟩ := hdU.shaped7
                      rw [Nat.zero_mul, Nat.add_zero] at hatU
                      have hatU6 := hatU.upd (HUy.out.then0 HU136.out) (HM.out.old hbU)
                      obtain ⟨g0, g1, g2, g3, g4, g5, g6⟩ := hatU6.cells
                      have hltU : bU < w13.heap.size := (hatU.upd HUy.out (HM.out.old hbU)).lt
                      have hd0 : (0 : Int) < (dt : Int) := by omega
                      have y6' := HU136.out.cell y6 (by simp)
                      have f0 := HR6.out.free 0
                      have f1 := HR6.out.free 1
                      have f2 := HR6.out.free 2
                      have f3 := HR6.out.free 3
                      have f4 := HR6.out.free 4
                      have f5 := HR6.out.free 5
                      have f6 := HR6.out.free 6
                      obtain ⟨r0, r1, r2, r3, r4, r5, r6⟩ := Blk.seven HR6.out
                      have hlr := HR6.out.lt
                      clear hatU hatU6 hdU hMT
                      go_upto_region 34 with (fail)
                      rw [← HW6.out]
                      clear y0 y1 y2 y3 y4 y5 y6
                      go_wp2_with fail
                      obtain ⟨W7, hW7⟩ : ∃ W7, W7 = (((((((W6.setCell ⟨w13.heap.size, 0, none⟩ (.int .i64 k2)).setCell ⟨w13.heap.size, 1, none⟩ (.bool n2)).setCell ⟨w13.heap.size, 2, none⟩ (.slice a2 l2 p2)).setCell ⟨w13.heap.size, 3, none⟩ (.bool b2)).setCell ⟨w13.heap.size, 4, none⟩ (.string s2)).setCell ⟨w13.heap.size, 5, none⟩ (.slice i3 m2 d2)).setCell ⟨w13.heap.size, 6, none⟩ (.slice t2 o2 q2)) := ⟨_, rfl⟩
                      rw [← hW7]
                      have hp7 : W7 = put7 W6 w13.heap.size (.int .i64 k2) (.bool n2) (.slice a2 l2 p2) (.bool b2) (.string s2) (.slice i3 m2 d2) (.slice t2 o2 q2) := hW7
                      have hu67 : Upd [w13.heap.size] W6 W7 := by rw [hp7]; exact (Upd.refl _ W6).put7 (.inl (by simp)) (.int .i64 k2) (.bool n2) (.slice a2 l2 p2) (.bool b2) (.string s2) (.slice i3 m2 d2) (.slice t2 o2 q2)
                      have hu137 : Upd [] w13 W7 := by rw [hp7]; exact HU136.out.put7 (.inr (Nat.le_refl _)) (.int .i64 k2) (.bool n2) (.slice a2 l2 p2) (.bool b2) (.string s2) (.slice i3 m2 d2) (.slice t2 o2 q2)
                      have hr7 : Blk W7 w13.heap.size [.int .i64 k2, .bool n2, .slice a2 l2 p2, .bool b2, .string s2, .slice i3 m2 d2, .slice t2 o2 q2] 27 := by rw [hp7]; exact HR6.out.put7 (.int .i64 k2) (.bool n2) (.slice a2 l2 p2) (.bool b2) (.string s2) (.slice i3 m2 d2) (.slice t2 o2 q2)
                      have HU137 := Lib.hid hu137
                      have HM7 := Lib.hid (HM3.out.upd hu137)
                      have HU7 : Hid (Upd (M :: v.ownBlock.toList) w W7) := Lib.hid (HUy.out.then0 hu137)
                      replace x6 := hu137.cell x6 (by simp)
                      replace z0 := hu137.cell z0 (by simp)
                      replace z1 := hu137.cell z1 (by simp)
                      replace z2 := hu137.cell z2 (by simp)
                      replace z3 := hu137.cell z3 (by simp)
                      replace z4 := hu137.cell z4 (by simp)
                      replace z5 := hu137.cell z5 (by simp)
                      replace z6 := hu137.cell z6 (by simp)
                      obtain ⟨r0, r1, r2, r3, r4, r5, r6⟩ := Blk.seven hr7
                      clear hW7 hp7 hu67 hu137 hr7 g0 g1 g2 g3 g4 g5 g6 f0 f1 f2 f3 f4 f5 f6 HU136 HR6 HW6 x0 x1 x2 x3 x4 x5
                      go_region_held3 (fun w' => w'.cell? ⟨w.heap.size, 6, none⟩ = some (.slice (some ⟨bT, oT, none⟩) 1 yT) ∧ w'.cell? ⟨bT, oT, none⟩ = some (.int .i64 kz) ∧ w'.cell? ⟨bT, oT + 1, none⟩ = some (.bool nz) ∧ w'.cell? ⟨bT, oT + 2, none⟩ = some (.slice az lz pz) ∧ w'.cell? ⟨bT, oT + 3, none⟩ = some (.bool bz) ∧ w'.cell? ⟨bT, oT + 4, none⟩ = some (.string sz) ∧ w'.cell? ⟨bT, oT + 5, none⟩ = some (.slice iz mz dz) ∧ w'.cell? ⟨bT, oT + 6, none⟩ = some (.slice tz oz qz) ∧ w'.cell? ⟨w13.heap.size, 0, none⟩ = some (.int .i64 k2) ∧ w'.cell? ⟨w13.heap.size, 1, none⟩ = some (.bool n2) ∧ w'.cell? ⟨w13.heap.size, 2, none⟩ = some (.slice a2 l2 p2) ∧ w'.cell? ⟨w13.heap.size, 3, none⟩ = some (.bool b2) ∧ w'.cell? ⟨w13.heap.size, 4, none⟩ = some (.string s2) ∧ w'.cell? ⟨w13.heap.size, 5, none⟩ = some (.slice i3 m2 d2) ∧ w'.cell? ⟨w13.heap.size, 6, none⟩ = some (.slice t2 o2 q2)) (first | with_reducible exact ⟨x6, z0, z1, z2, z3, z4, z5, z6, r0, r1, r2, r3, r4, r5, r6⟩ | go_keep | exact ⟨Upd.cell hu x6 hnx, Upd.cell hu z0 hnz, Upd.cell hu z1 hnz, Upd.cell hu z2 hnz, Upd.cell hu z3 hnz, Upd.cell hu z4 hnz, Upd.cell hu z5 hnz, Upd.cell hu z6 hnz, Upd.cell hu r0 hnr, Upd.cell hu r1 hnr, Upd.cell hu r2 hnr, Upd.cell hu r3 hnr, Upd.cell hu r4 hnr, Upd.cell hu r5 hnr, Upd.cell hu r6 hnr⟩) (first | (go_at_call 47; refine (HTl.out W7 W7.drew (HM7.out.upd (Upd.refl [] W7).drew) HU7.out.drew).mono ?_; rintro e w9 ⟨rfl, hu9, hs9⟩; have hu := Upd.then (Upd.refl (M :: v3.ownBlock.toList) W7).drew hu9))
                      have HU9 : Hid (Upd (M :: v.ownBlock.toList) w w9) := Lib.hid (MSt.trans HUy.out HVy.out (HU137.out.mono (by simp) |>.then hu))
                      have HS9 := Lib.hid hs9
                      have HSZ : Hid (w.heap.size ≤ W7.heap.size) := Lib.hid HU7.out.size
                      clear hu hu9 hs9 x6 z0 z1 z2 z3 z4 z5 z6 r0 r1 r2 r3 r4 r5 r6 HTl
                      cases MT with
                      | none =>
                        have HX : Hid (RES = none) := Lib.hid (by rw [HUD.out]; rfl)
                        go_wp2
                        go_ret
                        exact ⟨by rw [HX.out]; rfl, HU9.out, fun bs h => by rw [HX.out] at h; cases h⟩
                      | some c9 =>
                        have HX : Hid (RES = some (a ++ MID ++ b ++ c9)) := Lib.hid (by rw [HUD.out]; rfl)
                        go_wp2
                        go_ret
                        refine ⟨by rw [HX.out]; rfl, HU9.out, fun bs hb => ?_⟩
                        rw [HX.out] at hb
                        cases hb
                        obtain ⟨v4, k2, k3⟩ := HS9.out c9 rfl
                        exact ⟨v4, by simpa using k2, own_later HSZ.out HVy.out k3⟩
                    · obtain rfl : dt = 0 := by omega
                      obtain ⟨MT, hMT⟩ : ∃ R, R = matchN ls (sameN (m' + 1)) n t (.mk 5 false [] false ByteArray.empty [] []) := ⟨_, rfl⟩
                      have HUD : Hid (RES = MT.bind fun c => some (a ++ MID ++ b ++ c)) := Lib.hid (by rw [HUC.out, if_neg (by rw [HET.out]; simp), if_neg hdt0, hMT, HET.out]; rfl)
                      have HTl : Hid (∀ (W0 W : World), MSt base W M aL nL cL (m' + 1) N v3 (((bs0 ++ a) ++ MID) ++ b) → Upd (M :: v.ownBlock.toList) w W → Calls Try.prog 47 #[.pointer (some ⟨M, 0, none⟩), .agg #[.int .i64 kz, .bool nz, .slice az lz pz, .bool bz, .string sz, .slice iz mz dz, .slice tz oz qz], .agg #[.int .i64 5, .bool false, .slice none 0 0, .bool false, .string ⟨#[]⟩, .slice none 0 0, .slice none 0 0]] W (MPost base W M aL nL cL (m' + 1) N v3 (((bs0 ++ a) ++ MID) ++ b) MT)) := Lib.hid (fun _ W h1 h2 => by rw [hMT]; exact HTm.out t HET.out W v3 _ _ _ _ (five_few m') h1 h2 HDT2.out (five_isD w _ m') hcn)
                      obtain ⟨r0, r1, r2, r3, r4, r5, r6⟩ := Blk.seven HR6.out
                      have hlr := HR6.out.lt
                      have y6' := HU136.out.cell y6 (by simp)
                      clear hMT
                      go_upto_region 34 with (fail)
                      rw [← HW6.out]
                      clear y0 y1 y2 y3 y4 y5 y6
                      obtain ⟨W7, hW7⟩ : ∃ W7, W7 = W6 := ⟨_, rfl⟩
                      rw [← hW7] at HU136 HR6 r0 r1 r2 r3 r4 r5 r6 hlr y6' ⊢
                      clear HW6 hW7
                      have HU137 := HU136
                      have HM7 := Lib.hid (HM3.out.upd HU136.out)
                      have HU7 : Hid (Upd (M :: v.ownBlock.toList) w W7) := Lib.hid (HUy.out.then0 HU136.out)
                      replace x6 := HU136.out.cell x6 (by simp)
                      replace z0 := HU136.out.cell z0 (by simp)
                      replace z1 := HU136.out.cell z1 (by simp)
                      replace z2 := HU136.out.cell z2 (by simp)
                      replace z3 := HU136.out.cell z3 (by simp)
                      replace z4 := HU136.out.cell z4 (by simp)
                      replace z5 := HU136.out.cell z5 (by simp)
                      replace z6 := HU136.out.cell z6 (by simp)
                      clear x0 x1 x2 x3 x4 x5 HU136 HR6 hdt0
                      go_wp2_with fail
                      go_region_held3 (fun w' => w'.cell? ⟨w.heap.size, 6, none⟩ = some (.slice (some ⟨bT, oT, none⟩) 1 yT) ∧ w'.cell? ⟨bT, oT, none⟩ = some (.int .i64 kz) ∧ w'.cell? ⟨bT, oT + 1, none⟩ = some (.bool nz) ∧ w'.cell? ⟨bT, oT + 2, none⟩ = some (.slice az lz pz) ∧ w'.cell? ⟨bT, oT + 3, none⟩ = some (.bool bz) ∧ w'.cell? ⟨bT, oT + 4, none⟩ = some (.string sz) ∧ w'.cell? ⟨bT, oT + 5, none⟩ = some (.slice iz mz dz) ∧ w'.cell? ⟨bT, oT + 6, none⟩ = some (.slice tz oz qz) ∧ w'.cell? ⟨w13.heap.size, 0, none⟩ = some (.int .i64 5) ∧ w'.cell? ⟨w13.heap.size, 1, none⟩ = some (.bool false) ∧ w'.cell? ⟨w13.heap.size, 2, none⟩ = some (.slice none 0 0) ∧ w'.cell? ⟨w13.heap.size, 3, none⟩ = some (.bool false) ∧ w'.cell? ⟨w13.heap.size, 4, none⟩ = some (.string ⟨#[]⟩) ∧ w'.cell? ⟨w13.heap.size, 5, none⟩ = some (.slice none 0 0) ∧ w'.cell? ⟨w13.heap.size, 6, none⟩ = some (.slice none 0 0)) (first | with_reducible exact ⟨x6, z0, z1, z2, z3, z4, z5, z6, r0, r1, r2, r3, r4, r5, r6⟩ | go_keep | exact ⟨Upd.cell hu x6 hnx, Upd.cell hu z0 hnz, Upd.cell hu z1 hnz, Upd.cell hu z2 hnz, Upd.cell hu z3 hnz, Upd.cell hu z4 hnz, Upd.cell hu z5 hnz, Upd.cell hu z6 hnz, Upd.cell hu r0 hnr, Upd.cell hu r1 hnr, Upd.cell hu r2 hnr, Upd.cell hu r3 hnr, Upd.cell hu r4 hnr, Upd.cell hu r5 hnr, Upd.cell hu r6 hnr⟩) (first | (go_at_call 47; refine (HTl.out W7 W7.drew (HM7.out.upd (Upd.refl [] W7).drew) HU7.out.drew).mono ?_; rintro e w9 ⟨rfl, hu9, hs9⟩; have hu := Upd.then (Upd.refl (M :: v3.ownBlock.toList) W7).drew hu9))
                      have HU9 : Hid (Upd (M :: v.ownBlock.toList) w w9) := Lib.hid (MSt.trans HUy.out HVy.out (HU137.out.mono (by simp) |>.then hu))
                      have HS9 := Lib.hid hs9
                      have HSZ : Hid (w.heap.size ≤ W7.heap.size) := Lib.hid HU7.out.size
                      clear hu hu9 hs9 x6 z0 z1 z2 z3 z4 z5 z6 r0 r1 r2 r3 r4 r5 r6 HTl
                      cases MT with
                      | none =>
                        have HX : Hid (RES = none) := Lib.hid (by rw [HUD.out]; rfl)
                        go_wp2
                        go_ret
                        exact ⟨by rw [HX.out]; rfl, HU9.out, fun bs h => by rw [HX.out] at h; cases h⟩
                      | some c9 =>
                        have HX : Hid (RES = some (a ++ MID ++ b ++ c9)) := Lib.hid (by rw [HUD.out]; rfl)
                        go_wp2
                        go_ret
                        refine ⟨by rw [HX.out]; rfl, HU9.out, fun bs hb => ?_⟩
                        rw [HX.out] at hb
                        cases hb
                        obtain ⟨v4, k2, k3⟩ := HS9.out c9 rfl
                        exact ⟨v4, by simpa using k2, own_later HSZ.out HVy.out k3⟩
end Go.Proofs.Ythmpaepdbjldfaa
