/-
  Texts of this claim, merged: Inv, Part, WalkE. Lemmas and contracts; no conditions of our own.
-/
import Derived.Test.YtknbgbeepachgaaDoorG5
import Derived.Test.YtknbgbeepachgaaDoorG8

/-
  A region that draws its order, held by what each of its operations leaves: one step for each operation, not for each order.
-/
namespace Go.Proofs.YtknbgbeepachgaaDoor
open Go.RowKit

section
variable {P : Program} {ops : Array Oper} {Q : Exit → Act → World → Prop}

/-- What an operation waits for. -/
def depsOf (ops : Array Oper) (i : Nat) : List Nat := match ops[i]? with | some o => (o.after.toList.filter (Region.binds .any)).map (·.on) | none => []
/-- What must have run when it may, so many levels deep. -/
def needsOf (ops : Array Oper) : Nat → Nat → List Nat
  | 0, _ => []
  | f + 1, i => depsOf ops i ++ (depsOf ops i).flatMap (needsOf ops f)
/-- The operations from m on stand in order, behind all before. -/
def cutAt (ops : Array Oper) (m f : Nat) : Bool :=
  decide (m ≤ ops.size) && (List.range ops.size).all (fun i => (depsOf ops i).all (fun j => decide (j < i)) && (decide (i ≤ m) || (depsOf ops i).contains (i - 1))) && (m == ops.size || (List.range m).all (fun j => (needsOf ops f m).contains j))
def StepOk (P : Program) (ops : Array Oper) (Q : Exit → Act → World → Prop) (I : (Nat → Bool) → Act → World → Prop) (i : Nat) : Prop :=
  ∀ o, ops[i]? = some o → ∀ d a w, I d a w → d i = false → (∀ j ∈ depsOf ops i, d j = true) → ∀ K : Act → World → Prop, (∀ a w, I (fun j => j == i || d j) a w → K a w) →
    if Region.wanted o (yielded ops a.tmps) = true then Oper.wp P o a w K Q else K (a.put o.dst undef) w
def StepsOk (P : Program) (ops : Array Oper) (Q : Exit → Act → World → Prop) (I : (Nat → Bool) → Act → World → Prop) (is : List Nat) : Prop := ∀ i ∈ is, StepOk P ops Q I i
theorem StepsOk.nil {I : (Nat → Bool) → Act → World → Prop} : StepsOk P ops Q I [] := fun _ h => by cases h
theorem StepsOk.cons {I : (Nat → Bool) → Act → World → Prop} {i : Nat} {o : Oper} {js is : List Nat} (ho : ops[i]? = some o) (hj : depsOf ops i = js)
    (h : ∀ d a w, I d a w → d i = false → (∀ j ∈ js, d j = true) → ∀ K : Act → World → Prop, (∀ a w, I (fun j => j == i || d j) a w → K a w) → if Region.wanted o (yielded ops a.tmps) = true then Oper.wp P o a w K Q else K (a.put o.dst undef) w)
    (hs : StepsOk P ops Q I is) : StepsOk P ops Q I (i :: is) := fun j hjm => by
  rcases List.mem_cons.1 hjm with rfl | hjm
  · intro o' ho' d a w hI hd hdeps K hK
    rw [ho] at ho'
    injection ho' with ho'
    subst ho'
    rw [hj] at hdeps
    exact h d a w hI hd hdeps K hK
  · exact hs j hjm
theorem mem_ready {listed : Array Bool} {i : Nat} (h : i ∈ Region.ready .any ops listed) : i < ops.size ∧ listed.getD i true = false ∧ ∀ j ∈ depsOf ops i, listed.getD j false = true := by
  unfold Region.ready at h
  obtain ⟨h1, h2⟩ := List.mem_filter.1 h
  have h1 := List.mem_range.1 h1
  simp only [Bool.and_eq_true, Bool.not_eq_true'] at h2
  obtain ⟨h3, h4⟩ := h2
  refine ⟨h1, h3, fun j hj => ?_⟩
  unfold depsOf at hj
  rw [Array.getElem?_eq_getElem h1] at h4 hj
  simp only [Option.map_some, Option.getD_some, Array.all_eq_true'] at h4
  obtain ⟨e, he, rfl⟩ := List.mem_map.1 hj
  obtain ⟨he1, he2⟩ := List.mem_filter.1 he
  have := h4 e (by simpa using he1)
  simpa [he2] using this
theorem ready_mem {listed : Array Bool} {i : Nat} (h1 : i < ops.size) (h2 : listed.getD i true = false) (h3 : ∀ j ∈ depsOf ops i, listed.getD j false = true) : i ∈ Region.ready .any ops listed := by
  unfold Region.ready
  refine List.mem_filter.2 ⟨List.mem_range.2 h1, ?_⟩
  unfold depsOf at h3
  rw [Array.getElem?_eq_getElem h1] at h3 ⊢
  simp only [h2, Bool.not_false, Bool.true_and, Option.map_some, Option.getD_some, Array.all_eq_true']
  intro e he
  by_cases hb : Region.binds .any e = true
  · have := h3 e.on (List.mem_map.2 ⟨e, List.mem_filter.2 ⟨by simpa using he, hb⟩, rfl⟩)
    simp [this]
  · simp [hb]
theorem getD_flip {listed : Array Bool} {i : Nat} (h : i < listed.size) : listed.getD i true = listed.getD i false := by
  simp [Array.getD, h]
theorem getD_set {listed : Array Bool} {i j : Nat} (h : i < listed.size) : (listed.setIfInBounds i true).getD j false = (j == i || listed.getD j false) := by
  by_cases e : j = i
  · subst e
    simp [h]
  · have e' : ¬ i = j := fun h => e h.symm
    simp only [Array.getD_eq_getD_getElem?, Array.getElem?_setIfInBounds]
    rw [if_neg e']
    simp [e]
def Shut (ops : Array Oper) (listed : Array Bool) : Prop := ∀ i, listed.getD i false = true → ∀ j ∈ depsOf ops i, listed.getD j false = true
theorem Shut.needs {listed : Array Bool} (h : Shut ops listed) : ∀ f i, (∀ j ∈ depsOf ops i, listed.getD j false = true) → ∀ j ∈ needsOf ops f i, listed.getD j false = true
  | 0, _, _, j, hj => by simp [needsOf] at hj
  | f + 1, i, hd, j, hj => by
    rw [needsOf] at hj
    rcases List.mem_append.1 hj with hj | hj
    · exact hd j hj
    · obtain ⟨k, hk, hj⟩ := List.mem_flatMap.1 hj
      exact h.needs f k (h k (hd k hk)) j hj
theorem Shut.set {listed : Array Bool} {i : Nat} (h : Shut ops listed) (hi : i < listed.size) (hd : ∀ j ∈ depsOf ops i, listed.getD j false = true) : Shut ops (listed.setIfInBounds i true) := by
  intro k hk j hj
  rw [getD_set hi] at hk ⊢
  simp only [Bool.or_eq_true, beq_iff_eq] at hk ⊢
  rcases hk with rfl | hk
  · exact .inr (hd j hj)
  · exact .inr (h k hk j hj)
theorem wpAny_seq {m f : Nat} (hc : cutAt ops m f = true) : ∀ (k s fuel : Nat) (listed : Array Bool) (a : Act) (w : World), listed.size = ops.size → m ≤ s → s + k = ops.size → k ≤ fuel → (∀ j, j < ops.size → (listed.getD j false = true ↔ j < s)) →
    wpOps P ops Q (List.range' s k) a w → wpAny P .any ops Q fuel listed a w := by
  unfold cutAt at hc
  simp only [Bool.and_eq_true, decide_eq_true_eq, List.all_eq_true, List.mem_range, Bool.or_eq_true, List.contains_iff_mem] at hc
  obtain ⟨⟨hm, hdeps⟩, _⟩ := hc
  intro k
  induction k with
  | zero =>
    intro s fuel listed a w hl hms hsk hf hls h
    refine wpAny_done ?_ (by simpa [wpOps] using h) fuel
    rw [List.eq_nil_iff_forall_not_mem]
    intro i hi
    obtain ⟨h1, h2, _⟩ := mem_ready hi
    rw [getD_flip (by omega), (hls i h1).2 (by omega)] at h2
    cases h2
  | succ k ih =>
    intro s fuel listed a w hl hms hsk hf hls h
    obtain ⟨fuel, rfl⟩ : ∃ g, fuel = g + 1 := ⟨fuel - 1, by omega⟩
    have hs : s < ops.size := by omega
    refine wpAny_all (rs := [s]) ?_ (by simp) ?_
    · have hmem : ∀ i, i ∈ Region.ready .any ops listed ↔ i = s := by
        intro i
        constructor
        · intro hi
          obtain ⟨h1, h2, h3⟩ := mem_ready hi
          rw [getD_flip (by omega)] at h2
          by_cases hlt : i < s
          · rw [(hls i h1).2 hlt] at h2
            cases h2
          · by_cases heq : i = s
            · exact heq
            · have h4 := ((hdeps i h1).2).resolve_left (by omega)
              have h5 := (hls (i - 1) (by omega)).1 (h3 (i - 1) h4)
              omega
        · rintro rfl
          refine ready_mem hs ?_ (fun j hj => ?_)
          · rw [getD_flip (by omega)]
            cases hx : listed.getD i false with
            | false => rfl
            | true => exact absurd ((hls i hs).1 hx) (by omega)
          · have := (hdeps i hs).1 j hj
            exact (hls j (by omega)).2 this
      have hnd : (Region.ready .any ops listed).Nodup := by
        unfold Region.ready
        exact List.Pairwise.filter _ List.nodup_range
      generalize Region.ready .any ops listed = l at *
      match l, hnd, hmem with
      | [], _, hmem => exact absurd ((hmem s).2 rfl) (by simp)
      | [x], _, hmem => rw [(hmem x).1 (by simp)]
      | x :: y :: t, hnd, hmem =>
        have hx := (hmem x).1 (by simp)
        have hy := (hmem y).1 (by simp)
        rw [hx, hy] at hnd
        simp at hnd
    · intro i hi
      have hi : i = s := by simpa using hi
      subst hi
      rw [List.range'_succ, wpOps_cons] at h
      refine wpOp_mono (fun a w h => ih (i + 1) fuel _ a w (by simpa using hl) (by omega) (by omega) (by omega) (fun j hj => ?_) h) h
      rw [getD_set (by omega)]
      simp only [Bool.or_eq_true, beq_iff_eq, hls j hj]
      omega
theorem wpAny_inv {I : (Nat → Bool) → Act → World → Prop} {m f : Nat} (hc : cutAt ops m f = true) (hsteps : StepsOk P ops Q I (List.range m)) (hrest : ∀ d a w, I d a w → (∀ j, j < m → d j = true) → wpOps P ops Q (List.range' m (ops.size - m)) a w) :
    ∀ (fuel : Nat) (listed : Array Bool) (a : Act) (w : World), listed.size = ops.size → (List.range ops.size).countP (fun j => !listed.getD j false) ≤ fuel → Shut ops listed → (∀ j, m ≤ j → listed.getD j false = false) → I (fun j => listed.getD j false) a w → wpAny P .any ops Q fuel listed a w := by
  have hc0 := hc
  unfold cutAt at hc
  simp only [Bool.and_eq_true, decide_eq_true_eq, List.all_eq_true, List.mem_range, Bool.or_eq_true, List.contains_iff_mem] at hc
  obtain ⟨⟨hm, hdeps⟩, hneed⟩ := hc
  intro fuel
  induction fuel with
  | zero =>
    intro listed a w hl hcnt hsh hA hI
    have hall : ∀ j, j < ops.size → listed.getD j false = true := by
      intro j hj
      have h0 : (List.range ops.size).countP (fun j => !listed.getD j false) = 0 := by omega
      rw [List.countP_eq_zero] at h0
      have := h0 j (List.mem_range.2 hj)
      simpa using this
    have hms : m = ops.size := by
      rcases Nat.lt_or_ge m ops.size with h | h
      · have := hall m h
        rw [hA m (Nat.le_refl _)] at this
        cases this
      · omega
    have hr := hrest _ a w hI (fun j hj => hall j (by omega))
    exact wpAny_seq hc0 (ops.size - m) m 0 listed a w hl (Nat.le_refl _) (by omega) (by omega) (fun j hj => ⟨fun _ => by omega, fun _ => hall j hj⟩) hr
  | succ fuel ih =>
    intro listed a w hl hcnt hsh hA hI
    by_cases hall : ∀ j, j < m → listed.getD j false = true
    · have hr := hrest _ a w hI hall
      refine wpAny_seq hc0 (ops.size - m) m (fuel + 1) listed a w hl (Nat.le_refl _) (by omega) ?_ (fun j hj => ⟨fun h => ?_, fun h => hall j h⟩) hr
      · have h1 : (List.range' m (ops.size - m)).countP (fun j => !listed.getD j false) = ops.size - m := by
          have h2 : (List.range' m (ops.size - m)).countP (fun j => !listed.getD j false) = (List.range' m (ops.size - m)).length := by
            rw [List.countP_eq_length]
            intro j hj
            obtain ⟨h3, h4⟩ := List.mem_range'_1.1 hj
            rw [hA j h3]
            rfl
          rw [h2, List.length_range']
        have h2 : (List.range ops.size).countP (fun j => !listed.getD j false) ≥ (List.range' m (ops.size - m)).countP (fun j => !listed.getD j false) := by
          rw [List.range_eq_range', show ops.size = m + (ops.size - m) by omega, ← List.range'_append_1, List.countP_append]
          rw [show m + (ops.size - m) - m = ops.size - m by omega, Nat.zero_add]
          omega
        omega
      · rcases Nat.lt_or_ge j m with h1 | h1
        · exact h1
        · rw [hA j h1] at h
          cases h
    · have hne : ∀ i ∈ Region.ready .any ops listed, i < m := by
        intro i hi
        obtain ⟨h1, h2, h3⟩ := mem_ready hi
        rcases Nat.lt_or_ge i m with h | h
        · exact h
        · exfalso
          by_cases heq : i = m
          · subst heq
            rcases hneed with hn | hn
            · simp at hn
              omega
            · exact hall fun j hj => hsh.needs f i h3 j (hn j hj)
          · have h4 := ((hdeps i h1).2).resolve_left (by omega)
            have h5 := h3 (i - 1) h4
            rw [hA (i - 1) (by omega)] at h5
            cases h5
      refine ⟨fun h0 => ?_, fun i hi => ?_⟩
      · exfalso
        refine hall fun j hj => ?_
        suffices hj' : ∀ k j, j < k → j < m → listed.getD j false = true from hj' (j + 1) j (by omega) hj
        intro k
        induction k with
        | zero => intro j hj; omega
        | succ k ihk =>
          intro j hjk hjm
          by_cases hlt : j < k
          · exact ihk j hlt hjm
          · cases hx : listed.getD j false with
            | true => rfl
            | false =>
              have : j ∈ Region.ready .any ops listed := ready_mem (by omega) (by rw [getD_flip (by omega)]; exact hx) (fun i hi => by
                have := (hdeps j (by omega)).1 i hi
                exact ihk i (by omega) (by omega))
              rw [h0] at this
              cases this
      · have him := hne i hi
        obtain ⟨h1, h2, h3⟩ := mem_ready hi
        rw [getD_flip (by omega)] at h2
        refine wpOp_step (Array.getElem?_eq_getElem h1) (fun K' hK' => hsteps i (List.mem_range.2 him) _ (Array.getElem?_eq_getElem h1) _ a w hI h2 h3 K' (fun a' w' hI' => hK' a' w' ?_))
        refine ih _ a' w' (by simpa using hl) ?_ (hsh.set (by omega) h3) (fun j hj => ?_) ?_
        · have hdec : (List.range ops.size).countP (fun j => !(listed.setIfInBounds i true).getD j false) < (List.range ops.size).countP (fun j => !listed.getD j false) := by
            have hgen : ∀ l : List Nat, i ∈ l → l.countP (fun j => !(listed.setIfInBounds i true).getD j false) < l.countP (fun j => !listed.getD j false) := by
              intro l
              have hle : ∀ l : List Nat, l.countP (fun j => !(listed.setIfInBounds i true).getD j false) ≤ l.countP (fun j => !listed.getD j false) := by
                intro l
                refine List.countP_mono_left fun j _ hj => ?_
                rw [getD_set (by omega)] at hj
                simp only [Bool.not_eq_true', Bool.or_eq_false_iff] at hj ⊢
                exact hj.2
              induction l with
              | nil => intro h; cases h
              | cons x l ihl =>
                intro hx
                rw [List.countP_cons, List.countP_cons]
                rcases List.mem_cons.1 hx with rfl | hx
                · have := hle l
                  rw [getD_set (by omega), h2, if_neg (by simp), if_pos (by simp)]
                  omega
                · have := ihl hx
                  have h7 : (if (!(listed.setIfInBounds i true).getD x false) = true then 1 else 0) ≤ (if (!listed.getD x false) = true then 1 else 0) := by
                    rw [getD_set (by omega)]
                    cases listed.getD x false <;> cases (x == i) <;> simp
                  omega
            exact hgen _ (List.mem_range.2 h1)
          omega
        · rw [getD_set (by omega), hA j hj]
          have : ¬ j = i := by omega
          simp [this]
        · have e : (fun j => (listed.setIfInBounds i true).getD j false) = (fun j => j == i || listed.getD j false) := by
            funext j
            exact getD_set (by omega)
          rw [e]
          exact hI'
theorem getD_none (n j : Nat) : (Array.replicate n false).getD j false = false := by
  simp [Array.getD]
/-- A region, by what its first m operations leave, in whatever order they run. -/
theorem wp_region_inv {id : Nat} {a : Act} {w : World} (m f : Nat) (I : (Nat → Bool) → Act → World → Prop) (hm : P.follows .mixedOrders = true) (hc : cutAt ops m f = true) (h0 : I (fun _ => false) a w.drew)
    (hsteps : StepsOk P ops Q I (List.range m)) (hrest : ∀ d a w, I d a w → (∀ j, j < m → d j = true) → wpList P ops Q (ops.toList.drop m) a w) : (Code.region id ops true).wp P Q a w := by
  have hrest : ∀ d a w, I d a w → (∀ j, j < m → d j = true) → wpOps P ops Q (List.range' m (ops.size - m)) a w := fun d a w h1 h2 => by
    have := wpOps_eq_wpList (P := P) (ops := ops) (Q := Q) (ops.toList.drop m) m (fun j => by simp)
    rw [List.length_drop, Array.length_toList] at this
    rw [this]
    exact hrest d a w h1 h2
  refine wp_region_any hm ?_
  refine wpAny_inv hc hsteps hrest ops.size _ a _ (by simp) ?_ (fun i hi => ?_) (fun j _ => getD_none _ _) ?_
  · have := List.countP_le_length (p := fun j => !(Array.replicate ops.size false).getD j false) (l := List.range ops.size)
    rw [List.length_range] at this
    exact this
  · rw [getD_none] at hi
    cases hi
  · have e : (fun j => (Array.replicate ops.size false).getD j false) = fun _ => false := by
      funext j
      exact getD_none _ _
    rw [e]
    exact h0
end
/-- What an operation leaves: a value, or a datum in memory. -/
inductive Lv where
  | val (c : Value)
  | dat (n : Nat) (x : Dat)
def Lv.holds (W : World) : Lv → Value → Prop
  | .val c, v => v = c
  | .dat n x, v => ∃ cs, v = .agg cs.toArray ∧ IsD W (fun _ => True) n cs x
theorem Lv.holds.upd {W W' : World} {r : Lv} {v : Value} (h : r.holds W v) (hu : Upd [] W W') : r.holds W' v := by
  cases r with
  | val c => exact h
  | dat n x =>
    obtain ⟨cs, e, h⟩ := h
    exact ⟨cs, e, h.upd hu⟩
/-- What the operations that ran have left. -/
structure RInv (Ws : World) (Rs : List Lv) (d : Nat → Bool) (W : World) (l : List Value) : Prop where
  upd : Upd [] Ws W
  res : ∀ j r, Rs[j]? = some r → d j = true → r.holds W (l.getD j undef)
theorem RInv.new {Ws : World} {Rs : List Lv} {l : List Value} : RInv Ws Rs (fun _ => false) Ws.drew l := ⟨(Upd.refl [] Ws).drew, fun _ _ _ h => by cases h⟩
theorem RInv.put {Ws W W' : World} {Rs : List Lv} {d : Nat → Bool} {l : List Value} (h : RInv Ws Rs d W l) (i : Nat) {r : Lv} (hr : Rs[i]? = some r) (hi : i < l.length) (hu : Upd [] W W') {v : Value} (hv : r.holds W' v) : RInv Ws Rs (fun j => j == i || d j) W' (l.set i v) := by
  refine ⟨h.upd.then hu, fun j r' hj hd => ?_⟩
  by_cases e : j = i
  · subst e
    rw [hr] at hj
    injection hj with hj
    subst hj
    simpa [List.getD_eq_getElem?_getD, hi] using hv
  · have hd' : d j = true := by simpa [e] using hd
    have h2 := (h.res j r' hj hd').upd hu
    rw [List.getD_eq_getElem?_getD, List.getElem?_set_ne (fun x => e x.symm), ← List.getD_eq_getElem?_getD]
    exact h2
theorem RInv.keep {Ws W : World} {Rs : List Lv} {d : Nat → Bool} {l : List Value} (h : RInv Ws Rs d W l) (i : Nat) {r : Lv} (hr : Rs[i]? = some r) (hi : i < l.length) {v : Value} (hv : r.holds W v) : RInv Ws Rs (fun j => j == i || d j) W (l.set i v) := h.put i hr hi (Upd.refl [] W) hv
end Go.Proofs.YtknbgbeepachgaaDoor

/-
  A region's first operations held by what each of them leaves, the rest walked order by order.
-/
namespace Go.Proofs.YtknbgbeepachgaaDoor
open Go.RowKit

section
variable {P : Program} {ops : Array Oper} {Q : Exit → Act → World → Prop}

/-- The operations from m on wait for all before. -/
def partAt (ops : Array Oper) (L : Array Bool) (m f : Nat) : Bool :=
  decide (m ≤ ops.size) && (L.size == ops.size) && (List.range ops.size).all (fun i => (L.getD i false == decide (i < m)) && (depsOf ops i).all (fun j => decide (j < i)) && (decide (i < m) || (List.range m).all (fun j => (needsOf ops f i).contains j)))
theorem count_set {listed : Array Bool} {i k : Nat} (hk : k = listed.size) (hi : i < k) (h : listed.getD i false = false) :
    (List.range k).countP (fun j => !(listed.setIfInBounds i true).getD j false) + 1 = (List.range k).countP (fun j => !listed.getD j false) := by
  have hgen : ∀ l : List Nat, l.Nodup → l.countP (fun j => !(listed.setIfInBounds i true).getD j false) + (if i ∈ l then 1 else 0) = l.countP (fun j => !listed.getD j false) := by
    intro l
    induction l with
    | nil => intro _; rfl
    | cons x l ih =>
      intro hn
      obtain ⟨hx, hn⟩ := List.nodup_cons.1 hn
      have h1 := ih hn
      rw [List.countP_cons, List.countP_cons]
      by_cases e : x = i
      · subst e
        rw [if_neg hx] at h1
        rw [getD_set (by omega), h, if_neg (by simp), if_pos (by simp), if_pos (by simp)]
        omega
      · have e' : ¬ i = x := fun x => e x.symm
        have e2 : (listed.setIfInBounds i true).getD x false = listed.getD x false := by
          rw [getD_set (by omega)]
          simp [e]
        have e3 : (if i ∈ x :: l then 1 else 0) = if i ∈ l then 1 else 0 := by simp [e']
        rw [e2, e3]
        generalize (if i ∈ l then 1 else 0) = c at *
        omega
  have := hgen (List.range k) List.nodup_range
  rw [if_pos (List.mem_range.2 hi)] at this
  exact this
theorem wpAny_part_go {I : (Nat → Bool) → Act → World → Prop} {L : Array Bool} {m f : Nat} (hc : partAt ops L m f = true) (hsteps : StepsOk P ops Q I (List.range m)) (hrest : ∀ d a w, I d a w → (∀ j, j < m → d j = true) → wpAny P .any ops Q (ops.size - m) L a w) :
    ∀ (fuel : Nat) (listed : Array Bool) (a : Act) (w : World), listed.size = ops.size → (List.range ops.size).countP (fun j => !listed.getD j false) = fuel → Shut ops listed → (∀ j, m ≤ j → listed.getD j false = false) → I (fun j => listed.getD j false) a w → wpAny P .any ops Q fuel listed a w := by
  unfold partAt at hc
  simp only [Bool.and_eq_true, decide_eq_true_eq, List.all_eq_true, List.mem_range, Bool.or_eq_true, List.contains_iff_mem, beq_iff_eq] at hc
  obtain ⟨⟨hm, hLs⟩, hall0⟩ := hc
  intro fuel
  induction fuel with
  | zero =>
    intro listed a w hl hcnt hsh hA hI
    have hall : ∀ j, j < ops.size → listed.getD j false = true := by
      intro j hj
      rw [List.countP_eq_zero] at hcnt
      have := hcnt j (List.mem_range.2 hj)
      simpa using this
    have hms : m = ops.size := by
      rcases Nat.lt_or_ge m ops.size with h | h
      · have := hall m h
        rw [hA m (Nat.le_refl _)] at this
        cases this
      · omega
    have hr := hrest _ a w hI (fun j hj => hall j (by omega))
    rw [show ops.size - m = 0 by omega] at hr
    have hLe : L = listed := by
      apply Array.ext (by omega)
      intro i h1 h2
      have h3 := (hall0 i (by omega)).1.1
      have h4 := hall i (by omega)
      simp only [Array.getD, h1, h2, dite_true] at h3 h4
      have h5 : decide (i < m) = true := by simp; omega
      rw [h5] at h3
      exact h3.trans h4.symm
    rw [← hLe]
    exact hr
  | succ fuel ih =>
    intro listed a w hl hcnt hsh hA hI
    by_cases hall : ∀ j, j < m → listed.getD j false = true
    · have hLe : L = listed := by
        apply Array.ext (by omega)
        intro i h1 h2
        have h3 := (hall0 i (by omega)).1.1
        simp only [Array.getD, h1, dite_true] at h3
        by_cases him : i < m
        · have h4 := hall i him
          simp only [Array.getD, h2, dite_true] at h4
          have h5 : decide (i < m) = true := by simpa using him
          rw [h5] at h3
          exact h3.trans h4.symm
        · have h4 := hA i (by omega)
          simp only [Array.getD, h2, dite_true] at h4
          have h5 : decide (i < m) = false := by simpa using him
          rw [h5] at h3
          exact h3.trans h4.symm
      have hr := hrest _ a w hI hall
      have hfu : ops.size - m = fuel + 1 := by
        have h1 : (List.range' m (ops.size - m)).countP (fun j => !listed.getD j false) = ops.size - m := by
          have h2 : (List.range' m (ops.size - m)).countP (fun j => !listed.getD j false) = (List.range' m (ops.size - m)).length := by
            rw [List.countP_eq_length]
            intro j hj
            obtain ⟨h3, h4⟩ := List.mem_range'_1.1 hj
            rw [hA j h3]
            rfl
          rw [h2, List.length_range']
        have h2 : (List.range' 0 m).countP (fun j => !listed.getD j false) = 0 := by
          rw [List.countP_eq_zero]
          intro j hj
          obtain ⟨h3, h4⟩ := List.mem_range'_1.1 hj
          rw [hall j (by omega)]
          simp
        have h3 : (List.range ops.size).countP (fun j => !listed.getD j false) = (List.range' 0 m).countP (fun j => !listed.getD j false) + (List.range' m (ops.size - m)).countP (fun j => !listed.getD j false) := by
          rw [List.range_eq_range', show ops.size = m + (ops.size - m) by omega, ← List.range'_append_1, List.countP_append, show m + (ops.size - m) - m = ops.size - m by omega, Nat.zero_add]
        omega
      rw [hfu, hLe] at hr
      exact hr
    · have hne : ∀ i ∈ Region.ready .any ops listed, i < m := by
        intro i hi
        obtain ⟨h1, h2, h3⟩ := mem_ready hi
        rcases Nat.lt_or_ge i m with h | h
        · exact h
        · exfalso
          have hn := ((hall0 i h1).2).resolve_left (by omega)
          exact hall fun j hj => hsh.needs f i h3 j (hn j hj)
      refine ⟨fun h0 => ?_, fun i hi => ?_⟩
      · exfalso
        refine hall fun j hj => ?_
        suffices hj' : ∀ k j, j < k → j < m → listed.getD j false = true from hj' (j + 1) j (by omega) hj
        intro k
        induction k with
        | zero => intro j hj; omega
        | succ k ihk =>
          intro j hjk hjm
          by_cases hlt : j < k
          · exact ihk j hlt hjm
          · cases hx : listed.getD j false with
            | true => rfl
            | false =>
              have : j ∈ Region.ready .any ops listed := ready_mem (by omega) (by rw [getD_flip (by omega)]; exact hx) (fun i hi => by
                have := (hall0 j (by omega)).1.2 i hi
                exact ihk i (by omega) (by omega))
              rw [h0] at this
              cases this
      · have him := hne i hi
        obtain ⟨h1, h2, h3⟩ := mem_ready hi
        rw [getD_flip (by omega)] at h2
        refine wpOp_step (Array.getElem?_eq_getElem h1) (fun K' hK' => hsteps i (List.mem_range.2 him) _ (Array.getElem?_eq_getElem h1) _ a w hI h2 h3 K' (fun a' w' hI' => hK' a' w' ?_))
        refine ih _ a' w' (by simpa using hl) ?_ (hsh.set (by omega) h3) (fun j hj => ?_) ?_
        · have := count_set (listed := listed) (i := i) (k := ops.size) (by omega) h1 h2
          omega
        · rw [getD_set (by omega), hA j hj]
          have : ¬ j = i := by omega
          simp [this]
        · have e : (fun j => (listed.setIfInBounds i true).getD j false) = (fun j => j == i || listed.getD j false) := by
            funext j
            exact getD_set (by omega)
          rw [e]
          exact hI'
/-- The first m operations by what they leave; the rest order by order. -/
theorem wpAny_part {a : Act} {w : World} (L : Array Bool) (m f : Nat) (I : (Nat → Bool) → Act → World → Prop) (hc : partAt ops L m f = true) (h0 : I (fun _ => false) a w)
    (hsteps : StepsOk P ops Q I (List.range m)) (hrest : ∀ d a w, I d a w → (∀ j, j < m → d j = true) → wpAny P .any ops Q (ops.size - m) L a w) : wpAny P .any ops Q ops.size (Array.replicate ops.size false) a w := by
  refine wpAny_part_go hc hsteps hrest ops.size _ a _ (by simp) ?_ (fun i hi => ?_) (fun j _ => getD_none _ _) ?_
  · have h2 : (List.range ops.size).countP (fun j => !(Array.replicate ops.size false).getD j false) = (List.range ops.size).length := by
      rw [List.countP_eq_length]
      intro j _
      rw [getD_none]
      rfl
    rw [h2, List.length_range]
  · rw [getD_none] at hi
    cases hi
  · have e : (fun j => (Array.replicate ops.size false).getD j false) = fun _ => false := by
      funext j
      exact getD_none _ _
    rw [e]
    exact h0
end
/-- What holds of a value lasts. -/
def Lasts (r : World → Value → Prop) : Prop := ∀ W W' v, Upd [] W W' → r W v → r W' v
def isVal (c : Value) : World → Value → Prop := fun _ v => v = c
def isOne (lo : Nat) (cs : List Value) (t : TypeId) : World → Value → Prop := fun W v => ∃ g, v = .slice (some ⟨g, 0, none⟩) 1 1 ∧ lo ≤ g ∧ Blk W g cs t
theorem isVal_lasts (c : Value) : Lasts (isVal c) := fun _ _ _ _ h => h
theorem isOne_lasts (lo : Nat) (cs : List Value) (t : TypeId) : Lasts (isOne lo cs t) := fun _ _ _ hu ⟨g, e, h1, h2⟩ => ⟨g, e, h1, hu.blk h2 (by simp)⟩
structure PInv (Ws : World) (Rs : List (World → Value → Prop)) (d : Nat → Bool) (W : World) (l : List Value) : Prop where
  upd : Upd [] Ws W
  res : ∀ j r, Rs[j]? = some r → d j = true → r W (l.getD j undef)
theorem PInv.new {Ws : World} {Rs : List (World → Value → Prop)} {l : List Value} : PInv Ws Rs (fun _ => false) Ws.drew l := ⟨(Upd.refl [] Ws).drew, fun _ _ _ h => by cases h⟩
theorem PInv.put {Ws W W' : World} {Rs : List (World → Value → Prop)} {d : Nat → Bool} {l : List Value} (h : PInv Ws Rs d W l) (hl : ∀ r ∈ Rs, Lasts r) (i : Nat) {r : World → Value → Prop} (hr : Rs[i]? = some r) (hi : i < l.length) (hu : Upd [] W W') {v : Value} (hv : r W' v) : PInv Ws Rs (fun j => j == i || d j) W' (l.set i v) := by
  refine ⟨h.upd.then hu, fun j r' hj hd => ?_⟩
  by_cases e : j = i
  · subst e
    rw [hr] at hj
    injection hj with hj
    subst hj
    simpa [List.getD_eq_getElem?_getD, hi] using hv
  · have hd' : d j = true := by simpa [e] using hd
    have h2 := hl r' (List.mem_of_getElem? hj) _ _ _ hu (h.res j r' hj hd')
    rw [List.getD_eq_getElem?_getD, List.getElem?_set_ne (fun x => e x.symm), ← List.getD_eq_getElem?_getD]
    exact h2
end Go.Proofs.YtknbgbeepachgaaDoor

/-
  pavanelaw03.all: what its loop leans on.
-/
namespace Go.Proofs.YtknbgbeepachgaaDoor
open Go.RowKit Go.Shelf

set_option maxRecDepth 100000 in
theorem seq_nil (W : World) (b : Nat) : (binOp .eql 102 (.func (.func 59) #[] #[.pointer (some ⟨b, 0, none⟩)]) Value.nilFunc).run Tryd.prog W = .ok (.bool false) W := by
  first
    | rfl
    | kernel_rfl
    | (simp [binOp, go_sem]; done)
/-- What the loop that gathers leans on: most's box, the list's box, the list. -/
structure ARel (w W4 : World) (most : Int) (n : Nat) (lv : Value) (ys : List (Cd w w.heap.size n)) (W : World) : Prop where
  mst : Blk W (w.heap.size + 1) [.int .i64 most] 3
  box : Blk W (w.heap.size + 1 + 1 + 1) [lv] 24
  own : W.ownsRow W4.heap.size 56 7 lv ys.length (ys.map (fun y => y.1.1)).flatten
  upd : Upd [] w W
  lt : W4.heap.size ≤ W.heap.size
section
variable {w W4 W W' : World} {most : Int} {n : Nat} {lv : Value} {ys : List (Cd w w.heap.size n)}
theorem ARel.row (h : ARel w W4 most n lv ys W) : rowAt (w.heap.size + 1 + 1 + 1) W = lv.ownBlock := by
  unfold rowAt
  rw [h.box.cell_some (i := 0) rfl]
theorem ARel.ok (h : ARel w W4 most n lv ys W) (hz : w.heap.size + 4 ≤ W4.heap.size) : RowOk w.heap.size (w.heap.size + 1 + 1 + 1) W := by
  have hb := h.box.lt
  refine ⟨⟨by omega, hb⟩, fun r hr => ?_⟩
  rw [h.row] at hr
  have := h.own.lt r hr
  omega
theorem ARel.step (h : ARel w W4 most n lv ys W) (hu : Upd [] W W') : ARel w W4 most n lv ys W' :=
  ⟨hu.blk h.mst (by simp), hu.blk h.box (by simp), own_upd0 h.own hu, h.upd.then hu, Nat.le_trans h.lt hu.size⟩
theorem ARel.noCell {row : Option Nat} (h : ARel w W4 most n lv ys W) (hz : w.heap.size + 4 ≤ W4.heap.size) (hg : W.grownBy W' row) (hr : ∀ r, row = some r → W4.heap.size ≤ r ∧ ∃ o : Obj, W.heap[r]? = some o ∧ o.isCells = false) : ARel w W4 most n lv ys W' := by
  have hu : Upd row.toList W W' := Upd.of_grown hg (fun k hk => by simp [hk])
  refine ⟨h.mst.noCell hg (fun r e => (hr r e).2), h.box.noCell hg (fun r e => (hr r e).2), own_upd h.own hu (fun g hg' hx => ?_), h.upd.onto hu (fun x hx => ?_), Nat.le_trans h.lt hg.size⟩
  · obtain ⟨ob, e1, e2⟩ := (hr g (by simpa using hx)).2
    rcases h.own.2 with ⟨e, _⟩ | ⟨g', cap, cur, e, _, hgg, _⟩
    · rw [e] at hg'
      cases hg'
    · rw [e] at hg'
      injection hg' with hg'
      subst hg'
      rw [hgg] at e1
      cases e1
      cases e2
  · have := (hr x (by simpa using hx)).1
    omega
theorem KW.putObj {n₀ lb l : Nat} {W : World} {o o' : Obj} (hl : n₀ ≤ l) (hlb : lb < l) (ho : W.heap[l]? = some o) (hc : o.isCells = false) : KW n₀ lb W (W.putObj l o') := by
  have hg := grownBy_putObj' W l o'
  have hlt := (Array.getElem?_eq_some_iff.1 ho).1
  have hne : ∀ k ob, W.heap[k]? = some ob → ob.isCells = true → k ≠ l := by
    intro k ob h1 h2 e
    subst e
    rw [ho] at h1
    cases h1
    rw [hc] at h2
    cases h2
  exact ⟨Below.mk hg.os hg.tape hg.output hg.size (fun k hk => hg.block k (by omega) (fun e => by injection e with e; omega)), fun k ob _ _ h1 h2 => (hg.block k (Array.getElem?_eq_some_iff.1 h1).1 (fun e => hne k ob h1 h2 (by injection e))).trans h1, .inl (rowAt_same (hg.block lb (by omega) (fun e => by injection e with e; omega)))⟩
/-- Behind a round that appends. -/
theorem ARel.next {lv' : Value} {x : Cd w w.heap.size n} (h : ARel w W4 most n lv ys W) (hz : w.heap.size + 4 ≤ W4.heap.size) (hu : Upd ((w.heap.size + 1 + 1 + 1) :: lv.ownBlock.toList) W W') (hb : Blk W' (w.heap.size + 1 + 1 + 1) [lv'] 24)
    (hO : W'.ownsRow W4.heap.size 56 7 lv' (ys.length + 1) ((ys.map (fun y => y.1.1)).flatten ++ x.1.1)) (hg : lv'.ownBlock = lv.ownBlock ∨ ∃ g, lv'.ownBlock = some g ∧ W.heap.size ≤ g) :
    KeepsFrom W4.heap.size W W' ∧ KW w.heap.size (w.heap.size + 1 + 1 + 1) W W' ∧ ARel w W4 most n lv' (ys ++ [x]) W' := by
  have hlo : ∀ k, lv.ownBlock = some k → W4.heap.size ≤ k ∧ k < W.heap.size := h.own.lt
  have hn : ∀ b, b < W4.heap.size → b ≠ w.heap.size + 1 + 1 + 1 → b ∉ (w.heap.size + 1 + 1 + 1) :: lv.ownBlock.toList := by
    intro b hb hne hx
    rcases List.mem_cons.1 hx with h | h
    · exact hne h
    · have := (hlo b (by simpa using h)).1
      omega
  have hz2 := h.upd.size
  have hlt := h.lt
  refine ⟨⟨hu.size, fun k o hk hko hc => ?_⟩, ⟨Below.mk hu.os hu.tape hu.output hu.size (fun k hk => hu.block k (by omega) (hn k (by omega) (by omega))), fun k o h1 h2 hko _ => ?_, ?_⟩, ⟨hu.blk h.mst (hn _ (by omega) (by omega)), hb, by simpa using hO, h.upd.onto hu (fun k hk => ?_), Nat.le_trans h.lt hu.size⟩⟩
  · refine (hu.block k (Array.getElem?_eq_some_iff.1 hko).1 (fun hx => ?_)).trans hko
    rcases List.mem_cons.1 hx with e | e
    · omega
    · have hk' : lv.ownBlock = some k := by simpa using e
      rcases h.own.2 with ⟨e, _⟩ | ⟨g', cap', cur, e, _, hgg, _⟩
      · rw [e] at hk'
        cases hk'
      · rw [e] at hk'
        injection hk' with hk'
        subst hk'
        rw [hgg] at hko
        cases hko
        cases hc
  · rw [h.row] at h2
    refine (hu.block k (Array.getElem?_eq_some_iff.1 hko).1 (fun hx => ?_)).trans hko
    rcases List.mem_cons.1 hx with e | e
    · exact h1 e
    · exact h2 (by simpa using e)
  · have e : rowAt (w.heap.size + 1 + 1 + 1) W' = lv'.ownBlock := by
      unfold rowAt
      rw [hb.cell_some (i := 0) rfl]
    rw [e, h.row]
    rcases hg with hg | ⟨g, hg, h2⟩
    · exact .inl hg
    · exact .inr ⟨g, hg, by omega, h2, (hO.lt g hg).2⟩
  · rcases List.mem_cons.1 hk with e | e
    · omega
    · have := (hlo k (by simpa using e)).1
      omega
end
end Go.Proofs.YtknbgbeepachgaaDoor
