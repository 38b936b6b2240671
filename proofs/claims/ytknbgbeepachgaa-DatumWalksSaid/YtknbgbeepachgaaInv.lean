/-
  A region that draws its order, held by what each of its operations leaves: one step for each operation, not for each order.
-/
import Derived.Test.YtknbgbeepachgaaDatR
namespace Go.Proofs.Ytknbgbeepachgaa
open Go.RowKit

section
variable {P : Program} {ops : Array Oper} {Q : Exit → Act → World → Prop}

/-- What an operation waits for. -/
def depsOf (ops : Array Oper) (i : Nat) : List Nat := match ops[i]? with | some o => (o.after.toList.filter (Region.binds .any)).map (·.on) | none => []
/-- What must have run when it may, so many levels deep. -/
def needsOf (ops : Array Oper) : Nat → Nat → List Nat
  | 0, _ => []
  | f + 1, i => depsOf ops i ++ (depsOf ops i).flatMap (needsOf ops f)
/-- The operations from m on stand in order, behind all before. -/
def cutAt (ops : Array Oper) (m f : Nat) : Bool :=
  decide (m ≤ ops.size) && (List.range ops.size).all (fun i => (depsOf ops i).all (fun j => decide (j < i)) && (decide (i ≤ m) || (depsOf ops i).contains (i - 1))) && (m == ops.size || (List.range m).all (fun j => (needsOf ops f m).contains j))
def StepOk (P : Program) (ops : Array Oper) (Q : Exit → Act → World → Prop) (I : (Nat → Bool) → Act → World → Prop) (i : Nat) : Prop :=
  ∀ o, ops[i]? = some o → ∀ d a w, I d a w → d i = false → (∀ j ∈ depsOf ops i, d j = true) → ∀ K : Act → World → Prop, (∀ a w, I (fun j => j == i || d j) a w → K a w) →
    if Region.wanted o (yielded ops a.tmps) = true then Oper.wp P o a w K Q else K (a.put o.dst undef) w
def StepsOk (P : Program) (ops : Array Oper) (Q : Exit → Act → World → Prop) (I : (Nat → Bool) → Act → World → Prop) (is : List Nat) : Prop := ∀ i ∈ is, StepOk P ops Q I i
theorem StepsOk.nil {I : (Nat → Bool) → Act → World → Prop} : StepsOk P ops Q I [] := fun _ h => by cases h
theorem StepsOk.cons {I : (Nat → Bool) → Act → World → Prop} {i : Nat} {o : Oper} {js is : List Nat} (ho : ops[i]? = some o) (hj : depsOf ops i = js)
    (h : ∀ d a w, I d a w → d i = false → (∀ j ∈ js, d j = true) → ∀ K : Act → World → Prop, (∀ a w, I (fun j => j == i || d j) a w → K a w) → if Region.wanted o (yielded ops a.tmps) = true then Oper.wp P o a w K Q else K (a.put o.dst undef) w)
    (hs : StepsOk P ops Q I is) : StepsOk P ops Q I (i :: is) := fun j hjm => by
  rcases List.mem_cons.1 hjm with rfl | hjm
  · intro o' ho' d a w hI hd hdeps K hK
    rw [ho] at ho'
    injection ho' with ho'
    subst ho'
    rw [hj] at hdeps
    exact h d a w hI hd hdeps K hK
  · exact hs j hjm
theorem mem_ready {listed : Array Bool} {i : Nat} (h : i ∈ Region.ready .any ops listed) : i < ops.size ∧ listed.getD i true = false ∧ ∀ j ∈ depsOf ops i, listed.getD j false = true := by
  unfold Region.ready at h
  obtain ⟨h1, h2⟩ := List.mem_filter.1 h
  have h1 := List.mem_range.1 h1
  simp only [Bool.and_eq_true, Bool.not_eq_true'] at h2
  obtain ⟨h3, h4⟩ := h2
  refine ⟨h1, h3, fun j hj => ?_⟩
  unfold depsOf at hj
  rw [Array.getElem?_eq_getElem h1] at h4 hj
  simp only [Option.map_some, Option.getD_some, Array.all_eq_true'] at h4
  obtain ⟨e, he, rfl⟩ := List.mem_map.1 hj
  obtain ⟨he1, he2⟩ := List.mem_filter.1 he
  have := h4 e (by simpa using he1)
  simpa [he2] using this
theorem ready_mem {listed : Array Bool} {i : Nat} (h1 : i < ops.size) (h2 : listed.getD i true = false) (h3 : ∀ j ∈ depsOf ops i, listed.getD j false = true) : i ∈ Region.ready .any ops listed := by
  unfold Region.ready
  refine List.mem_filter.2 ⟨List.mem_range.2 h1, ?_⟩
  unfold depsOf at h3
  rw [Array.getElem?_eq_getElem h1] at h3 ⊢
  simp only [h2, Bool.not_false, Bool.true_and, Option.map_some, Option.getD_some, Array.all_eq_true']
  intro e he
  by_cases hb : Region.binds .any e = true
  · have := h3 e.on (List.mem_map.2 ⟨e, List.mem_filter.2 ⟨by simpa using he, hb⟩, rfl⟩)
    simp [this]
  · simp [hb]
theorem getD_flip {listed : Array Bool} {i : Nat} (h : i < listed.size) : listed.getD i true = listed.getD i false := by
  simp [Array.getD, h]
theorem getD_set {listed : Array Bool} {i j : Nat} (h : i < listed.size) : (listed.setIfInBounds i true).getD j false = (j == i || listed.getD j false) := by
  by_cases e : j = i
  · subst e
    simp [h]
  · have e' : ¬ i = j := fun h => e h.symm
    simp only [Array.getD_eq_getD_getElem?, Array.getElem?_setIfInBounds]
    rw [if_neg e']
    simp [e]
def Shut (ops : Array Oper) (listed : Array Bool) : Prop := ∀ i, listed.getD i false = true → ∀ j ∈ depsOf ops i, listed.getD j false = true
theorem Shut.needs {listed : Array Bool} (h : Shut ops listed) : ∀ f i, (∀ j ∈ depsOf ops i, listed.getD j false = true) → ∀ j ∈ needsOf ops f i, listed.getD j false = true
  | 0, _, _, j, hj => by simp [needsOf] at hj
  | f + 1, i, hd, j, hj => by
    rw [needsOf] at hj
    rcases List.mem_append.1 hj with hj | hj
    · exact hd j hj
    · obtain ⟨k, hk, hj⟩ := List.mem_flatMap.1 hj
      exact h.needs f k (h k (hd k hk)) j hj
theorem Shut.set {listed : Array Bool} {i : Nat} (h : Shut ops listed) (hi : i < listed.size) (hd : ∀ j ∈ depsOf ops i, listed.getD j false = true) : Shut ops (listed.setIfInBounds i true) := by
  intro k hk j hj
  rw [getD_set hi] at hk ⊢
  simp only [Bool.or_eq_true, beq_iff_eq] at hk ⊢
  rcases hk with rfl | hk
  · exact .inr (hd j hj)
  · exact .inr (h k hk j hj)
theorem wpAny_seq {m f : Nat} (hc : cutAt ops m f = true) : ∀ (k s fuel : Nat) (listed : Array Bool) (a : Act) (w : World), listed.size = ops.size → m ≤ s → s + k = ops.size → k ≤ fuel → (∀ j, j < ops.size → (listed.getD j false = true ↔ j < s)) →
    wpOps P ops Q (List.range' s k) a w → wpAny P .any ops Q fuel listed a w := by
  unfold cutAt at hc
  simp only [Bool.and_eq_true, decide_eq_true_eq, List.all_eq_true, List.mem_range, Bool.or_eq_true, List.contains_iff_mem] at hc
  obtain ⟨⟨hm, hdeps⟩, _⟩ := hc
  intro k
  induction k with
  | zero =>
    intro s fuel listed a w hl hms hsk hf hls h
    refine wpAny_done ?_ (by simpa [wpOps] using h) fuel
    rw [List.eq_nil_iff_forall_not_mem]
    intro i hi
    obtain ⟨h1, h2, _⟩ := mem_ready hi
    rw [getD_flip (by omega), (hls i h1).2 (by omega)] at h2
    cases h2
  | succ k ih =>
    intro s fuel listed a w hl hms hsk hf hls h
    obtain ⟨fuel, rfl⟩ : ∃ g, fuel = g + 1 := ⟨fuel - 1, by omega⟩
    have hs : s < ops.size := by omega
    refine wpAny_all (rs := [s]) ?_ (by simp) ?_
    · have hmem : ∀ i, i ∈ Region.ready .any ops listed ↔ i = s := by
        intro i
        constructor
        · intro hi
          obtain ⟨h1, h2, h3⟩ := mem_ready hi
          rw [getD_flip (by omega)] at h2
          by_cases hlt : i < s
          · rw [(hls i h1).2 hlt] at h2
            cases h2
          · by_cases heq : i = s
            · exact heq
            · have h4 := ((hdeps i h1).2).resolve_left (by omega)
              have h5 := (hls (i - 1) (by omega)).1 (h3 (i - 1) h4)
              omega
        · rintro rfl
          refine ready_mem hs ?_ (fun j hj => ?_)
          · rw [getD_flip (by omega)]
            cases hx : listed.getD i false with
            | false => rfl
            | true => exact absurd ((hls i hs).1 hx) (by omega)
          · have := (hdeps i hs).1 j hj
            exact (hls j (by omega)).2 this
      have hnd : (Region.ready .any ops listed).Nodup := by
        unfold Region.ready
        exact List.Pairwise.filter _ List.nodup_range
      generalize Region.ready .any ops listed = l at *
      match l, hnd, hmem with
      | [], _, hmem => exact absurd ((hmem s).2 rfl) (by simp)
      | [x], _, hmem => rw [(hmem x).1 (by simp)]
      | x :: y :: t, hnd, hmem =>
        have hx := (hmem x).1 (by simp)
        have hy := (hmem y).1 (by simp)
        rw [hx, hy] at hnd
        simp at hnd
    · intro i hi
      have hi : i = s := by simpa using hi
      subst hi
      rw [List.range'_succ, wpOps_cons] at h
      refine wpOp_mono (fun a w h => ih (i + 1) fuel _ a w (by simpa using hl) (by omega) (by omega) (by omega) (fun j hj => ?_) h) h
      rw [getD_set (by omega)]
      simp only [Bool.or_eq_true, beq_iff_eq, hls j hj]
      omega
theorem wpAny_inv {I : (Nat → Bool) → Act → World → Prop} {m f : Nat} (hc : cutAt ops m f = true) (hsteps : StepsOk P ops Q I (List.range m)) (hrest : ∀ d a w, I d a w → (∀ j, j < m → d j = true) → wpOps P ops Q (List.range' m (ops.size - m)) a w) :
    ∀ (fuel : Nat) (listed : Array Bool) (a : Act) (w : World), listed.size = ops.size → (List.range ops.size).countP (fun j => !listed.getD j false) ≤ fuel → Shut ops listed → (∀ j, m ≤ j → listed.getD j false = false) → I (fun j => listed.getD j false) a w → wpAny P .any ops Q fuel listed a w := by
  have hc0 := hc
  unfold cutAt at hc
  simp only [Bool.and_eq_true, decide_eq_true_eq, List.all_eq_true, List.mem_range, Bool.or_eq_true, List.contains_iff_mem] at hc
  obtain ⟨⟨hm, hdeps⟩, hneed⟩ := hc
  intro fuel
  induction fuel with
  | zero =>
    intro listed a w hl hcnt hsh hA hI
    have hall : ∀ j, j < ops.size → listed.getD j false = true := by
      intro j hj
      have h0 : (List.range ops.size).countP (fun j => !listed.getD j false) = 0 := by omega
      rw [List.countP_eq_zero] at h0
      have := h0 j (List.mem_range.2 hj)
      simpa using this
    have hms : m = ops.size := by
      rcases Nat.lt_or_ge m ops.size with h | h
      · have := hall m h
        rw [hA m (Nat.le_refl _)] at this
        cases this
      · omega
    have hr := hrest _ a w hI (fun j hj => hall j (by omega))
    exact wpAny_seq hc0 (ops.size - m) m 0 listed a w hl (Nat.le_refl _) (by omega) (by omega) (fun j hj => ⟨fun _ => by omega, fun _ => hall j hj⟩) hr
  | succ fuel ih =>
    intro listed a w hl hcnt hsh hA hI
    by_cases hall : ∀ j, j < m → listed.getD j false = true
    · have hr := hrest _ a w hI hall
      refine wpAny_seq hc0 (ops.size - m) m (fuel + 1) listed a w hl (Nat.le_refl _) (by omega) ?_ (fun j hj => ⟨fun h => ?_, fun h => hall j h⟩) hr
      · have h1 : (List.range' m (ops.size - m)).countP (fun j => !listed.getD j false) = ops.size - m := by
          have h2 : (List.range' m (ops.size - m)).countP (fun j => !listed.getD j false) = (List.range' m (ops.size - m)).length := by
            rw [List.countP_eq_length]
            intro j hj
            obtain ⟨h3, h4⟩ := List.mem_range'_1.1 hj
            rw [hA j h3]
            rfl
          rw [h2, List.length_range']
        have h2 : (List.range ops.size).countP (fun j => !listed.getD j false) ≥ (List.range' m (ops.size - m)).countP (fun j => !listed.getD j false) := by
          rw [List.range_eq_range', show ops.size = m + (ops.size - m) by omega, ← List.range'_append_1, List.countP_append]
          rw [show m + (ops.size - m) - m = ops.size - m by omega, Nat.zero_add]
          omega
        omega
      · rcases Nat.lt_or_ge j m with h1 | h1
        · exact h1
        · rw [hA j h1] at h
          cases h
    · have hne : ∀ i ∈ Region.ready .any ops listed, i < m := by
        intro i hi
        obtain ⟨h1, h2, h3⟩ := mem_ready hi
        rcases Nat.lt_or_ge i m with h | h
        · exact h
        · exfalso
          by_cases heq : i = m
          · subst heq
            rcases hneed with hn | hn
            · simp at hn
              omega
            · exact hall fun j hj => hsh.needs f i h3 j (hn j hj)
          · have h4 := ((hdeps i h1).2).resolve_left (by omega)
            have h5 := h3 (i - 1) h4
            rw [hA (i - 1) (by omega)] at h5
            cases h5
      refine ⟨fun h0 => ?_, fun i hi => ?_⟩
      · exfalso
        refine hall fun j hj => ?_
        suffices hj' : ∀ k j, j < k → j < m → listed.getD j false = true from hj' (j + 1) j (by omega) hj
        intro k
        induction k with
        | zero => intro j hj; omega
        | succ k ihk =>
          intro j hjk hjm
          by_cases hlt : j < k
          · exact ihk j hlt hjm
          · cases hx : listed.getD j false with
            | true => rfl
            | false =>
              have : j ∈ Region.ready .any ops listed := ready_mem (by omega) (by rw [getD_flip (by omega)]; exact hx) (fun i hi => by
                have := (hdeps j (by omega)).1 i hi
                exact ihk i (by omega) (by omega))
              rw [h0] at this
              cases this
      · have him := hne i hi
        obtain ⟨h1, h2, h3⟩ := mem_ready hi
        rw [getD_flip (by omega)] at h2
        refine wpOp_step (Array.getElem?_eq_getElem h1) (fun K' hK' => hsteps i (List.mem_range.2 him) _ (Array.getElem?_eq_getElem h1) _ a w hI h2 h3 K' (fun a' w' hI' => hK' a' w' ?_))
        refine ih _ a' w' (by simpa using hl) ?_ (hsh.set (by omega) h3) (fun j hj => ?_) ?_
        · have hdec : (List.range ops.size).countP (fun j => !(listed.setIfInBounds i true).getD j false) < (List.range ops.size).countP (fun j => !listed.getD j false) := by
            have hgen : ∀ l : List Nat, i ∈ l → l.countP (fun j => !(listed.setIfInBounds i true).getD j false) < l.countP (fun j => !listed.getD j false) := by
              intro l
              have hle : ∀ l : List Nat, l.countP (fun j => !(listed.setIfInBounds i true).getD j false) ≤ l.countP (fun j => !listed.getD j false) := by
                intro l
                refine List.countP_mono_left fun j _ hj => ?_
                rw [getD_set (by omega)] at hj
                simp only [Bool.not_eq_true', Bool.or_eq_false_iff] at hj ⊢
                exact hj.2
              induction l with
              | nil => intro h; cases h
              | cons x l ihl =>
                intro hx
                rw [List.countP_cons, List.countP_cons]
                rcases List.mem_cons.1 hx with rfl | hx
                · have := hle l
                  rw [getD_set (by omega), h2, if_neg (by simp), if_pos (by simp)]
                  omega
                · have := ihl hx
                  have h7 : (if (!(listed.setIfInBounds i true).getD x false) = true then 1 else 0) ≤ (if (!listed.getD x false) = true then 1 else 0) := by
                    rw [getD_set (by omega)]
                    cases listed.getD x false <;> cases (x == i) <;> simp
                  omega
            exact hgen _ (List.mem_range.2 h1)
          omega
        · rw [getD_set (by omega), hA j hj]
          have : ¬ j = i := by omega
          simp [this]
        · have e : (fun j => (listed.setIfInBounds i true).getD j false) = (fun j => j == i || listed.getD j false) := by
            funext j
            exact getD_set (by omega)
          rw [e]
          exact hI'
theorem getD_none (n j : Nat) : (Array.replicate n false).getD j false = false := by
  simp [Array.getD]
/-- A region, by what its first m operations leave, in whatever order they run. -/
theorem wp_region_inv {id : Nat} {a : Act} {w : World} (m f : Nat) (I : (Nat → Bool) → Act → World → Prop) (hm : P.follows .mixedOrders = true) (hc : cutAt ops m f = true) (h0 : I (fun _ => false) a w.drew)
    (hsteps : StepsOk P ops Q I (List.range m)) (hrest : ∀ d a w, I d a w → (∀ j, j < m → d j = true) → wpList P ops Q (ops.toList.drop m) a w) : (Code.region id ops true).wp P Q a w := by
  have hrest : ∀ d a w, I d a w → (∀ j, j < m → d j = true) → wpOps P ops Q (List.range' m (ops.size - m)) a w := fun d a w h1 h2 => by
    have := wpOps_eq_wpList (P := P) (ops := ops) (Q := Q) (ops.toList.drop m) m (fun j => by simp)
    rw [List.length_drop, Array.length_toList] at this
    rw [this]
    exact hrest d a w h1 h2
  refine wp_region_any hm ?_
  refine wpAny_inv hc hsteps hrest ops.size _ a _ (by simp) ?_ (fun i hi => ?_) (fun j _ => getD_none _ _) ?_
  · have := List.countP_le_length (p := fun j => !(Array.replicate ops.size false).getD j false) (l := List.range ops.size)
    rw [List.length_range] at this
    exact this
  · rw [getD_none] at hi
    cases hi
  · have e : (fun j => (Array.replicate ops.size false).getD j false) = fun _ => false := by
      funext j
      exact getD_none _ _
    rw [e]
    exact h0
end
/-- What an operation leaves: a value, or a datum in memory. -/
inductive Lv where
  | val (c : Value)
  | dat (n : Nat) (x : Dat)
def Lv.holds (W : World) : Lv → Value → Prop
  | .val c, v => v = c
  | .dat n x, v => ∃ cs, v = .agg cs.toArray ∧ IsD W (fun _ => True) n cs x
theorem Lv.holds.upd {W W' : World} {r : Lv} {v : Value} (h : r.holds W v) (hu : Upd [] W W') : r.holds W' v := by
  cases r with
  | val c => exact h
  | dat n x =>
    obtain ⟨cs, e, h⟩ := h
    exact ⟨cs, e, h.upd hu⟩
/-- What the operations that ran have left. -/
structure RInv (Ws : World) (Rs : List Lv) (d : Nat → Bool) (W : World) (l : List Value) : Prop where
  upd : Upd [] Ws W
  res : ∀ j r, Rs[j]? = some r → d j = true → r.holds W (l.getD j undef)
theorem RInv.new {Ws : World} {Rs : List Lv} {l : List Value} : RInv Ws Rs (fun _ => false) Ws.drew l := ⟨(Upd.refl [] Ws).drew, fun _ _ _ h => by cases h⟩
theorem RInv.put {Ws W W' : World} {Rs : List Lv} {d : Nat → Bool} {l : List Value} (h : RInv Ws Rs d W l) (i : Nat) {r : Lv} (hr : Rs[i]? = some r) (hi : i < l.length) (hu : Upd [] W W') {v : Value} (hv : r.holds W' v) : RInv Ws Rs (fun j => j == i || d j) W' (l.set i v) := by
  refine ⟨h.upd.then hu, fun j r' hj hd => ?_⟩
  by_cases e : j = i
  · subst e
    rw [hr] at hj
    injection hj with hj
    subst hj
    simpa [List.getD_eq_getElem?_getD, hi] using hv
  · have hd' : d j = true := by simpa [e] using hd
    have h2 := (h.res j r' hj hd').upd hu
    rw [List.getD_eq_getElem?_getD, List.getElem?_set_ne (fun x => e x.symm), ← List.getD_eq_getElem?_getD]
    exact h2
theorem RInv.keep {Ws W : World} {Rs : List Lv} {d : Nat → Bool} {l : List Value} (h : RInv Ws Rs d W l) (i : Nat) {r : Lv} (hr : Rs[i]? = some r) (hi : i < l.length) {v : Value} (hv : r.holds W v) : RInv Ws Rs (fun j => j == i || d j) W (l.set i v) := h.put i hr hi (Upd.refl [] W) hv
end Go.Proofs.Ytknbgbeepachgaa
