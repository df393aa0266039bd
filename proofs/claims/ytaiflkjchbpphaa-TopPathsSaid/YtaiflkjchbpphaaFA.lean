/- Drawn regions in which some operations make or write new memory. -/
import Derived.Test.YtaiflkjchbpphaaGrow2
namespace Go.Proofs.Ytaiflkjchbpphaa.F
open Go

section
variable {P : Program} {ops : Array Oper} {md : Region.Mode}

/-- What an operation leaves. -/
def flowUpon (P : Program) (R : Value → World → Prop) : Result Next → Prop
  | .ok (.value u) w' => R u w'
  | .ok .skip w' => R undef w'
  | .ok (.enter f args) w' => Calls P f args w' (fun e w'' => ∃ v, e = .returned v ∧ R v w'')
  | _ => False

theorem put_same {a : Act} {d : Nat} {v : Value} (h : d < a.tmps.size) : (a.put (some d) v).tmps[d]? = some v := by
  simp [Act.put, h]
theorem put_other {a : Act} {d t : Nat} {v : Value} (h : d ≠ t) : (a.put (some d) v).tmps[t]? = a.tmps[t]? := by
  simp [Act.put, Array.getElem?_setIfInBounds_ne h]
theorem put_size {a : Act} {d : Nat} {v : Value} : (a.put (some d) v).tmps.size = a.tmps.size := by simp [Act.put]
theorem put_def {a : Act} {d : Nat} {v : Value} : (a.put (some d) v).defers = a.defers := rfl

theorem wanted_none {o : Oper} (h : o.guard = none) (y : Nat → Option Bool) : Region.wanted o y = true := by
  simp [Region.wanted, h]

theorem quiet_put {C : World → Prop} {aF : Act} : ∀ (l : List Oper) (a : Act), (∀ o ∈ l, o.guard = none ∧ ∃ d, o.dst = some d) → wpQuiet P ops C (fun b => b = aF) l a →
    aF.tmps.size = a.tmps.size ∧ aF.defers = a.defers ∧ ∀ t, (∀ o ∈ l, o.dst ≠ some t) → aF.tmps[t]? = a.tmps[t]?
  | [], a, _, h => by cases h; exact ⟨rfl, rfl, fun _ _ => rfl⟩
  | o :: l, a, hg, h => by
    obtain ⟨g1, d, hd⟩ := hg o (by simp)
    simp only [wpQuiet, wanted_none g1, if_true] at h
    obtain ⟨v, -, h2⟩ := h
    obtain ⟨i1, i2, i3⟩ := quiet_put l _ (fun o' ho' => hg o' (by simp [ho'])) h2
    rw [hd] at i1 i2 i3
    refine ⟨by rw [i1, put_size], by rw [i2, put_def], fun t ht => ?_⟩
    rw [i3 t (fun o' ho' => ht o' (by simp [ho']))]
    exact put_other (fun e => ht o (by simp) (by rw [hd, e]))

theorem quiet_at {C : World → Prop} {aF : Act} : ∀ (l : List Oper) (a : Act), (∀ o ∈ l, o.guard = none ∧ ∃ d, o.dst = some d) → wpQuiet P ops C (fun b => b = aF) l a →
    ∀ (i : Nat) (o : Oper) (d : Nat), l[i]? = some o → o.dst = some d → d < a.tmps.size → (∀ cs b, o.op ≠ .select cs b) → (∀ t, Operand.tmp t ∈ o.op.operands → ∀ j o', i ≤ j → l[j]? = some o' → o'.dst ≠ some t) →
    (∀ j o', i < j → l[j]? = some o' → o'.dst ≠ some d) → ∀ w, C w → o.quietAt P aF C w (aF.tmps.getD d undef)
  | [], a, _, _ => by intro i o d hi; simp at hi
  | o1 :: l, a, hg, h => by
    obtain ⟨g1, d1, hd1⟩ := hg o1 (by simp)
    have hg' : ∀ o ∈ l, o.guard = none ∧ ∃ d, o.dst = some d := fun o' ho' => hg o' (by simp [ho'])
    simp only [wpQuiet, wanted_none g1, if_true] at h
    obtain ⟨v, h1, h2⟩ := h
    have hk := quiet_put l _ hg' h2
    intro i o d hi hd hdz hns hop hnd w hw
    cases i with
    | zero =>
      simp only [List.getElem?_cons_zero, Option.some.injEq] at hi
      subst hi
      obtain rfl : d1 = d := by rw [hd1] at hd; exact Option.some.inj hd
      rw [hd] at hk h2
      have hnl : ∀ o' ∈ l, o'.dst ≠ some d1 := fun o' ho' => by
        obtain ⟨j, hj, rfl⟩ := List.getElem_of_mem ho'
        exact hnd (j + 1) _ (by omega) (by simp [List.getElem?_eq_getElem hj])
      have hv : aF.tmps.getD d1 undef = v := by
        have := hk.2.2 d1 hnl
        rw [put_same hdz] at this
        simp [this]
      have hx : execOp aF.eval o1 = execOp a.eval o1 := execOp_congr o1 hns fun x hx => by
        cases x with
        | tmp t =>
          have e1 : d1 ≠ t := fun e => hop t hx 0 o1 (Nat.le_refl _) rfl (by rw [hd, e])
          have e2 := hk.2.2 t (fun o' ho' => by
            obtain ⟨j, hj, rfl⟩ := List.getElem_of_mem ho'
            exact hop t hx (j + 1) _ (by omega) (by simp [List.getElem?_eq_getElem hj]))
          rw [put_other e1] at e2
          simp only [Act.eval, Array.getD_eq_getD_getElem?, e2]
        | _ => rfl
      have := h1 w hw
      unfold Oper.quietAt at this ⊢
      rw [hx, hv]
      exact this
    | succ i =>
      rw [List.getElem?_cons_succ] at hi
      refine quiet_at l _ hg' h2 i o d hi hd (by rw [hd1, put_size]; exact hdz) hns (fun t ht j o' hj hj' => hop t ht (j + 1) o' (by omega) (by simpa using hj')) (fun j o' hj hj' => hnd (j + 1) o' (by omega) (by simpa using hj')) w hw

/-! ### the check over a region -/
def dstAt (ops : Array Oper) (i : Nat) : Option Nat := (ops[i]?).bind (·.dst)
def flowB (md : Region.Mode) (ops : Array Oper) (n : Nat) (gs sp : List Nat) : Bool :=
  (List.range n).all fun i =>
    match ops[i]? with
    | none => false
    | some o => o.guard.isNone && o.dst.isSome && (sp.contains i || gs.all (fun t => o.dst != some t)) &&
      (List.range n).all (fun j => j == i || dstAt ops j != o.dst) &&
      o.after.all (fun e => !Region.binds md e || decide (e.on < i)) &&
      o.op.operands.all (fun x => match x with
        | .tmp t => (sp.contains i || !gs.contains t) && (List.range n).all (fun j => dstAt ops j != some t || (decide (j < i) && Region.waitsFor md ops i j))
        | _ => true)

structure FlowAt (md : Region.Mode) (ops : Array Oper) (n : Nat) (gs sp : List Nat) (i : Nat) (o : Oper) : Prop where
  guard : o.guard = none
  dst : ∃ d, o.dst = some d
  ghost : i ∈ sp ∨ ∀ t ∈ gs, o.dst ≠ some t
  uniq : ∀ j, j < n → j ≠ i → dstAt ops j ≠ o.dst
  back : ∀ e ∈ o.after, Region.binds md e = true → e.on < i
  reads : ∀ t, Operand.tmp t ∈ o.op.operands → (i ∈ sp ∨ t ∉ gs) ∧ ∀ j, j < n → dstAt ops j = some t → j < i ∧ Region.waitsFor md ops i j = true

theorem flowB_spec {n : Nat} {gs sp : List Nat} (h : flowB md ops n gs sp = true) (i : Nat) (hi : i < n) : ∃ o, ops[i]? = some o ∧ FlowAt md ops n gs sp i o := by
  have h1 := List.all_eq_true.1 h i (List.mem_range.2 hi)
  cases ho : ops[i]? with
  | none => rw [ho] at h1; cases h1
  | some o =>
    rw [ho] at h1
    simp only [Bool.and_eq_true] at h1
    obtain ⟨⟨⟨⟨⟨g1, g2⟩, g3⟩, g4⟩, g5⟩, g6⟩ := h1
    refine ⟨o, rfl, ?_, ?_, ?_, ?_, ?_, ?_⟩
    · simpa using g1
    · exact Option.isSome_iff_exists.1 g2
    · simp only [Bool.or_eq_true, List.contains_iff_mem, List.all_eq_true, bne_iff_ne] at g3
      exact g3
    · intro j hj hne
      have := List.all_eq_true.1 g4 j (List.mem_range.2 hj)
      simp only [Bool.or_eq_true, beq_iff_eq, bne_iff_ne] at this
      exact this.resolve_left hne
    · intro e he hb
      have := Array.all_eq_true_iff_forall_mem.1 g5 e he
      simpa [hb] using this
    · intro t ht
      have := Array.all_eq_true_iff_forall_mem.1 g6 _ ht
      simp only [Bool.and_eq_true, Bool.or_eq_true, List.contains_iff_mem, Bool.not_eq_true', List.all_eq_true, List.mem_range, bne_iff_ne, decide_eq_true_eq] at this
      refine ⟨this.1.imp id (fun h hm => ?_), fun j hj hd => (this.2 j hj).resolve_left (fun h => h hd)⟩
      rw [← List.contains_iff_mem, h] at hm
      cases hm

theorem flow_of_quiet {C : World → Prop} {w : World} {v : Value} {r : Result Next} {R : Value → World → Prop} (hw : C w) (hR : ∀ w', C w' → R v w') (h : Oper.quietUpon P C w v r) : flowUpon P R r := by
  cases r with
  | ok n w' =>
    cases n <;> simp only [Oper.quietUpon] at h <;> simp only [flowUpon]
    case value u => obtain ⟨rfl, rfl⟩ := h; exact hR _ hw
    case skip => obtain ⟨rfl, rfl⟩ := h; exact hR _ hw
    case enter f args => obtain ⟨rfl, hc⟩ := h; exact hc.mono fun e w'' ⟨he, hw''⟩ => ⟨v, he, hR _ hw''⟩
  | halt x w' => simp only [Oper.quietUpon] at h

theorem wpOp_of_flow {R : Value → World → Prop} {Q : Exit → Act → World → Prop} {i : Nat} {o : Oper} {a : Act} {w : World} {K : Act → World → Prop} (ho : ops[i]? = some o) (hg : o.guard = none)
    (hK : ∀ v w', R v w' → K (a.put o.dst v) w') (h : flowUpon P R ((execOp a.eval o).run P w)) : wpOp P ops Q i K a w := by
  unfold wpOp
  simp only [ho, wanted_none hg, if_true]
  refine .inl ?_
  unfold Oper.wp
  generalize (execOp a.eval o).run P w = r at *
  cases r with
  | ok n w' =>
    cases n <;> simp only [flowUpon] at h <;> simp only [Oper.upon]
    case value u => exact hK _ _ h
    case skip => exact hK _ _ h
    case enter f args => exact h.mono fun e w'' ⟨v, he, hr⟩ => by subst he; exact hK _ _ hr
  | halt x w' => simp only [flowUpon] at h

/-- A frame whose slots gs hold f. -/
def ghosted (aF : Act) (gs : List Nat) (f : Nat → Value) : Act := { aF with tmps := gs.foldl (fun ts d => ts.setIfInBounds d (f d)) aF.tmps }
theorem ghost_fold (f : Nat → Value) : ∀ (gs : List Nat) (ts : Array Value), (gs.foldl (fun ts d => ts.setIfInBounds d (f d)) ts).size = ts.size ∧ (∀ t, t ∉ gs → (gs.foldl (fun ts d => ts.setIfInBounds d (f d)) ts)[t]? = ts[t]?) ∧
    ∀ t, t ∈ gs → t < ts.size → (gs.foldl (fun ts d => ts.setIfInBounds d (f d)) ts)[t]? = some (f t)
  | [], ts => ⟨rfl, fun _ _ => rfl, fun t ht => by cases ht⟩
  | d :: gs, ts => by
    obtain ⟨h1, h2, h3⟩ := ghost_fold f gs (ts.setIfInBounds d (f d))
    refine ⟨by rw [List.foldl_cons, h1]; simp, fun t ht => ?_, fun t ht hs => ?_⟩
    · simp only [List.mem_cons, not_or] at ht
      rw [List.foldl_cons, h2 t ht.2, Array.getElem?_setIfInBounds_ne (Ne.symm ht.1)]
    · by_cases hm : t ∈ gs
      · rw [List.foldl_cons, h3 t hm (by simpa using hs)]
      · have : t = d := by simpa [hm] using ht
        subst this
        rw [List.foldl_cons, h2 t hm]
        simp [hs]

structure Inv (md : Region.Mode) (ops : Array Oper) (n : Nat) (gs : List Nat) (w0 : World) (aF : Act) (G : Nat → Value → World → Prop) (listed : Array Bool) (a : Act) (w : World) : Prop where
  head : HeadInv md ops n listed
  world : ∃ k m, w = ext w0 k m
  size : a.tmps.size = aF.tmps.size
  defers : a.defers = aF.defers
  out : ∀ t, (∀ j, j < n → dstAt ops j ≠ some t) → a.tmps[t]? = aF.tmps[t]?
  val : ∀ i t, i < n → listed.getD i false = true → dstAt ops i = some t → (t ∈ gs → G t (a.tmps.getD t undef) w) ∧ (t ∉ gs → a.tmps[t]? = aF.tmps[t]?)
  sep : ∀ i j t u, i < n → j < n → listed.getD i false = true → listed.getD j false = true → dstAt ops i = some t → dstAt ops j = some u → t ∈ gs → u ∈ gs → t ≠ u → a.tmps.getD t undef ≠ a.tmps.getD u undef

variable {n : Nat} {gs sp : List Nat} {w0 : World} {aF : Act} {G : Nat → Value → World → Prop} {listed : Array Bool} {a : Act} {w : World}

theorem Inv.frame (h : Inv md ops n gs w0 aF G listed a w) (hall : ∀ i, i < n → listed.getD i false = true) : a = ghosted aF gs (fun t => a.tmps.getD t undef) := by
  obtain ⟨f1, f2, f3⟩ := ghost_fold (fun t => a.tmps.getD t undef) gs aF.tmps
  cases a with | mk tmps defers =>
  unfold ghosted
  have hd := h.defers
  simp only at hd f1 f2 f3 ⊢
  rw [hd]
  congr 1
  apply Array.ext_getElem?
  intro t
  by_cases ht : t ∈ gs
  · by_cases hs : t < aF.tmps.size
    · rw [f3 t ht hs]
      have hs' : t < tmps.size := by have := h.size; simp only at this; omega
      simp [hs']
    · rw [Array.getElem?_eq_none (by have := h.size; simp only at this; omega), Array.getElem?_eq_none (by rw [f1]; omega)]
  · rw [f2 t ht]
    by_cases hex : ∃ j, j < n ∧ dstAt ops j = some t
    · obtain ⟨j, hj, hjt⟩ := hex
      exact (h.val j t hj (hall j hj) hjt).2 ht
    · exact h.out t (fun j hj e => hex ⟨j, hj, e⟩)

theorem Inv.step (h : Inv md ops n gs w0 aF G listed a w) (hG : ∀ t v k m k' m', G t v (ext w0 k m) → G t v (ext (ext w0 k m) k' m')) {i d : Nat} {o : Oper} (ho : ops[i]? = some o) (hi : i < n) (hd : o.dst = some d) (hds : d < aF.tmps.size)
    (huniq : ∀ j, j < n → j ≠ i → dstAt ops j ≠ o.dst) (hr : i ∈ Region.ready md ops listed) {v : Value} {w' : World}
    (hv : (d ∈ gs → G d v w' ∧ ∀ t u, t ∈ gs → G t u w → u ≠ v) ∧ (d ∉ gs → aF.tmps[d]? = some v) ∧ ∃ k m, w' = ext w k m) : Inv md ops n gs w0 aF G (listed.setIfInBounds i true) (a.put o.dst v) w' := by
  obtain ⟨v1, v2, k', m', rfl⟩ := hv
  obtain ⟨k, m, rfl⟩ := h.world
  have hdi : dstAt ops i = some d := by unfold dstAt; rw [ho]; exact hd
  rw [hd] at huniq ⊢
  refine ⟨h.head.set hr hi, ⟨_, _, ext_ext _ _ _ _ _⟩, by rw [put_size]; exact h.size, h.defers, fun t ht => ?_, fun j t hj hl hjt => ?_, ?_⟩
  · rw [put_other (fun e => ht i hi (by rw [hdi, e]))]
    exact h.out t ht
  · by_cases hji : j = i
    · subst hji
      obtain rfl : d = t := by rw [hdi] at hjt; exact Option.some.inj hjt
      have hp : (a.put (some d) v).tmps[d]? = some v := put_same (by rw [h.size]; exact hds)
      refine ⟨fun hg => ?_, fun hg => by rw [hp, v2 hg]⟩
      have : (a.put (some d) v).tmps.getD d undef = v := by simp [hp]
      rw [this]; exact (v1 hg).1
    · have hne : d ≠ t := fun e => huniq j hj hji (by rw [hjt, e])
      rw [getD_set_ne false (Ne.symm hji)] at hl
      have := h.val j t hj hl hjt
      have e1 : (a.put (some d) v).tmps[t]? = a.tmps[t]? := put_other hne
      have e2 : (a.put (some d) v).tmps.getD t undef = a.tmps.getD t undef := by simp [e1]
      rw [e1, e2]
      exact ⟨fun hg => hG _ _ _ _ _ _ (this.1 hg), this.2⟩
  · have hp : (a.put (some d) v).tmps.getD d undef = v := by
      have : (a.put (some d) v).tmps[d]? = some v := put_same (by rw [h.size]; exact hds)
      simp [this]
    have hoth : ∀ t, d ≠ t → (a.put (some d) v).tmps.getD t undef = a.tmps.getD t undef := fun t ht => by
      have : (a.put (some d) v).tmps[t]? = a.tmps[t]? := put_other ht
      simp [this]
    intro i1 j1 t u hi1 hj1 hl1 hl2 ht hu htg hug htu
    by_cases e1 : i1 = i
    · subst e1
      obtain rfl : d = t := by rw [hdi] at ht; exact Option.some.inj ht
      have e2 : j1 ≠ i1 := fun e => htu (by rw [e, hdi] at hu; exact Option.some.inj hu)
      rw [getD_set_ne false (Ne.symm e2)] at hl2
      rw [hp, hoth u htu]
      exact ((v1 htg).2 u _ hug ((h.val j1 u hj1 hl2 hu).1 hug)).symm
    · have hne : d ≠ t := fun e => huniq i1 hi1 e1 (by rw [ht, e])
      rw [getD_set_ne false (Ne.symm e1)] at hl1
      rw [hoth t hne]
      by_cases e2 : j1 = i
      · subst e2
        obtain rfl : d = u := by rw [hdi] at hu; exact Option.some.inj hu
        rw [hp]
        exact (v1 hug).2 t _ htg ((h.val i1 t hi1 hl1 ht).1 htg)
      · have hne2 : d ≠ u := fun e => huniq j1 hj1 e2 (by rw [hu, e])
        rw [getD_set_ne false (Ne.symm e2)] at hl2
        rw [hoth u hne2]
        exact h.sep i1 j1 t u hi1 hj1 hl1 hl2 ht hu htg hug htu

theorem least_of (L : List Nat) : ∀ j, j ∈ L → ∃ i, i ∈ L ∧ ∀ k, k ∈ L → i ≤ k := by
  intro j
  induction j using Nat.strongRecOn with
  | _ j ih =>
    intro hj
    by_cases h : ∃ k, k ∈ L ∧ k < j
    · obtain ⟨k, hk, hlt⟩ := h
      exact ih k hlt hk
    · exact ⟨j, hj, fun k hk => Nat.le_of_not_lt fun hlt => h ⟨k, hk, hlt⟩⟩

/-- How the marks stand when all the heads are done. -/
def marksAt (n g : Nat) : Array Bool := Array.replicate n true ++ Array.replicate g false
theorem marks_eq {g : Nat} (hg : n + g = ops.size) (inv : HeadInv md ops n listed) (hall : ∀ i, i < n → listed.getD i false = true) : listed = marksAt n g := by
  apply Array.ext_getElem?
  intro i
  unfold marksAt
  rw [Array.getElem?_append, Array.size_replicate]
  by_cases hi : i < n
  · have h := hall i hi
    have hs : i < listed.size := by rw [inv.size]; omega
    simp [hs] at h
    simp [hi, hs, h]
  · rw [if_neg hi]
    by_cases hi2 : i < ops.size
    · have h := inv.tail i (by omega) hi2
      have hs : i < listed.size := by rw [inv.size]; omega
      simp [hs] at h
      have : i - n < g := by omega
      simp [hs, h, this]
    · rw [Array.getElem?_eq_none (by rw [inv.size]; omega), Array.getElem?_eq_none (by simp; omega)]

theorem flow_any {Q : Exit → Act → World → Prop} {g : Nat} (hB : flowB md ops n gs sp = true) (hns : Region.noSelect ops = true) (hs : Region.sinkB md ops n = true) (hc : Region.chainB md ops n = true) (hn : n < ops.size) (hg : n + g = ops.size)
    (hgs : ∀ t, t ∈ gs → ∃ j, j < n ∧ dstAt ops j = some t) (hG : ∀ t v k m k' m', G t v (ext w0 k m) → G t v (ext (ext w0 k m) k' m'))
    (hbd : ∀ i o d, i < n → ops[i]? = some o → o.dst = some d → d < aF.tmps.size)
    (hquiet : ∀ i o d, i < n → i ∉ sp → ops[i]? = some o → o.dst = some d → ∀ k m, o.quietAt P aF (fun w' => ∃ k' m', w' = ext (ext w0 k m) k' m') (ext w0 k m) (aF.tmps.getD d undef))
    (hsp : ∀ i, i ∈ sp → ∀ o d, ops[i]? = some o → o.dst = some d → ∀ (f : Nat → Value) k m, (∀ t, t ∈ gs → Operand.tmp t ∈ o.op.operands → G t (f t) (ext w0 k m)) →
      flowUpon P (fun v w' => (d ∈ gs → G d v w' ∧ ∀ t u, t ∈ gs → G t u (ext w0 k m) → u ≠ v) ∧ (d ∉ gs → aF.tmps[d]? = some v) ∧ ∃ k' m', w' = ext (ext w0 k m) k' m') ((execOp (ghosted aF gs f).eval o).run P (ext w0 k m)))
    (htail : ∀ (f : Nat → Value) k m, (∀ t, t ∈ gs → G t (f t) (ext w0 k m)) → (∀ t u, t ∈ gs → u ∈ gs → t ≠ u → f t ≠ f u) → wpAny P md ops Q g (marksAt n g) (ghosted aF gs f) (ext w0 k m)) :
    ∀ (f : Nat) (L : List Nat) (listed : Array Bool) (a : Act) (w : World), L.length = f → L.Nodup → (∀ j, j ∈ L ↔ j < n ∧ listed.getD j false = false) → Inv md ops n gs w0 aF G listed a w → wpAny P md ops Q (f + g) listed a w := by
  intro f
  induction f with
  | zero =>
    intro L listed a w hL hnd hmem inv
    have : L = [] := List.eq_nil_of_length_eq_zero hL
    subst this
    have hall : ∀ i, i < n → listed.getD i false = true := fun i hi => by
      cases h : listed.getD i false with
      | true => rfl
      | false => have := (hmem i).2 ⟨hi, h⟩; cases this
    rw [Nat.zero_add, marks_eq hg inv.head hall, inv.frame hall]
    obtain ⟨k, m, rfl⟩ := inv.world
    refine htail _ _ _ (fun t ht => ?_) (fun t u ht hu htu => ?_)
    · obtain ⟨j, hj, hjt⟩ := hgs t ht
      exact (inv.val j t hj (hall j hj) hjt).1 ht
    · obtain ⟨i, hi, hit⟩ := hgs t ht
      obtain ⟨j, hj, hju⟩ := hgs u hu
      exact inv.sep i j t u hi hj (hall i hi) (hall j hj) hit hju ht hu htu
  | succ f ih =>
    intro L listed a w hL hnd hmem inv
    obtain ⟨j1, hj1⟩ : ∃ j, j ∈ L := by
      cases L with
      | nil => cases hL
      | cons x xs => exact ⟨x, by simp⟩
    obtain ⟨j0, hj0, hmin⟩ := least_of L j1 hj1
    have h0 := (hmem j0).1 hj0
    have hun0 : listed.getD j0 true = false := getD_in (by rw [inv.head.size]; omega) h0.2
    obtain ⟨o0, ho0, F0⟩ := flowB_spec hB j0 h0.1
    have hready : j0 ∈ Region.ready md ops listed := mem_ready.2 ⟨hun0, o0, ho0, fun e he hb => by
      have hlt := F0.back e he hb
      cases h : listed.getD e.on false with
      | true => rfl
      | false => have := hmin e.on ((hmem e.on).2 ⟨by omega, h⟩); omega⟩
    rw [show f + 1 + g = (f + g) + 1 by omega]
    refine ⟨fun h => (by rw [h] at hready; cases hready), fun i hi => ?_⟩
    have hin : i < n := Nat.lt_of_not_le fun h => tail_waits hs hc hn inv.head _ j0 rfl h0.1 hun0 i h hi
    obtain ⟨hiun, oi, hoi, hafter⟩ := mem_ready.1 hi
    obtain ⟨o, ho, F⟩ := flowB_spec hB i hin
    obtain rfl : oi = o := by rw [hoi] at ho; exact Option.some.inj ho
    obtain ⟨d, hd⟩ := F.dst
    have hnosel := fun cs b => Region.noSelect_spec hns i oi cs b hoi
    obtain ⟨k, m, hw⟩ := inv.world
    have hlist : ∀ j, j < n → Region.waitsFor md ops i j = true → listed.getD j false = true := fun j hj hwf => by
      obtain ⟨oj, hoj, e, he, hb, hon⟩ := Region.waitsFor_spec hwf
      obtain rfl : oi = oj := by rw [hoi] at hoj; exact Option.some.inj hoj
      have := hafter e he hb
      rwa [hon] at this
    -- the operands, outside the ghosts
    have hsame : ∀ t, Operand.tmp t ∈ oi.op.operands → t ∉ gs → a.tmps[t]? = aF.tmps[t]? := fun t ht hgs => by
      by_cases hex : ∃ j, j < n ∧ dstAt ops j = some t
      · obtain ⟨j, hj, hjt⟩ := hex
        exact (inv.val j t hj (hlist j hj ((F.reads t ht).2 j hj hjt).2) hjt).2 hgs
      · exact inv.out t (fun j hj e => hex ⟨j, hj, e⟩)
    have hiL : i ∈ L := (hmem i).2 ⟨hin, getD_both hiun⟩
    refine wpOp_of_flow (R := fun v w' => (d ∈ gs → G d v w' ∧ ∀ t u, t ∈ gs → G t u w → u ≠ v) ∧ (d ∉ gs → aF.tmps[d]? = some v) ∧ ∃ k' m', w' = ext w k' m') hoi F.guard (fun v w' hv => ?_) ?_
    · refine ih (L.erase i) _ _ _ (by rw [List.length_erase_of_mem hiL, hL]; rfl) (hnd.erase i) (fun j => ?_) (inv.step hG hoi hin hd (hbd i oi d hin hoi hd) F.uniq hi hv)
      rw [hnd.mem_erase_iff, hmem]
      by_cases hji : j = i
      · subst hji
        refine ⟨fun h => absurd rfl h.1, fun h => ?_⟩
        have hsz : j < listed.size := by rw [inv.head.size]; omega
        have h2 := h.2
        simp [hsz] at h2
      · rw [getD_set_ne false (Ne.symm hji)]
        exact ⟨fun h => h.2, fun h => ⟨hji, h⟩⟩
    · subst hw
      by_cases hsi : i ∈ sp
      · have h1 := hsp i hsi oi d hoi hd (fun t => a.tmps.getD t undef) k m (fun t hgt ht => by
          obtain ⟨j, hj, hjt⟩ := hgs t hgt
          exact (inv.val j t hj (hlist j hj ((F.reads t ht).2 j hj hjt).2) hjt).1 hgt)
        have hx : execOp a.eval oi = execOp (ghosted aF gs (fun t => a.tmps.getD t undef)).eval oi := execOp_congr oi hnosel fun x hx => by
          cases x with
          | tmp t =>
            obtain ⟨f1, f2, f3⟩ := ghost_fold (fun t => a.tmps.getD t undef) gs aF.tmps
            simp only [Act.eval, ghosted, Array.getD_eq_getD_getElem?]
            by_cases hgt : t ∈ gs
            · by_cases hs : t < aF.tmps.size
              · have := f3 t hgt hs
                simp only [Array.getD_eq_getD_getElem?] at this
                rw [this]; rfl
              · have e1 : a.tmps[t]? = none := Array.getElem?_eq_none (by rw [inv.size]; exact Nat.le_of_not_lt hs)
                have e2 := Array.getElem?_eq_none (xs := gs.foldl (fun ts d => ts.setIfInBounds d (a.tmps.getD d undef)) aF.tmps) (i := t) (by rw [f1]; exact Nat.le_of_not_lt hs)
                simp only [Array.getD_eq_getD_getElem?] at e2
                rw [e1, e2]
            · have := f2 t hgt
              simp only [Array.getD_eq_getD_getElem?] at this
              rw [this, hsame t hx hgt]
          | _ => rfl
        rw [hx]
        exact h1
      · have hq := hquiet i oi d hin hsi hoi hd k m
        have hgd : d ∉ gs := fun h => (F.ghost.resolve_left hsi) d h hd
        have hx : execOp a.eval oi = execOp aF.eval oi := execOp_congr oi hnosel fun x hx => by
          cases x with
          | tmp t =>
            have := hsame t hx ((F.reads t hx).1.resolve_left hsi)
            simp only [Act.eval, Array.getD_eq_getD_getElem?, this]
          | _ => rfl
        rw [hx]
        refine flow_of_quiet (C := fun w' => ∃ k' m', w' = ext (ext w0 k m) k' m') ⟨[], m, by simp [ext]⟩ (fun w' hw' => ⟨fun h => absurd h hgd, fun _ => ?_, hw'⟩) hq
        have := hbd i oi d hin hoi hd
        simp [this]
end

/-- The operations, the ones numbered in sp made to copies of constants. -/
def maskFrom (sp : List Nat) (val : Nat → Value) : Nat → List Oper → List Oper
  | _, [] => []
  | i, o :: l => (if sp.contains i then { o with op := .move (.const (val i)) } else o) :: maskFrom sp val (i + 1) l
theorem mask_get (sp : List Nat) (val : Nat → Value) : ∀ (l : List Oper) (i j : Nat), (maskFrom sp val i l)[j]? = l[j]?.map fun o => if sp.contains (i + j) then { o with op := .move (.const (val (i + j))) } else o
  | [], i, j => by simp [maskFrom]
  | o :: l, i, 0 => by simp [maskFrom]
  | o :: l, i, j + 1 => by
    rw [maskFrom, List.getElem?_cons_succ, List.getElem?_cons_succ, mask_get sp val l (i + 1) j, show i + 1 + j = i + (j + 1) by omega]

def readyB (l : List Oper) (n s : Nat) (gs sp : List Nat) : Bool :=
  flowB .any l.toArray n gs sp && Region.noSelect l.toArray && Region.sinkB .any l.toArray n && Region.chainB .any l.toArray n && decide (n < l.length) && gs.all (fun t => (List.range n).any fun j => dstAt l.toArray j == some t) &&
  (List.range n).all (fun j => match dstAt l.toArray j with | some d => decide (d < s) | none => false) && Region.seqB .any l.toArray (l.length - n) n (marksAt n (l.length - n))

theorem grow_of2 {P : Program} {f : FuncId} {args : Array Value} {w : World} {k l : List Obj} {n : Nat} {v : Value}
    (h : Calls P f args (ext w (k ++ l) n) fun e w' => e = .returned v ∧ Go.RowKit.Below (ext w (k ++ l) n).heap.size (ext w (k ++ l) n) w') : Calls P f args (ext w (k ++ l) n) fun e w'' => e = .returned v ∧ ∃ k' m, w'' = ext w (k ++ k') m :=
  h.mono fun _ _ ⟨he, hb⟩ => ⟨he, by obtain ⟨k', m, rfl⟩ := ext_of hb; exact ⟨l ++ k', m, by rw [ext_ext, List.append_assoc]⟩⟩
theorem region_flow {P : Program} {id : Nat} {Q : Exit → Act → World → Prop} {a0 : Act} {w0 : World} {l0 : List Obj} {n0 : Nat} {l : List Oper} (n : Nat) (gs sp : List Nat) (val : Nat → Value) (G : Nat → Value → World → Prop) (aF : Act) (hm : P.follows .mixedOrders = true)
    (hB : readyB l n a0.tmps.size gs sp = true) (hG : ∀ t v k m k' m', G t v (ext w0 k m) → G t v (ext (ext w0 k m) k' m'))
    (hw' : ∀ k, wpQuiet P l.toArray (fun w' => ∃ k' m', w' = ext w0 (k ++ k') m') (fun b => b = aF) (maskFrom sp val 0 (l.take n)) a0)
    (hsp : ∀ i, i ∈ sp → ∀ o d, l[i]? = some o → o.dst = some d → ∀ (f : Nat → Value) k m, (∀ t, t ∈ gs → Operand.tmp t ∈ o.op.operands → G t (f t) (ext w0 k m)) →
      flowUpon P (fun v w' => (d ∈ gs → G d v w' ∧ ∀ t u, t ∈ gs → G t u (ext w0 k m) → u ≠ v) ∧ (d ∉ gs → aF.tmps[d]? = some v) ∧ ∃ k' m', w' = ext (ext w0 k m) k' m') ((execOp (ghosted aF gs f).eval o).run P (ext w0 k m)))
    (ht : ∀ (f : Nat → Value) k m, (∀ t, t ∈ gs → G t (f t) (ext w0 k m)) → (∀ t u, t ∈ gs → u ∈ gs → t ≠ u → f t ≠ f u) → wpList P l.toArray Q (l.drop n) (ghosted aF gs f) (ext w0 k m)) : (Code.region id l.toArray true).wp P Q a0 (ext w0 l0 n0) := by
  have hw : ∀ k m, wpQuiet P l.toArray (fun w' => ∃ k' m', w' = ext (ext w0 k m) k' m') (fun b => b = aF) (maskFrom sp val 0 (l.take n)) a0 := fun k m => by
    simp only [ext_ext]; exact hw' k
  simp only [readyB, Bool.and_eq_true, decide_eq_true_eq] at hB
  obtain ⟨⟨⟨⟨⟨⟨⟨b1, b2⟩, b3⟩, b4⟩, b5⟩, b6⟩, b7⟩, b8⟩ := hB
  have hget : ∀ i, i < n → (maskFrom sp val 0 (l.take n))[i]? = l[i]?.map fun o => if sp.contains i then { o with op := .move (.const (val i)) } else o := fun i hi => by
    rw [mask_get, List.getElem?_take_of_lt hi, Nat.zero_add]
  have hnone : ∀ i, n ≤ i → (maskFrom sp val 0 (l.take n))[i]? = none := fun i hi => by
    rw [mask_get, List.getElem?_eq_none (by simp; omega)]; rfl
  have hopm : ∀ o ∈ maskFrom sp val 0 (l.take n), o.guard = none ∧ ∃ d, o.dst = some d := fun o ho => by
    obtain ⟨i, hi, rfl⟩ := List.getElem_of_mem ho
    have hin : i < n := Nat.lt_of_not_le fun h => by have := hnone i h; rw [List.getElem?_eq_getElem hi] at this; cases this
    obtain ⟨o, ho, F⟩ := flowB_spec b1 i hin
    have hg := hget i hin
    rw [List.getElem?_eq_getElem hi, show l[i]? = some o by simpa using ho] at hg
    simp only [Option.map_some, Option.some.injEq] at hg
    rw [hg]
    split
    · exact ⟨F.guard, F.dst⟩
    · exact ⟨F.guard, F.dst⟩
  have hdst : ∀ j o', (maskFrom sp val 0 (l.take n))[j]? = some o' → j < n ∧ dstAt l.toArray j = o'.dst := fun j o' h => by
    have hjn : j < n := Nat.lt_of_not_le fun hh => by rw [hnone j hh] at h; cases h
    rw [hget j hjn] at h
    refine ⟨hjn, ?_⟩
    unfold dstAt
    rw [List.getElem?_toArray]
    cases ho : l[j]? with
    | none => rw [ho] at h; cases h
    | some o =>
      rw [ho] at h
      simp only [Option.map_some, Option.some.injEq] at h
      rw [← h]
      split <;> rfl
  have hbd : ∀ i o d, i < n → l.toArray[i]? = some o → o.dst = some d → d < a0.tmps.size := fun i o d hi ho hd => by
    have := List.all_eq_true.1 b7 i (List.mem_range.2 hi)
    unfold dstAt at this
    rw [ho] at this
    simp only [Option.bind_some, hd, decide_eq_true_eq] at this
    exact this
  have hput := fun k m => quiet_put _ _ hopm (hw k m)
  have hsz := (hput [] 0).1
  have hg : n + (l.length - n) = l.toArray.size := by simp; omega
  refine wp_region_any hm ?_
  have hsize : l.toArray.size = n + (l.length - n) := hg.symm
  have main := flow_any (P := P) (md := .any) (Q := Q) (G := G) (aF := aF) (w0 := w0) (g := l.length - n) b1 b2 b3 b4 (by simpa using b5) hg
    (fun t ht => by
      have := List.all_eq_true.1 b6 t ht
      obtain ⟨j, hj, he⟩ := List.any_eq_true.1 this
      exact ⟨j, List.mem_range.1 hj, by simpa using he⟩) hG (fun i o d hi ho hd => by rw [hsz]; exact hbd i o d hi ho hd)
    (fun i o d hi hni ho hd k m => by
      obtain ⟨o', ho', F⟩ := flowB_spec b1 i hi
      obtain rfl : o = o' := by rw [ho] at ho'; exact Option.some.inj ho'
      have hmi : (maskFrom sp val 0 (l.take n))[i]? = some o := by
        rw [hget i hi, show l[i]? = some o by simpa using ho]
        simp [hni]
      refine quiet_at _ _ hopm (hw k m) i o d hmi hd (hbd i o d hi ho hd) (fun cs b => Region.noSelect_spec b2 i o cs b ho) (fun t ht j o' hj hj' e => ?_) (fun j o' hj hj' e => ?_) _ ⟨[], m, by simp [ext]⟩
      · obtain ⟨h1, h2⟩ := hdst j o' hj'
        have := ((F.reads t ht).2 j h1 (by rw [h2, e])).1
        omega
      · obtain ⟨h1, h2⟩ := hdst j o' hj'
        exact F.uniq j h1 (by omega) (by rw [h2, e, hd]))
    (fun i hi o d ho hd => hsp i hi o d (by simpa using ho) hd)
    (fun f k m hgd hsep => by
      have := wpAny_of_seq (md := .any) (Q' := Q) (l.drop n) n (marksAt n (l.length - n)) (ghosted aF gs f) (ext w0 k m) (fun j => by simp [List.getElem?_drop]) (by rw [List.length_drop]; exact b8) (ht f k m hgd hsep)
      rwa [List.length_drop] at this)
    n (List.range n) (Array.replicate l.toArray.size false) a0 (ext w0 l0 (n0 + 1)) (by simp) List.nodup_range
    (fun j => by rw [List.mem_range, getD_replicate_false]; exact ⟨fun h => ⟨h, rfl⟩, fun h => h.1⟩)
    ⟨⟨by simp, fun j oj _ hl => (by rw [getD_replicate_false] at hl; cases hl), fun t _ ht => getD_in (by simpa using ht) (getD_replicate_false _ _)⟩, ⟨_, _, rfl⟩, hsz.symm, (hput [] 0).2.1.symm,
      fun t h => ((hput [] 0).2.2 t (fun o ho e => by
        obtain ⟨j, hj, rfl⟩ := List.getElem_of_mem ho
        obtain ⟨h1, h2⟩ := hdst j _ (List.getElem?_eq_getElem hj)
        exact h j h1 (by rw [h2, e]))).symm,
      fun i t _ hl => (by rw [getD_replicate_false] at hl; cases hl), fun i j t u _ _ hl => (by rw [getD_replicate_false] at hl; cases hl)⟩
  rw [hsize]
  rw [hsize] at main
  exact main
/-- The same, in a world as it comes. -/
theorem region_flow0 {P : Program} {id : Nat} {Q : Exit → Act → World → Prop} {a0 : Act} {w0 : World} {l : List Oper} (n : Nat) (gs sp : List Nat) (val : Nat → Value) (G : Nat → Value → World → Prop) (aF : Act) (hm : P.follows .mixedOrders = true)
    (hB : readyB l n a0.tmps.size gs sp = true) (hG : ∀ t v k m k' m', G t v (ext w0 k m) → G t v (ext (ext w0 k m) k' m'))
    (hw' : ∀ k, wpQuiet P l.toArray (fun w' => ∃ k' m', w' = ext w0 (k ++ k') m') (fun b => b = aF) (maskFrom sp val 0 (l.take n)) a0)
    (hsp : ∀ i, i ∈ sp → ∀ o d, l[i]? = some o → o.dst = some d → ∀ (f : Nat → Value) k m, (∀ t, t ∈ gs → Operand.tmp t ∈ o.op.operands → G t (f t) (ext w0 k m)) →
      flowUpon P (fun v w' => (d ∈ gs → G d v w' ∧ ∀ t u, t ∈ gs → G t u (ext w0 k m) → u ≠ v) ∧ (d ∉ gs → aF.tmps[d]? = some v) ∧ ∃ k' m', w' = ext (ext w0 k m) k' m') ((execOp (ghosted aF gs f).eval o).run P (ext w0 k m)))
    (ht : ∀ (f : Nat → Value) k m, (∀ t, t ∈ gs → G t (f t) (ext w0 k m)) → (∀ t u, t ∈ gs → u ∈ gs → t ≠ u → f t ≠ f u) → wpList P l.toArray Q (l.drop n) (ghosted aF gs f) (ext w0 k m)) : (Code.region id l.toArray true).wp P Q a0 w0 := by
  have := region_flow (id := id) (l0 := []) (n0 := w0.drawn) n gs sp val G aF hm hB hG hw' hsp ht
  rwa [ext_nil] at this
end Go.Proofs.Ytaiflkjchbpphaa.F
namespace Go.Proofs.Ytaiflkjchbpphaa.F
open Go

/-- The check over a region: the first n0 operations give values, the ones in ph make blocks, the ones behind write. -/
def flow2B (ops : Array Oper) (n0 : Nat) (gs ph : List Nat) : Bool :=
  (List.range ops.size).all fun i =>
    match ops[i]? with
    | none => false
    | some o => o.guard.isNone && o.after.all (fun e => !Region.binds .any e || decide (e.on < i)) &&
      (if i < n0 then o.dst.isSome && (if ph.contains i then gs.any (fun t => o.dst == some t) else gs.all (fun t => o.dst != some t)) && (List.range n0).all (fun j => j == i || dstAt ops j != o.dst) else o.dst.isNone) &&
      o.op.operands.all (fun x => match x with
        | .tmp t => (ph.contains i || decide (n0 ≤ i) || !gs.contains t) && (List.range n0).all (fun j => dstAt ops j != some t || (decide (j < i) && Region.waitsFor .any ops i j))
        | _ => true)

structure Flow2At (ops : Array Oper) (n0 : Nat) (gs ph : List Nat) (i : Nat) (o : Oper) : Prop where
  guard : o.guard = none
  back : ∀ e ∈ o.after, Region.binds .any e = true → e.on < i
  dst : i < n0 → ∃ d, o.dst = some d
  none : n0 ≤ i → o.dst = none
  gin : i < n0 → i ∈ ph → ∃ t, t ∈ gs ∧ o.dst = some t
  gout : i < n0 → i ∉ ph → ∀ t ∈ gs, o.dst ≠ some t
  uniq : i < n0 → ∀ j, j < n0 → j ≠ i → dstAt ops j ≠ o.dst
  reads : ∀ t, Operand.tmp t ∈ o.op.operands → (i ∈ ph ∨ n0 ≤ i ∨ t ∉ gs) ∧ ∀ j, j < n0 → dstAt ops j = some t → j < i ∧ Region.waitsFor .any ops i j = true

theorem flow2B_spec {ops : Array Oper} {n0 : Nat} {gs ph : List Nat} (h : flow2B ops n0 gs ph = true) (i : Nat) (hi : i < ops.size) : ∃ o, ops[i]? = some o ∧ Flow2At ops n0 gs ph i o := by
  have h1 := List.all_eq_true.1 h i (List.mem_range.2 hi)
  cases ho : ops[i]? with
  | none => rw [ho] at h1; cases h1
  | some o =>
    rw [ho] at h1
    simp only [Bool.and_eq_true] at h1
    obtain ⟨⟨⟨g1, g2⟩, g3⟩, g4⟩ := h1
    refine ⟨o, rfl, by simpa using g1, fun e he hb => ?_, fun hn => ?_, fun hn => ?_, fun hn hp => ?_, fun hn hp t ht => ?_, fun hn j hj hne => ?_, fun t ht => ?_⟩
    · have := Array.all_eq_true_iff_forall_mem.1 g2 e he
      simpa [hb] using this
    · rw [if_pos hn] at g3
      simp only [Bool.and_eq_true] at g3
      exact Option.isSome_iff_exists.1 g3.1.1
    · rw [if_neg (by omega)] at g3
      simpa using g3
    · rw [if_pos hn] at g3
      simp only [Bool.and_eq_true] at g3
      have := g3.1.2
      rw [if_pos (by simpa using hp)] at this
      obtain ⟨t, ht, he⟩ := List.any_eq_true.1 this
      exact ⟨t, ht, by simpa using he⟩
    · rw [if_pos hn] at g3
      simp only [Bool.and_eq_true] at g3
      have := g3.1.2
      rw [if_neg (by simpa using hp)] at this
      have := List.all_eq_true.1 this t ht
      simpa using this
    · rw [if_pos hn] at g3
      simp only [Bool.and_eq_true] at g3
      have := List.all_eq_true.1 g3.2 j (List.mem_range.2 hj)
      simp only [Bool.or_eq_true, beq_iff_eq, bne_iff_ne] at this
      exact this.resolve_left hne
    · have := Array.all_eq_true_iff_forall_mem.1 g4 _ ht
      simp only [Bool.and_eq_true, Bool.or_eq_true, List.contains_iff_mem, Bool.not_eq_true', List.all_eq_true, List.mem_range, bne_iff_ne, decide_eq_true_eq] at this
      refine ⟨?_, fun j hj hd => (this.2 j hj).resolve_left (fun h => h hd)⟩
      rcases this.1 with (h | h) | h
      · exact .inl h
      · exact .inr (.inl h)
      · refine .inr (.inr fun hm => ?_)
        rw [← List.contains_iff_mem, h] at hm
        cases hm

/-- The operations that have been done are closed. -/
def Closed (ops : Array Oper) (listed : Array Bool) : Prop := ∀ j, listed.getD j false = true → ∀ i, Region.waitsFor .any ops j i = true → listed.getD i false = true

structure Inv2 (ops : Array Oper) (n0 : Nat) (gs : List Nat) (w0 : World) (aF : Act) (J : Array Bool → (Nat → Value) → World → Prop) (listed : Array Bool) (a : Act) (w : World) : Prop where
  size : listed.size = ops.size
  closed : Closed ops listed
  world : ∃ k m, w = ext w0 k m
  fsz : a.tmps.size = aF.tmps.size
  defers : a.defers = aF.defers
  out : ∀ t, (∀ j, j < n0 → dstAt ops j ≠ some t) → a.tmps[t]? = aF.tmps[t]?
  val : ∀ i t, i < n0 → listed.getD i false = true → dstAt ops i = some t → t ∉ gs → a.tmps[t]? = aF.tmps[t]?
  ghost : J listed (fun t => a.tmps.getD t undef) w

variable {P : Program} {ops : Array Oper} {n0 : Nat} {gs ph : List Nat} {w0 : World} {aF : Act} {J : Array Bool → (Nat → Value) → World → Prop}

theorem Closed.set {listed : Array Bool} (h : Closed ops listed) {i : Nat} (hi : i < listed.size) (hr : i ∈ Region.ready .any ops listed) : Closed ops (listed.setIfInBounds i true) := by
  obtain ⟨_, o, ho, hafter⟩ := mem_ready.1 hr
  have hset : ∀ j, (listed.setIfInBounds i true).getD j false = (if j = i then true else listed.getD j false) := fun j => by
    by_cases e : j = i
    · subst e; simp [hi]
    · rw [getD_set_ne false (Ne.symm e), if_neg e]
  intro j hj k hk
  rw [hset] at hj ⊢
  by_cases hki : k = i
  · rw [if_pos hki]
  · rw [if_neg hki]
    by_cases hji : j = i
    · subst hji
      obtain ⟨oj, hoj, e, he, hb, hon⟩ := Region.waitsFor_spec hk
      obtain rfl : o = oj := by rw [ho] at hoj; exact Option.some.inj hoj
      have := hafter e he hb
      rwa [hon] at this
    · rw [if_neg hji] at hj
      exact h j hj k hk

theorem flow2_any {Q : Exit → Act → World → Prop} (hB : flow2B ops n0 gs ph = true) (hn0 : n0 ≤ ops.size) (hns : Region.noSelect ops = true)
    (hbd : ∀ i o d, i < n0 → ops[i]? = some o → o.dst = some d → d < aF.tmps.size)
    (hquiet : ∀ i o d, i < n0 → i ∉ ph → ops[i]? = some o → o.dst = some d → ∀ k m, o.quietAt P aF (fun w' => ∃ k' m', w' = ext (ext w0 k m) k' m') (ext w0 k m) (aF.tmps.getD d undef))
    (hJq : ∀ i listed f w k m, i < n0 → i ∉ ph → J listed f w → J (listed.setIfInBounds i true) f (ext w k m))
    (hJf : ∀ listed f f' w, (∀ t, t ∈ gs → f t = f' t) → J listed f w → J listed f' w)
    (hph : ∀ i, i ∈ ph → i < n0 → ∀ o d, ops[i]? = some o → o.dst = some d → ∀ listed f k m, listed.size = ops.size → listed.getD i false = false → Closed ops listed → J listed f (ext w0 k m) → ∀ ρ,
      flowUpon P (fun v w' => J (listed.setIfInBounds i true) (fun t => if t = d then v else f t) w' ∧ ∃ k' m', w' = ext w0 k' m') ((execOp ρ o).run P (ext w0 k m)))
    (hst : ∀ i, n0 ≤ i → i < ops.size → ∀ o, ops[i]? = some o → ∀ listed f k m, listed.size = ops.size → listed.getD i false = false → (∀ j, Region.waitsFor .any ops i j = true → listed.getD j false = true) → J listed f (ext w0 k m) →
      flowUpon P (fun _ w' => J (listed.setIfInBounds i true) f w' ∧ ∃ k' m', w' = ext w0 k' m') ((execOp (ghosted aF gs f).eval o).run P (ext w0 k m)))
    (hend : ∀ listed f k m, (∀ i, i < ops.size → listed.getD i false = true) → J listed f (ext w0 k m) → Q .normal (ghosted aF gs f) (ext w0 k m)) :
    ∀ (f : Nat) (L : List Nat) (listed : Array Bool) (a : Act) (w : World), L.length = f → L.Nodup → (∀ j, j ∈ L ↔ j < ops.size ∧ listed.getD j false = false) → Inv2 ops n0 gs w0 aF J listed a w → wpAny P .any ops Q f listed a w := by
  intro f
  induction f with
  | zero =>
    intro L listed a w hL hnd hmem inv
    have : L = [] := List.eq_nil_of_length_eq_zero hL
    subst this
    have hall : ∀ i, i < ops.size → listed.getD i false = true := fun i hi => by
      cases h : listed.getD i false with
      | true => rfl
      | false => have := (hmem i).2 ⟨hi, h⟩; cases this
    refine ⟨?_, ?_⟩
    · rw [List.eq_nil_iff_forall_not_mem]
      intro i hi
      obtain ⟨h1, o, ho, _⟩ := mem_ready.1 hi
      have hi' : i < ops.size := by
        rcases Nat.lt_or_ge i ops.size with h | h
        · exact h
        · rw [Array.getElem?_eq_none h] at ho; cases ho
      have := hall i hi'
      rw [getD_both h1] at this
      cases this
    · have hfr : a = ghosted aF gs (fun t => a.tmps.getD t undef) := by
        obtain ⟨f1, f2, f3⟩ := ghost_fold (fun t => a.tmps.getD t undef) gs aF.tmps
        cases a with | mk tmps defers =>
        unfold ghosted
        have hd := inv.defers
        simp only at hd f1 f2 f3 ⊢
        rw [hd]
        congr 1
        apply Array.ext_getElem?
        intro t
        by_cases ht : t ∈ gs
        · by_cases hs : t < aF.tmps.size
          · rw [f3 t ht hs]
            have hs' : t < tmps.size := by have := inv.fsz; simp only at this; omega
            simp [hs']
          · rw [Array.getElem?_eq_none (by have := inv.fsz; simp only at this; omega), Array.getElem?_eq_none (by rw [f1]; omega)]
        · rw [f2 t ht]
          by_cases hex : ∃ j, j < n0 ∧ dstAt ops j = some t
          · obtain ⟨j, hj, hjt⟩ := hex
            exact inv.val j t hj (hall j (by omega)) hjt ht
          · exact inv.out t (fun j hj e => hex ⟨j, hj, e⟩)
      obtain ⟨k, m, rfl⟩ := inv.world
      rw [hfr]
      exact hend listed _ k m hall inv.ghost
  | succ f ih =>
    intro L listed a w hL hnd hmem inv
    obtain ⟨j1, hj1⟩ : ∃ j, j ∈ L := by
      cases L with
      | nil => cases hL
      | cons x xs => exact ⟨x, by simp⟩
    obtain ⟨j0, hj0, hmin⟩ := least_of L j1 hj1
    have h0 := (hmem j0).1 hj0
    have hun0 : listed.getD j0 true = false := getD_in (by rw [inv.size]; exact h0.1) h0.2
    obtain ⟨o0, ho0, F0⟩ := flow2B_spec hB j0 h0.1
    have hready : j0 ∈ Region.ready .any ops listed := mem_ready.2 ⟨hun0, o0, ho0, fun e he hb => by
      have hlt := F0.back e he hb
      cases h : listed.getD e.on false with
      | true => rfl
      | false => have := hmin e.on ((hmem e.on).2 ⟨by omega, h⟩); omega⟩
    refine ⟨fun h => (by rw [h] at hready; cases hready), fun i hi => ?_⟩
    obtain ⟨hiun, oi, hoi, hafter⟩ := mem_ready.1 hi
    have hin : i < ops.size := by
      rcases Nat.lt_or_ge i ops.size with h | h
      · exact h
      · rw [Array.getElem?_eq_none h] at hoi; cases hoi
    obtain ⟨o, ho, F⟩ := flow2B_spec hB i hin
    obtain rfl : oi = o := by rw [hoi] at ho; exact Option.some.inj ho
    have hnosel := fun cs b => Region.noSelect_spec hns i oi cs b hoi
    have hlist : ∀ j, Region.waitsFor .any ops i j = true → listed.getD j false = true := fun j hwf => by
      obtain ⟨oj, hoj, e, he, hb, hon⟩ := Region.waitsFor_spec hwf
      obtain rfl : oi = oj := by rw [hoi] at hoj; exact Option.some.inj hoj
      have := hafter e he hb
      rwa [hon] at this
    have hsame : ∀ t, Operand.tmp t ∈ oi.op.operands → t ∉ gs → a.tmps[t]? = aF.tmps[t]? := fun t ht hgt => by
      by_cases hex : ∃ j, j < n0 ∧ dstAt ops j = some t
      · obtain ⟨j, hj, hjt⟩ := hex
        exact inv.val j t hj (hlist j ((F.reads t ht).2 j hj hjt).2) hjt hgt
      · exact inv.out t (fun j hj e => hex ⟨j, hj, e⟩)
    have hiL : i ∈ L := (hmem i).2 ⟨hin, getD_both hiun⟩
    have hcl := inv.closed.set (by rw [inv.size]; exact hin) hi
    have hset : ∀ j, (listed.setIfInBounds i true).getD j false = (if j = i then true else listed.getD j false) := fun j => by
      by_cases e : j = i
      · subst e; simp [inv.size, hin]
      · rw [getD_set_ne false (Ne.symm e), if_neg e]
    have hgo : ∀ a' w', Inv2 ops n0 gs w0 aF J (listed.setIfInBounds i true) a' w' → wpAny P .any ops Q f (listed.setIfInBounds i true) a' w' := fun a' w' hinv => by
      refine ih (L.erase i) _ _ _ (by rw [List.length_erase_of_mem hiL, hL]; rfl) (hnd.erase i) (fun j => ?_) hinv
      rw [hnd.mem_erase_iff, hmem, hset]
      by_cases hji : j = i
      · subst hji
        rw [if_pos rfl]
        exact ⟨fun h => absurd rfl h.1, fun h => (by cases h.2)⟩
      · rw [if_neg hji]
        exact ⟨fun h => h.2, fun h => ⟨hji, h⟩⟩
    obtain ⟨k, m, hw⟩ := inv.world
    subst hw
    by_cases hi0 : i < n0
    · obtain ⟨d, hd⟩ := F.dst hi0
      have hds := hbd i oi d hi0 hoi hd
      have hdi : dstAt ops i = some d := by unfold dstAt; rw [hoi]; exact hd
      -- the frame behind it
      have hframe : ∀ v w', (∃ k' m', w' = ext w0 k' m') → (d ∉ gs → aF.tmps[d]? = some v) → J (listed.setIfInBounds i true) (fun t => (a.put (some d) v).tmps.getD t undef) w' → Inv2 ops n0 gs w0 aF J (listed.setIfInBounds i true) (a.put (some d) v) w' := fun v w' hw' hv hJ => by
        refine ⟨by simp [inv.size], hcl, hw', by rw [put_size]; exact inv.fsz, inv.defers, fun t ht => ?_, fun j t hj hl hjt hgt => ?_, hJ⟩
        · rw [put_other (fun e => ht i hi0 (by rw [hdi, e]))]
          exact inv.out t ht
        · by_cases hji : j = i
          · subst hji
            obtain rfl : d = t := by rw [hdi] at hjt; exact Option.some.inj hjt
            rw [put_same (by rw [inv.fsz]; exact hds), hv hgt]
          · have hne : d ≠ t := fun e => F.uniq hi0 j hj hji (by rw [hjt, hd, e])
            rw [hset, if_neg hji] at hl
            rw [put_other hne]
            exact inv.val j t hj hl hjt hgt
      by_cases hp : i ∈ ph
      · have h1 := hph i hp hi0 oi d hoi hd listed _ k m inv.size (getD_both hiun) inv.closed inv.ghost a.eval
        refine wpOp_of_flow (R := fun v w' => J (listed.setIfInBounds i true) (fun t => if t = d then v else a.tmps.getD t undef) w' ∧ ∃ k' m', w' = ext w0 k' m') hoi F.guard (fun v w' hv => ?_) h1
        rw [hd]
        refine hgo _ _ (hframe v w' hv.2 (fun h => ?_) (hJf _ _ _ _ (fun t _ => ?_) hv.1))
        · obtain ⟨t, ht, htd⟩ := F.gin hi0 hp
          rw [hd] at htd
          exact absurd (by rw [Option.some.inj htd]; exact ht) h
        · by_cases htd : t = d
          · subst htd
            have : (a.put (some t) v).tmps[t]? = some v := put_same (by rw [inv.fsz]; exact hds)
            rw [if_pos rfl]
            simp [this]
          · have : (a.put (some d) v).tmps[t]? = a.tmps[t]? := put_other (fun e => htd e.symm)
            rw [if_neg htd]
            simp [this]
      · have hgd : d ∉ gs := fun h => F.gout hi0 hp d h hd
        have hq := hquiet i oi d hi0 hp hoi hd k m
        have hx : execOp a.eval oi = execOp aF.eval oi := execOp_congr oi hnosel fun x hx => by
          cases x with
          | tmp t =>
            have := hsame t hx (((F.reads t hx).1.resolve_left hp).resolve_left (by omega))
            simp only [Act.eval, Array.getD_eq_getD_getElem?, this]
          | _ => rfl
        refine wpOp_of_flow (R := fun v w' => aF.tmps[d]? = some v ∧ ∃ k' m', w' = ext (ext w0 k m) k' m') hoi F.guard (fun v w' hv => ?_) ?_
        · rw [hd]
          obtain ⟨hv1, k', m', rfl⟩ := hv
          refine hgo _ _ (hframe v _ ⟨_, _, ext_ext _ _ _ _ _⟩ (fun _ => hv1) (hJf _ _ _ _ (fun t ht => ?_) (hJq i listed _ _ k' m' hi0 hp inv.ghost)))
          have : (a.put (some d) v).tmps[t]? = a.tmps[t]? := put_other (fun e => hgd (by rw [e]; exact ht))
          simp [this]
        · rw [hx]
          refine flow_of_quiet (C := fun w' => ∃ k' m', w' = ext (ext w0 k m) k' m') ⟨[], m, by simp [ext]⟩ (fun w' hw' => ⟨?_, hw'⟩) hq
          simp [hds]
    · have hdn := F.none (by omega)
      have h1 := hst i (by omega) hin oi hoi listed _ k m inv.size (getD_both hiun) hlist inv.ghost
      have hx : execOp a.eval oi = execOp (ghosted aF gs (fun t => a.tmps.getD t undef)).eval oi := execOp_congr oi hnosel fun x hx => by
        cases x with
        | tmp t =>
          obtain ⟨f1, f2, f3⟩ := ghost_fold (fun t => a.tmps.getD t undef) gs aF.tmps
          simp only [Act.eval, ghosted, Array.getD_eq_getD_getElem?]
          by_cases hgt : t ∈ gs
          · by_cases hs : t < aF.tmps.size
            · have := f3 t hgt hs
              simp only [Array.getD_eq_getD_getElem?] at this
              rw [this]; rfl
            · have e1 : a.tmps[t]? = none := Array.getElem?_eq_none (by rw [inv.fsz]; exact Nat.le_of_not_lt hs)
              have e2 := Array.getElem?_eq_none (xs := gs.foldl (fun ts d => ts.setIfInBounds d (a.tmps.getD d undef)) aF.tmps) (i := t) (by rw [f1]; exact Nat.le_of_not_lt hs)
              simp only [Array.getD_eq_getD_getElem?] at e2
              rw [e1, e2]
          · have := f2 t hgt
            simp only [Array.getD_eq_getD_getElem?] at this
            rw [this, hsame t hx hgt]
        | _ => rfl
      refine wpOp_of_flow (R := fun _ w' => J (listed.setIfInBounds i true) (fun t => a.tmps.getD t undef) w' ∧ ∃ k' m', w' = ext w0 k' m') hoi F.guard (fun v w' hv => ?_) (by rw [hx]; exact h1)
      rw [hdn]
      exact hgo _ _ ⟨by simp [inv.size], hcl, hv.2, inv.fsz, inv.defers, inv.out, fun j t hj hl hjt hgt => (by
        rw [hset, if_neg (by omega)] at hl
        exact inv.val j t hj hl hjt hgt), hv.1⟩

def ready2B (l : List Oper) (n s : Nat) (gs ph : List Nat) : Bool :=
  flow2B l.toArray n gs ph && Region.noSelect l.toArray && decide (n ≤ l.length) &&
  (List.range n).all (fun j => match dstAt l.toArray j with | some d => decide (d < s) | none => false)

theorem region_flow2 {id : Nat} {Q : Exit → Act → World → Prop} {a0 : Act} {l : List Oper} (n : Nat) (gs ph : List Nat) (val : Nat → Value) (aF : Act) (J : Array Bool → (Nat → Value) → World → Prop) (hm : P.follows .mixedOrders = true)
    (hB : ready2B l n a0.tmps.size gs ph = true)
    (hw' : ∀ k, wpQuiet P l.toArray (fun w' => ∃ k' m', w' = ext w0 (k ++ k') m') (fun b => b = aF) (maskFrom ph val 0 (l.take n)) a0)
    (hJ0 : ∀ f w, J (Array.replicate l.toArray.size false) f w)
    (hJq : ∀ i listed f w k m, i < n → i ∉ ph → J listed f w → J (listed.setIfInBounds i true) f (ext w k m))
    (hJf : ∀ listed f f' w, (∀ t, t ∈ gs → f t = f' t) → J listed f w → J listed f' w)
    (hph : ∀ i, i ∈ ph → i < n → ∀ o d, l[i]? = some o → o.dst = some d → ∀ listed f k m, listed.size = l.toArray.size → listed.getD i false = false → Closed l.toArray listed → J listed f (ext w0 k m) → ∀ ρ,
      flowUpon P (fun v w' => J (listed.setIfInBounds i true) (fun t => if t = d then v else f t) w' ∧ ∃ k' m', w' = ext w0 k' m') ((execOp ρ o).run P (ext w0 k m)))
    (hst : ∀ i, n ≤ i → i < l.length → ∀ o, l[i]? = some o → ∀ listed f k m, listed.size = l.toArray.size → listed.getD i false = false → (∀ j, Region.waitsFor .any l.toArray i j = true → listed.getD j false = true) → J listed f (ext w0 k m) →
      flowUpon P (fun _ w' => J (listed.setIfInBounds i true) f w' ∧ ∃ k' m', w' = ext w0 k' m') ((execOp (ghosted aF gs f).eval o).run P (ext w0 k m)))
    (hend : ∀ listed f k m, (∀ i, i < l.length → listed.getD i false = true) → J listed f (ext w0 k m) → Q .normal (ghosted aF gs f) (ext w0 k m)) : (Code.region id l.toArray true).wp P Q a0 w0 := by
  have hw : ∀ k m, wpQuiet P l.toArray (fun w' => ∃ k' m', w' = ext (ext w0 k m) k' m') (fun b => b = aF) (maskFrom ph val 0 (l.take n)) a0 := fun k m => by
    simp only [ext_ext]; exact hw' k
  simp only [ready2B, Bool.and_eq_true, decide_eq_true_eq] at hB
  obtain ⟨⟨⟨b1, b2⟩, b3⟩, b7⟩ := hB
  have hsize : l.toArray.size = l.length := by simp
  have hget : ∀ i, i < n → (maskFrom ph val 0 (l.take n))[i]? = l[i]?.map fun o => if ph.contains i then { o with op := .move (.const (val i)) } else o := fun i hi => by
    rw [mask_get, List.getElem?_take_of_lt hi, Nat.zero_add]
  have hnone : ∀ i, n ≤ i → (maskFrom ph val 0 (l.take n))[i]? = none := fun i hi => by
    rw [mask_get, List.getElem?_eq_none (by simp; omega)]; rfl
  have hopm : ∀ o ∈ maskFrom ph val 0 (l.take n), o.guard = none ∧ ∃ d, o.dst = some d := fun o ho => by
    obtain ⟨i, hi, rfl⟩ := List.getElem_of_mem ho
    have hin : i < n := Nat.lt_of_not_le fun h => by have := hnone i h; rw [List.getElem?_eq_getElem hi] at this; cases this
    obtain ⟨o, ho, F⟩ := flow2B_spec b1 i (by rw [hsize]; omega)
    have hg := hget i hin
    rw [List.getElem?_eq_getElem hi, show l[i]? = some o by simpa using ho] at hg
    simp only [Option.map_some, Option.some.injEq] at hg
    rw [hg]
    split
    · exact ⟨F.guard, F.dst hin⟩
    · exact ⟨F.guard, F.dst hin⟩
  have hdst : ∀ j o', (maskFrom ph val 0 (l.take n))[j]? = some o' → j < n ∧ dstAt l.toArray j = o'.dst := fun j o' h => by
    have hjn : j < n := Nat.lt_of_not_le fun hh => by rw [hnone j hh] at h; cases h
    rw [hget j hjn] at h
    refine ⟨hjn, ?_⟩
    unfold dstAt
    rw [List.getElem?_toArray]
    cases ho : l[j]? with
    | none => rw [ho] at h; cases h
    | some o =>
      rw [ho] at h
      simp only [Option.map_some, Option.some.injEq] at h
      rw [← h]
      split <;> rfl
  have hbd : ∀ i o d, i < n → l.toArray[i]? = some o → o.dst = some d → d < a0.tmps.size := fun i o d hi ho hd => by
    have := List.all_eq_true.1 b7 i (List.mem_range.2 hi)
    unfold dstAt at this
    rw [ho] at this
    simp only [Option.bind_some, hd, decide_eq_true_eq] at this
    exact this
  have hput := fun k m => quiet_put _ _ hopm (hw k m)
  have hsz := (hput [] 0).1
  refine wp_region_any hm ?_
  have main := flow2_any (P := P) (ops := l.toArray) (n0 := n) (gs := gs) (ph := ph) (w0 := w0) (aF := aF) (J := J) (Q := Q) b1 (by rw [hsize]; exact b3) b2
    (fun i o d hi ho hd => by rw [hsz]; exact hbd i o d hi ho hd)
    (fun i o d hi hni ho hd k m => by
      obtain ⟨o', ho', F⟩ := flow2B_spec b1 i (by rw [hsize]; omega)
      obtain rfl : o = o' := by rw [ho] at ho'; exact Option.some.inj ho'
      have hmi : (maskFrom ph val 0 (l.take n))[i]? = some o := by
        rw [hget i hi, show l[i]? = some o by simpa using ho]
        simp [hni]
      refine quiet_at _ _ hopm (hw k m) i o d hmi hd (hbd i o d hi ho hd) (fun cs b => Region.noSelect_spec b2 i o cs b ho) (fun t ht j o' hj hj' e => ?_) (fun j o' hj hj' e => ?_) _ ⟨[], m, by simp [ext]⟩
      · obtain ⟨h1, h2⟩ := hdst j o' hj'
        have := ((F.reads t ht).2 j h1 (by rw [h2, e])).1
        omega
      · obtain ⟨h1, h2⟩ := hdst j o' hj'
        exact F.uniq hi j h1 (by omega) (by rw [h2, e, hd]))
    hJq hJf (fun i hi hin o d ho hd => hph i hi hin o d (by simpa using ho) hd)
    (fun i hi hin o ho => hst i hi (by simpa using hin) o (by simpa using ho))
    (fun listed f k m hall => hend listed f k m (fun i hi => hall i (by simpa using hi)))
    l.toArray.size (List.range l.toArray.size) (Array.replicate l.toArray.size false) a0 (ext w0 [] (w0.drawn + 1)) (by simp) List.nodup_range
    (fun j => by rw [List.mem_range, getD_replicate_false]; exact ⟨fun h => ⟨h, rfl⟩, fun h => h.1⟩)
    ⟨by simp, fun j hj => (by rw [getD_replicate_false] at hj; cases hj), ⟨_, _, rfl⟩, hsz.symm, (hput [] 0).2.1.symm,
      fun t h => ((hput [] 0).2.2 t (fun o ho e => by
        obtain ⟨j, hj, rfl⟩ := List.getElem_of_mem ho
        obtain ⟨h1, h2⟩ := hdst j _ (List.getElem?_eq_getElem hj)
        exact h j h1 (by rw [h2, e]))).symm,
      fun i t _ hl => (by rw [getD_replicate_false] at hl; cases hl), hJ0 _ _⟩
  have e0 : ext w0 [] (w0.drawn + 1) = { w0 with drawn := w0.drawn + 1 } := by simp [ext]
  rw [e0] at main
  exact main
end Go.Proofs.Ytaiflkjchbpphaa.F
