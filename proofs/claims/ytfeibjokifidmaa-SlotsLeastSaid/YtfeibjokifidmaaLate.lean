/- A region that draws its order: its first operations only read (in each world of a class), some of them may be late; the last ones stand in one order. One walk in the order of the text. -/
import Derived.Test.YtfeibjokifidmaaRoundReg
import Derived.Test.YtfeibjokifidmaaExt
import Derived.StillTail
namespace Go.Proofs.Ytfeibjokifidmaa
open Go

/-- An operation that yields a value, or ends the run. -/
def pureB (o : Oper) : Bool :=
  match o.op with
  | .move _ | .assign _ | .build .. | .load .. | .binOp .. | .unOp .. | .convert .. | .fieldAddr .. | .indexAddr .. | .extract .. => true
  | .nilCheck _ => true
  | _ => false
theorem value_of {s : Sem Value} {P : Program} {w w' : World} {r : Next} (h : (do pure (Next.value (← s)) : Sem Next).run P w = .ok r w') : ∃ v, r = .value v := by
  simp only [Sem.run_bind, Sem.run_pure] at h
  generalize s.run P w = x at h
  cases x with
  | ok a w1 => injection h with h1 _; exact ⟨a, h1.symm⟩
  | halt e w1 => cases h
theorem bind_ok {α β : Type} {x : Sem α} {f : α → Sem β} {P : Program} {w w' : World} {r : β} (h : (x >>= f).run P w = .ok r w') : ∃ a w1, (f a).run P w1 = .ok r w' := by
  simp only [Sem.run_bind] at h
  generalize x.run P w = y at h
  cases y with
  | ok a w1 => exact ⟨a, w1, h⟩
  | halt e w1 => cases h
theorem exec_pure {P : Program} {o : Oper} {ρ : Operand → Value} {w w' : World} {r : Next} (hp : pureB o = true) (h : (execOp ρ o).run P w = .ok r w') : ∃ v, r = .value v := by
  unfold pureB at hp
  unfold execOp at h
  split at hp
  all_goals first | (rename_i ho; simp only [ho] at h; exact value_of h) | (rename_i ho; simp only [ho, Sem.run_pure] at h; injection h with h1 _; exact ⟨_, h1.symm⟩) | cases hp | skip
  rename_i ho
  simp only [ho] at h
  repeat' split at h
  all_goals first | (simp [runtimePanic, go_sem] at h; done) | (simp only [Sem.run_pure] at h; injection h with h1 _; exact ⟨_, h1.symm⟩) | skip
  rename_i name first captured _ _ _ t v _
  have hb := bind_ok h
  obtain ⟨p, w1, h⟩ := hb
  have hb := bind_ok h
  obtain ⟨b, w2, h⟩ := hb
  split at h
  · obtain ⟨_, w3, h⟩ := bind_ok h
    simp only [Sem.run_pure] at h
    injection h with h1 _
    exact ⟨_, h1.symm⟩
  · simp only [Sem.run_pure] at h
    injection h with h1 _
    exact ⟨_, h1.symm⟩

/-- What yields in a class of worlds, and is no call, yields there and leaves the world. -/
theorem if_of_in {P : Program} {ops : Array Oper} {C : World → Prop} {o : Oper} {v : Value} {a : Act} (hp : pureB o = true) (h : YieldsIn P ops C o v a) : YieldsIf P ops C o v a := by
  rcases h with ⟨hw, hv⟩ | h
  · refine .inl ⟨hw, fun w hC => ?_⟩
    have h1 := hv w hC
    unfold Oper.quietAt at h1
    cases hr : (execOp a.eval o).run P w with
    | ok r w' =>
      obtain ⟨u, rfl⟩ := exec_pure hp hr
      rw [hr] at h1
      obtain ⟨rfl, rfl⟩ := h1
      rfl
    | halt e w' => rw [hr] at h1; exact h1.elim
  · exact .inr h

section
variable {P : Program} {ops : Array Oper} {Q : Exit → Act → World → Prop} {md : Region.Mode} {S : World → Prop}

/-- Whatever order is picked from here on, and S holds behind every operation but those of T. -/
def wpAnyL (P : Program) (md : Region.Mode) (ops : Array Oper) (Q : Exit → Act → World → Prop) (S : World → Prop) (T : List Nat) : Nat → Array Bool → Act → World → Prop
  | 0, listed, a, w => Region.ready md ops listed = [] ∧ Q .normal a w
  | fuel + 1, listed, a, w =>
    (Region.ready md ops listed = [] → Q .normal a w) ∧
    ∀ i ∈ Region.ready md ops listed, wpOp P ops Q i (fun a' w' => (i ∉ T → S w') ∧ wpAnyL P md ops Q S T fuel (listed.setIfInBounds i true) a' w') a w
theorem wpAny_of_late {T : List Nat} : ∀ (fuel : Nat) (listed : Array Bool) (a : Act) (w : World), wpAnyL P md ops Q S T fuel listed a w → wpAny P md ops Q fuel listed a w
  | 0, _, _, _, h => h
  | fuel + 1, _, _, _, h => ⟨h.1, fun i hi => wpOp_mono (fun a' w' h' => wpAny_of_late fuel _ a' w' h'.2) (h.2 i hi)⟩

/-- What has come up has come up behind all that it waits for. -/
def Shut (md : Region.Mode) (ops : Array Oper) (listed : Array Bool) : Prop :=
  ∀ k o, ops[k]? = some o → listed.getD k false = true → ∀ e ∈ o.after, Region.binds md e = true → listed.getD e.on false = true
theorem shut_start (m : Nat) : Shut md ops (Array.replicate m false) := fun k o _ h => by rw [getD_replicate_false] at h; cases h
theorem Shut.step {listed : Array Bool} {j : Nat} (h : Shut md ops listed) (hj : j ∈ Region.ready md ops listed) : Shut md ops (listed.setIfInBounds j true) := by
  intro k o hk hl e he hb
  refine getD_set_true ?_
  by_cases hkj : j = k
  · subst hkj
    obtain ⟨_, o', ho', hall⟩ := mem_ready.1 hj
    rw [hk] at ho'
    injection ho' with ho'
    subst ho'
    exact hall e he hb
  · rw [getD_set_ne false hkj] at hl
    exact h k o hk hl e he hb
/-- Operation t waits for operation i, perhaps through others. -/
def reach (md : Region.Mode) (ops : Array Oper) (i : Nat) : Nat → Nat → Bool
  | 0, _ => false
  | f + 1, t => match ops[t]? with | some o => o.after.any fun e => Region.binds md e && (e.on == i || reach md ops i f e.on) | none => false
theorem reach_spec {listed : Array Bool} {i : Nat} (h : Shut md ops listed) : ∀ (f t : Nat), reach md ops i f t = true → (∀ o, ops[t]? = some o → ∀ e ∈ o.after, Region.binds md e = true → listed.getD e.on false = true) → (∃ o, ops[t]? = some o) → listed.getD i false = true
  | 0, _, hr, _, _ => by cases hr
  | f + 1, t, hr, hall, ⟨o, ho⟩ => by
    unfold reach at hr
    rw [ho] at hr
    obtain ⟨e, he, hb⟩ := Array.any_eq_true'.1 hr
    simp only [Bool.and_eq_true, Bool.or_eq_true, beq_iff_eq] at hb
    have h1 := hall o ho e he hb.1
    rcases hb.2 with h2 | h2
    · rw [← h2]; exact h1
    · by_cases hx : ∃ o', ops[e.on]? = some o'
      · exact reach_spec h f e.on h2 (fun o' ho' e' he' hb' => h e.on o' ho' h1 e' he' hb') hx
      · exfalso
        cases f with
        | zero => cases h2
        | succ f =>
          unfold reach at h2
          cases hq : ops[e.on]? with
          | none => rw [hq] at h2; cases h2
          | some o' => exact hx ⟨o', hq⟩
theorem not_ready {t i f : Nat} {listed : Array Bool} (hc : Shut md ops listed) (hw : reach md ops i f t = true) (hi : listed.getD i true = false) : t ∉ Region.ready md ops listed := by
  intro ht
  obtain ⟨_, ot, hot, hall⟩ := mem_ready.1 ht
  have := reach_spec hc f t hw (fun o ho => by rw [hot] at ho; injection ho with ho; subst ho; exact hall) ⟨ot, hot⟩
  rw [getD_both hi] at this
  cases this

theorem late_first {T : List Nat} {i : Nat} {oi : Oper} {v : Value} (hi : ops[i]? = some oi) (hsel : ∀ (j : Nat) (o : Oper) cs b, ops[j]? = some o → o.op ≠ .select cs b)
    (hQ : ∀ c a w, Q (.panic c) (a.put oi.dst v) w → Q (.panic c) a w) (hwt : ∀ t ∈ T, reach md ops i ops.size t = true) :
    ∀ (fuel : Nat) (listed : Array Bool) (a : Act) (w : World), Shut md ops listed →
      (∀ j oj, ops[j]? = some oj → j ≠ i → listed.getD j true = false → (∀ e ∈ oj.after, Region.binds md e = true → e.on ≠ i) → oi.apart ops oj = true) →
      i ∈ Region.ready md ops listed → YieldsIf P ops S oi v a → S w →
      wpAnyL P md ops Q S T fuel (listed.setIfInBounds i true) (a.put oi.dst v) w → wpAnyL P md ops Q S T (fuel + 1) listed a w := by
  intro fuel
  induction fuel with
  | zero =>
    intro listed a w _ _ hr hy hS H
    refine ⟨fun h => (by rw [h] at hr; cases hr), fun j hj => ?_⟩
    by_cases hji : j = i
    · subst hji; exact hy.wpOp hi hS ⟨fun _ => hS, H⟩
    · have := ready_mono hj hji
      rw [H.1] at this
      cases this
  | succ fuel ih =>
    intro listed a w hc hfree hr hy hS H
    refine ⟨fun h => (by rw [h] at hr; cases hr), fun j hj => ?_⟩
    by_cases hji : j = i
    · subst hji; exact hy.wpOp hi hS ⟨fun _ => hS, H⟩
    · have hun := (mem_ready.1 hr).1
      have hjt : j ∉ T := fun e => not_ready hc (hwt j e) hun hj
      have h1 := H.2 j (ready_mono hj hji)
      obtain ⟨hjun, oj, hoj, hall⟩ := mem_ready.1 hj
      have hnot : ∀ e ∈ oj.after, Region.binds md e = true → e.on ≠ i := fun e he hb heq => by
        have h2 := hall e he hb
        rw [heq, getD_both hun] at h2
        cases h2
      have h2 := wpOp_putIf hoj (hfree j oj hoj hji hjun hnot) (fun cs b => hsel i oi cs b hi) (fun cs b => hsel j oj cs b hoj) hQ hy h1
      have hfree' : ∀ k ok, ops[k]? = some ok → k ≠ i → (listed.setIfInBounds j true).getD k true = false →
          (∀ e ∈ ok.after, Region.binds md e = true → e.on ≠ i) → oi.apart ops ok = true := fun k ok hk hki hun' hno => by
        refine hfree k ok hk hki ?_ hno
        by_cases hjk : j = k
        · subst hjk; exact hjun
        · rw [getD_set_ne true hjk] at hun'; exact hun'
      refine wpOp_mono (fun a' w' h3 => ⟨fun _ => h3.2.1 hjt, ih (listed.setIfInBounds j true) a' w' (hc.step hj) hfree' (ready_mono hr (Ne.symm hji)) h3.1 (h3.2.1 hjt) ?_⟩) h2
      rw [Array.setIfInBounds_comm _ _ hji]
      exact h3.2.2

/-- The first operations, in the order of the text: each may come up in its turn, nobody touches what it writes, and those of T wait for it. -/
def lateB (md : Region.Mode) (ops : Array Oper) (T : List Nat) : Nat → Nat → Array Bool → Bool
  | 0, _, _ => true
  | m + 1, k, listed => (Region.ready md ops listed).contains k && Region.free md ops listed k && (T.all fun t => reach md ops k ops.size t) && lateB md ops T m (k + 1) (listed.setIfInBounds k true)
/-- The first operations have come up. -/
def marked : Nat → Nat → Array Bool → Array Bool
  | 0, _, listed => listed
  | m + 1, k, listed => marked m (k + 1) (listed.setIfInBounds k true)
theorem late_list {T : List Nat} {g : Nat} {Lq : Act → Prop} (hs : Region.noSelect ops = true) (hQ : ∀ c a w a', Q (.panic c) a' w → Q (.panic c) a w) :
    ∀ (l : List Oper) (k : Nat) (listed : Array Bool) (a : Act) (w : World), (∀ j, j < l.length → l[j]? = ops[k + j]?) → Shut md ops listed → lateB md ops T l.length k listed = true → l.all pureB = true →
      wpQuiet P ops S Lq l a → S w → (∀ a', Lq a' → wpAnyL P md ops Q S T g (marked l.length k listed) a' w) → wpAnyL P md ops Q S T (l.length + g) listed a w
  | [], _, _, a, w, _, _, _, _, h, _, H => by rw [List.length_nil, Nat.zero_add]; exact H a h
  | o :: l, k, listed, a, w, hl, hc, hB, hp, h, hS, H => by
    have h0 : ops[k]? = some o := by simpa using (hl 0 (by simp)).symm
    simp only [List.length_cons, lateB, Bool.and_eq_true] at hB
    obtain ⟨⟨⟨hr, hf⟩, hw⟩, hB'⟩ := hB
    simp only [List.all_cons, Bool.and_eq_true] at hp
    have hst : qOp P ops S k (wpQuiet P ops S Lq l) a := by unfold qOp; simp only [h0]; exact h
    obtain ⟨v, hy, hK⟩ := yieldsIn_of_qOp h0 hst
    rw [List.length_cons, show l.length + 1 + g = (l.length + g) + 1 by omega]
    refine late_first h0 (Region.noSelect_spec hs) (fun c a w h => hQ c a w _ h) (fun t ht => List.all_eq_true.1 hw t ht) _ listed a w hc (Region.free_spec h0 hf) (by simpa using hr) (if_of_in hp.1 hy) hS ?_
    exact late_list hs hQ l (k + 1) _ _ w (fun j hj => by have := hl (j + 1) (by simp; omega); simpa [Nat.add_assoc, Nat.add_comm 1 j] using this) (hc.step (by simpa using hr)) hB' hp.2 hK hS H
/-- One operation alone may come up. -/
theorem late_one {T : List Nat} {i g : Nat} {o : Oper} {listed : Array Bool} {a : Act} {w : World} (hr : Region.ready md ops listed = [i]) (ho : ops[i]? = some o) (hw : Region.wanted o (yielded ops a.tmps) = true)
    (h : o.wp P a w (fun a' w' => (i ∉ T → S w') ∧ wpAnyL P md ops Q S T g (listed.setIfInBounds i true) a' w') Q) : wpAnyL P md ops Q S T (g + 1) listed a w := by
  refine ⟨fun h0 => (by rw [hr] at h0; cases h0), fun j hj => ?_⟩
  rw [hr, List.mem_singleton] at hj
  subst hj
  unfold wpOp
  simp only [ho, hw, if_true]
  exact .inl h
theorem late_done {T : List Nat} {g : Nat} {listed : Array Bool} {a : Act} {w : World} (hr : Region.ready md ops listed = []) (h : Q .normal a w) : wpAnyL P md ops Q S T g listed a w := by
  cases g with
  | zero => exact ⟨hr, h⟩
  | succ g => exact ⟨fun _ => h, fun i hi => by rw [hr] at hi; cases hi⟩
end
section
variable {P : Program} {Q : Exit → Act → World → Prop} {S : World → Prop}

/-- Such a region. -/
theorem region_late {id : Nat} {a : Act} {w : World} {l : List Oper} (m g : Nat) (T : List Nat) (hm : P.follows .mixedOrders = true) (hg : m + g = l.length) (hs : Region.noSelect l.toArray = true)
    (hB : lateB .any l.toArray T m 0 (Array.replicate l.toArray.size false) = true) (hp : (l.take m).all pureB = true) (hQ : ∀ c a w a', Q (.panic c) a' w → Q (.panic c) a w) (hS : S w.drew)
    (h : wpQuiet P l.toArray S (fun a' => wpAnyL P .any l.toArray Q S T g (marked m 0 (Array.replicate l.toArray.size false)) a' w.drew) (l.take m) a) : (Code.region id l.toArray true).wp P Q a w := by
  refine wp_region_any hm (wpAny_of_late (S := S) (T := T) _ _ _ _ ?_)
  have hl : (l.take m).length = m := by simp; omega
  have := late_list (md := .any) (T := T) (g := g) (S := S) hs hQ (l.take m) 0 (Array.replicate l.toArray.size false) a w.drew (fun j hj => by
    have : j < m := by omega
    simp [this]) (shut_start _) (by rw [hl]; exact hB) hp h hS (fun a' h' => by rw [hl]; exact h')
  rw [hl, hg] at this
  simpa using this
/-- .. in a round of a range over a function. -/
theorem round_late {k n id : Nat} {a : Act} {w : World} {l : List Oper} (m g : Nat) (T : List Nat) (hm : P.follows .mixedOrders = true) (hg : m + g = l.length) (hs : Region.noSelect l.toArray = true)
    (hd : ∀ (i : Nat) (o : Oper) c, l.toArray[i]? = some o → o.op ≠ .defer c) (hL : ¬ LetsOut Q)
    (hB : lateB .any l.toArray T m 0 (Array.replicate l.toArray.size false) = true) (hp : (l.take m).all pureB = true) (hQ : ∀ c a w a', Q (.panic c) a' w → Q (.panic c) a w) (hS : S w.drew)
    (h : wpQuiet P l.toArray S (fun a' => wpAnyL P .any l.toArray Q S T g (marked m 0 (Array.replicate l.toArray.size false)) a' w.drew) (l.take m) a) : (Code.region id l.toArray true).wpIn (Fence.wide.inRound k) n P Q a w := by
  refine wpIn_region_any hm (anyIn_round hd hL _ _ _ _ (wpAny_of_late (S := S) (T := T) _ _ _ _ ?_))
  have hl : (l.take m).length = m := by simp; omega
  have := late_list (md := .any) (T := T) (g := g) (S := S) hs hQ (l.take m) 0 (Array.replicate l.toArray.size false) a w.drew (fun j hj => by
    have : j < m := by omega
    simp [this]) (shut_start _) (by rw [hl]; exact hB) hp h hS (fun a' h' => by rw [hl]; exact h')
  rw [hl, hg] at this
  simpa using this
end
end Go.Proofs.Ytfeibjokifidmaa
