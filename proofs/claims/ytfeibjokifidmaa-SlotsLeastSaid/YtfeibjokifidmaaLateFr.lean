/- The same as LateIx; an operation that only copies an operand needs no world, so those of T need not wait for it. For a plain call. -/
import Derived.Test.YtfeibjokifidmaaLateIx
namespace Go.Proofs.Ytfeibjokifidmaa
open Go

/-- An operation that copies an operand. -/
def freeB (o : Oper) : Bool := match o.op with | .move _ | .assign _ => true | _ => false
theorem exec_free {P : Program} {o : Oper} {ρ : Operand → Value} {w w1 : World} {v : Value} (hf : freeB o = true) (h : (execOp ρ o).run P w1 = .ok (.value v) w1) : (execOp ρ o).run P w = .ok (.value v) w := by
  unfold freeB at hf
  unfold execOp at h ⊢
  split at hf
  all_goals first | (rename_i ho; simp only [ho, Sem.run_pure] at h ⊢; injection h with h1 _; rw [h1]) | cases hf

/-- .. or a choice, or a length. -/
def pureB' (o : Oper) : Bool :=
  pureB o || match o.op with
  | .pick .. => true
  | .call c => match c.callee with | .builtin .len => true | _ => false
  | _ => false
theorem exec_pure' {P : Program} {o : Oper} {ρ : Operand → Value} {w w' : World} {r : Next} (hp : pureB' o = true) (h : (execOp ρ o).run P w = .ok r w') : ∃ v, r = .value v := by
  unfold pureB' at hp
  rcases Bool.or_eq_true _ _ ▸ hp with hp | hp
  · exact exec_pure hp h
  · unfold execOp at h
    split at hp
    · rename_i ho
      simp only [ho] at h
      obtain ⟨b, w1, h⟩ := bind_ok h
      simp only [Sem.run_pure] at h
      injection h with h1 _
      exact ⟨_, h1.symm⟩
    · rename_i c ho
      split at hp
      · rename_i hc
        simp only [ho, resolve, hc, invoke, builtin, pure_bind] at h
        exact value_of h
      · cases hp
    · cases hp
theorem if_of_in' {P : Program} {ops : Array Oper} {C : World → Prop} {o : Oper} {v : Value} {a : Act} (hp : pureB' o = true) (h : YieldsIn P ops C o v a) : YieldsIf P ops C o v a := by
  rcases h with ⟨hw, hv⟩ | h
  · refine .inl ⟨hw, fun w hC => ?_⟩
    have h1 := hv w hC
    unfold Oper.quietAt at h1
    cases hr : (execOp a.eval o).run P w with
    | ok r w' =>
      obtain ⟨u, rfl⟩ := exec_pure' hp hr
      rw [hr] at h1
      obtain ⟨rfl, rfl⟩ := h1
      rfl
    | halt e w' => rw [hr] at h1; exact h1.elim
  · exact .inr h

section
variable {P : Program} {ops : Array Oper} {Q : Exit → Act → World → Prop} {md : Region.Mode} {S : World → Prop}

theorem if_free {o : Oper} {v : Value} {a : Act} {w0 : World} (hf : freeB o = true) (h : YieldsIf P ops S o v a) (h0 : S w0) : YieldsIf P ops (fun _ => True) o v a := by
  rcases h with ⟨hw, hv⟩ | h
  · exact .inl ⟨hw, fun w _ => exec_free hf (hv w0 h0)⟩
  · exact .inr h

/-- Whatever order is picked from here on, and what is not of T keeps S. -/
def wpAnyF (P : Program) (md : Region.Mode) (ops : Array Oper) (Q : Exit → Act → World → Prop) (S : World → Prop) (T : List Nat) : Nat → Array Bool → Act → World → Prop
  | 0, listed, a, w => Region.ready md ops listed = [] ∧ Q .normal a w
  | fuel + 1, listed, a, w =>
    (Region.ready md ops listed = [] → Q .normal a w) ∧
    ∀ i ∈ Region.ready md ops listed, wpOp P ops Q i (fun a' w' => (i ∉ T → S w → S w') ∧ wpAnyF P md ops Q S T fuel (listed.setIfInBounds i true) a' w') a w
theorem wpAny_of_fr {T : List Nat} : ∀ (fuel : Nat) (listed : Array Bool) (a : Act) (w : World), wpAnyF P md ops Q S T fuel listed a w → wpAny P md ops Q fuel listed a w
  | 0, _, _, _, h => h
  | fuel + 1, _, _, _, h => ⟨h.1, fun i hi => wpOp_mono (fun a' w' h' => wpAny_of_fr fuel _ a' w' h'.2) (h.2 i hi)⟩

theorem fr_first {T : List Nat} {i : Nat} {oi : Oper} {v : Value} (hi : ops[i]? = some oi) (hsel : ∀ (j : Nat) (o : Oper) cs b, ops[j]? = some o → o.op ≠ .select cs b)
    (hQ : ∀ c a w, Q (.panic c) (a.put oi.dst v) w → Q (.panic c) a w) (hwt : ∀ t ∈ T, reach md ops i ops.size t = true) :
    ∀ (fuel : Nat) (listed : Array Bool) (a : Act) (w : World), Shut md ops listed →
      (∀ j oj, ops[j]? = some oj → j ≠ i → listed.getD j true = false → (∀ e ∈ oj.after, Region.binds md e = true → e.on ≠ i) → oi.apart ops oj = true) →
      i ∈ Region.ready md ops listed → YieldsIf P ops S oi v a → S w →
      wpAnyF P md ops Q S T fuel (listed.setIfInBounds i true) (a.put oi.dst v) w → wpAnyF P md ops Q S T (fuel + 1) listed a w := by
  intro fuel
  induction fuel with
  | zero =>
    intro listed a w _ _ hr hy hS H
    refine ⟨fun h => (by rw [h] at hr; cases hr), fun j hj => ?_⟩
    by_cases hji : j = i
    · subst hji; exact hy.wpOp hi hS ⟨fun _ hS => hS, H⟩
    · have := ready_mono hj hji
      rw [H.1] at this
      cases this
  | succ fuel ih =>
    intro listed a w hc hfree hr hy hS H
    refine ⟨fun h => (by rw [h] at hr; cases hr), fun j hj => ?_⟩
    by_cases hji : j = i
    · subst hji; exact hy.wpOp hi hS ⟨fun _ hS => hS, H⟩
    · have hun := (mem_ready.1 hr).1
      have hjt : j ∉ T := fun e => not_ready hc (hwt j e) hun hj
      have h1 := H.2 j (ready_mono hj hji)
      obtain ⟨hjun, oj, hoj, hall⟩ := mem_ready.1 hj
      have hnot : ∀ e ∈ oj.after, Region.binds md e = true → e.on ≠ i := fun e he hb heq => by
        have h2 := hall e he hb
        rw [heq, getD_both hun] at h2
        cases h2
      have h2 := wpOp_putIf hoj (hfree j oj hoj hji hjun hnot) (fun cs b => hsel i oi cs b hi) (fun cs b => hsel j oj cs b hoj) hQ hy h1
      have hfree' : ∀ k ok, ops[k]? = some ok → k ≠ i → (listed.setIfInBounds j true).getD k true = false →
          (∀ e ∈ ok.after, Region.binds md e = true → e.on ≠ i) → oi.apart ops ok = true := fun k ok hk hki hun' hno => by
        refine hfree k ok hk hki ?_ hno
        by_cases hjk : j = k
        · subst hjk; exact hjun
        · rw [getD_set_ne true hjk] at hun'; exact hun'
      refine wpOp_mono (fun a' w' h3 => ⟨h3.2.1, ih (listed.setIfInBounds j true) a' w' (hc.step hj) hfree' (ready_mono hr (Ne.symm hji)) h3.1 (h3.2.1 hjt hS) ?_⟩) h2
      rw [Array.setIfInBounds_comm _ _ hji]
      exact h3.2.2
theorem fr_free {T : List Nat} {i : Nat} {oi : Oper} {v : Value} (hi : ops[i]? = some oi) (hsel : ∀ (j : Nat) (o : Oper) cs b, ops[j]? = some o → o.op ≠ .select cs b)
    (hQ : ∀ c a w, Q (.panic c) (a.put oi.dst v) w → Q (.panic c) a w) :
    ∀ (fuel : Nat) (listed : Array Bool) (a : Act) (w : World),
      (∀ j oj, ops[j]? = some oj → j ≠ i → listed.getD j true = false → (∀ e ∈ oj.after, Region.binds md e = true → e.on ≠ i) → oi.apart ops oj = true) →
      i ∈ Region.ready md ops listed → YieldsIf P ops (fun _ => True) oi v a →
      wpAnyF P md ops Q S T fuel (listed.setIfInBounds i true) (a.put oi.dst v) w → wpAnyF P md ops Q S T (fuel + 1) listed a w := by
  intro fuel
  induction fuel with
  | zero =>
    intro listed a w _ hr hy H
    refine ⟨fun h => (by rw [h] at hr; cases hr), fun j hj => ?_⟩
    by_cases hji : j = i
    · subst hji; exact hy.wpOp hi trivial ⟨fun _ hS => hS, H⟩
    · have := ready_mono hj hji
      rw [H.1] at this
      cases this
  | succ fuel ih =>
    intro listed a w hfree hr hy H
    refine ⟨fun h => (by rw [h] at hr; cases hr), fun j hj => ?_⟩
    by_cases hji : j = i
    · subst hji; exact hy.wpOp hi trivial ⟨fun _ hS => hS, H⟩
    · have hun := (mem_ready.1 hr).1
      have h1 := H.2 j (ready_mono hj hji)
      obtain ⟨hjun, oj, hoj, hall⟩ := mem_ready.1 hj
      have hnot : ∀ e ∈ oj.after, Region.binds md e = true → e.on ≠ i := fun e he hb heq => by
        have h2 := hall e he hb
        rw [heq, getD_both hun] at h2
        cases h2
      have h2 := wpOp_putIf hoj (hfree j oj hoj hji hjun hnot) (fun cs b => hsel i oi cs b hi) (fun cs b => hsel j oj cs b hoj) hQ hy h1
      have hfree' : ∀ k ok, ops[k]? = some ok → k ≠ i → (listed.setIfInBounds j true).getD k true = false →
          (∀ e ∈ ok.after, Region.binds md e = true → e.on ≠ i) → oi.apart ops ok = true := fun k ok hk hki hun' hno => by
        refine hfree k ok hk hki ?_ hno
        by_cases hjk : j = k
        · subst hjk; exact hjun
        · rw [getD_set_ne true hjk] at hun'; exact hun'
      refine wpOp_mono (fun a' w' h3 => ⟨h3.2.1, ih (listed.setIfInBounds j true) a' w' hfree' (ready_mono hr (Ne.symm hji)) h3.1 ?_⟩) h2
      rw [Array.setIfInBounds_comm _ _ hji]
      exact h3.2.2

def frB (md : Region.Mode) (ops : Array Oper) (T : List Nat) : List Nat → Array Bool → Bool
  | [], _ => true
  | k :: r, listed => (ops[k]?.any pureB') && (Region.ready md ops listed).contains k && Region.free md ops listed k && ((ops[k]?.any freeB) || (T.all fun t => reach md ops k ops.size t)) && frB md ops T r (listed.setIfInBounds k true)
theorem fr_ix {T : List Nat} {g : Nat} {Lq : Act → Prop} (hs : Region.noSelect ops = true) (hQ : ∀ c a w a', Q (.panic c) a' w → Q (.panic c) a w) :
    ∀ (is : List Nat) (listed : Array Bool) (a : Act) (w : World), Shut md ops listed → frB md ops T is listed = true →
      wpQuiet P ops S Lq (is.filterMap (ops[·]?)) a → S w → (∀ a', Lq a' → wpAnyF P md ops Q S T g (markedI is listed) a' w) → wpAnyF P md ops Q S T (is.length + g) listed a w
  | [], _, a, w, _, _, h, _, H => by rw [List.length_nil, Nat.zero_add]; exact H a h
  | k :: r, listed, a, w, hc, hB, h, hS, H => by
    simp only [frB, Bool.and_eq_true] at hB
    obtain ⟨⟨⟨⟨hp, hr⟩, hf⟩, hw⟩, hB'⟩ := hB
    cases h0 : ops[k]? with
    | none => rw [h0] at hp; cases hp
    | some o =>
      rw [h0] at hp hw
      have hp' : pureB' o = true := hp
      rw [List.filterMap_cons, h0] at h
      have hst : qOp P ops S k (wpQuiet P ops S Lq (r.filterMap (ops[·]?))) a := by unfold qOp; simp only [h0]; exact h
      obtain ⟨v, hy, hK⟩ := yieldsIn_of_qOp h0 hst
      rw [List.length_cons, show r.length + 1 + g = (r.length + g) + 1 by omega]
      have H' := fr_ix hs hQ r _ _ w (hc.step (by simpa using hr)) hB' hK hS H
      cases hfr : freeB o with
      | true => exact fr_free h0 (Region.noSelect_spec hs) (fun c a w h => hQ c a w _ h) _ listed a w (Region.free_spec h0 hf) (by simpa using hr) (if_free hfr (if_of_in' hp' hy) hS) H'
      | false =>
        rw [show (some o).any freeB = false from hfr, Bool.false_or] at hw
        exact fr_first h0 (Region.noSelect_spec hs) (fun c a w h => hQ c a w _ h) (fun t ht => List.all_eq_true.1 hw t ht) _ listed a w hc (Region.free_spec h0 hf) (by simpa using hr) (if_of_in' hp' hy) hS H'
/-- One operation alone may come up. -/
theorem fr_one {T : List Nat} {i g : Nat} {o : Oper} {listed : Array Bool} {a : Act} {w : World} (hr : Region.ready md ops listed = [i]) (ho : ops[i]? = some o) (hw : Region.wanted o (yielded ops a.tmps) = true)
    (h : o.wp P a w (fun a' w' => (i ∉ T → S w') ∧ wpAnyF P md ops Q S T g (listed.setIfInBounds i true) a' w') Q) : wpAnyF P md ops Q S T (g + 1) listed a w := by
  refine ⟨fun h0 => (by rw [hr] at h0; cases h0), fun j hj => ?_⟩
  rw [hr, List.mem_singleton] at hj
  subst hj
  unfold wpOp
  simp only [ho, hw, if_true]
  exact .inl (Oper.wp_mono (fun _ _ h => ⟨fun h1 _ => h.1 h1, h.2⟩) h)
theorem fr_done {T : List Nat} {g : Nat} {listed : Array Bool} {a : Act} {w : World} (hr : Region.ready md ops listed = []) (h : Q .normal a w) : wpAnyF P md ops Q S T g listed a w := by
  cases g with
  | zero => exact ⟨hr, h⟩
  | succ g => exact ⟨fun _ => h, fun i hi => by rw [hr] at hi; cases hi⟩
end
section
variable {P : Program} {Q : Exit → Act → World → Prop} {S : World → Prop}

/-- Without panics, any order may be asked of a region of a plain call. -/
def noPan (Q : Exit → Act → World → Prop) : Exit → Act → World → Prop := fun e a w => (∀ c, e ≠ .panic c) ∧ Q e a w
theorem region_fr {id : Nat} {a : Act} {w : World} {l : List Oper} (is : List Nat) (g : Nat) (T : List Nat) (hm : P.follows .mixedOrders = true) (hg : is.length + g = l.length) (hs : Region.noSelect l.toArray = true)
    (hB : frB .any l.toArray T is (Array.replicate l.toArray.size false) = true) (hS : S w.drew)
    (h : wpQuiet P l.toArray S (fun a' => wpAnyF P .any l.toArray (noPan Q) S T g (markedI is (Array.replicate l.toArray.size false)) a' w.drew) (is.filterMap (l[·]?)) a) : (Code.region id l.toArray true).wp P Q a w := by
  refine Code.wp_mono (fun _ _ _ h => h.2) (wp_region_any (Q := noPan Q) hm (wpAny_of_fr (S := S) (T := T) _ _ _ _ ?_))
  have := fr_ix (md := .any) (T := T) (g := g) (S := S) (Q := noPan Q) hs (fun c _ _ _ h => (h.1 c rfl).elim) is (Array.replicate l.toArray.size false) a w.drew (shut_start _) hB (by simpa using h) hS (fun a' h' => h')
  rw [hg] at this
  simpa using this
end
end Go.Proofs.Ytfeibjokifidmaa
