/- The same, the operations that are taken first given by their numbers. -/
import Derived.Test.YtfeibjokifidmaaLate
namespace Go.Proofs.Ytfeibjokifidmaa
open Go

section
variable {P : Program} {ops : Array Oper} {Q : Exit → Act → World → Prop} {md : Region.Mode} {S : World → Prop}

/-- Each may come up in its turn, nobody touches what it writes, those of T wait for it. -/
def lateI (md : Region.Mode) (ops : Array Oper) (T : List Nat) : List Nat → Array Bool → Bool
  | [], _ => true
  | k :: r, listed => (ops[k]?.any pureB) && (Region.ready md ops listed).contains k && Region.free md ops listed k && (T.all fun t => reach md ops k ops.size t) && lateI md ops T r (listed.setIfInBounds k true)
def markedI : List Nat → Array Bool → Array Bool
  | [], listed => listed
  | k :: r, listed => markedI r (listed.setIfInBounds k true)
theorem late_ix {T : List Nat} {g : Nat} {Lq : Act → Prop} (hs : Region.noSelect ops = true) (hQ : ∀ c a w a', Q (.panic c) a' w → Q (.panic c) a w) :
    ∀ (is : List Nat) (listed : Array Bool) (a : Act) (w : World), Shut md ops listed → lateI md ops T is listed = true →
      wpQuiet P ops S Lq (is.filterMap (ops[·]?)) a → S w → (∀ a', Lq a' → wpAnyL P md ops Q S T g (markedI is listed) a' w) → wpAnyL P md ops Q S T (is.length + g) listed a w
  | [], _, a, w, _, _, h, _, H => by rw [List.length_nil, Nat.zero_add]; exact H a h
  | k :: r, listed, a, w, hc, hB, h, hS, H => by
    simp only [lateI, Bool.and_eq_true] at hB
    obtain ⟨⟨⟨⟨hp, hr⟩, hf⟩, hw⟩, hB'⟩ := hB
    cases h0 : ops[k]? with
    | none => rw [h0] at hp; cases hp
    | some o =>
      rw [h0] at hp
      have hp' : pureB o = true := hp
      rw [List.filterMap_cons, h0] at h
      have hst : qOp P ops S k (wpQuiet P ops S Lq (r.filterMap (ops[·]?))) a := by unfold qOp; simp only [h0]; exact h
      obtain ⟨v, hy, hK⟩ := yieldsIn_of_qOp h0 hst
      rw [List.length_cons, show r.length + 1 + g = (r.length + g) + 1 by omega]
      refine late_first h0 (Region.noSelect_spec hs) (fun c a w h => hQ c a w _ h) (fun t ht => List.all_eq_true.1 hw t ht) _ listed a w hc (Region.free_spec h0 hf) (by simpa using hr) (if_of_in hp' hy) hS ?_
      exact late_ix hs hQ r _ _ w (hc.step (by simpa using hr)) hB' hK hS H
end
section
variable {P : Program} {Q : Exit → Act → World → Prop} {S : World → Prop}

theorem region_ix {id : Nat} {a : Act} {w : World} {l : List Oper} (is : List Nat) (g : Nat) (T : List Nat) (hm : P.follows .mixedOrders = true) (hg : is.length + g = l.length) (hs : Region.noSelect l.toArray = true)
    (hB : lateI .any l.toArray T is (Array.replicate l.toArray.size false) = true) (hQ : ∀ c a w a', Q (.panic c) a' w → Q (.panic c) a w) (hS : S w.drew)
    (h : wpQuiet P l.toArray S (fun a' => wpAnyL P .any l.toArray Q S T g (markedI is (Array.replicate l.toArray.size false)) a' w.drew) (is.filterMap (l[·]?)) a) : (Code.region id l.toArray true).wp P Q a w := by
  refine wp_region_any hm (wpAny_of_late (S := S) (T := T) _ _ _ _ ?_)
  have := late_ix (md := .any) (T := T) (g := g) (S := S) hs hQ is (Array.replicate l.toArray.size false) a w.drew (shut_start _) hB (by simpa using h) hS (fun a' h' => h')
  rw [hg] at this
  simpa using this
theorem round_ix {k n id : Nat} {a : Act} {w : World} {l : List Oper} (is : List Nat) (g : Nat) (T : List Nat) (hm : P.follows .mixedOrders = true) (hg : is.length + g = l.length) (hs : Region.noSelect l.toArray = true)
    (hd : ∀ (i : Nat) (o : Oper) c, l.toArray[i]? = some o → o.op ≠ .defer c) (hL : ¬ LetsOut Q)
    (hB : lateI .any l.toArray T is (Array.replicate l.toArray.size false) = true) (hQ : ∀ c a w a', Q (.panic c) a' w → Q (.panic c) a w) (hS : S w.drew)
    (h : wpQuiet P l.toArray S (fun a' => wpAnyL P .any l.toArray Q S T g (markedI is (Array.replicate l.toArray.size false)) a' w.drew) (is.filterMap (l[·]?)) a) : (Code.region id l.toArray true).wpIn (Fence.wide.inRound k) n P Q a w := by
  refine wpIn_region_any hm (anyIn_round hd hL _ _ _ _ (wpAny_of_late (S := S) (T := T) _ _ _ _ ?_))
  have := late_ix (md := .any) (T := T) (g := g) (S := S) hs hQ is (Array.replicate l.toArray.size false) a w.drew (shut_start _) hB (by simpa using h) hS (fun a' h' => h')
  rw [hg] at this
  simpa using this
end
end Go.Proofs.Ytfeibjokifidmaa
