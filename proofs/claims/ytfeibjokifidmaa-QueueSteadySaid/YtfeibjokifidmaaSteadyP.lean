/- What the queue holds while QueueSteady fills and empties it. No program. -/
import Derived.Test.YtfeibjokifidmaaHeap
namespace Go.Proofs.Ytfeibjokifidmaa

/-- Of equal ranks, what came first has the lesser value. -/
def Gd (x y : Itm) : Prop := x.r = y.r → (x.c < y.c ∧ x.v < y.v) ∨ (y.c < x.c ∧ y.v < x.v)
theorem Gd.symm {x y : Itm} (h : Gd x y) : Gd y x := fun e => (h e.symm).symm

structure Fine (H : List Itm) (k came : Nat) : Prop where
  pw : H.Pairwise Gd
  all : ∀ x ∈ H, 0 ≤ x.r ∧ 0 ≤ x.v ∧ x.v < k ∧ x.c < came
theorem Fine.perm {H J : List Itm} {k came : Nat} (h : Fine H k came) (p : J.Perm H) : Fine J k came :=
  ⟨(p.symm.pairwise_iff (fun h => Gd.symm h)).1 h.pw, fun x hx => h.all x (p.mem_iff.1 hx)⟩
theorem Fine.new {H : List Itm} {k came : Nat} (h : Fine H k came) (r : Int) (hr : 0 ≤ r) : Fine (H ++ [⟨k, r, came⟩]) (k + 1) (came + 1) := by
  refine ⟨?_, ?_⟩
  · rw [List.pairwise_append]
    refine ⟨h.pw, by simp, ?_⟩
    intro x hx y hy
    rw [List.mem_singleton] at hy
    subst hy
    intro _
    have := h.all x hx
    exact .inl ⟨this.2.2.2, this.2.2.1⟩
  · intro x hx
    rcases List.mem_append.1 hx with hx | hx
    · have := h.all x hx
      omega
    · rw [List.mem_singleton] at hx
      subst hx
      simp only
      omega
/-- A value put again, with a rank above all. -/
theorem Fine.again {H : List Itm} {k came : Nat} (h : Fine H k came) (v R : Int) (hR : 0 ≤ R) (hv : 0 ≤ v) (hvk : v < k) (hall : ∀ x ∈ H, x.r < R) : Fine (H ++ [⟨v, R, came⟩]) k (came + 1) := by
  refine ⟨?_, ?_⟩
  · rw [List.pairwise_append]
    refine ⟨h.pw, by simp, ?_⟩
    intro x hx y hy
    rw [List.mem_singleton] at hy
    subst hy
    intro e
    have := hall x hx
    simp only at e
    omega
  · intro x hx
    rcases List.mem_append.1 hx with hx | hx
    · have := h.all x hx
      omega
    · rw [List.mem_singleton] at hx
      subst hx
      simp only
      omega
theorem Fine.tail {x : Itm} {H : List Itm} {k came : Nat} (h : Fine (x :: H) k came) : Fine H k came :=
  ⟨(List.pairwise_cons.1 h.pw).2, fun y hy => h.all y (by simp [hy])⟩

/-- Nothing of the queue comes before what came last. -/
def Past (H : List Itm) (last rank : Int) : Prop := ∀ y ∈ H, rank ≤ y.r ∧ (y.r = rank → last < y.v)
theorem Past.start {H : List Itm} {k came : Nat} (h : Fine H k came) : Past H (-1) (-1) := fun y hy => by have := h.all y hy; omega
theorem Past.next {x : Itm} {H : List Itm} {k came : Nat} (h : Fine (x :: H) k came) (hl : ∀ y ∈ H, Le x y) : Past H x.v x.r := by
  intro y hy
  have h1 := (List.pairwise_cons.1 h.pw).1 y hy
  have h2 := hl y hy
  rw [Le_iff] at h2
  refine ⟨by omega, fun e => ?_⟩
  rcases h1 e.symm with h | h <;> omega

/-- Before the cut: each item is a number's. -/
def Given (rs : List Int) (H : List Itm) (k : Nat) : Prop := ∀ x ∈ H, ∃ i : Nat, i < k ∧ x.v = i ∧ x.r = (rs[i]?.getD 0) % 9
theorem Given.new {rs : List Int} {H : List Itm} {k came : Nat} {z : Int} (h : Given rs H k) (hz : rs[k]?.getD 0 = z) : Given rs (H ++ [⟨k, z % 9, came⟩]) (k + 1) := by
  intro x hx
  rcases List.mem_append.1 hx with hx | hx
  · obtain ⟨i, h1, h2, h3⟩ := h x hx
    exact ⟨i, by omega, h2, h3⟩
  · rw [List.mem_singleton] at hx
    subst hx
    exact ⟨k, by omega, rfl, by rw [hz]⟩
theorem Given.perm {rs : List Int} {H J : List Itm} {k : Nat} (h : Given rs H k) (p : J.Perm H) : Given rs J k := fun x hx => h x (p.mem_iff.1 hx)
end Go.Proofs.Ytfeibjokifidmaa
