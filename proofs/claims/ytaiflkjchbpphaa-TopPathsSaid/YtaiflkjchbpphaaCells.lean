/- mesh.Cells: the parts. -/
import Derived.Test.YtaiflkjchbpphaaQueue
import Derived.Test.YtaiflkjchbpphaaRepeat
import Derived.ArgAppend
import Derived.Deep.LoopGhost
namespace Go.Proofs.Ytaiflkjchbpphaa
open Go.RowKit

/-- A queue of numbers in block g, from place off on. -/
structure Tod (B g off cap : Nat) (T : List Nat) (w : World) : Prop where
  hB : B ≤ g
  gl : g < w.heap.size
  le : T.length ≤ cap
  at_ : ∀ (j t : Nat), T[j]? = some t → w.cell? ⟨g, off + j, none⟩ = some (.int .i64 (t : Int))
  spare : ∀ j, j < cap → (w.cell? ⟨g, off + j, none⟩).isSome = true ∧ w.frozen? ⟨g, off + j, none⟩ = false

theorem Tod.below {B g off cap : Nat} {T : List Nat} {w w' : World} (h : Tod B g off cap T w) (hb : Below w.heap.size w w') : Tod B g off cap T w' :=
  ⟨h.hB, Nat.lt_of_lt_of_le h.gl hb.size, h.le, fun j t ht => (hb.cell (p := ⟨g, off + j, none⟩) h.gl).trans (h.at_ j t ht), fun j hj => by
    rw [hb.cell (p := ⟨g, off + j, none⟩) h.gl, hb.frozen (p := ⟨g, off + j, none⟩) h.gl]; exact h.spare j hj⟩
theorem Tod.put {B g off cap : Nat} {T : List Nat} {w : World} (h : Tod B g off cap T w) (o k : Nat) (ho : o < B) (x : Value) : Tod B g off cap T (w.setCell ⟨o, k, none⟩ x) := by
  have hne : ∀ j, (w.setCell ⟨o, k, none⟩ x).cell? ⟨g, j, none⟩ = w.cell? ⟨g, j, none⟩ := fun j => World.cell?_setCell_other _ _ _ _ (fun e => by have := congrArg Addr.block e; have := h.hB; simp only [] at *; omega)
  exact ⟨h.hB, by simpa [World.setCell] using h.gl, h.le, fun j t ht => (hne _).trans (h.at_ j t ht), fun j hj => by rw [hne, World.frozen?_setCell]; exact h.spare j hj⟩
theorem Tod.tail {B g off cap x : Nat} {R : List Nat} {w : World} (h : Tod B g off cap (x :: R) w) : Tod B g (off + 1) (cap - 1) R w := by
  have hl := h.le
  simp only [List.length_cons] at hl
  refine ⟨h.hB, h.gl, by omega, fun j t ht => ?_, fun j hj => ?_⟩
  · have := h.at_ (j + 1) t (by simpa using ht)
    rwa [show off + (j + 1) = off + 1 + j by omega] at this
  · have := h.spare (j + 1) (by omega)
    rwa [show off + (j + 1) = off + 1 + j by omega] at this

theorem setCells_one (w : World) (b o : Nat) (x : Value) : w.setCells b o [x] = w.setCell ⟨b, o, none⟩ x := by simp [World.setCells]

theorem owns_some {w : World} {B g cap n : Nat} {e : TypeId} {xs : List Value} (h : w.ownsRow B e 1 (.slice (some ⟨g, 0, none⟩) n cap) n xs) (k : Nat) (hk : k < cap) : (w.cell? ⟨g, k, none⟩).isSome = true := by
  rcases h.2 with ⟨h2, _⟩ | ⟨g2, cap2, cur, hv, _, hh, _, _, hcs, _⟩
  · cases h2
  · injection hv with e1 e2 e3
    injection e1 with e1
    injection e1 with e1
    subst e1 e3
    have hkc : k < cur.size := by rw [hcs, Nat.mul_one]; exact hk
    simp [World.cell?, hh, hkc]

theorem wpList_todo (w : World) {ops : Array Oper} {rest : List Oper} {o : Oper} {a : Act} {Q : Exit → Act → World → Prop}
    (hg : o.guard = none) (s x : Operand) (hop : o.op = Op.call { callee := Callee.builtin Builtin.append, args := #[s, x], argTypes := #[22, 22] })
    (B g off cap n : Nat) (T : List Nat) (hs : a.eval s = .slice (some ⟨g, off, none⟩) n cap) (hn : T.length = n) (hT : Tod B g off cap T w) (hBs : B ≤ w.heap.size)
    (ad : Addr) (j : Nat) (hx : a.eval x = .slice (some ad) 1 1) (hc : w.cell? (ad.add 0) = some (.int .i64 (j : Int))) (hl : n ≤ 1000)
    (h : ∀ g' off' cap' w', Tod B g' off' cap' (T ++ [j]) w' → Below B w w' → wpList Try.prog ops Q rest (a.put o.dst (.slice (some ⟨g', off', none⟩) (n + 1) cap')) w') :
    wpList Try.prog ops Q (o :: rest) a w := by
  obtain ⟨i0, hi0, hz0, hz1, hz2⟩ := info_parts Try.info3'
  subst hn
  have hle := hT.le
  have olds : ∀ (k : Nat) (u : Value), (T.map fun (t : Nat) => Value.int .i64 (t : Int))[k]? = some u → w.cell? ⟨g, off + k, none⟩ = some u := fun k u hk => by
    rw [List.getElem?_map] at hk
    obtain ⟨t, ht, rfl⟩ := Option.map_eq_some_iff.1 hk
    exact hT.at_ k t ht
  have news : ∀ (k : Nat) (u : Value), [Value.int .i64 (j : Int)][k]? = some u → w.cell? (ad.add k) = some u := fun k u hk => by
    match k, hk with
    | 0, hk => simp at hk; subst hk; exact hc
  refine wpList_append_arg w hg s x 22 hop 3 i0 (.int .i64 0) 1 8 Try.underlying22 hi0 hz0 hz1 hz2 rfl (by decide) g off T.length cap (T.map fun (t : Nat) => Value.int .i64 (t : Int)) hs (by simp) olds ad 1 1 [.int .i64 (j : Int)] hx (by simp) news (one_ok rfl)
    (fun hr k hk => by
      simp only [List.length_singleton] at hk
      have := hT.spare (T.length + k) (by omega)
      rwa [← Nat.add_assoc, ← Nat.mul_one T.length] at this) (by unfold maxLen; omega) (by omega) (fun hr => ?_) (fun hr v' w' hown hgr => ?_)
  · rw [setCells_one, Nat.mul_one]
    have hcs := (hT.spare T.length (by omega))
    refine h g off cap _ ⟨hT.hB, by simpa [World.setCell] using hT.gl, by simp; omega, fun k t ht => ?_, fun k hk => ?_⟩ ((Below.refl _ _).setCell hT.hB _)
    · by_cases hkT : k < T.length
      · rw [List.getElem?_append_left hkT] at ht
        rw [World.cell?_setCell_other _ _ _ _ (fun e => by have := congrArg Addr.off e; simp only [] at this; omega)]
        exact hT.at_ k t ht
      · rw [List.getElem?_append_right (by omega)] at ht
        have hk0 : k = T.length := by
          rcases Nat.lt_or_ge (k - T.length) 1 with h1 | h1
          · omega
          · rw [List.getElem?_eq_none (by simpa using h1)] at ht; cases ht
        subst hk0
        simp at ht
        subst ht
        obtain ⟨v, hv⟩ := Option.isSome_iff_exists.1 hcs.1
        exact World.cell?_setCell_same _ _ _ hv
    · rw [World.frozen?_setCell]
      refine ⟨?_, (hT.spare k hk).2⟩
      by_cases e : k = T.length
      · subst e
        obtain ⟨v, hv⟩ := Option.isSome_iff_exists.1 hcs.1
        rw [World.cell?_setCell_same _ _ _ hv]; rfl
      · rw [World.cell?_setCell_other _ _ _ _ (fun e' => by have := congrArg Addr.off e'; simp only [] at this; omega)]
        exact (hT.spare k hk).1
  · obtain ⟨g', cap', rfl, hg', hgl', hc1, hc2, hlen, hcl, hfr⟩ := owns_open hown (by omega)
    have hb : Below B w w' := (Below.refl B w).grown hgr hBs (fun k hk => by cases hk)
    refine h g' 0 cap' w' ⟨by omega, hgl', by simp; omega, fun k t ht => ?_, fun k hk => ?_⟩ hb
    · have hkl : k < T.length + 1 := by
        rcases Nat.lt_or_ge k (T ++ [j]).length with h1 | h1
        · simpa using h1
        · rw [List.getElem?_eq_none h1] at ht; cases ht
      rw [Nat.zero_add, hcl k (by omega)]
      have : ((T.map fun (t : Nat) => Value.int .i64 (t : Int)) ++ [Value.int .i64 (j : Int)]) = (T ++ [j]).map fun (t : Nat) => Value.int .i64 (t : Int) := by simp
      rw [this, List.getElem?_map, ht]
      rfl
    · rw [Nat.zero_add]
      refine ⟨?_, hfr k⟩
      exact owns_some hown k hk

/-- A table of four neighbours each. -/
structure Tab (gx nc : Nat) (r cp : Nat → Nat) (N : Nat → Nat → Int) (w : World) : Prop where
  row : ∀ c, c < nc → w.cell? ⟨gx, c, none⟩ = some (.slice (some ⟨r c, 0, none⟩) 4 (cp c))
  num : ∀ c j, c < nc → j < 4 → w.cell? ⟨r c, j, none⟩ = some (.int .i64 (N c j))
  gl : gx < w.heap.size
  rl : ∀ c, c < nc → r c < w.heap.size
theorem Tab.on {gx nc : Nat} {r cp : Nat → Nat} {N : Nat → Nat → Int} {w w' : World} (h : Tab gx nc r cp N w) (hb : Below w.heap.size w w') : Tab gx nc r cp N w' :=
  ⟨fun c hc => (hb.cell (p := ⟨gx, c, none⟩) h.gl).trans (h.row c hc), fun c j hc hj => (hb.cell (p := ⟨r c, j, none⟩) (h.rl c hc)).trans (h.num c j hc hj), Nat.lt_of_lt_of_le h.gl hb.size, fun c hc => Nat.lt_of_lt_of_le (h.rl c hc) hb.size⟩
theorem Tab.of {gx cx nc B : Nat} {r cp : Nat → Nat} {N : Nat → Nat → Int} {w : World} (h : w.ownsRow B 22 1 (.slice (some ⟨gx, 0, none⟩) nc cx) nc (rowsOf r cp nc)) (k : ∀ c, c < nc → w.ownsRow B 3 1 (.slice (some ⟨r c, 0, none⟩) 4 (cp c)) 4 (nums4 N c 4)) : Tab gx nc r cp N w := by
  obtain ⟨_, h2, _, _, h5, _⟩ := owns_at h
  refine ⟨fun c hc => by rw [h5 c (by omega), rowsOf_get _ _ _ _ hc], fun c j hc hj => ?_, h2, fun c hc => (owns_at (k c hc)).2.1⟩
  obtain ⟨_, _, _, _, k5, _⟩ := owns_at (k c hc)
  rw [k5 j (by omega), nums4_get _ _ _ _ hj]
end Go.Proofs.Ytaiflkjchbpphaa
