/- Slices of the call's own, over any program: a row that may still be empty; append; what is known of a row behind other steps. -/
import Derived.WalkKit
import Derived.Outline
import Derived.Lib.Hide
import Derived.Laws.AppendOwnNone
namespace Go.Proofs.Ytaiflkjchbpphaa
open Go.RowKit

/-- A slice onto which the call may append: nothing yet and no room, or a row of the call's own. -/
def Row (w : World) (B : Nat) (e : TypeId) (size : Nat) (v : Value) (n : Nat) (xs : List Value) : Prop :=
  w.ownsRow B e size v n xs ∨ (n = 0 ∧ xs = [] ∧ ∃ ad, v = .slice ad 0 0)

theorem Row.nil (w : World) (B : Nat) (e : TypeId) (size : Nat) : Row w B e size (.slice none 0 0) 0 [] := .inr ⟨rfl, rfl, _, rfl⟩
theorem Row.bare (w : World) (B : Nat) (e : TypeId) (size : Nat) (ad : Option Addr) : Row w B e size (.slice ad 0 0) 0 [] := .inr ⟨rfl, rfl, _, rfl⟩

theorem owns_mono {w : World} {B B' : Nat} {e : TypeId} {size : Nat} {v : Value} {n : Nat} {xs : List Value} (h : w.ownsRow B e size v n xs) (hB : B' ≤ B) : w.ownsRow B' e size v n xs := by
  obtain ⟨h1, h2⟩ := h
  refine ⟨h1, ?_⟩
  rcases h2 with h2 | ⟨g, cap, cur, hv, hg, r⟩
  · exact .inl h2
  · exact .inr ⟨g, cap, cur, hv, by omega, r⟩

theorem Row.mono {w : World} {B B' : Nat} {e : TypeId} {size : Nat} {v : Value} {n : Nat} {xs : List Value} (h : Row w B e size v n xs) (hB : B' ≤ B) : Row w B' e size v n xs :=
  h.elim (fun h => .inl (owns_mono h hB)) .inr

/-- A row lies below a number of blocks. -/
theorem owns_below {w w' : World} {B C : Nat} {e : TypeId} {size : Nat} {v : Value} {n : Nat} {xs : List Value} (h : w.ownsRow B e size v n xs) (hb : Below C w w') (hC : w.heap.size ≤ C) : w'.ownsRow B e size v n xs := by
  obtain ⟨h1, h2⟩ := h
  refine ⟨h1, ?_⟩
  rcases h2 with h2 | ⟨g, cap, cur, hv, hg, hh, r⟩
  · exact .inl h2
  · have hlt : g < w.heap.size := by
      rcases Nat.lt_or_ge g w.heap.size with h' | h'
      · exact h'
      · simp [Array.getElem?_eq_none h'] at hh
    exact .inr ⟨g, cap, cur, hv, hg, by rw [hb.block g (by omega)]; exact hh, r⟩

theorem Row.below {w w' : World} {B C : Nat} {e : TypeId} {size : Nat} {v : Value} {n : Nat} {xs : List Value} (h : Row w B e size v n xs) (hb : Below C w w') (hC : w.heap.size ≤ C) : Row w' B e size v n xs :=
  h.elim (fun h => .inl (owns_below h hb hC)) .inr

/-- What is known of a row that is not empty. -/
theorem owns_open {w : World} {B : Nat} {e : TypeId} {size : Nat} {v : Value} {n : Nat} {xs : List Value} (h : w.ownsRow B e size v n xs) (hn : 1 ≤ n) :
    ∃ g cap, v = .slice (some ⟨g, 0, none⟩) n cap ∧ B ≤ g ∧ g < w.heap.size ∧ n ≤ cap ∧ cap ≤ maxLen ∧ xs.length = n * size ∧ (∀ j, j < n * size → w.cell? ⟨g, j, none⟩ = xs[j]?) ∧ (∀ j, w.frozen? ⟨g, j, none⟩ = false) := by
  obtain ⟨h1, h2⟩ := h
  rcases h2 with ⟨_, h2⟩ | ⟨g, cap, cur, rfl, hg, hh, hnc, hcm, hcs, ht⟩
  · omega
  · have h : w.ownsRow B e size (.slice (some ⟨g, 0, none⟩) n cap) n xs := ⟨h1, .inr ⟨g, cap, cur, rfl, hg, hh, hnc, hcm, hcs, ht⟩⟩
    refine ⟨g, cap, rfl, hg, lt_of_block hh, hnc, hcm, h1, fun j hj => h.cellAt j hj, fun j => h.frozenAt j⟩

/-- What is known of a row by its address. -/
theorem owns_at {w : World} {B : Nat} {e : TypeId} {size g cap n : Nat} {xs : List Value} (h : w.ownsRow B e size (.slice (some ⟨g, 0, none⟩) n cap) n xs) :
    B ≤ g ∧ g < w.heap.size ∧ n ≤ cap ∧ xs.length = n * size ∧ (∀ j, j < n * size → w.cell? ⟨g, j, none⟩ = xs[j]?) ∧ (∀ j, w.frozen? ⟨g, j, none⟩ = false) := by
  have h0 := h
  obtain ⟨h1, h2⟩ := h
  rcases h2 with ⟨h2, _⟩ | ⟨g', cap', cur, hv, hg, hh, hnc, hcm, hcs, ht⟩
  · cases h2
  · injection hv with e1 e2 e3
    injection e1 with e1
    injection e1 with e1
    subst e1 e3
    exact ⟨hg, lt_of_block hh, hnc, h1, fun j hj => h0.cellAt j hj, fun j => h0.frozenAt j⟩

/-- A row of zeros that has just been made. -/
theorem made_ints {w : World} {B : Nat} {e : TypeId} {g cap n : Nat} {k : IntKind} (h : w.ownsRow B e 1 (.slice (some ⟨g, 0, none⟩) n cap) n (madeCells #[.int k 0] n).toList) :
    g < w.heap.size ∧ (∀ j, j < n → w.cell? ⟨g, j, none⟩ = some (.int k ((List.replicate n (0 : Int))[j]?.getD 0))) ∧ (∀ j, w.frozen? ⟨g, j, none⟩ = false) := by
  obtain ⟨_, h2, _, _, h5, h6⟩ := owns_at h
  refine ⟨h2, fun j hj => ?_, h6⟩
  rw [h5 j (by omega), toList_madeCells_one, List.getElem?_replicate, if_pos hj, List.getElem?_replicate, if_pos hj]
  rfl

theorem Row.owns {w : World} {B : Nat} {e : TypeId} {size : Nat} {v : Value} {n : Nat} {xs : List Value} (h : Row w B e size v n xs) (hn : 1 ≤ n) : w.ownsRow B e size v n xs := by
  rcases h with h | ⟨h, _⟩
  · exact h
  · omega

/-- What an append leaves: new blocks, and writes to the row's own block alone. -/
def Grew (w w' : World) (B : Nat) (v : Value) : Prop := ∃ row, w.grownBy w' row ∧ ∀ k, row = some k → B ≤ k ∧ v.ownBlock = some k

/-- 'append(v, news..)', at least one of them, v a row that may still be empty. -/
theorem wpList_append_row {P : Program} (w : World) {ops : Array Oper} {rest : List Oper} {o : Oper} {a : Act} {Q : Exit → Act → World → Prop}
    (hg : o.guard = none) (s x : Operand) (t : TypeId) (hop : o.op = Op.call { callee := Callee.builtin Builtin.append, args := #[s, x], argTypes := #[t, t] })
    (B : Nat) (e : TypeId) (i : TypeInfo) (z : Value) (size bytes : Nat) (h1 : P.underlying t = some (.slice e)) (h2 : P.info? e = some i) (h3 : i.zero = some z) (h4 : i.size = size) (h5 : i.bytes = bytes) (h6 : z.cells.size = size) (h7 : 0 < size)
    (v : Value) (n : Nat) (xs : List Value) (hs : a.eval s = v) (hrow : Row w B e size v n xs)
    (ad : Addr) (m c : Nat) (news : List Value) (hx : a.eval x = .slice (some ad) m c) (hn : news.length = m * size) (hc : ∀ j u, news[j]? = some u → w.cell? (ad.add j) = some u) (h1c : ∀ u ∈ news, u.oneCell' = true)
    (hm : 1 ≤ m) (b1 : n + m ≤ maxLen) (b2 : (n + m) * bytes ≤ 140737488355328) (hB : B ≤ w.heap.size)
    (hK : ∀ v' w', w'.ownsRow B e size v' (n + m) (xs ++ news) → Grew w w' B v → wpList P ops Q rest (a.put o.dst v') w') :
    wpList P ops Q (o :: rest) a w := by
  rcases hrow with hown | ⟨rfl, rfl, ao, rfl⟩
  · exact wpList_append_own w hg s x t hop B e i z size bytes h1 h2 h3 h4 h5 h6 h7 v n xs hs hown ad m c news hx hn hc h1c b1 b2 hB fun v' w' r1 r2 _ => hK v' w' r1 ⟨_, r2, fun k hk => ⟨(hown.lt k hk).1, hk⟩⟩
  · refine wpList_append_grows w hg s x t hop e i z size bytes h1 h2 h3 h4 h5 h6 h7 ao 0 0 [] hs (fun _ => ⟨rfl, rfl⟩) (by simp) (by intro _ _ j u hj; simp at hj) ad m c news hx hn hc h1c (by omega) b1 b2 fun v' w' r1 r2 => hK v' w' (owns_mono r1 hB) ⟨none, r2, fun k hk => by cases hk⟩

/-- The step of an append, as a step below. -/
theorem grown_below {w w' : World} {B : Nat} {v : Value} (h : Grew w w' B v) (hB : B ≤ w.heap.size) : Below B w w' := by
  obtain ⟨row, hg, hr⟩ := h
  exact (Below.refl B w).grown hg hB fun k hk => (hr k hk).1

/-- A number stored into a row of numbers. -/
theorem set_ints {w : World} {g N : Nat} {L : List Int} {k : IntKind} (hc : ∀ i, i < N → w.cell? ⟨g, i, none⟩ = some (.int k (L[i]?.getD 0))) (hl : L.length = N) (j : Nat) (y : Int) :
    ∀ i, i < N → (w.setCell ⟨g, j, none⟩ (.int k y)).cell? ⟨g, i, none⟩ = some (.int k ((L.set j y)[i]?.getD 0)) := by
  intro i hi
  by_cases h : j = i
  · subst h
    rw [World.cell?_setCell_same _ _ _ (hc j hi), List.getElem?_set_self (by omega)]; rfl
  · rw [World.cell?_setCell_other _ _ _ _ (fun e => h (congrArg Addr.off e)), hc i hi, List.getElem?_set_ne h]

/-- 's[:q]', q within the capacity. -/
theorem run_cut {P : Program} (w : World) (t e : TypeId) (a : Option Addr) (len cap q : Nat) (i : TypeInfo) (h : P.underlying t = some (.slice e)) (hi : P.info? e = some i) (hq : q ≤ cap) (hn : a = none → cap = 0) :
    (Instr.slice t (.slice a len cap) none (some (.int .i64 (q : Int))) none).run P w = .ok (.slice a q cap) w := by
  cases a with
  | none =>
    obtain rfl := hn rfl
    obtain rfl : q = 0 := by omega
    simp [Instr.slice, run_underlying h, Instr.sliceBounds, Instr.sliceBound, asIntOf, sizeOf, typeInfo, hi]
  | some x =>
    have hx : x.add 0 = x := by simp [Addr.add]
    simp [Instr.slice, run_underlying h, Instr.sliceBounds, Instr.sliceBound, asIntOf, sizeOf, typeInfo, hi, hq, hx]

/-- The cells of a row of numbers, as an append takes them. -/
theorem cells_of {w : World} {g N : Nat} {L : List Int} {k : IntKind} (hl : L.length = N) (hc : ∀ i, i < N → w.cell? ⟨g, i, none⟩ = some (.int k (L[i]?.getD 0))) :
    ∀ j u, (L.map (Value.int k))[j]? = some u → w.cell? ((⟨g, 0, none⟩ : Addr).add j) = some u := by
  intro j u hu
  rw [List.getElem?_map] at hu
  have hj : j < N := by
    rcases Nat.lt_or_ge j L.length with h | h
    · rw [← hl]; exact h
    · rw [List.getElem?_eq_none h] at hu; cases hu
  have := hc j hj
  rcases hz : L[j]? with _ | y
  · rw [hz] at hu; cases hu
  · rw [hz] at hu this
    simp at hu
    subst hu
    rw [Addr.add_lit]
    simpa using this

/-- The block of one cell that an append of one element lays. -/
theorem new_one (w : World) (u : Value) (t : TypeId) : ∀ j x, [u][j]? = some x → (w.alloc (.cells #[u] t)).cell? ((⟨w.heap.size, 0, none⟩ : Addr).add j) = some x := by
  intro j x hj
  match j, hj with
  | 0, hj => simp at hj; subst hj; simp [Addr.add]
theorem one_ok {u : Value} (h : u.oneCell' = true) : ∀ x ∈ [u], x.oneCell' = true := by
  intro x hx; simp at hx; subst hx; exact h

/-- 'append([]T(nil), src...)', src whatever slice. -/
theorem wpList_append_copy {P : Program} (w : World) {ops : Array Oper} {rest : List Oper} {o : Oper} {a : Act} {Q : Exit → Act → World → Prop}
    (hg : o.guard = none) (s x : Operand) (t : TypeId) (hop : o.op = Op.call { callee := Callee.builtin Builtin.append, args := #[s, x], argTypes := #[t, t] })
    (e : TypeId) (i : TypeInfo) (z : Value) (size bytes : Nat) (h1 : P.underlying t = some (.slice e)) (h2 : P.info? e = some i) (h3 : i.zero = some z) (h4 : i.size = size) (h5 : i.bytes = bytes) (h6 : z.cells.size = size) (h7 : 0 < size)
    (ao : Option Addr) (n cap : Nat) (xs : List Value) (hs : a.eval s = .slice none 0 0) (hx : a.eval x = .slice ao n cap) (hl : xs.length = n * size) (hn : ao = none → n = 0 ∧ cap = 0)
    (hc : ∀ y, ao = some y → ∀ j u, xs[j]? = some u → w.cell? (y.add j) = some u) (h1c : ∀ u ∈ xs, u.oneCell' = true)
    (b1 : n ≤ maxLen) (b2 : n * bytes ≤ 140737488355328)
    (hK : ∀ v' w', w'.ownsRow w.heap.size e size v' n xs → w.grownBy w' none → wpList P ops Q rest (a.put o.dst v') w') :
    wpList P ops Q (o :: rest) a w := by
  cases ao with
  | none =>
    obtain ⟨rfl, rfl⟩ := hn rfl
    obtain rfl : xs = [] := List.eq_nil_of_length_eq_zero (by simpa using hl)
    exact wpList_append_own_none hg s x t hop w.heap.size e i size h1 h2 (.slice none 0 0) 0 [] hs (World.ownsRow_nil _ _ _ _) hx (hK _ _ (World.ownsRow_nil _ _ _ _) (World.grownBy.refl _ _))
  | some y =>
    refine wpList_append_own w hg s x t hop w.heap.size e i z size bytes h1 h2 h3 h4 h5 h6 h7 _ 0 [] hs (World.ownsRow_nil _ _ _ _) y n cap xs hx hl (hc y rfl) h1c (by omega) (by rw [Nat.zero_add]; exact b2) (Nat.le_refl _) ?_
    intro v' w' r1 r2 _
    simp only [Nat.zero_add, List.nil_append] at r1
    exact hK v' w' r1 r2

/-- A row as the source of such a copy. -/
theorem owns_source {w : World} {B : Nat} {e : TypeId} {size : Nat} {v : Value} {n : Nat} {xs : List Value} (h : w.ownsRow B e size v n xs) :
    ∃ ao cap, v = .slice ao n cap ∧ (ao = none → n = 0 ∧ cap = 0) ∧ (∀ y, ao = some y → ∀ j u, xs[j]? = some u → w.cell? (y.add j) = some u) ∧ xs.length = n * size := by
  have h0 := h
  obtain ⟨h1, h2⟩ := h
  rcases h2 with ⟨rfl, rfl⟩ | ⟨g, cap, cur, rfl, hg, hh, r⟩
  · exact ⟨none, 0, rfl, fun _ => ⟨rfl, rfl⟩, (fun y hy => by cases hy), h1⟩
  · exact ⟨some ⟨g, 0, none⟩, cap, rfl, (fun h => by cases h), (fun y hy => by cases hy; exact h0.cells (g := g) rfl), h1⟩

/-- A slice of integers that came in: its elements, as the walks take them. -/
theorem row_open {k : IntKind} {w : World} {a : Option Addr} {len cap : Nat} {zs : List Int}
    (h : (a = none ∧ len = 0 ∧ cap = 0 ∧ zs = []) ∨ ∃ x, a = some x ∧ len ≤ cap ∧ cap ≤ maxLen ∧ zs.length = cap ∧ (∀ i, i < zs.length → w.cell? (x.add i) = some (.int k (zs.getD i 0))) ∧ ∀ n ∈ zs, (Lit.int k n).wf = true) :
    ∃ ns : List Int, ns.length = len ∧ (a = none → len = 0 ∧ cap = 0) ∧ (∀ x, a = some x → ∀ j u, (ns.map (Value.int k))[j]? = some u → w.cell? (x.add j) = some u) ∧ (∀ n ∈ ns, (Lit.int k n).wf = true) ∧ len ≤ cap := by
  rcases h with ⟨rfl, rfl, rfl, rfl⟩ | ⟨x, rfl, hl, _, hz, hc, hw⟩
  · exact ⟨[], rfl, fun _ => ⟨rfl, rfl⟩, (fun x hx => by cases hx), (fun n hn => by simp at hn), Nat.le_refl _⟩
  · refine ⟨zs.take len, by simp; omega, (fun h => by cases h), ?_, fun n hn => hw n (List.mem_of_mem_take hn), hl⟩
    intro y hy j u hu
    cases hy
    rw [List.getElem?_map, List.getElem?_take] at hu
    split at hu
    · rename_i hj
      have := hc j (by omega)
      rw [this]
      rw [List.getElem?_eq_getElem (by omega)] at hu
      simp at hu
      rw [← hu, List.getD_eq_getElem?_getD, List.getElem?_eq_getElem (by omega)]
      rfl
    · simp at hu
end Go.Proofs.Ytaiflkjchbpphaa
