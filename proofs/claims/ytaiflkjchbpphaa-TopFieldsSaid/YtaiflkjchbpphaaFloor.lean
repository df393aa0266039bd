/- A floor of squares, and what lies next to what. No program. -/
import Derived.Test.YtaiflkjchbpphaaEqual
namespace Go.Proofs.Ytaiflkjchbpphaa

def dx (j : Nat) : Nat := if j = 1 ∨ j = 2 then 1 else 0
def dy (j : Nat) : Nat := if j = 2 ∨ j = 3 then 1 else 0
theorem dx_le (j : Nat) : dx j ≤ 1 := by unfold dx; split <;> omega
/-- Point (x, y). -/
def pt (W x y : Nat) : Nat := y * (W + 1) + x
theorem pt_inj {W x y x' y' : Nat} (h1 : x ≤ W) (h2 : x' ≤ W) (h : pt W x y = pt W x' y') : x = x' ∧ y = y' := by
  unfold pt at h
  have a1 : (y * (W + 1) + x) % (W + 1) = x := by rw [Nat.mul_comm, Nat.mul_add_mod, Nat.mod_eq_of_lt (by omega)]
  have a2 : (y' * (W + 1) + x') % (W + 1) = x' := by rw [Nat.mul_comm, Nat.mul_add_mod, Nat.mod_eq_of_lt (by omega)]
  have b1 : (y * (W + 1) + x) / (W + 1) = y := by rw [Nat.mul_comm, Nat.mul_add_div (by omega), Nat.div_eq_of_lt (by omega)]; rfl
  have b2 : (y' * (W + 1) + x') / (W + 1) = y' := by rw [Nat.mul_comm, Nat.mul_add_div (by omega), Nat.div_eq_of_lt (by omega)]; rfl
  rw [h] at a1 b1
  exact ⟨a1.symm.trans a2, b1.symm.trans b2⟩
/-- Corner j of the square of cell t. -/
def cor (W t j : Nat) : Nat := pt W (t % W + dx j) (t / W + dy j)
/-- The coordinates of point k. -/
def fx (W k : Nat) : Int := ((k % (W + 1) : Nat) : Int) * 65536
def fy (W k : Nat) : Int := ((k / (W + 1) : Nat) : Int) * 65536
theorem fx_pt (W x y : Nat) (h : x ≤ W) : fx W (pt W x y) = (x : Int) * 65536 := by
  unfold fx pt
  rw [Nat.mul_comm, Nat.mul_add_mod, Nat.mod_eq_of_lt (by omega)]
theorem fy_pt (W x y : Nat) (h : x ≤ W) : fy W (pt W x y) = (y : Int) * 65536 := by
  unfold fy pt
  rw [Nat.mul_comm, Nat.mul_add_div (by omega), Nat.div_eq_of_lt (by omega), Nat.add_zero]
theorem cor_x (W t j : Nat) (hW : 1 ≤ W) : t % W + dx j ≤ W := by
  have := Nat.mod_lt t (show 0 < W by omega)
  have := dx_le j
  omega
theorem fx_cor (W t j : Nat) (hW : 1 ≤ W) : fx W (cor W t j) = (((t % W : Nat) : Int) + (dx j : Int)) * 65536 := by
  unfold cor; rw [fx_pt _ _ _ (cor_x W t j hW)]; push_cast; rfl
theorem fy_cor (W t j : Nat) (hW : 1 ≤ W) : fy W (cor W t j) = (((t / W : Nat) : Int) + (dy j : Int)) * 65536 := by
  unfold cor; rw [fy_pt _ _ _ (cor_x W t j hW)]; push_cast; rfl

theorem cor_cv (W t a b : Nat) (hW : 1 ≤ W) (ha : a < 4) (hb : b < 4) (h1 : b ≠ a) (h2 : b ≠ (a + 1) % 4) :
    0 < ara (fx W (cor W t a)) (fy W (cor W t a)) (fx W (cor W t ((a + 1) % 4))) (fy W (cor W t ((a + 1) % 4))) (fx W (cor W t b)) (fy W (cor W t b)) := by
  simp only [fx_cor _ _ _ hW, fy_cor _ _ _ hW]
  generalize ((t % W : Nat) : Int) = x
  generalize ((t / W : Nat) : Int) = y
  unfold ara
  have e : ∀ u v z : Int, (z + u) * 65536 - (z + v) * 65536 = (u - v) * 65536 := fun u v z => by omega
  simp only [e]
  obtain rfl | rfl | rfl | rfl : a = 0 ∨ a = 1 ∨ a = 2 ∨ a = 3 := by omega
  all_goals (obtain rfl | rfl | rfl | rfl : b = 0 ∨ b = 1 ∨ b = 2 ∨ b = 3 := by omega)
  all_goals first | (exfalso; omega) | decide

theorem cor_ds (W t t' j j' : Nat) (hW : 1 ≤ W) (hj : j < 4) (hj' : j' < 4) (h1 : cor W t j = cor W t' j') (h2 : cor W t ((j + 1) % 4) = cor W t' ((j' + 1) % 4)) : t = t' ∧ j = j' := by
  obtain ⟨a1, a2⟩ := pt_inj (cor_x W t j hW) (cor_x W t' j' hW) h1
  obtain ⟨b1, b2⟩ := pt_inj (cor_x W t ((j + 1) % 4) hW) (cor_x W t' ((j' + 1) % 4) hW) h2
  have e1 := Nat.div_add_mod t W
  have e2 := Nat.div_add_mod t' W
  have hjj : j = j' := by
    obtain rfl | rfl | rfl | rfl : j = 0 ∨ j = 1 ∨ j = 2 ∨ j = 3 := by omega
    all_goals (obtain rfl | rfl | rfl | rfl : j' = 0 ∨ j' = 1 ∨ j' = 2 ∨ j' = 3 := by omega)
    all_goals simp [dx, dy] at a1 a2 b1 b2
    all_goals first | rfl | (exfalso; omega)
  subst hjj
  have x1 : t % W = t' % W := by omega
  have x2 : t / W = t' / W := by omega
  rw [x1, x2, e2] at e1
  exact ⟨e1.symm, rfl⟩

/-- The cells s 0, s 1, .. of the grid are the squares of the floor. -/
structure Sel (N nc : Nat) (Cs : List Int) (s : Nat → Nat) (i : Nat) : Prop where
  lt : ∀ k, k < nc → s k < i ∧ gt Cs (s k) ≠ 0
  all : ∀ a, a < i → gt Cs a ≠ 0 → ∃ k, k < nc ∧ s k = a
  inj : ∀ k l, k < nc → l < nc → s k = s l → k = l
  iN : i ≤ N
  le : nc ≤ i
theorem Sel.begin (N : Nat) (Cs : List Int) (s : Nat → Nat) : Sel N 0 Cs s 0 := ⟨fun k hk => by omega, fun a ha => by omega, fun k l hk => by omega, Nat.zero_le _, Nat.le_refl _⟩
theorem Sel.skip {N nc : Nat} {Cs : List Int} {s : Nat → Nat} {i : Nat} (h : Sel N nc Cs s i) (hi : i < N) (h0 : gt Cs i = 0) : Sel N nc Cs s (i + 1) :=
  ⟨fun k hk => ⟨Nat.lt_succ_of_lt (h.lt k hk).1, (h.lt k hk).2⟩, fun a ha h1 => h.all a (by
    rcases Nat.lt_or_ge a i with h2 | h2
    · exact h2
    · obtain rfl : a = i := by omega
      exact absurd h0 h1) h1, h.inj, hi, Nat.le_succ_of_le h.le⟩
theorem Sel.add {N nc : Nat} {Cs : List Int} {s : Nat → Nat} {i : Nat} (h : Sel N nc Cs s i) (hi : i < N) (h0 : gt Cs i ≠ 0) : Sel N (nc + 1) Cs (fun k => if k = nc then i else s k) (i + 1) := by
  refine ⟨fun k hk => ?_, fun a ha h1 => ?_, fun k l hk hl e => ?_, hi, Nat.succ_le_succ h.le⟩
  · by_cases e : k = nc
    · simp only [e, if_true]; exact ⟨Nat.lt_succ_self i, h0⟩
    · simp only [if_neg e]
      have := h.lt k (by omega)
      exact ⟨by omega, this.2⟩
  · by_cases e : a = i
    · exact ⟨nc, Nat.lt_succ_self nc, by simp [e]⟩
    · obtain ⟨k, hk, rfl⟩ := h.all a (by omega) h1
      exact ⟨k, by omega, by simp [show k ≠ nc by omega]⟩
  · by_cases e1 : k = nc
    · by_cases e2 : l = nc
      · omega
      · simp only [e1, if_true, if_neg e2] at e
        have := (h.lt l (by omega)).1
        omega
    · by_cases e2 : l = nc
      · simp only [e2, if_true, if_neg e1] at e
        have := (h.lt k (by omega)).1
        omega
      · simp only [if_neg e1, if_neg e2] at e
        exact h.inj k l (by omega) (by omega) e

theorem good_floor {W H N nc : Nat} {Cs : List Int} {s : Nat → Nat} (hW : 1 ≤ W) (hW7 : W ≤ 7) (hH : H ≤ 6) (hN : W * H = N) (h : Sel N nc Cs s N) : Good ((W + 1) * (H + 1)) nc (fx W) (fy W) (fun k j => cor W (s k) j) := by
  have hN42 : N ≤ 42 := by rw [← hN]; exact Nat.mul_le_mul hW7 hH
  have hp : (W + 1) * (H + 1) ≤ 56 := Nat.mul_le_mul (show W + 1 ≤ 8 by omega) (show H + 1 ≤ 7 by omega)
  refine ⟨by omega, by have := h.le; omega, fun k hk => ?_, fun i a b hi ha hb h1 h2 => cor_cv W (s i) a b hW ha hb h1 h2, fun i j i' j' hi hi' hj hj' h1 h2 => ?_⟩
  · have m1 : k % (W + 1) ≤ k := Nat.mod_le _ _
    have m2 : k / (W + 1) ≤ k := Nat.div_le_self _ _
    unfold fx fy
    generalize k % (W + 1) = m at *
    generalize k / (W + 1) = d at *
    generalize (W + 1) * (H + 1) = q at *
    omega
  · obtain ⟨h3, h4⟩ := cor_ds W (s i) (s i') j j' hW hj hj' h1 h2
    exact ⟨h.inj i i' hi hi' h3, h4⟩
theorem cor_lt {W H N t : Nat} (hW : 1 ≤ W) (hN : W * H = N) (ht : t < N) (j : Nat) : cor W t j < (W + 1) * (H + 1) := by
  have h1 := cor_x W t j hW
  have h2 : t / W < H := Nat.div_lt_of_lt_mul (by rw [hN]; exact ht)
  have h3 : dy j ≤ 1 := by unfold dy; split <;> omega
  unfold cor pt
  have h4 : (t / W + dy j) * (W + 1) ≤ H * (W + 1) := Nat.mul_le_mul_right _ (by omega)
  have h5 : (W + 1) * (H + 1) = H * (W + 1) + (W + 1) := by rw [Nat.mul_comm, Nat.succ_mul]
  omega

/-- Squares side by side, and cells of the grid side by side. -/
theorem cor_next (W t t' j j' : Nat) (hW : 1 ≤ W) (hj : j < 4) (hj' : j' < 4) : (cor W t' j' = cor W t ((j + 1) % 4) ∧ cor W t' ((j' + 1) % 4) = cor W t j) ↔
    (j = 0 ∧ j' = 2 ∧ t' % W = t % W ∧ t' / W + 1 = t / W) ∨ (j = 1 ∧ j' = 3 ∧ t' % W = t % W + 1 ∧ t' / W = t / W) ∨ (j = 2 ∧ j' = 0 ∧ t' % W = t % W ∧ t' / W = t / W + 1) ∨ (j = 3 ∧ j' = 1 ∧ t' % W + 1 = t % W ∧ t' / W = t / W) := by
  constructor
  · rintro ⟨h1, h2⟩
    obtain ⟨a1, a2⟩ := pt_inj (cor_x W t' j' hW) (cor_x W t ((j + 1) % 4) hW) h1
    obtain ⟨b1, b2⟩ := pt_inj (cor_x W t' ((j' + 1) % 4) hW) (cor_x W t j hW) h2
    obtain rfl | rfl | rfl | rfl : j = 0 ∨ j = 1 ∨ j = 2 ∨ j = 3 := by omega
    all_goals (obtain rfl | rfl | rfl | rfl : j' = 0 ∨ j' = 1 ∨ j' = 2 ∨ j' = 3 := by omega)
    all_goals simp [dx, dy] at a1 a2 b1 b2
    all_goals omega
  · rintro (⟨rfl, rfl, h1, h2⟩ | ⟨rfl, rfl, h1, h2⟩ | ⟨rfl, rfl, h1, h2⟩ | ⟨rfl, rfl, h1, h2⟩)
    all_goals unfold cor
    all_goals simp [dx, dy, h1, h2]
    all_goals (rw [← h2])

theorem dm (W x y : Nat) (hx : x < W) : (y * W + x) % W = x ∧ (y * W + x) / W = y := by
  refine ⟨?_, ?_⟩
  · rw [Nat.mul_comm, Nat.mul_add_mod, Nat.mod_eq_of_lt hx]
  · rw [Nat.mul_comm, Nat.mul_add_div (by omega), Nat.div_eq_of_lt hx]; rfl
theorem next_iff (W H N t t' : Nat) (hW : 1 ≤ W) (hN : W * H = N) (_ht : t < N) (ht' : t' < N) : (∃ j j', j < 4 ∧ j' < 4 ∧ cor W t' j' = cor W t ((j + 1) % 4) ∧ cor W t' ((j' + 1) % 4) = cor W t j) ↔ Adj W H t t' := by
  have e1 : t' / W * W + t' % W = t' := by rw [Nat.mul_comm]; exact Nat.div_add_mod t' W
  have hm := Nat.mod_lt t (show 0 < W by omega)
  have hm' := Nat.mod_lt t' (show 0 < W by omega)
  have hd' : t' / W < H := Nat.div_lt_of_lt_mul (by rw [hN]; exact ht')
  constructor
  · rintro ⟨j, j', hj, hj', h⟩
    rcases (cor_next W t t' j j' hW hj hj').1 h with ⟨_, _, h1, h2⟩ | ⟨_, _, h1, h2⟩ | ⟨_, _, h1, h2⟩ | ⟨_, _, h1, h2⟩
    · refine ⟨4, by omega, by omega, ?_⟩
      unfold stp
      rw [if_neg (by omega), if_neg (by omega), if_neg (by omega), if_pos (show 1 ≤ t / W from h2 ▸ Nat.le_add_left 1 _), show t / W - 1 = t' / W from by rw [← h2]; rfl, ← h1, e1]
    · refine ⟨1, by omega, by omega, ?_⟩
      unfold stp
      rw [if_pos rfl, if_pos (by omega), ← h2, Nat.add_assoc, ← h1, e1]
    · refine ⟨2, by omega, by omega, ?_⟩
      unfold stp
      rw [if_neg (by omega), if_pos rfl, if_pos (by omega), ← h2, ← h1, e1]
    · refine ⟨3, by omega, by omega, ?_⟩
      unfold stp
      rw [if_neg (by omega), if_neg (by omega), if_pos rfl, if_pos (by omega), show t % W - 1 = t' % W by omega, ← h2, e1]
  · rintro ⟨d, h1, h2, h3⟩
    have go : ∀ x y, x < W → ((y * W + x : Nat) : Int) = (t' : Int) → t' % W = x ∧ t' / W = y := fun x y hx h => by
      have : t' = y * W + x := by omega
      rw [this]; exact dm W x y hx
    unfold stp at h3
    split at h3
    · split at h3
      · obtain ⟨h4, h5⟩ := go (t % W + 1) (t / W) (by omega) (by rw [← h3, Nat.add_assoc])
        exact ⟨1, 3, by omega, by omega, (cor_next W t t' 1 3 hW (by omega) (by omega)).2 (.inr (.inl ⟨rfl, rfl, h4, h5⟩))⟩
      · omega
    · split at h3
      · split at h3
        · obtain ⟨h4, h5⟩ := go (t % W) (t / W + 1) (by omega) h3
          exact ⟨2, 0, by omega, by omega, (cor_next W t t' 2 0 hW (by omega) (by omega)).2 (.inr (.inr (.inl ⟨rfl, rfl, h4, h5⟩)))⟩
        · omega
      · split at h3
        · split at h3
          · obtain ⟨h4, h5⟩ := go (t % W - 1) (t / W) (by omega) h3
            exact ⟨3, 1, by omega, by omega, (cor_next W t t' 3 1 hW (by omega) (by omega)).2 (.inr (.inr (.inr ⟨rfl, rfl, by omega, h5⟩)))⟩
          · omega
        · split at h3
          · obtain ⟨h4, h5⟩ := go (t % W) (t / W - 1) (by omega) h3
            exact ⟨0, 2, by omega, by omega, (cor_next W t t' 0 2 hW (by omega) (by omega)).2 (.inl ⟨rfl, rfl, h4, by omega⟩)⟩
          · omega

/-- Next to each other on the floor, and on the grid. -/
theorem na_iff {W H N nc : Nat} {Cs : List Int} {s : Nat → Nat} {T : Nat → Nat → Int} (hW : 1 ≤ W) (hN : W * H = N) (h : Sel N nc Cs s N) (hT : Nbr nc (fun k j => cor W (s k) j) T) (k l : Nat) (hk : k < nc) (hl : l < nc) : NA T k l ↔ Adj W H (s k) (s l) := by
  rw [← next_iff W H N (s k) (s l) hW hN (h.lt k hk).1 (h.lt l hl).1]
  constructor
  · rintro ⟨j, hj, h1⟩
    rcases hT.no k j hk hj with h2 | ⟨i', j', h2, hi', hj', h3, h4⟩
    · omega
    · obtain rfl : i' = l := by omega
      exact ⟨j, j', hj, hj', h3, h4⟩
  · rintro ⟨j, j', hj, hj', h1, h2⟩
    exact ⟨j, hj, hT.yes k j l j' hk hj hl hj' h1 h2⟩

/-- The distances over the floor are those over the grid. -/
theorem floor_grid {W H N nc b : Nat} {Cs Ds : List Int} {s : Nat → Nat} {T : Nat → Nat → Int} {F O : Nat → Int} (hW : 1 ≤ W) (hN : W * H = N) (h : Sel N nc Cs s N) (hT : Nbr nc (fun k j => cor W (s k) j) T)
    (hD : ∀ a, a < N → (gt Ds a = 1 ↔ gt Cs a ≠ 0)) (hF : Bfs nc (fun _ => True) (NA T) b F) (hO : Bfs N (fun a => gt Ds a = 1) (Adj W H) (s b) O) (hb : b < nc) (a : Nat) (ha : a < nc) : O (s a) = F a := by
  have hG : ∃ G : Nat → Int, (∀ k, k < nc → G (s k) = F k) ∧ ∀ t, (¬ ∃ k, k < nc ∧ s k = t) → G t = -1 := by
    refine ⟨fun t => (((List.range nc).find? (fun k => s k == t)).map F).getD (-1), fun k hk => ?_, fun t ht => ?_⟩
    · cases hf : (List.range nc).find? (fun k' => s k' == s k) with
      | none =>
        rw [List.find?_eq_none] at hf
        exact absurd (hf k (List.mem_range.2 hk)) (by simp)
      | some m =>
        have h1 := List.find?_some hf
        have h2 := List.mem_range.1 (List.mem_of_find?_eq_some hf)
        simp only [beq_iff_eq] at h1
        obtain rfl := h.inj m k h2 hk h1
        simp only [Option.map_some, Option.getD_some, hf]
    · cases hf : (List.range nc).find? (fun k' => s k' == t) with
      | none => simp only [Option.map_none, Option.getD_none, hf]
      | some m =>
        have h1 := List.find?_some hf
        have h2 := List.mem_range.1 (List.mem_of_find?_eq_some hf)
        simp only [beq_iff_eq] at h1
        exact absurd ⟨m, h2, h1⟩ ht
  obtain ⟨G, hG1, hG2⟩ := hG
  have hs : ∀ t, 0 ≤ G t → ∃ k, k < nc ∧ s k = t := fun t h0 => by
    by_cases hx : ∃ k, k < nc ∧ s k = t
    · exact hx
    · rw [hG2 t hx] at h0; omega
  have hBG : Bfs N (fun a => gt Ds a = 1) (Adj W H) (s b) G := by
    refine ⟨fun t ht => ?_, fun t ht h0 => ?_, fun t u ht hu hA hC h0 => ?_, fun _ => ?_⟩
    · by_cases hx : ∃ k, k < nc ∧ s k = t
      · obtain ⟨k, hk, rfl⟩ := hx
        rw [hG1 k hk]; exact hF.val k hk
      · rw [hG2 t hx]; omega
    · obtain ⟨k, hk, rfl⟩ := hs t h0
      rw [hG1 k hk] at h0 ⊢
      refine ⟨(hD _ ht).2 (h.lt k hk).2, ?_⟩
      obtain ⟨_, h1 | ⟨p, hp, h1, h2, h3⟩⟩ := hF.done k hk h0
      · exact .inl ⟨h1.1, by rw [h1.2]⟩
      · exact .inr ⟨s p, (h.lt p hp).1, (na_iff hW hN h hT p k hp hk).1 h1, by rw [hG1 p hp]; exact h2, by rw [hG1 p hp]; exact h3⟩
    · obtain ⟨k, hk, rfl⟩ := hs t h0
      obtain ⟨l, hl, rfl⟩ := h.all u hu ((hD u hu).1 hC)
      rw [hG1 k hk] at h0 ⊢
      rw [hG1 l hl]
      exact hF.edge k l hk hl ((na_iff hW hN h hT k l hk hl).2 hA) trivial h0
    · rw [hG1 b hb]; exact hF.goal trivial
  rw [hO.uniq hBG (s a) (h.lt a ha).1, hG1 a ha]

/-- The first check: two cells. -/
theorem first_field {O : List Int} (hl : O.length = 2) (h : Bfs 2 (fun a => gt [1, 1] a = 1) (Adj 2 1) 1 (gt O)) : O = [1, 0] := by
  have h1 : gt O 1 = 0 := h.goal rfl
  have hA : Adj 2 1 1 0 := ⟨3, by omega, by omega, rfl⟩
  have h0 := h.edge 1 0 (by omega) (by omega) hA rfl (by omega)
  have h2 : gt O 0 = 1 := by
    rcases (h.done 0 (by omega) h0.1).2 with ⟨_, h3⟩ | ⟨b, hb, _, h3, h4⟩
    · omega
    · omega
  match O, hl with
  | [x, y], _ =>
    have e1 : x = 1 := h2
    have e2 : y = 0 := h1
    rw [e1, e2]
end Go.Proofs.Ytaiflkjchbpphaa
