/- The plain law of paths through convex cells: the sleeve, the turns, the lengths, the pieces. -/
namespace Go.Proofs.Ytaiflkjchbpphaa.P

abbrev Pt := Int × Int
def sb (a b : Pt) : Pt := (a.1 - b.1, a.2 - b.2)
def cx (u v : Pt) : Int := u.1 * v.2 - u.2 * v.1
def dt (u v : Pt) : Int := u.1 * v.1 + u.2 * v.2
/-- Twice the area of a triangle. -/
def cr (a b c : Pt) : Int := cx (sb b a) (sb c a)

theorem cx_self (u : Pt) : cx u u = 0 := by unfold cx; grind
theorem cx_anti (u v : Pt) : cx v u = - cx u v := by unfold cx; grind
theorem plu (u v a b : Pt) : cx u v * cx a b = cx u a * cx v b - cx u b * cx v a := by unfold cx; grind
/-- A vector by two others. -/
theorem by_two (r l v z : Pt) : cx r l * cx v z = cx r v * cx l z + cx v l * cx r z := by unfold cx; grind
theorem tri (l r p : Pt) : cx (sb r l) (sb p l) = cx l r + cx r p + cx p l := by unfold cx sb; grind
theorem cr_eq (a l r p : Pt) : cr l r p = cx (sb l a) (sb r a) + cx (sb r a) (sb p a) + cx (sb p a) (sb l a) := by unfold cr cx sb; grind

/-- In the cone of q and p (dually). -/
def InC (q p v : Pt) : Prop := ∀ z : Pt, 0 ≤ cx q z → 0 ≤ cx p z → 0 ≤ cx v z
theorem InC.fst (q p : Pt) : InC q p q := fun _ h _ => h
theorem InC.snd (q p : Pt) : InC q p p := fun _ _ h => h
theorem InC.trans {q p q' p' v : Pt} (h1 : InC q p q') (h2 : InC q p p') (h : InC q' p' v) : InC q p v := fun z a b => h z (h1 z a b) (h2 z a b)
theorem nonneg_of_mul {a b : Int} (ha : 0 < a) (h : 0 ≤ a * b) : 0 ≤ b := by
  rcases Int.lt_or_le b 0 with hb | hb
  · have := Int.mul_neg_of_pos_of_neg ha hb; omega
  · exact hb
theorem sqn (a : Int) : 0 ≤ a * a := by
  rcases Int.lt_or_le a 0 with h | h
  · have := Int.mul_nonneg (show 0 ≤ -a by omega) (show 0 ≤ -a by omega)
    have e : (-a) * (-a) = a * a := by grind
    omega
  · exact Int.mul_nonneg h h
theorem pos_of_mul {a b : Int} (ha : 0 ≤ a) (h : 0 < a * b) : 0 < b := by
  rcases Int.lt_or_le 0 b with hb | hb
  · exact hb
  · have := Int.mul_nonpos_of_nonneg_of_nonpos ha hb; omega
theorem InC.of {r l v : Pt} (h : 0 < cx r l) (h1 : 0 ≤ cx r v) (h2 : 0 ≤ cx v l) : InC r l v := fun z a b => by
  have e := by_two r l v z
  have := Int.mul_nonneg h1 b
  have := Int.mul_nonneg h2 a
  exact nonneg_of_mul h (by omega)
theorem InC.left {r l v : Pt} (h : InC r l v) (h0 : 0 ≤ cx r l) : 0 ≤ cx v l := h l h0 (by rw [cx_self]; exact Int.le_refl 0)
theorem cx_neg (u v : Pt) : cx u (-v.1, -v.2) = - cx u v := by unfold cx; grind
theorem InC.right {r l v : Pt} (h : InC r l v) (h0 : 0 ≤ cx r l) : 0 ≤ cx r v := by
  have := h (-r.1, -r.2) (by rw [cx_neg, cx_self]; omega) (by rw [cx_neg, cx_anti]; omega)
  rw [cx_neg, cx_anti] at this
  omega
/-- U is to the right of the whole cone. -/
theorem InC.side {r l v u : Pt} (h : InC r l v) (h1 : 0 ≤ cx u r) (h2 : 0 ≤ cx u l) : 0 ≤ cx u v := by
  have e : ∀ a, cx a (-u.1, -u.2) = cx u a := fun a => by rw [cx_neg, cx_anti]; omega
  have := h (-u.1, -u.2) (by rw [e]; exact h1) (by rw [e]; exact h2)
  rwa [e] at this

/-- The same direction. -/
def Same (r l : Pt) : Prop := ∃ a b : Int, 0 < a ∧ 0 < b ∧ a * r.1 = b * l.1 ∧ a * r.2 = b * l.2
theorem Same.cxl {r l : Pt} (h : Same r l) : ∃ a b : Int, 0 < a ∧ 0 < b ∧ ∀ z, a * cx r z = b * cx l z := by
  obtain ⟨a, b, ha, hb, e1, e2⟩ := h
  refine ⟨a, b, ha, hb, fun z => ?_⟩
  unfold cx
  have : a * (r.1 * z.2 - r.2 * z.1) = (a * r.1) * z.2 - (a * r.2) * z.1 := by grind
  rw [this, e1, e2]
  grind
theorem Same.symm {r l : Pt} (h : Same r l) : Same l r := by
  obtain ⟨a, b, ha, hb, e1, e2⟩ := h
  exact ⟨b, a, hb, ha, e1.symm, e2.symm⟩
theorem Same.inC {r l : Pt} (h : Same r l) (z : Pt) (hz : 0 ≤ cx r z) : 0 ≤ cx l z := by
  obtain ⟨a, b, ha, hb, e⟩ := h.cxl
  have := Int.mul_nonneg (Int.le_of_lt ha) hz
  exact nonneg_of_mul hb (by rw [← e]; exact this)
end Go.Proofs.Ytaiflkjchbpphaa.P
namespace Go.Proofs.Ytaiflkjchbpphaa.P

/-- Numbers a, b of a point a L + b R beyond a gate: the first is not negative, if the cone's right side leaves it to the left. -/
theorem fst_nonneg {D a b r s : Int} (hD : 0 < D) (c2 : D ≤ a + b) (hr : 0 ≤ r) (hs : 0 ≤ s) (h0 : 0 < r ∨ 0 < s) (n : r * b ≤ s * a) : 0 ≤ a := by
  rcases Int.lt_or_le a 0 with h | h
  · exfalso
    have hb : 0 < b := by omega
    have h1 := Int.mul_nonpos_of_nonneg_of_nonpos hs (Int.le_of_lt h)
    rcases Int.lt_or_le 0 r with h2 | h2
    · have := Int.mul_pos h2 hb; omega
    · obtain rfl : r = 0 := by omega
      have h3 : 0 < s := by omega
      have := Int.mul_neg_of_pos_of_neg h3 h
      omega
  · exact h
/-- The next gate is seen from the right side. -/
theorem seen_next {D a b c d e : Int} (hP : D * e = a * d - b * c) (ha : 0 ≤ a) (hd : 0 ≤ d) (c2 : D ≤ a + b) (c2' : a + b = D → b = 0) (c3 : d ≤ e + b) (c4 : a ≤ e + c) : 0 ≤ e := by
  rcases Int.lt_or_le e 0 with he | he
  · exfalso
    have hb : 0 < b := by omega
    have hc : 0 < c := by omega
    have hab : D < a + b := by
      rcases Int.lt_or_le D (a + b) with h | h
      · exact h
      · have := c2' (by omega); omega
    -- b c >= b (a - e), a b >= a (d - e)
    have h1 : b * (a - e) ≤ b * c := Int.mul_le_mul_of_nonneg_left (by omega) (Int.le_of_lt hb)
    have h2 : a * (d - e) ≤ a * b := Int.mul_le_mul_of_nonneg_left (by omega) ha
    have h3 : (a + b) * e < D * e := by
      have := Int.mul_lt_mul_of_neg_right hab he
      omega
    have e1 : b * (a - e) = a * b - b * e := by grind
    have e2 : a * (d - e) = a * d - a * e := by grind
    have e3 : (a + b) * e = a * e + b * e := by grind
    omega
  · exact he
/-- Where the next gate lies in the line of sight, both ends lie in the same direction. -/
theorem seen_line {D a b c d : Int} (hD : 0 < D) (hP : 0 = a * d - b * c) (ha : 0 ≤ a) (hd : 0 ≤ d) (c1 : D ≤ c + d) (c2 : D ≤ a + b) :
    (0 < b ∧ 0 < d) ∨ (b = 0 ∧ d = 0 ∧ 0 < a ∧ 0 < c) := by
  rcases Int.lt_or_le 0 b with hb | hb
  · refine .inl ⟨hb, ?_⟩
    rcases Int.lt_or_le 0 d with h | h
    · exact h
    · obtain rfl : d = 0 := by omega
      have := Int.mul_pos hb (show 0 < c by omega)
      omega
  · have ha' : 0 < a := by omega
    rcases Int.lt_or_le c 0 with hc | hc
    · -- a d - b c > 0
      exfalso
      have h1 : D * D ≤ a * d - b * c := by
        have : (a + b - D) * d + (-b) * (c + d - D) + D * d + D * (-b) = a * d - b * c := by grind
        have h2 := Int.mul_nonneg (show 0 ≤ a + b - D by omega) hd
        have h3 := Int.mul_nonneg (show 0 ≤ -b by omega) (show 0 ≤ c + d - D by omega)
        have h5 := Int.mul_nonneg (Int.le_of_lt hD) (show 0 ≤ -b by omega)
        have h4 : D * D ≤ D * d := Int.mul_le_mul_of_nonneg_left (by omega) (by omega)
        omega
      have := Int.mul_pos hD hD
      omega
    · have h1 := Int.mul_nonneg ha hd
      have h2 := Int.mul_nonneg (show 0 ≤ -b by omega) hc
      have h3 : (-b) * c = - (b * c) := by grind
      have h4 : d = 0 := by
        rcases Int.lt_or_le 0 d with h | h
        · have := Int.mul_pos ha' h; omega
        · omega
      subst h4
      have hc' : 0 < c := by omega
      have h5 : b = 0 := by
        rcases Int.lt_or_le b 0 with h | h
        · have := Int.mul_neg_of_neg_of_pos h hc'; omega
        · omega
      exact .inr ⟨h5, rfl, ha', hc'⟩
end Go.Proofs.Ytaiflkjchbpphaa.P
namespace Go.Proofs.Ytaiflkjchbpphaa.P

theorem two (R L s t : Pt) : cx R L * cx s t = cx R t * cx s L - cx R s * cx t L := by unfold cx; grind
theorem cx_zero {R L v : Pt} (h : 0 < cx R L) (h1 : cx R v = 0) (h2 : cx v L = 0) : v = (0, 0) := by
  unfold cx at h h1 h2
  have e1 : (R.1 * L.2 - R.2 * L.1) * v.1 = 0 := by grind
  have e2 : (R.1 * L.2 - R.2 * L.1) * v.2 = 0 := by grind
  have e3 : v.1 = 0 := by rcases Int.mul_eq_zero.1 e1 with h | h <;> omega
  have e4 : v.2 = 0 := by rcases Int.mul_eq_zero.1 e2 with h | h <;> omega
  exact Prod.ext e3 e4
theorem zero_cx (z : Pt) : cx (0, 0) z = 0 := by unfold cx; simp
theorem cx_zero_r (z : Pt) : cx z (0, 0) = 0 := by unfold cx; simp

/-- What is seen through the last gate (R, L): the cone from r to l. -/
structure Fun (R L r l : Pt) : Prop where
  seen : 0 < cx R L ∨ (Same R L ∧ L ≠ (0, 0) ∧ R ≠ (0, 0))
  rin : InC R L r
  lin : InC R L l
  rl : 0 ≤ cx r l
  r0 : r ≠ (0, 0)
  l0 : l ≠ (0, 0)
/-- The next gate. -/
structure Bey (R L L' R' : Pt) : Prop where
  c1 : cx R L ≤ cx R R' + cx R' L
  c1' : cx R R' + cx R' L = cx R L → R' = R
  c2 : cx R L ≤ cx R L' + cx L' L
  c2' : cx R L' + cx L' L = cx R L → L' = L
  c3 : cx R' L ≤ cx R' L' + cx L' L
  c4 : cx R L' ≤ cx R' L' + cx R R'
  ne : ¬ (L' = L ∧ R' = R)

theorem Fun.co {R L r l : Pt} (h : Fun R L r l) (hD : 0 < cx R L) : 0 ≤ cx R r ∧ 0 ≤ cx r L ∧ (0 < cx R r ∨ 0 < cx r L) ∧ 0 ≤ cx R l ∧ 0 ≤ cx l L ∧ (0 < cx R l ∨ 0 < cx l L) := by
  have h1 := h.rin.right (Int.le_of_lt hD)
  have h2 := h.rin.left (Int.le_of_lt hD)
  have h3 := h.lin.right (Int.le_of_lt hD)
  have h4 := h.lin.left (Int.le_of_lt hD)
  refine ⟨h1, h2, ?_, h3, h4, ?_⟩
  · rcases Int.lt_or_le 0 (cx R r) with h5 | h5
    · exact .inl h5
    · rcases Int.lt_or_le 0 (cx r L) with h6 | h6
      · exact .inr h6
      · exact absurd (cx_zero hD (by omega) (by omega)) h.r0
  · rcases Int.lt_or_le 0 (cx R l) with h5 | h5
    · exact .inl h5
    · rcases Int.lt_or_le 0 (cx l L) with h6 | h6
      · exact .inr h6
      · exact absurd (cx_zero hD (by omega) (by omega)) h.l0

/-- A point beyond the gate, in the cone's line: it lies ahead. -/
theorem ahead {R L r l P : Pt} (h : Fun R L r l) (hD : 0 < cx R L) (hP : cx R L ≤ cx R P + cx P L) (n1 : cx l P ≤ 0) (n2 : 0 ≤ cx r P) : InC r l P := by
  obtain ⟨r1, r2, r3, l1, l2, l3⟩ := h.co hD
  rcases Int.lt_or_le 0 (cx r l) with h0 | h0
  · exact InC.of h0 n2 (by rw [cx_anti]; omega)
  · -- zero width
    have hz : cx r l = 0 := by have := h.rl; omega
    have e1 := two R L l P
    have e2 := two R L r P
    have e3 := two R L r l
    rw [hz] at e3
    have f1 : cx R P * cx l L - cx R l * cx P L ≤ 0 := by
      rw [← e1]; exact Int.mul_nonpos_of_nonneg_of_nonpos (Int.le_of_lt hD) n1
    have f2 : 0 ≤ cx R P * cx r L - cx R r * cx P L := by
      rw [← e2]; exact Int.mul_nonneg (Int.le_of_lt hD) n2
    have hA : 0 ≤ cx R P := fst_nonneg hD hP r1 r2 r3 (by
      have : cx R r * cx P L = cx R r * cx P L := rfl
      have e4 : cx r L * cx R P = cx R P * cx r L := Int.mul_comm _ _
      omega)
    have hB : 0 ≤ cx P L := fst_nonneg (a := cx P L) (b := cx R P) (r := cx l L) (s := cx R l) hD (by omega) l2 l1 (by omega) (by
      have e4 : cx l L * cx R P = cx R P * cx l L := Int.mul_comm _ _
      omega)
    intro z hr hl
    have g1 := by_two R L P z
    have g2 := by_two R L r z
    have g3 := by_two R L l z
    -- D [P z] = A [L z] + B [R z]; D [r z] = r1 [L z] + r2 [R z]
    refine nonneg_of_mul hD ?_
    rw [g1]
    have k2 : 0 ≤ cx R r * cx L z + cx r L * cx R z := by rw [← g2]; exact Int.mul_nonneg (Int.le_of_lt hD) hr
    have k3 : 0 ≤ cx R l * cx L z + cx l L * cx R z := by rw [← g3]; exact Int.mul_nonneg (Int.le_of_lt hD) hl
    -- A r2 = r1 B up to signs: A r2 >= r1 B and A l2 <= l1 B and r, l in one line
    rcases r3 with h1 | h1
    · -- r1 > 0 : then l1 > 0 or l2 ..
      have hl1 : 0 < cx R l := by
        rcases Int.lt_or_le 0 (cx R l) with h5 | h5
        · exact h5
        · have e5 : cx R l = 0 := by omega
          rw [e5] at e3
          have : 0 < cx R r * cx l L := Int.mul_pos h1 (by omega)
          omega
      -- A l2 = l1 B
      have q : cx R P * cx l L = cx R l * cx P L := by
        have a1 : cx R l * (cx R P * cx r L - cx R r * cx P L) ≤ 0 := by
          have : cx R l * (cx R P * cx r L - cx R r * cx P L) = cx R r * (cx R P * cx l L - cx R l * cx P L) + cx R P * (cx R l * cx r L - cx R r * cx l L) := by grind
          rw [this, ← e3]
          have := Int.mul_nonpos_of_nonneg_of_nonpos r1 f1
          omega
        have a2 : cx R r * (cx R P * cx l L - cx R l * cx P L) = cx R l * (cx R P * cx r L - cx R r * cx P L) := by
          have : cx R l * (cx R P * cx r L - cx R r * cx P L) = cx R r * (cx R P * cx l L - cx R l * cx P L) + cx R P * (cx R l * cx r L - cx R r * cx l L) := by grind
          rw [this, ← e3]; omega
        have a3 := Int.mul_nonneg (Int.le_of_lt hl1) f2
        rcases Int.lt_or_le (cx R P * cx l L - cx R l * cx P L) 0 with h6 | h6
        · have := Int.mul_neg_of_pos_of_neg h1 h6; omega
        · omega
      refine nonneg_of_mul hl1 ?_
      have : cx R l * (cx R P * cx L z + cx P L * cx R z) = cx R P * (cx R l * cx L z + cx l L * cx R z) := by grind
      rw [this]
      exact Int.mul_nonneg hA k3
    · have hl1 : 0 < cx l L := by
        rcases Int.lt_or_le 0 (cx l L) with h5 | h5
        · exact h5
        · have e5 : cx l L = 0 := by omega
          rw [e5] at e3
          have : 0 < cx R l * cx r L := Int.mul_pos (by omega) h1
          omega
      have q : cx R P * cx l L = cx R l * cx P L := by
        have a2 : cx r L * (cx R P * cx l L - cx R l * cx P L) = cx l L * (cx R P * cx r L - cx R r * cx P L) + cx P L * (cx R r * cx l L - cx R l * cx r L) := by grind
        have a4 : cx R r * cx l L - cx R l * cx r L = 0 := by omega
        rw [a4, Int.mul_zero, Int.add_zero] at a2
        have a3 := Int.mul_nonneg (Int.le_of_lt hl1) f2
        rcases Int.lt_or_le (cx R P * cx l L - cx R l * cx P L) 0 with h6 | h6
        · have := Int.mul_neg_of_pos_of_neg h1 h6; omega
        · omega
      refine nonneg_of_mul hl1 ?_
      have : cx l L * (cx R P * cx L z + cx P L * cx R z) = cx P L * (cx R l * cx L z + cx l L * cx R z) := by grind
      rw [this]
      exact Int.mul_nonneg hB k3
end Go.Proofs.Ytaiflkjchbpphaa.P
namespace Go.Proofs.Ytaiflkjchbpphaa.P

theorem Fun.same {R L r l : Pt} (h : Fun R L r l) (hS : Same R L) : (∀ z, 0 ≤ cx L z ↔ 0 ≤ cx r z) ∧ (∀ z, 0 ≤ cx L z ↔ 0 ≤ cx l z) := by
  have key : ∀ v : Pt, InC R L v → v ≠ (0, 0) → ∀ z, 0 ≤ cx L z ↔ 0 ≤ cx v z := by
    intro v hv h0 z
    have up : ∀ z, 0 ≤ cx L z → 0 ≤ cx v z := fun z hz => hv z (hS.symm.inC z hz) hz
    refine ⟨up z, fun hz => ?_⟩
    -- [L v] = 0
    have e0 : cx v L = 0 := by
      have a := up L (by rw [cx_self]; exact Int.le_refl 0)
      have b := up (-L.1, -L.2) (by rw [cx_neg, cx_self]; exact Int.le_refl 0)
      rw [cx_neg] at b
      omega
    -- v . L > 0 is not needed: z with [L z] < 0 gives [v z] <= 0, and = 0 only if v = 0
    rcases Int.lt_or_le (cx L z) 0 with hn | hn
    · exfalso
      have c := up (-z.1, -z.2) (by rw [cx_neg]; omega)
      rw [cx_neg] at c
      have hz0 : cx v z = 0 := by omega
      -- [L z] v = [v z] L - [v L] z .. all zero
      have e1 : cx L z * v.1 = 0 := by
        have : cx L z * v.1 = cx v z * L.1 - cx v L * z.1 := by unfold cx; grind
        rw [this, hz0, e0]; omega
      have e2 : cx L z * v.2 = 0 := by
        have : cx L z * v.2 = cx v z * L.2 - cx v L * z.2 := by unfold cx; grind
        rw [this, hz0, e0]; omega
      have e3 : v.1 = 0 := by rcases Int.mul_eq_zero.1 e1 with h | h <;> omega
      have e4 : v.2 = 0 := by rcases Int.mul_eq_zero.1 e2 with h | h <;> omega
      exact h0 (Prod.ext e3 e4)
    · exact hn
  exact ⟨key r h.rin h.r0, key l h.lin h.l0⟩
theorem iff_zero {L v : Pt} (h : ∀ z, 0 ≤ cx L z ↔ 0 ≤ cx v z) (z : Pt) : (cx L z ≤ 0 ↔ cx v z ≤ 0) := by
  have := h (-z.1, -z.2)
  rw [cx_neg, cx_neg] at this
  omega

/-- The next gate is seen. -/
theorem Fun.next_seen {R L r l L' R' : Pt} (h : Fun R L r l) (hD : 0 < cx R L) (b : Bey R L L' R') (n1 : cx l R' ≤ 0) (n2 : 0 ≤ cx r L') : 0 ≤ cx R' L' ∧ (cx R' L' = 0 → Same R' L') ∧ L' ≠ (0, 0) ∧ R' ≠ (0, 0) := by
  obtain ⟨r1, r2, r3, l1, l2, l3⟩ := h.co hD
  have e1 := two R L l R'
  have e2 := two R L r L'
  have e3 := two R L R' L'
  have f1 : cx R R' * cx l L - cx R l * cx R' L ≤ 0 := by
    rw [← e1]; exact Int.mul_nonpos_of_nonneg_of_nonpos (Int.le_of_lt hD) n1
  have f2 : 0 ≤ cx R L' * cx r L - cx R r * cx L' L := by
    rw [← e2]; exact Int.mul_nonneg (Int.le_of_lt hD) n2
  have ha : 0 ≤ cx R L' := fst_nonneg hD b.c2 r1 r2 r3 (by
    have e4 : cx r L * cx R L' = cx R L' * cx r L := Int.mul_comm _ _
    omega)
  have hd : 0 ≤ cx R' L := fst_nonneg (a := cx R' L) (b := cx R R') (r := cx l L) (s := cx R l) hD (by have := b.c1; omega) l2 l1 (by omega) (by
    have e4 : cx l L * cx R R' = cx R R' * cx l L := Int.mul_comm _ _
    omega)
  have hP : cx R L * cx R' L' = cx R L' * cx R' L - cx L' L * cx R R' := by
    rw [e3]
    have : cx R R' * cx L' L = cx L' L * cx R R' := Int.mul_comm _ _
    omega
  have he := seen_next hP ha hd b.c2 (fun hh => by rw [b.c2' hh, cx_self]) b.c3 b.c4
  refine ⟨he, fun h0 => ?_, ?_, ?_⟩
  · rw [h0, Int.mul_zero] at hP
    have x1 : ∀ k : Pt, cx R L * k.1 = cx R k * L.1 + cx k L * R.1 := fun k => by unfold cx; grind
    have x2 : ∀ k : Pt, cx R L * k.2 = cx R k * L.2 + cx k L * R.2 := fun k => by unfold cx; grind
    rcases seen_line hD hP ha hd b.c1 b.c2 with ⟨hb, hd'⟩ | ⟨hb, hd', ha', hc'⟩
    · refine ⟨cx L' L, cx R' L, hb, hd', ?_, ?_⟩
      · have : cx R L * (cx L' L * R'.1 - cx R' L * L'.1) = 0 := by
          have : cx R L * (cx L' L * R'.1 - cx R' L * L'.1) = cx L' L * (cx R L * R'.1) - cx R' L * (cx R L * L'.1) := by grind
          rw [this, x1, x1]
          have : cx L' L * (cx R R' * L.1 + cx R' L * R.1) - cx R' L * (cx R L' * L.1 + cx L' L * R.1) = - (cx R L' * cx R' L - cx L' L * cx R R') * L.1 := by grind
          rw [this, ← hP]; simp
        rcases Int.mul_eq_zero.1 this with h | h <;> omega
      · have : cx R L * (cx L' L * R'.2 - cx R' L * L'.2) = 0 := by
          have : cx R L * (cx L' L * R'.2 - cx R' L * L'.2) = cx L' L * (cx R L * R'.2) - cx R' L * (cx R L * L'.2) := by grind
          rw [this, x2, x2]
          have : cx L' L * (cx R R' * L.2 + cx R' L * R.2) - cx R' L * (cx R L' * L.2 + cx L' L * R.2) = - (cx R L' * cx R' L - cx L' L * cx R R') * L.2 := by grind
          rw [this, ← hP]; simp
        rcases Int.mul_eq_zero.1 this with h | h <;> omega
    · refine ⟨cx R L', cx R R', ha', hc', ?_, ?_⟩
      · have : cx R L * (cx R L' * R'.1 - cx R R' * L'.1) = 0 := by
          have : cx R L * (cx R L' * R'.1 - cx R R' * L'.1) = cx R L' * (cx R L * R'.1) - cx R R' * (cx R L * L'.1) := by grind
          rw [this, x1, x1, hb, hd']; grind
        rcases Int.mul_eq_zero.1 this with h | h <;> omega
      · have : cx R L * (cx R L' * R'.2 - cx R R' * L'.2) = 0 := by
          have : cx R L * (cx R L' * R'.2 - cx R R' * L'.2) = cx R L' * (cx R L * R'.2) - cx R R' * (cx R L * L'.2) := by grind
          rw [this, x2, x2, hb, hd']; grind
        rcases Int.mul_eq_zero.1 this with h | h <;> omega
  · rintro rfl
    have := b.c2
    rw [zero_cx, cx_zero_r] at this
    omega
  · rintro rfl
    have := b.c1
    rw [zero_cx, cx_zero_r] at this
    omega

/-- The funnel after a gate that does not close it. -/
theorem Fun.next {R L r l L' R' : Pt} (h : Fun R L r l) (b : Bey R L L' R') (n1 : ¬ 0 < cx l R') (n2 : ¬ cx r L' < 0) :
    Fun R' L' (if 0 ≤ cx r R' then R' else r) (if cx l L' ≤ 0 then L' else l) ∧ InC r l (if 0 ≤ cx r R' then R' else r) ∧ InC r l (if cx l L' ≤ 0 then L' else l) := by
  have n1' : cx l R' ≤ 0 := by omega
  have n2' : 0 ≤ cx r L' := by omega
  rcases h.seen with hD | ⟨hS, hL0, hR0⟩
  · obtain ⟨he, hsame, hL', hR'⟩ := h.next_seen hD b n1' n2'
    have inL : cx l L' ≤ 0 → InC r l L' := fun hh => ahead h hD b.c2 hh n2'
    have inR : 0 ≤ cx r R' → InC r l R' := fun hh => ahead h hD b.c1 n1' hh
    refine ⟨⟨?_, ?_, ?_, ?_, ?_, ?_⟩, ?_, ?_⟩
    · rcases Int.lt_or_le 0 (cx R' L') with h0 | h0
      · exact .inl h0
      · exact .inr ⟨hsame (by omega), hL', hR'⟩
    · split
      · exact InC.fst _ _
      · rename_i hh
        rcases Int.lt_or_le 0 (cx R' L') with h0 | h0
        · exact InC.of h0 (by rw [cx_anti]; omega) n2'
        · exfalso
          obtain ⟨a, b', ha, hb', e⟩ := (hsame (by omega)).cxl
          have e' := e r
          have i1 : 0 < cx R' r := by rw [cx_anti]; omega
          have i2 : cx L' r ≤ 0 := by rw [cx_anti]; omega
          have := Int.mul_pos ha i1
          have := Int.mul_nonpos_of_nonneg_of_nonpos (Int.le_of_lt hb') i2
          omega
    · split
      · exact InC.snd _ _
      · rename_i hh
        rcases Int.lt_or_le 0 (cx R' L') with h0 | h0
        · exact InC.of h0 (by rw [cx_anti]; omega) (by omega)
        · exfalso
          obtain ⟨a, b', ha, hb', e⟩ := (hsame (by omega)).cxl
          have e' := e l
          have i1 : 0 ≤ cx R' l := by rw [cx_anti]; omega
          have i2 : cx L' l < 0 := by rw [cx_anti]; omega
          have := Int.mul_nonneg (Int.le_of_lt ha) i1
          have := Int.mul_neg_of_pos_of_neg hb' i2
          omega
    · split
      · split
        · exact he
        · rw [cx_anti]; omega
      · split
        · exact n2'
        · exact h.rl
    · split
      · exact hR'
      · exact h.r0
    · split
      · exact hL'
      · exact h.l0
    · split
      · rename_i hh; exact inR hh
      · exact InC.fst _ _
    · split
      · rename_i hh; exact inL hh
      · exact InC.snd _ _
  · obtain ⟨sr, sl⟩ := h.same hS
    obtain ⟨a, b', ha, hb', e⟩ := hS.cxl
    have RL0 : cx R L = 0 := by
      have := e L
      rw [cx_self, Int.mul_zero] at this
      rcases Int.mul_eq_zero.1 this with h | h <;> omega
    have m1 : cx L R' ≤ 0 := (iff_zero sl R').2 n1'
    have m2 : 0 ≤ cx L L' := (sr L').2 n2'
    have c1 := b.c1
    have c2 := b.c2
    rw [RL0] at c1 c2
    have eR := e R'
    have eL := e L'
    have aR := cx_anti L R'
    have aL := cx_anti L L'
    -- a (c1) : (b' - a) [L R'] >= 0
    have k1 : 0 ≤ (b' - a) * cx L R' := by
      have : (b' - a) * cx L R' = a * (cx R R' + cx R' L) := by rw [aR]; grind
      rw [this]; exact Int.mul_nonneg (Int.le_of_lt ha) c1
    have k2 : 0 ≤ (b' - a) * cx L L' := by
      have : (b' - a) * cx L L' = a * (cx R L' + cx L' L) := by rw [aL]; grind
      rw [this]; exact Int.mul_nonneg (Int.le_of_lt ha) c2
    have z1 : cx L R' = 0 → R' = R := fun h0 => b.c1' (by
      rw [RL0, aR, h0]
      rw [h0, Int.mul_zero] at eR
      rcases Int.mul_eq_zero.1 eR with h | h <;> omega)
    have z2 : cx L L' = 0 → L' = L := fun h0 => b.c2' (by
      rw [RL0, aL, h0]
      rw [h0, Int.mul_zero] at eL
      rcases Int.mul_eq_zero.1 eL with h | h <;> omega)
    have inAll : ∀ v, (∀ z, 0 ≤ cx L z → 0 ≤ cx v z) → InC r l v := fun v hv z _ hl => hv z ((sl z).2 hl)
    rcases Int.lt_or_le a b' with hab | hab
    · -- R' = R, and L' is strictly to the left
      have q0 : cx L R' = 0 := by
        rcases Int.lt_or_le (cx L R') 0 with h0 | h0
        · have := Int.mul_neg_of_pos_of_neg (show 0 < b' - a by omega) h0; omega
        · omega
      obtain rfl := z1 q0
      have q1 : 0 < cx L L' := by
        rcases Int.lt_or_le 0 (cx L L') with h0 | h0
        · exact h0
        · exact absurd ⟨z2 (by omega), rfl⟩ b.ne
      have q2 : 0 < cx R' L' := by
        rcases Int.lt_or_le 0 (cx R' L') with h0 | h0
        · exact h0
        · have := Int.mul_nonpos_of_nonneg_of_nonpos (Int.le_of_lt ha) h0
          have := Int.mul_pos hb' q1
          omega
      have q3 : cx r R' = 0 := by
        have x1 := (sr R').1 (by omega)
        have x2 := (iff_zero sr R').1 (by omega)
        omega
      have q4 : ¬ cx l L' ≤ 0 := fun hh => by have := (iff_zero sl L').2 hh; omega
      rw [if_pos (show 0 ≤ cx r R' by omega), if_neg q4]
      have q5 : cx l R' = 0 := by
        have x1 := (sl R').1 (by omega)
        omega
      refine ⟨⟨.inl q2, InC.fst _ _, InC.of q2 (by rw [cx_anti]; omega) (by omega), by rw [cx_anti]; omega, hR0, h.l0⟩, inAll _ (fun z hz => hS.symm.inC z hz), InC.snd _ _⟩
    · -- L' = L, and R' is strictly to the right
      have hab2 : b' < a ∨ b' = a := by omega
      have q0 : cx L L' = 0 := by
        rcases hab2 with h1 | h1
        · rcases Int.lt_or_le 0 (cx L L') with h0 | h0
          · have := Int.mul_neg_of_neg_of_pos (show b' - a < 0 by omega) h0; omega
          · omega
        · -- a = b': c1 and c2 hold with equality
          exfalso
          subst h1
          have y1 : cx R R' = cx L R' := by
            have : b' * (cx R R' - cx L R') = 0 := by grind
            rcases Int.mul_eq_zero.1 this with h | h <;> omega
          have y2 : cx R L' = cx L L' := by
            have : b' * (cx R L' - cx L L') = 0 := by grind
            rcases Int.mul_eq_zero.1 this with h | h <;> omega
          exact b.ne ⟨b.c2' (by rw [RL0, y2, aL]; omega), b.c1' (by rw [RL0, y1, aR]; omega)⟩
      obtain rfl := z2 q0
      have q1 : cx L' R' < 0 := by
        rcases Int.lt_or_le (cx L' R') 0 with h0 | h0
        · exact h0
        · exact absurd ⟨rfl, z1 (by omega)⟩ b.ne
      have q2 : 0 < cx R' L' := by rw [cx_anti]; omega
      have q3 : cx l L' = 0 := by
        have x1 := (sl L').1 (by omega)
        have x2 := (iff_zero sl L').1 (by omega)
        omega
      have q4 : ¬ 0 ≤ cx r R' := fun hh => by have := (sr R').2 hh; omega
      rw [if_neg q4, if_pos (show cx l L' ≤ 0 by omega)]
      have q5 : cx r L' = 0 := by
        have x2 := (iff_zero sr L').1 (by omega)
        omega
      refine ⟨⟨.inl q2, InC.of q2 (by rw [cx_anti]; omega) (by omega), InC.snd _ _, by omega, h.r0, hL0⟩, InC.fst _ _, inAll _ (fun z hz => hz)⟩
end Go.Proofs.Ytaiflkjchbpphaa.P
namespace Go.Proofs.Ytaiflkjchbpphaa.P

theorem rt_num {D a b u v r1 r2 : Int} (hD : 0 < D) (hab : D ≤ a + b) (hv : 0 < v) (h1 : 0 ≤ r1) (h2 : 0 ≤ r2) (k : r1 * v ≤ u * r2) (m : u * b ≤ a * v) : r1 * b ≤ a * r2 := by
  rcases Int.lt_or_le 0 b with hb | hb
  · have e1 : b * (r1 * v) ≤ b * (u * r2) := Int.mul_le_mul_of_nonneg_left k (Int.le_of_lt hb)
    have e2 : r2 * (u * b) ≤ r2 * (a * v) := Int.mul_le_mul_of_nonneg_left m h2
    have e3 : v * (a * r2 - r1 * b) = r2 * (a * v) - b * (r1 * v) := by grind
    have e4 : b * (u * r2) = r2 * (u * b) := by grind
    have := nonneg_of_mul hv (by rw [e3]; omega)
    omega
  · have := Int.mul_nonpos_of_nonneg_of_nonpos h1 hb
    have := Int.mul_nonneg (show 0 ≤ a by omega) h2
    omega
/-- The line that leaves a cell to the right of the next gate's right end leaves the left end to its left. -/
theorem lt_num {D a b c d e u v : Int} (hD : 0 < D) (hP : D * e = a * d - b * c) (c1 : D ≤ c + d) (c1' : c + d = D → c = 0) (c2 : D ≤ a + b) (c2' : a + b = D → b = 0) (c3 : d ≤ e + b) (c4 : a ≤ e + c) (hv : 0 < v) (hu : 0 ≤ u) (k : u * d < c * v) : u * b ≤ a * v := by
  rcases Int.lt_or_le (a * v) (u * b) with hn | hn
  · exfalso
    have hb : 0 < b := by
      rcases Int.lt_or_le 0 b with h | h
      · exact h
      · have := Int.mul_nonpos_of_nonneg_of_nonpos hu h
        have := Int.mul_nonneg (show 0 ≤ a by omega) (Int.le_of_lt hv)
        omega
    have hab : D < a + b := by
      rcases Int.lt_or_le D (a + b) with h | h
      · exact h
      · have := c2' (by omega); omega
    have he : e < 0 := by
      have hneg : a * d - b * c < 0 := by
        rcases Int.lt_or_le d 0 with hd | hd
        · rcases Int.lt_or_le a 0 with ha | ha
          · have h1 : a * d - b * c = -(D * (D - a - d)) - (b - (D - a)) * c - (D - a) * (c - (D - d)) := by grind
            have h2 := Int.mul_nonneg (show 0 ≤ b - (D - a) by omega) (show 0 ≤ c by omega)
            have h3 := Int.mul_nonneg (show 0 ≤ D - a by omega) (show 0 ≤ c - (D - d) by omega)
            have h4 := Int.mul_pos hD (show 0 < D - a - d by omega)
            omega
          · have h1 := Int.mul_nonpos_of_nonneg_of_nonpos ha (Int.le_of_lt hd)
            have h2 := Int.mul_pos hb (show 0 < c by omega)
            omega
        · have h1 : v * (a * d - b * c) = d * (a * v) - b * (c * v) := by grind
          have h2 : d * (a * v) ≤ d * (u * b) := Int.mul_le_mul_of_nonneg_left (Int.le_of_lt hn) hd
          have h3 : b * (u * d) < b * (c * v) := Int.mul_lt_mul_of_pos_left k hb
          have h4 : d * (u * b) = b * (u * d) := by grind
          rcases Int.lt_or_le (a * d - b * c) 0 with h | h
          · exact h
          · have := Int.mul_nonneg (Int.le_of_lt hv) h; omega
      rcases Int.lt_or_le e 0 with h | h
      · exact h
      · have := Int.mul_nonneg (Int.le_of_lt hD) h; omega
    rcases Int.lt_or_le a 0 with ha | ha
    · rcases Int.lt_or_le d 0 with hd | hd
      · -- b c - a d >= D (D - a - d + (b + a - D) + (c + d - D)) > D (- e)
        have h1 : b * c - a * d = D * (b + c - D) + (b + a - D) * (c - D) + (-a) * (c + d - D) := by grind
        have h2 := Int.mul_nonneg (show 0 ≤ b + a - D by omega) (show 0 ≤ c - D by omega)
        have h3 := Int.mul_nonneg (show 0 ≤ -a by omega) (show 0 ≤ c + d - D by omega)
        have h4 : D * (-e) < D * (b + c - D) := Int.mul_lt_mul_of_pos_left (by omega) hD
        have h5 : D * (-e) = -(D * e) := by grind
        omega
      · have hc : 0 < c := by
          have h1 := Int.mul_nonneg hu hd
          rcases Int.lt_or_le 0 c with h | h
          · exact h
          · have := Int.mul_nonneg (show 0 ≤ -c by omega) (Int.le_of_lt hv)
            have : (-c) * v = -(c * v) := by grind
            omega
        have hcd : D < c + d := by
          rcases Int.lt_or_le D (c + d) with h | h
          · exact h
          · have := c1' (by omega); omega
        have h1 : c * (d - e) ≤ c * b := Int.mul_le_mul_of_nonneg_left (by omega) (Int.le_of_lt hc)
        have h2 : d * (a - e) ≤ d * c := Int.mul_le_mul_of_nonneg_left (by omega) hd
        have h3 : (c + d) * e < D * e := Int.mul_lt_mul_of_neg_right hcd he
        have e1 : c * (d - e) = c * d - c * e := by grind
        have e2 : d * (a - e) = a * d - d * e := by grind
        have e3 : (c + d) * e = c * e + d * e := by grind
        have e4 : c * b = b * c := Int.mul_comm _ _
        have e5 : d * c = c * d := Int.mul_comm _ _
        omega
    · have h1 : b * (a - e) ≤ b * c := Int.mul_le_mul_of_nonneg_left (by omega) (Int.le_of_lt hb)
      have h2 : a * (d - e) ≤ a * b := Int.mul_le_mul_of_nonneg_left (by omega) ha
      have h3 : (a + b) * e < D * e := Int.mul_lt_mul_of_neg_right hab he
      have e1 : b * (a - e) = a * b - b * e := by grind
      have e2 : a * (d - e) = a * d - a * e := by grind
      have e3 : (a + b) * e = a * e + b * e := by grind
      omega
  · exact hn

theorem Fun.open {R L r l U : Pt} (h : Fun R L r l) (u1 : 0 < cx U L) (u2 : cx U R ≤ 0) : 0 < cx R L := by
  rcases h.seen with h | ⟨h, _, _⟩
  · exact h
  · exfalso
    obtain ⟨a, b, ha, hb, e⟩ := h.cxl
    have := e U
    have i1 : 0 ≤ cx R U := by rw [cx_anti]; omega
    have i2 : cx L U < 0 := by rw [cx_anti]; omega
    have := Int.mul_nonneg (Int.le_of_lt ha) i1
    have := Int.mul_neg_of_pos_of_neg hb i2
    omega

/-- A point beyond, not right of the line: the cone's right side leaves it to the left. -/
theorem Fun.keepR {R L r l U P : Pt} (h : Fun R L r l) (u1 : 0 < cx U L) (u2 : cx U R ≤ 0) (u4 : cx U r ≤ 0) (hP : cx R L ≤ cx R P + cx P L) (v1 : 0 ≤ cx U P) : 0 ≤ cx r P := by
  have hD := h.open u1 u2
  obtain ⟨r1, r2, _, _, _, _⟩ := h.co hD
  have e1 := two R L r P
  have e2 := two R L U P
  have e3 := two R L U r
  have f2 : 0 ≤ cx R L * cx U P := Int.mul_nonneg (Int.le_of_lt hD) v1
  have f3 : cx R L * cx U r ≤ 0 := Int.mul_nonpos_of_nonneg_of_nonpos (Int.le_of_lt hD) u4
  refine nonneg_of_mul hD ?_
  rw [e1]
  have := rt_num (a := cx R P) (b := cx P L) (u := cx R U) hD hP u1 r1 r2 (by omega) (by omega)
  omega
/-- A point beyond, not left of the line: the cone's left side leaves it to the right. -/
theorem Fun.keepL {R L r l U P : Pt} (h : Fun R L r l) (u1 : 0 < cx U L) (u2 : cx U R ≤ 0) (u3 : 0 < cx U l) (hP : cx R L ≤ cx R P + cx P L) (v2 : cx U P ≤ 0) : cx l P ≤ 0 := by
  have hD := h.open u1 u2
  obtain ⟨_, _, _, l1, l2, _⟩ := h.co hD
  have e1 := two R L l P
  have e2 := two R L U P
  have e3 := two R L U l
  have f2 : cx R L * cx U P ≤ 0 := Int.mul_nonpos_of_nonneg_of_nonpos (Int.le_of_lt hD) v2
  have f3 : 0 < cx R L * cx U l := Int.mul_pos hD u3
  have hu : 0 ≤ cx R U := by rw [cx_anti]; omega
  -- c v <= u d, u l2 < l1 v: c l2 <= l1 d
  have : cx R P * cx l L ≤ cx R l * cx P L := by
    rcases Int.lt_or_le 0 (cx R P) with hc | hc
    · have hcv := Int.mul_pos hc u1
      have hd : 0 < cx P L := pos_of_mul hu (by omega)
      have q1 : cx l L * (cx R P * cx U L) ≤ cx l L * (cx R U * cx P L) := Int.mul_le_mul_of_nonneg_left (by omega) l2
      have q2 : cx P L * (cx R U * cx l L) ≤ cx P L * (cx R l * cx U L) := Int.mul_le_mul_of_nonneg_left (by omega) (Int.le_of_lt hd)
      have e4 : cx U L * (cx R l * cx P L - cx R P * cx l L) = cx P L * (cx R l * cx U L) - cx l L * (cx R P * cx U L) := by grind
      have e5 : cx l L * (cx R U * cx P L) = cx P L * (cx R U * cx l L) := by grind
      have := nonneg_of_mul u1 (by rw [e4]; omega)
      omega
    · have := Int.mul_nonneg (show 0 ≤ - cx R P by omega) l2
      have e4 : (- cx R P) * cx l L = -(cx R P * cx l L) := by grind
      have := Int.mul_nonneg l1 (show 0 ≤ cx P L by omega)
      omega
  rcases Int.lt_or_le 0 (cx l P) with hn | hn
  · have := Int.mul_pos hD hn; omega
  · exact hn
/-- Where the line leaves the way to the right, the gate's left end lies to the left. -/
theorem Fun.bend {R L r l L' R' U : Pt} (h : Fun R L r l) (b : Bey R L L' R') (u1 : 0 < cx U L) (u2 : cx U R ≤ 0) (v : 0 < cx U R') : 0 ≤ cx U L' := by
  have hD := h.open u1 u2
  have e1 := two R L R' L'
  have e2 := two R L U L'
  have e3 := two R L U R'
  have f3 : 0 < cx R L * cx U R' := Int.mul_pos hD v
  have hu : 0 ≤ cx R U := by rw [cx_anti]; omega
  refine nonneg_of_mul hD ?_
  rw [e2]
  have := lt_num (a := cx R L') (b := cx L' L) (c := cx R R') (d := cx R' L) (e := cx R' L') (u := cx R U) (v := cx U L) hD (by
    rw [e1]
    have : cx R R' * cx L' L = cx L' L * cx R R' := Int.mul_comm _ _
    omega) b.c1 (fun hh => by rw [b.c1' hh, cx_self]) b.c2 (fun hh => by rw [b.c2' hh, cx_self]) b.c3 b.c4 u1 hu (by omega)
  omega
end Go.Proofs.Ytaiflkjchbpphaa.P
namespace Go.Proofs.Ytaiflkjchbpphaa.P

theorem InC.npos {q p v z : Pt} (h : InC q p v) (h1 : cx q z ≤ 0) (h2 : cx p z ≤ 0) : cx v z ≤ 0 := by
  have := h (-z.1, -z.2) (by rw [cx_neg]; omega) (by rw [cx_neg]; omega)
  rw [cx_neg] at this
  omega

/-- A way of gates (left end, right end); the last one is a point. -/
structure Slv (G : Nat → Pt × Pt) (n : Nat) : Prop where
  n1 : 1 ≤ n
  c1 : ∀ k, k + 2 < n → 0 ≤ cr (G k).1 (G k).2 (G (k + 1)).2
  c1' : ∀ k, k + 2 < n → cr (G k).1 (G k).2 (G (k + 1)).2 = 0 → (G (k + 1)).2 = (G k).2
  c2 : ∀ k, k + 2 < n → 0 ≤ cr (G k).1 (G k).2 (G (k + 1)).1
  c2' : ∀ k, k + 2 < n → cr (G k).1 (G k).2 (G (k + 1)).1 = 0 → (G (k + 1)).1 = (G k).1
  c3 : ∀ k, k + 2 < n → 0 ≤ cr (G (k + 1)).2 (G (k + 1)).1 (G k).1
  c4 : ∀ k, k + 2 < n → 0 ≤ cr (G (k + 1)).2 (G (k + 1)).1 (G k).2
  ne : ∀ k, k + 2 < n → ¬ ((G (k + 1)).1 = (G k).1 ∧ (G (k + 1)).2 = (G k).2)
  last : (G (n - 1)).1 = (G (n - 1)).2
  e1 : ∀ k, k + 2 = n → 0 ≤ cr (G k).1 (G k).2 (G (k + 1)).1
  e2 : ∀ k, k + 2 = n → cr (G k).1 (G k).2 (G (k + 1)).1 = 0 → ∃ a b : Int, 0 ≤ a ∧ 0 ≤ b ∧ 0 < a + b ∧ (a + b) * (G (k + 1)).1.1 = a * (G k).1.1 + b * (G k).2.1 ∧ (a + b) * (G (k + 1)).1.2 = a * (G k).1.2 + b * (G k).2.2

theorem Slv.bey {G : Nat → Pt × Pt} {n : Nat} (h : Slv G n) (A : Pt) (k : Nat) (hk : k + 2 < n) : Bey (sb (G k).2 A) (sb (G k).1 A) (sb (G (k + 1)).1 A) (sb (G (k + 1)).2 A) := by
  have a1 := h.c1 k hk
  have a1' := h.c1' k hk
  have a2 := h.c2 k hk
  have a2' := h.c2' k hk
  have a3 := h.c3 k hk
  have a4 := h.c4 k hk
  have inj : ∀ P Q : Pt, sb P A = sb Q A → P = Q := fun P Q e => by
    have e1 := congrArg Prod.fst e
    have e2 := congrArg Prod.snd e
    simp only [sb] at e1 e2
    exact Prod.ext (by omega) (by omega)
  rw [cr_eq A] at a1 a1' a2 a2' a3 a4
  have s1 := cx_anti (sb (G k).2 A) (sb (G k).1 A)
  have s2 := cx_anti (sb (G (k + 1)).2 A) (sb (G k).1 A)
  have s3 := cx_anti (sb (G (k + 1)).1 A) (sb (G k).2 A)
  exact ⟨by omega, fun e => by rw [a1' (by omega)], by omega, fun e => by rw [a2' (by omega)], by omega, by omega, fun e => h.ne k hk ⟨inj _ _ e.1, inj _ _ e.2⟩⟩
theorem Slv.bey_to {G : Nat → Pt × Pt} {n : Nat} (h : Slv G n) (A : Pt) (k : Nat) (hk : k + 2 = n) : cx (sb (G k).2 A) (sb (G k).1 A) ≤ cx (sb (G k).2 A) (sb (G (k + 1)).1 A) + cx (sb (G (k + 1)).1 A) (sb (G k).1 A) := by
  have a1 := h.e1 k hk
  rw [cr_eq A] at a1
  have s1 := cx_anti (sb (G k).2 A) (sb (G k).1 A)
  omega

/-- The run of 'turn', with the gates up to k looked at. -/
inductive Trn (G : Nat → Pt × Pt) (n : Nat) (A : Pt) : Nat → Pt → Pt → Nat → Nat → Pt → Nat → Prop
  | done (l r : Pt) (li ri : Nat) : Trn G n A n l r li ri (G (n - 1)).1 n
  | left (k : Nat) (l r : Pt) (li ri : Nat) (hk : k < n) (h : 0 < cr A l (G k).2) : Trn G n A k l r li ri l (li + 1)
  | right (k : Nat) (l r : Pt) (li ri : Nat) (hk : k < n) (h : cr A r (G k).1 < 0) : Trn G n A k l r li ri r (ri + 1)
  | go (k : Nat) (l r : Pt) (li ri : Nat) (P : Pt) (x : Nat) (hk : k < n) (h1 : ¬ 0 < cr A l (G k).2) (h2 : ¬ cr A r (G k).1 < 0)
      (h : Trn G n A (k + 1) (if cr A l (G k).1 ≤ 0 then (G k).1 else l) (if 0 ≤ cr A r (G k).2 then (G k).2 else r) (if cr A l (G k).1 ≤ 0 then k else li) (if 0 ≤ cr A r (G k).2 then k else ri) P x) : Trn G n A k l r li ri P x

structure Inv (G : Nat → Pt × Pt) (n : Nat) (A : Pt) (i k : Nat) (l r : Pt) (li ri : Nat) : Prop where
  ik : i < k
  kn : k < n
  fn : Fun (sb (G (k - 1)).2 A) (sb (G (k - 1)).1 A) (sb r A) (sb l A)
  ll : i ≤ li ∧ li < k ∧ l = (G li).1
  rr : i ≤ ri ∧ ri < k ∧ r = (G ri).2
  cross : ∀ j, i ≤ j → j < k → 0 ≤ cr A r (G j).1 ∧ 0 ≤ cr A l (G j).1 ∧ cr A r (G j).2 ≤ 0 ∧ cr A l (G j).2 ≤ 0
  prop : ∀ j, i ≤ j → j < k → 0 ≤ cr A (G j).2 (G j).1
  aftl : ∀ j, li < j → j < k → 0 < cr A l (G j).1
  aftr : ∀ j, ri < j → j < k → cr A r (G j).2 < 0
  conr : InC (sb (G i).2 A) (sb (G i).1 A) (sb r A)
  conl : InC (sb (G i).2 A) (sb (G i).1 A) (sb l A)

theorem cr_cx (A P Q : Pt) : cr A P Q = cx (sb P A) (sb Q A) := rfl
theorem cr_self (A P : Pt) : cr A P P = 0 := cx_self _
theorem cr_anti (A P Q : Pt) : cr A Q P = - cr A P Q := cx_anti _ _

theorem Fun.rl0 {R L r l : Pt} (h : Fun R L r l) : 0 ≤ cx R L := by
  rcases h.seen with h | ⟨h, _, _⟩
  · omega
  · obtain ⟨a, b, ha, hb, e⟩ := h.cxl
    have := e L
    rw [cx_self, Int.mul_zero] at this
    rcases Int.mul_eq_zero.1 this with h | h <;> omega

theorem Inv.begin {G : Nat → Pt × Pt} {n : Nat} {A : Pt} {i : Nat} (hi : i + 1 < n) (h : 0 < cr A (G i).2 (G i).1) : Inv G n A i (i + 1) (G i).1 (G i).2 i i := by
  have h' : 0 < cx (sb (G i).2 A) (sb (G i).1 A) := h
  have n1 : sb (G i).2 A ≠ (0, 0) := fun e => by rw [e, zero_cx] at h'; omega
  have n2 : sb (G i).1 A ≠ (0, 0) := fun e => by rw [e, cx_zero_r] at h'; omega
  refine ⟨Nat.lt_succ_self i, hi, ⟨.inl h', InC.fst _ _, InC.snd _ _, by omega, n1, n2⟩, ⟨Nat.le_refl _, Nat.lt_succ_self i, rfl⟩, ⟨Nat.le_refl _, Nat.lt_succ_self i, rfl⟩, fun j h1 h2 => ?_, fun j h1 h2 => ?_, fun j h1 h2 => by omega, fun j h1 h2 => by omega, InC.fst _ _, InC.snd _ _⟩
  · obtain rfl : j = i := by omega
    have := cr_anti A (G j).2 (G j).1
    rw [cr_self, cr_self]
    omega
  · obtain rfl : j = i := by omega
    omega

theorem Inv.step {G : Nat → Pt × Pt} {n : Nat} (hS : Slv G n) {A : Pt} {i k : Nat} {l r : Pt} {li ri : Nat} (h : Inv G n A i k l r li ri) (hk : k + 1 < n) (h1 : ¬ 0 < cr A l (G k).2) (h2 : ¬ cr A r (G k).1 < 0) :
    Inv G n A i (k + 1) (if cr A l (G k).1 ≤ 0 then (G k).1 else l) (if 0 ≤ cr A r (G k).2 then (G k).2 else r) (if cr A l (G k).1 ≤ 0 then k else li) (if 0 ≤ cr A r (G k).2 then k else ri) := by
  have hik := h.ik
  have hb := hS.bey A (k - 1) (by omega)
  rw [show k - 1 + 1 = k by omega] at hb
  obtain ⟨f, fr, fl⟩ := h.fn.next hb h1 h2
  have er : sb (if 0 ≤ cr A r (G k).2 then (G k).2 else r) A = if 0 ≤ cx (sb r A) (sb (G k).2 A) then sb (G k).2 A else sb r A := by
    rw [cr_cx]; split <;> rfl
  have el : sb (if cr A l (G k).1 ≤ 0 then (G k).1 else l) A = if cx (sb l A) (sb (G k).1 A) ≤ 0 then sb (G k).1 A else sb l A := by
    rw [cr_cx]; split <;> rfl
  rw [← er] at f fr
  rw [← el] at f fl
  refine ⟨by omega, hk, f, ?_, ?_, fun j j1 j2 => ?_, fun j j1 j2 => ?_, fun j j1 j2 => ?_, fun j j1 j2 => ?_, InC.trans h.conr h.conl fr, InC.trans h.conr h.conl fl⟩
  · split
    · exact ⟨by omega, by omega, rfl⟩
    · exact ⟨h.ll.1, by have := h.ll.2.1; omega, h.ll.2.2⟩
  · split
    · exact ⟨by omega, by omega, rfl⟩
    · exact ⟨h.rr.1, by have := h.rr.2.1; omega, h.rr.2.2⟩
  · by_cases e : j = k
    · subst e
      have q := f.rl0
      have q1 := f.rin.left q
      have q2 := f.lin.left q
      have q3 := f.rin.right q
      have q4 := f.lin.right q
      rw [cx_anti] at q3 q4
      exact ⟨q1, q2, by rw [cr_cx]; omega, by rw [cr_cx]; omega⟩
    · obtain ⟨a, b, c, d⟩ := h.cross j j1 (by omega)
      exact ⟨fr _ a b, fl _ a b, fr.npos c d, fl.npos c d⟩
  · by_cases e : j = k
    · subst e; exact f.rl0
    · exact h.prop j j1 (by omega)
  · split at j1
    · omega
    · rename_i hh
      rw [if_neg hh]
      by_cases e : j = k
      · subst e; omega
      · exact h.aftl j j1 (by omega)
  · split at j1
    · omega
    · rename_i hh
      rw [if_neg hh]
      by_cases e : j = k
      · subst e; omega
      · exact h.aftr j j1 (by omega)

/-- The last point, where nothing closes the funnel. -/
theorem Inv.to {G : Nat → Pt × Pt} {n : Nat} (hS : Slv G n) {A : Pt} {i k : Nat} {l r : Pt} {li ri : Nat} (h : Inv G n A i k l r li ri) (hk : k + 1 = n) (h1 : ¬ 0 < cr A l (G k).1) (h2 : ¬ cr A r (G k).1 < 0) : InC (sb r A) (sb l A) (sb (G k).1 A) ∧ (G k).1 ≠ A := by
  have hik := h.ik
  have hb := hS.bey_to A (k - 1) (by omega)
  have he := hS.e2 (k - 1) (by omega)
  rw [show k - 1 + 1 = k by omega] at hb he
  have h1' : cx (sb l A) (sb (G k).1 A) ≤ 0 := Int.not_lt.1 h1
  have h2' : 0 ≤ cx (sb r A) (sb (G k).1 A) := Int.not_lt.1 h2
  rcases h.fn.seen with hD | ⟨hSm, hL0, hR0⟩
  · refine ⟨ahead h.fn hD hb h1' h2', fun e => ?_⟩
    rw [e] at hb
    have : sb A A = (0, 0) := by simp [sb]
    rw [this, zero_cx, cx_zero_r] at hb
    omega
  · obtain ⟨sr, sl⟩ := h.fn.same hSm
    have m1 := (iff_zero sl _).2 h1'
    have m2 := (sr _).2 h2'
    have hz : cr (G (k - 1)).1 (G (k - 1)).2 (G k).1 = 0 := by
      rw [cr_eq A]
      obtain ⟨a, b, ha, hb', e⟩ := hSm.cxl
      have z1 : cx (sb (G (k - 1)).2 A) (sb (G k).1 A) = 0 := by
        have := e (sb (G k).1 A)
        rw [show cx (sb (G (k - 1)).1 A) (sb (G k).1 A) = 0 by omega, Int.mul_zero] at this
        rcases Int.mul_eq_zero.1 this with h | h <;> omega
      have z2 := cx_anti (sb (G (k - 1)).1 A) (sb (G k).1 A)
      have z3 : cx (sb (G (k - 1)).1 A) (sb (G (k - 1)).2 A) = 0 := by
        have := e (sb (G (k - 1)).1 A)
        have q := cx_anti (sb (G (k - 1)).1 A) (sb (G (k - 1)).2 A)
        rw [cx_self, Int.mul_zero] at this
        rcases Int.mul_eq_zero.1 this with h | h <;> omega
      omega
    obtain ⟨a, b, ha, hb', hab, e1, e2⟩ := he hz
    have lin : ∀ z, (a + b) * cx (sb (G k).1 A) z = a * cx (sb (G (k - 1)).1 A) z + b * cx (sb (G (k - 1)).2 A) z := fun z => by
      simp only [cx, sb]
      have : (a + b) * (((G k).1.1 - A.1) * z.2 - ((G k).1.2 - A.2) * z.1) = ((a + b) * (G k).1.1) * z.2 - ((a + b) * (G k).1.2) * z.1 - (a + b) * (A.1 * z.2 - A.2 * z.1) := by grind
      rw [this, e1, e2]
      grind
    refine ⟨fun z hr hl => ?_, fun e => ?_⟩
    · have q1 := (sl z).2 hl
      have q2 := hSm.symm.inC z q1
      refine nonneg_of_mul hab ?_
      rw [lin]
      have := Int.mul_nonneg ha q1
      have := Int.mul_nonneg hb' q2
      omega
    · -- the point is not the apex
      obtain ⟨c, d, hc, hd, f1, f2⟩ := hSm
      rw [e] at e1 e2
      have g1 : (a * c + b * d) * (sb (G (k - 1)).1 A).1 = 0 := by
        have : c * (a * (sb (G (k - 1)).1 A).1 + b * (sb (G (k - 1)).2 A).1) = (a * c + b * d) * (sb (G (k - 1)).1 A).1 := by
          have : c * (a * (sb (G (k - 1)).1 A).1 + b * (sb (G (k - 1)).2 A).1) = c * a * (sb (G (k - 1)).1 A).1 + b * (c * (sb (G (k - 1)).2 A).1) := by grind
          rw [this, f1]; grind
        rw [← this]
        have : a * (sb (G (k - 1)).1 A).1 + b * (sb (G (k - 1)).2 A).1 = 0 := by simp only [sb]; grind
        rw [this]; simp
      have g2 : (a * c + b * d) * (sb (G (k - 1)).1 A).2 = 0 := by
        have : c * (a * (sb (G (k - 1)).1 A).2 + b * (sb (G (k - 1)).2 A).2) = (a * c + b * d) * (sb (G (k - 1)).1 A).2 := by
          have : c * (a * (sb (G (k - 1)).1 A).2 + b * (sb (G (k - 1)).2 A).2) = c * a * (sb (G (k - 1)).1 A).2 + b * (c * (sb (G (k - 1)).2 A).2) := by grind
          rw [this, f2]; grind
        rw [← this]
        have : a * (sb (G (k - 1)).1 A).2 + b * (sb (G (k - 1)).2 A).2 = 0 := by simp only [sb]; grind
        rw [this]; simp
      have hpos : 0 < a * c + b * d := by
        rcases Int.lt_or_le 0 a with h | h
        · have := Int.mul_pos h hc
          have := Int.mul_nonneg hb' (Int.le_of_lt hd)
          omega
        · have := Int.mul_pos (show 0 < b by omega) hd
          have := Int.mul_nonneg ha (Int.le_of_lt hc)
          omega
      have k1 : (sb (G (k - 1)).1 A).1 = 0 := by rcases Int.mul_eq_zero.1 g1 with h | h <;> omega
      have k2 : (sb (G (k - 1)).1 A).2 = 0 := by rcases Int.mul_eq_zero.1 g2 with h | h <;> omega
      exact hL0 (Prod.ext k1 k2)

/-- What 'turn' answers. -/
structure Turned (G : Nat → Pt × Pt) (n : Nat) (A : Pt) (i : Nat) (P : Pt) (x : Nat) : Prop where
  lt : i < x
  le : x ≤ n
  ne : P ≠ A
  cross : ∀ j, i ≤ j → j < x → 0 ≤ cr A P (G j).1 ∧ cr A P (G j).2 ≤ 0
  prop : ∀ j, i ≤ j → j < x → 0 ≤ cr A (G j).2 (G j).1
  con : InC (sb (G i).2 A) (sb (G i).1 A) (sb P A)
  kind : (x = n ∧ P = (G (n - 1)).1) ∨
    (x < n ∧ P = (G (x - 1)).1 ∧ ∃ k, x ≤ k ∧ k < n ∧ (∀ j, x ≤ j → j < k → 0 < cr A P (G j).1 ∧ cr A P (G j).2 ≤ 0) ∧ 0 < cr A P (G k).2) ∨
    (x < n ∧ P = (G (x - 1)).2 ∧ ∃ k, x ≤ k ∧ k < n ∧ (∀ j, x ≤ j → j < k → cr A P (G j).2 < 0 ∧ 0 ≤ cr A P (G j).1) ∧ cr A P (G k).1 < 0)

theorem sb_ne {P A : Pt} (h : sb P A ≠ (0, 0)) : P ≠ A := fun e => h (by rw [e]; simp [sb])

theorem turned {G : Nat → Pt × Pt} {n : Nat} (hS : Slv G n) {A : Pt} {i k : Nat} {l r : Pt} {li ri : Nat} {P : Pt} {x : Nat} (hT : Trn G n A k l r li ri P x) (h : Inv G n A i k l r li ri) : Turned G n A i P x := by
  induction hT with
  | done l r li ri => exact absurd h.kn (Nat.lt_irrefl _)
  | left k l r li ri hk h1 =>
    obtain ⟨a, b, c⟩ := h.ll
    refine ⟨by omega, by omega, sb_ne h.fn.l0, fun j j1 j2 => ?_, fun j j1 j2 => h.prop j j1 (by omega), h.conl, .inr (.inl ⟨by omega, by simpa using c, k, by omega, hk, fun j j1 j2 => ⟨h.aftl j (by omega) j2, (h.cross j (by omega) j2).2.2.2⟩, h1⟩)⟩
    have := h.cross j j1 (by omega)
    exact ⟨this.2.1, this.2.2.2⟩
  | right k l r li ri hk h1 =>
    obtain ⟨a, b, c⟩ := h.rr
    refine ⟨by omega, by omega, sb_ne h.fn.r0, fun j j1 j2 => ?_, fun j j1 j2 => h.prop j j1 (by omega), h.conr, .inr (.inr ⟨by omega, by simpa using c, k, by omega, hk, fun j j1 j2 => ⟨h.aftr j (by omega) j2, (h.cross j (by omega) j2).1⟩, h1⟩)⟩
    have := h.cross j j1 (by omega)
    exact ⟨this.1, this.2.2.1⟩
  | go k l r li ri P x hk h1 h2 hT ih =>
    by_cases e : k + 1 < n
    · exact ih (h.step hS e h1 h2)
    · have e' : k + 1 = n := by omega
      have hlast := hS.last
      have hkn : n - 1 = k := by omega
      rw [hkn] at hlast
      obtain ⟨hin, hne⟩ := h.to hS e' (by rw [hlast]; exact h1) h2
      rw [e'] at hT
      have hPx : P = (G (n - 1)).1 ∧ x = n := by
        generalize (if cr A l (G k).1 ≤ 0 then (G k).1 else l) = l' at hT
        generalize (if 0 ≤ cr A r (G k).2 then (G k).2 else r) = r' at hT
        generalize (if cr A l (G k).1 ≤ 0 then k else li) = li' at hT
        generalize (if 0 ≤ cr A r (G k).2 then k else ri) = ri' at hT
        cases hT with
        | done => exact ⟨rfl, rfl⟩
        | left _ _ _ _ _ hk => exact absurd hk (Nat.lt_irrefl _)
        | right _ _ _ _ _ hk => exact absurd hk (Nat.lt_irrefl _)
        | go _ _ _ _ _ _ _ hk => exact absurd hk (Nat.lt_irrefl _)
      obtain ⟨rfl, rfl⟩ := hPx
      have hik := h.ik
      rw [hkn]
      refine ⟨by omega, Nat.le_refl _, hne, fun j j1 j2 => ?_, fun j j1 j2 => ?_, InC.trans h.conr h.conl hin, .inl ⟨rfl, by rw [hkn]⟩⟩
      · by_cases e : j = k
        · subst e
          rw [← hlast, cr_self]
          exact ⟨Int.le_refl 0, Int.le_refl 0⟩
        · obtain ⟨a, b, c, d⟩ := h.cross j j1 (by omega)
          exact ⟨hin _ a b, hin.npos c d⟩
      · by_cases e : j = k
        · subst e
          rw [← hlast, cr_self]
          exact Int.le_refl 0
        · exact h.prop j j1 (by omega)

/-- 'turn' from a point ahead of gate i. -/
theorem turn_ok {G : Nat → Pt × Pt} {n : Nat} (hS : Slv G n) {A : Pt} {i : Nat} {P : Pt} {x : Nat} (hi : i < n) (hT : Trn G n A (i + 1) (G i).1 (G i).2 i i P x) (h : (i + 1 < n ∧ 0 < cr A (G i).2 (G i).1) ∨ (i + 1 = n ∧ (G i).1 ≠ A)) : Turned G n A i P x := by
  rcases h with ⟨h1, h2⟩ | ⟨h1, h2⟩
  · exact turned hS hT (Inv.begin h1 h2)
  · have hlast := hS.last
    have hin : n - 1 = i := by omega
    rw [hin] at hlast
    rw [h1] at hT
    have hPx : P = (G (n - 1)).1 ∧ x = n := by
      generalize (G i).1 = l' at hT
      generalize (G i).2 = r' at hT
      generalize hii : i = li' at hT
      cases hT with
      | done => exact ⟨rfl, rfl⟩
      | left _ _ _ _ _ hk => exact absurd hk (Nat.lt_irrefl _)
      | right _ _ _ _ _ hk => exact absurd hk (Nat.lt_irrefl _)
      | go _ _ _ _ _ _ _ hk => exact absurd hk (Nat.lt_irrefl _)
    obtain ⟨rfl, rfl⟩ := hPx
    rw [hin]
    refine ⟨hi, Nat.le_refl _, h2, fun j j1 j2 => ?_, fun j j1 j2 => ?_, InC.snd _ _, .inl ⟨rfl, by rw [hin]⟩⟩
    · obtain rfl : j = i := by omega
      rw [← hlast, cr_self]
      exact ⟨Int.le_refl 0, Int.le_refl 0⟩
    · obtain rfl : j = i := by omega
      rw [← hlast, cr_self]
      exact Int.le_refl 0
end Go.Proofs.Ytaiflkjchbpphaa.P
namespace Go.Proofs.Ytaiflkjchbpphaa.P

theorem taut {G : Nat → Pt × Pt} {n : Nat} (hS : Slv G n) {V : Pt} {i k : Nat} {l r : Pt} {li ri : Nat} {P : Pt} {x : Nat} (hT : Trn G n V k l r li ri P x) (h : Inv G n V i k l r li ri) (U : Pt) (k0 : Nat) (hk0 : k0 < n)
    (hU : ∀ j, i ≤ j → j < k0 → 0 < cx U (sb (G j).1 V) ∧ cx U (sb (G j).2 V) ≤ 0) (hE : 0 < cx U (sb (G k0).2 V))
    (ph : (k ≤ k0 ∧ 0 < cx U (sb l V) ∧ cx U (sb r V) ≤ 0) ∨ (k0 < k ∧ 0 ≤ cx U (sb l V) ∧ 0 ≤ cx U (sb r V))) : 0 ≤ cx U (sb P V) := by
  induction hT with
  | done l r li ri => exact absurd h.kn (Nat.lt_irrefl _)
  | left k l r li ri hk h1 => rcases ph with ⟨_, a, _⟩ | ⟨_, a, _⟩ <;> omega
  | right k l r li ri hk h1 =>
    rcases ph with ⟨a1, a2, a3⟩ | ⟨_, _, a⟩
    · exfalso
      have hik := h.ik
      obtain ⟨u1, u2⟩ := hU (k - 1) (by omega) (by omega)
      have hb : cx (sb (G (k - 1)).2 V) (sb (G (k - 1)).1 V) ≤ cx (sb (G (k - 1)).2 V) (sb (G k).1 V) + cx (sb (G k).1 V) (sb (G (k - 1)).1 V) := by
        by_cases e : k + 1 < n
        · have := (hS.bey V (k - 1) (by omega)).c2
          rwa [show k - 1 + 1 = k by omega] at this
        · have := hS.bey_to V (k - 1) (by omega)
          rwa [show k - 1 + 1 = k by omega] at this
      have hL : 0 ≤ cx U (sb (G k).1 V) := by
        by_cases e0 : k < k0
        · exact Int.le_of_lt (hU k (by omega) e0).1
        · obtain rfl : k = k0 := by omega
          by_cases e : k + 1 < n
          · have := hS.bey V (k - 1) (by omega)
            rw [show k - 1 + 1 = k by omega] at this
            exact h.fn.bend this u1 u2 hE
          · have hl := hS.last
            rw [show n - 1 = k by omega] at hl
            rw [hl]; omega
      have := h.fn.keepR u1 u2 a3 hb hL
      rw [cr_cx] at h1
      omega
    · exact a
  | go k l r li ri P x hk h1 h2 hT ih =>
    have hik := h.ik
    by_cases e : k + 1 < n
    · have hb := hS.bey V (k - 1) (by omega)
      rw [show k - 1 + 1 = k by omega] at hb
      refine ih (h.step hS e h1 h2) ?_
      rcases ph with ⟨a1, a2, a3⟩ | ⟨a1, a2, a3⟩
      · by_cases e0 : k < k0
        · obtain ⟨v1, v2⟩ := hU k (by omega) e0
          refine .inl ⟨e0, ?_, ?_⟩
          · split
            · exact v1
            · exact a2
          · split
            · exact v2
            · exact a3
        · obtain rfl : k = k0 := by omega
          obtain ⟨u1, u2⟩ := hU (k - 1) (by omega) (by omega)
          have q1 := h.fn.bend hb u1 u2 hE
          have q2 : 0 ≤ cr V r (G k).2 := h.fn.keepR u1 u2 a3 hb.c1 (Int.le_of_lt hE)
          refine .inr ⟨Nat.lt_succ_self _, ?_, ?_⟩
          · split
            · exact q1
            · omega
          · rw [if_pos q2]; omega
      · obtain ⟨_, fr, fl⟩ := h.fn.next hb h1 h2
        have gr := fr.side a3 a2
        have gl := fl.side a3 a2
        refine .inr ⟨by omega, ?_, ?_⟩
        · split
          · rename_i hh
            rw [if_pos (by rw [cr_cx] at hh; exact hh)] at gl
            exact gl
          · exact a2
        · split
          · rename_i hh
            rw [if_pos (by rw [cr_cx] at hh; exact hh)] at gr
            exact gr
          · exact a3
    · have e' : k + 1 = n := by omega
      have hlast := hS.last
      have hkn : n - 1 = k := by omega
      rw [hkn] at hlast
      obtain ⟨hin, _⟩ := h.to hS e' (by rw [hlast]; exact h1) h2
      rw [e'] at hT
      have hPx : P = (G (n - 1)).1 ∧ x = n := by
        generalize (if cr V l (G k).1 ≤ 0 then (G k).1 else l) = l' at hT
        generalize (if 0 ≤ cr V r (G k).2 then (G k).2 else r) = r' at hT
        generalize (if cr V l (G k).1 ≤ 0 then k else li) = li' at hT
        generalize (if 0 ≤ cr V r (G k).2 then k else ri) = ri' at hT
        cases hT with
        | done => exact ⟨rfl, rfl⟩
        | left _ _ _ _ _ hk => exact absurd hk (Nat.lt_irrefl _)
        | right _ _ _ _ _ hk => exact absurd hk (Nat.lt_irrefl _)
        | go _ _ _ _ _ _ _ hk => exact absurd hk (Nat.lt_irrefl _)
      obtain ⟨rfl, rfl⟩ := hPx
      rw [hkn]
      rcases ph with ⟨a1, a2, a3⟩ | ⟨a1, a2, a3⟩
      · obtain rfl : k = k0 := by omega
        rw [hlast]; omega
      · exact hin.side a3 a2

/-- A bend around V, the other end of the gate lying at V + r. -/
structure Bend (U r W : Pt) : Prop where
  b1 : cx U r ≤ 0
  b2 : 0 ≤ cx r W
  b3 : 0 ≤ cx U W
  b4 : ¬ (cx U r = 0 ∧ dt U r < 0)

theorem cr_shift (A V P : Pt) : cr A V P = cx (sb V A) (sb P V) := by unfold cr cx sb; grind
theorem back_no {U r z : Pt} (h1 : cx U r = 0) (h2 : dt U r < 0) (h3 : 0 < cx U z) : cx r z < 0 := by
  have e : dt U U * cx r z = dt U r * cx U z - cx U r * dt U z := by unfold dt cx; grind
  rw [h1, Int.zero_mul, Int.sub_zero] at e
  have := Int.mul_neg_of_neg_of_pos h2 h3
  have hUU : 0 ≤ dt U U := by
    unfold dt
    have a := sqn U.1
    have b := sqn U.2
    omega
  rcases Int.lt_or_le (cx r z) 0 with h | h
  · exact h
  · have := Int.mul_nonneg hUU h; omega
theorem gate_r (L R P : Pt) : cr L R P = cx (sb R L) (sb P L) := rfl

/-- The facts at a turn to the left. -/
theorem bend_left {G : Nat → Pt × Pt} {n : Nat} (hS : Slv G n) {A V : Pt} {i x : Nat} (hA : Turned G n A i V x) (hx : x < n) (hV : V = (G (x - 1)).1) {k : Nat} (hk1 : x ≤ k) (hk2 : k < n) (hj : ∀ j, x ≤ j → j < k → 0 < cr A V (G j).1 ∧ cr A V (G j).2 ≤ 0) (hk : 0 < cr A V (G k).2)
    {W : Pt} (hW : (x + 1 < n ∧ (G x).1 = V ∧ W = (G x).2) ∨ ((x + 1 < n ∧ 0 < cr V (G x).2 (G x).1 ∨ x + 1 = n ∧ (G x).1 ≠ V) ∧ ∃ y, Trn G n V (x + 1) (G x).1 (G x).2 x x W y)) :
    Bend (sb V A) (sb (G (x - 1)).2 V) (sb W V) := by
  have hi := hA.lt
  have c := (hA.cross (x - 1) (by omega) (by omega)).2
  rw [cr_shift] at c
  have hxx : x - 1 + 1 = x := by omega
  -- the next gate's ends are beyond
  have f1 : 0 ≤ cx (sb (G (x - 1)).2 V) (sb (G x).1 V) := by
    by_cases e : x + 1 < n
    · have := hS.c2 (x - 1) (by omega)
      rw [hxx, gate_r, ← hV] at this
      exact this
    · have := hS.e1 (x - 1) (by omega)
      rw [hxx, gate_r, ← hV] at this
      exact this
  have f2 : 0 ≤ cx (sb (G (x - 1)).2 V) (sb (G x).2 V) := by
    by_cases e : x + 1 < n
    · have := hS.c1 (x - 1) (by omega)
      rw [hxx, gate_r, ← hV] at this
      exact this
    · have hl := hS.last
      rw [show n - 1 = x by omega] at hl
      rw [← hl]; exact f1
  have hj' : ∀ j, x ≤ j → j < k → 0 < cx (sb V A) (sb (G j).1 V) ∧ cx (sb V A) (sb (G j).2 V) ≤ 0 := fun j j1 j2 => by
    have := hj j j1 j2
    rw [cr_shift, cr_shift] at this
    exact this
  rw [cr_shift] at hk
  have b4 : ¬ (cx (sb V A) (sb (G (x - 1)).2 V) = 0 ∧ dt (sb V A) (sb (G (x - 1)).2 V) < 0) := by
    rintro ⟨g1, g2⟩
    by_cases e : x = k
    · subst e
      have := back_no g1 g2 hk
      omega
    · have := back_no g1 g2 (hj' x (Nat.le_refl _) (by omega)).1
      omega
  rcases hW with ⟨w1, w2, rfl⟩ | ⟨w1, y, hT⟩
  · have e : x = k := by
      by_cases e : x = k
      · exact e
      · exfalso
        have := (hj' x (Nat.le_refl _) (by omega)).1
        rw [w2] at this
        have e0 : sb V V = (0, 0) := by simp [sb]
        rw [e0, cx_zero_r] at this
        omega
    subst e
    exact ⟨c, f2, Int.le_of_lt hk, b4⟩
  · have hTu := turn_ok hS hx hT w1
    refine ⟨c, hTu.con.side f2 f1, ?_, b4⟩
    rcases w1 with ⟨w2, w3⟩ | ⟨w2, w3⟩
    · refine taut hS hT (Inv.begin w2 w3) (sb V A) k hk2 hj' hk ?_
      by_cases e : x = k
      · subst e
        refine .inr ⟨Nat.lt_succ_self _, ?_, Int.le_of_lt hk⟩
        rw [cr_cx] at w3
        have g0 : cx (sb (G (x - 1)).2 V) (sb (G x).1 V) ≠ 0 := fun e0 => by
          have := hS.c2' (x - 1) (by omega)
          rw [hxx, gate_r, ← hV] at this
          have := this e0
          rw [this] at w3
          have e0 : sb V V = (0, 0) := by simp [sb]
          rw [e0, cx_zero_r] at w3
          omega
        have g1 := by_two (sb (G (x - 1)).2 V) (sb (G x).1 V) (sb (G x).2 V) (sb V A)
        have g2 := cx_anti (sb V A) (sb (G x).2 V)
        have g3 := cx_anti (sb V A) (sb (G (x - 1)).2 V)
        have g4 := cx_anti (sb V A) (sb (G x).1 V)
        have g5 : cx (sb (G (x - 1)).2 V) (sb (G x).1 V) * cx (sb (G x).2 V) (sb V A) < 0 := Int.mul_neg_of_pos_of_neg (by omega) (by omega)
        have g6 : 0 ≤ cx (sb (G x).2 V) (sb (G x).1 V) * cx (sb (G (x - 1)).2 V) (sb V A) := Int.mul_nonneg (Int.le_of_lt w3) (by omega)
        have g7 : cx (sb (G (x - 1)).2 V) (sb (G x).2 V) * cx (sb (G x).1 V) (sb V A) < 0 := by omega
        rcases Int.lt_or_le (cx (sb V A) (sb (G x).1 V)) 0 with h | h
        · have := Int.mul_nonneg f2 (show 0 ≤ cx (sb (G x).1 V) (sb V A) by omega); omega
        · exact h
      · obtain ⟨q1, q2⟩ := hj' x (Nat.le_refl _) (by omega)
        exact .inl ⟨by omega, q1, q2⟩
    · obtain rfl : x = k := by omega
      have hl := hS.last
      rw [show n - 1 = x by omega] at hl
      rw [w2] at hT
      have hPx : W = (G (n - 1)).1 := by
        generalize (G x).1 = l' at hT
        generalize (G x).2 = r' at hT
        generalize hii : x = li' at hT
        cases hT with
        | done => rfl
        | left _ _ _ _ _ hk => exact absurd hk (Nat.lt_irrefl _)
        | right _ _ _ _ _ hk => exact absurd hk (Nat.lt_irrefl _)
        | go _ _ _ _ _ _ _ hk => exact absurd hk (Nat.lt_irrefl _)
      rw [hPx, show n - 1 = x by omega, hl]
      exact Int.le_of_lt hk
end Go.Proofs.Ytaiflkjchbpphaa.P
namespace Go.Proofs.Ytaiflkjchbpphaa.P

def flp (P : Pt) : Pt := (-P.1, P.2)
def mirG (G : Nat → Pt × Pt) (k : Nat) : Pt × Pt := (flp (G k).2, flp (G k).1)
theorem mir_mir (P : Pt) : flp (flp P) = P := by unfold flp; simp
theorem mir_inj {P Q : Pt} (h : flp P = flp Q) : P = Q := by rw [← mir_mir P, h, mir_mir]
theorem cx_mir (u v : Pt) : cx (flp u) (flp v) = - cx u v := by unfold cx flp; grind
theorem dt_mir (u v : Pt) : dt (flp u) (flp v) = dt u v := by unfold dt flp; grind
theorem sb_mir (P A : Pt) : sb (flp P) (flp A) = flp (sb P A) := by
  unfold sb flp
  exact Prod.ext (by simp only []; omega) rfl
theorem cr_mir (A P Q : Pt) : cr (flp A) (flp P) (flp Q) = - cr A P Q := by unfold cr; rw [sb_mir, sb_mir, cx_mir]
theorem cr_swap (A P Q : Pt) : cr P A Q = - cr A P Q := by unfold cr cx sb; grind

theorem Slv.mir {G : Nat → Pt × Pt} {n : Nat} (h : Slv G n) : Slv (mirG G) n := by
  refine ⟨h.n1, fun k hk => ?_, fun k hk e => ?_, fun k hk => ?_, fun k hk e => ?_, fun k hk => ?_, fun k hk => ?_, fun k hk e => ?_, ?_, fun k hk => ?_, fun k hk e => ?_⟩
  · have := h.c2 k hk
    simp only [mirG]; rw [cr_mir, cr_swap]; omega
  · simp only [mirG] at e ⊢
    rw [cr_mir, cr_swap] at e
    rw [h.c2' k hk (by omega)]
  · have := h.c1 k hk
    simp only [mirG]; rw [cr_mir, cr_swap]; omega
  · simp only [mirG] at e ⊢
    rw [cr_mir, cr_swap] at e
    rw [h.c1' k hk (by omega)]
  · have := h.c4 k hk
    simp only [mirG]; rw [cr_mir, cr_swap]; omega
  · have := h.c3 k hk
    simp only [mirG]; rw [cr_mir, cr_swap]; omega
  · simp only [mirG] at e
    exact h.ne k hk ⟨mir_inj e.2, mir_inj e.1⟩
  · simp only [mirG]; rw [h.last]
  · have := h.e1 k hk
    have hl := h.last
    rw [show n - 1 = k + 1 by omega] at hl
    simp only [mirG]; rw [cr_mir, cr_swap, ← hl]; omega
  · have hl := h.last
    rw [show n - 1 = k + 1 by omega] at hl
    simp only [mirG] at e ⊢
    rw [cr_mir, cr_swap, ← hl] at e
    obtain ⟨a, b, ha, hb, hab, e1, e2⟩ := h.e2 k hk (by omega)
    refine ⟨b, a, hb, ha, by omega, ?_, ?_⟩
    · rw [← hl]
      simp only [flp]
      have : (b + a) * -(G (k + 1)).1.1 = -((a + b) * (G (k + 1)).1.1) := by grind
      rw [this, e1]; grind
    · rw [← hl]
      simp only [flp]
      have : (b + a) * (G (k + 1)).1.2 = (a + b) * (G (k + 1)).1.2 := by grind
      rw [this, e2]; grind

theorem Trn.mir {G : Nat → Pt × Pt} {n : Nat} (hl : (G (n - 1)).1 = (G (n - 1)).2) {A : Pt} {k : Nat} {l r : Pt} {li ri : Nat} {P : Pt} {x : Nat} (h : Trn G n A k l r li ri P x) : Trn (mirG G) n (flp A) k (flp r) (flp l) ri li (flp P) x := by
  induction h with
  | done l r li ri =>
    have : flp (G (n - 1)).1 = (mirG G (n - 1)).1 := by simp only [mirG]; rw [hl]
    rw [this]
    exact .done _ _ _ _
  | left k l r li ri hk h => exact .right _ _ _ _ _ hk (by simp only [mirG]; rw [cr_mir]; omega)
  | right k l r li ri hk h => exact .left _ _ _ _ _ hk (by simp only [mirG]; rw [cr_mir]; omega)
  | go k l r li ri P x hk h1 h2 _ ih =>
    refine .go _ _ _ _ _ _ _ hk (by simp only [mirG]; rw [cr_mir]; omega) (by simp only [mirG]; rw [cr_mir]; omega) ?_
    have q1 : cr (flp A) (flp r) (mirG G k).1 ≤ 0 ↔ 0 ≤ cr A r (G k).2 := by simp only [mirG]; rw [cr_mir]; omega
    have q2 : 0 ≤ cr (flp A) (flp l) (mirG G k).2 ↔ cr A l (G k).1 ≤ 0 := by simp only [mirG]; rw [cr_mir]; omega
    have e1 : flp (if 0 ≤ cr A r (G k).2 then (G k).2 else r) = if cr (flp A) (flp r) (mirG G k).1 ≤ 0 then (mirG G k).1 else flp r := by
      by_cases h : 0 ≤ cr A r (G k).2
      · rw [if_pos h, if_pos (q1.2 h)]; rfl
      · rw [if_neg h, if_neg (fun x => h (q1.1 x))]
    have e2 : flp (if cr A l (G k).1 ≤ 0 then (G k).1 else l) = if 0 ≤ cr (flp A) (flp l) (mirG G k).2 then (mirG G k).2 else flp l := by
      by_cases h : cr A l (G k).1 ≤ 0
      · rw [if_pos h, if_pos (q2.2 h)]; rfl
      · rw [if_neg h, if_neg (fun x => h (q2.1 x))]
    have e3 : (if 0 ≤ cr A r (G k).2 then k else ri) = if cr (flp A) (flp r) (mirG G k).1 ≤ 0 then k else ri := by
      by_cases h : 0 ≤ cr A r (G k).2
      · rw [if_pos h, if_pos (q1.2 h)]
      · rw [if_neg h, if_neg (fun x => h (q1.1 x))]
    have e4 : (if cr A l (G k).1 ≤ 0 then k else li) = if 0 ≤ cr (flp A) (flp l) (mirG G k).2 then k else li := by
      by_cases h : cr A l (G k).1 ≤ 0
      · rw [if_pos h, if_pos (q2.2 h)]
      · rw [if_neg h, if_neg (fun x => h (q2.1 x))]
    rw [e1, e2, e3, e4] at ih
    exact ih

theorem InC.mir {q p v : Pt} (h : InC q p v) : InC (flp p) (flp q) (flp v) := fun z h1 h2 => by
  have e : ∀ a : Pt, cx (flp a) z = cx a (- (flp z).1, - (flp z).2) := fun a => by unfold cx flp; grind
  rw [e] at h1 h2 ⊢
  exact h _ h2 h1
theorem Turned.mir {G : Nat → Pt × Pt} {n : Nat} {A : Pt} {i : Nat} {P : Pt} {x : Nat} (hl : (G (n - 1)).1 = (G (n - 1)).2) (h : Turned G n A i P x) : Turned (mirG G) n (flp A) i (flp P) x := by
  refine ⟨h.lt, h.le, fun e => h.ne (mir_inj e), fun j j1 j2 => ?_, fun j j1 j2 => ?_, ?_, ?_⟩
  · have := h.cross j j1 j2
    simp only [mirG]
    rw [cr_mir, cr_mir]
    omega
  · have := h.prop j j1 j2
    rw [cr_anti] at this
    simp only [mirG]
    rw [cr_mir]; omega
  · have := h.con.mir
    simp only [mirG]
    rw [sb_mir, sb_mir, sb_mir]
    exact this
  · rcases h.kind with ⟨a, b⟩ | ⟨a, b, k, k1, k2, k3, k4⟩ | ⟨a, b, k, k1, k2, k3, k4⟩
    · exact .inl ⟨a, by simp only [mirG]; rw [b, hl]⟩
    · refine .inr (.inr ⟨a, by simp only [mirG]; rw [b], k, k1, k2, fun j j1 j2 => ?_, by simp only [mirG]; rw [cr_mir]; omega⟩)
      have := k3 j j1 j2
      simp only [mirG]
      rw [cr_mir, cr_mir]
      omega
    · refine .inr (.inl ⟨a, by simp only [mirG]; rw [b], k, k1, k2, fun j j1 j2 => ?_, by simp only [mirG]; rw [cr_mir]; omega⟩)
      have := k3 j j1 j2
      simp only [mirG]
      rw [cr_mir, cr_mir]
      omega

/-- The facts at a turn to the right. -/
theorem bend_right {G : Nat → Pt × Pt} {n : Nat} (hS : Slv G n) {A V : Pt} {i x : Nat} (hA : Turned G n A i V x) (hx : x < n) (hV : V = (G (x - 1)).2) {k : Nat} (hk1 : x ≤ k) (hk2 : k < n) (hj : ∀ j, x ≤ j → j < k → cr A V (G j).2 < 0 ∧ 0 ≤ cr A V (G j).1) (hk : cr A V (G k).1 < 0)
    {W : Pt} (hW : (x + 1 < n ∧ (G x).2 = V ∧ W = (G x).1) ∨ ((x + 1 < n ∧ 0 < cr V (G x).2 (G x).1 ∨ x + 1 = n ∧ (G x).1 ≠ V) ∧ ∃ y, Trn G n V (x + 1) (G x).1 (G x).2 x x W y)) :
    Bend (flp (sb V A)) (flp (sb (G (x - 1)).1 V)) (flp (sb W V)) := by
  have hl := hS.last
  have := bend_left hS.mir (hA.mir hl) hx (by simp only [mirG]; rw [hV]) hk1 hk2 (fun j j1 j2 => by
    have := hj j j1 j2
    simp only [mirG]
    rw [cr_mir, cr_mir]
    omega) (by simp only [mirG]; rw [cr_mir]; omega) (W := flp W) (by
    rcases hW with ⟨a, b, c⟩ | ⟨a, y, hT⟩
    · exact .inl ⟨a, by simp only [mirG]; rw [b], by simp only [mirG]; rw [c]⟩
    · refine .inr ⟨?_, y, ?_⟩
      · rcases a with ⟨a1, a2⟩ | ⟨a1, a2⟩
        · refine .inl ⟨a1, ?_⟩
          rw [cr_anti] at a2
          simp only [mirG]
          rw [cr_mir]; omega
        · refine .inr ⟨a1, fun e => a2 ?_⟩
          simp only [mirG] at e
          have hl := hS.last
          rw [show n - 1 = x by omega] at hl
          rw [hl]
          exact mir_inj e
      · exact hT.mir hl)
  simp only [mirG] at this
  rw [sb_mir, sb_mir, sb_mir] at this
  exact this
end Go.Proofs.Ytaiflkjchbpphaa.P
namespace Go.Proofs.Ytaiflkjchbpphaa.P

theorem sq_lt {x y : Int} (hy : 0 ≤ y) (h : x * x < y * y) : x < y := by
  rcases Int.lt_or_le x y with h1 | h1
  · exact h1
  · have h2 : y * y ≤ y * x := Int.mul_le_mul_of_nonneg_left h1 hy
    have h3 : y * x ≤ x * x := Int.mul_le_mul_of_nonneg_right h1 (by omega)
    omega
theorem sq_le {x y : Int} (hy : 0 ≤ y) (h : x * x ≤ y * y) : x ≤ y := by
  have := sq_lt (x := x) (y := y + 1) (by omega) (by
    have : (y + 1) * (y + 1) = y * y + 2 * y + 1 := by grind
    omega)
  omega
theorem sq_mono {x y : Int} (h0 : 0 ≤ x) (h : x ≤ y) : x * x ≤ y * y := by
  have h1 : x * x ≤ x * y := Int.mul_le_mul_of_nonneg_left h h0
  have h2 : x * y ≤ y * y := Int.mul_le_mul_of_nonneg_right h (by omega)
  omega

theorem root_ex : ∀ x : Nat, ∃ m : Nat, m * m ≤ x ∧ x < (m + 1) * (m + 1)
  | 0 => ⟨0, Nat.le_refl _, by omega⟩
  | x + 1 => by
    obtain ⟨m, h1, h2⟩ := root_ex x
    by_cases h : (m + 1) * (m + 1) ≤ x + 1
    · refine ⟨m + 1, h, ?_⟩
      have : (m + 1 + 1) * (m + 1 + 1) = (m + 1) * (m + 1) + (2 * m + 3) := by grind
      omega
    · exact ⟨m, by omega, by omega⟩
noncomputable def nrt (x : Nat) : Nat := Classical.choose (root_ex x)
/-- The length in units of 1 / K, rounded down. -/
noncomputable def len (K : Int) (v : Pt) : Int := (nrt (K * K * dt v v).toNat : Nat)
theorem dt_nonneg (v : Pt) : 0 ≤ dt v v := by
  have := sqn v.1
  have := sqn v.2
  unfold dt; omega
theorem len_spec (K : Int) (v : Pt) : 0 ≤ len K v ∧ len K v * len K v ≤ K * K * dt v v ∧ K * K * dt v v < (len K v + 1) * (len K v + 1) := by
  have h0 : 0 ≤ K * K * dt v v := Int.mul_nonneg (sqn K) (dt_nonneg v)
  obtain ⟨h1, h2⟩ := Classical.choose_spec (root_ex (K * K * dt v v).toNat)
  unfold len nrt
  generalize Classical.choose (root_ex (K * K * dt v v).toNat) = m at h1 h2 ⊢
  refine ⟨by omega, ?_, ?_⟩
  · have : ((m * m : Nat) : Int) ≤ K * K * dt v v := by omega
    rw [Int.natCast_mul] at this
    exact this
  · have : K * K * dt v v < (((m + 1) * (m + 1) : Nat) : Int) := by omega
    rw [Int.natCast_mul, Int.natCast_add] at this
    exact this

/-- Lagrange, and Cauchy. -/
theorem lag (u v : Pt) : dt u v * dt u v + cx u v * cx u v = dt u u * dt v v := by unfold dt cx; grind
theorem cauchy (u v : Pt) : dt u v * dt u v ≤ dt u u * dt v v := by
  have := lag u v
  have := sqn (cx u v)
  omega

/-- A direction, of length K at most. -/
noncomputable def uni (K : Int) (U : Pt) : Pt := ((K * K * U.1).tdiv (len K U + 1), (K * K * U.2).tdiv (len K U + 1))
theorem tdiv_spec (x a : Int) (ha : 0 < a) : ∃ e : Int, x = a * x.tdiv a + e ∧ -a < e ∧ e < a ∧ (x.tdiv a * a) * (x.tdiv a * a) ≤ x * x := by
  refine ⟨x.tmod a, ?_, ?_, ?_, ?_⟩
  · have := Int.mul_tdiv_add_tmod x a; omega
  · rcases Int.lt_or_le x 0 with h | h
    · have h1 := Int.tmod_nonneg (a := -x) a (by omega)
      have h2 := Int.tmod_lt_of_pos (-x) ha
      rw [Int.neg_tmod] at h1 h2
      omega
    · have := Int.tmod_nonneg a h; omega
  · exact Int.tmod_lt_of_pos x ha
  · have e := Int.mul_tdiv_add_tmod x a
    have e1 : x.tdiv a * a = a * x.tdiv a := Int.mul_comm _ _
    rcases Int.lt_or_le x 0 with h | h
    · have h1 := Int.tmod_nonneg (a := -x) a (by omega)
      rw [Int.neg_tmod] at h1
      have h3 : (-x).tdiv a = - x.tdiv a := Int.neg_tdiv _ _
      have h4 : 0 ≤ (-x).tdiv a := Int.tdiv_nonneg (by omega) (Int.le_of_lt ha)
      have h5 : 0 ≤ a * (-x).tdiv a := Int.mul_nonneg (Int.le_of_lt ha) h4
      rw [h3] at h5
      have h6 : a * - x.tdiv a = -(a * x.tdiv a) := by grind
      have := sq_mono (x := -(a * x.tdiv a)) (y := -x) (by omega) (by omega)
      rw [e1]
      grind
    · have h4 : 0 ≤ x.tdiv a := Int.tdiv_nonneg h (Int.le_of_lt ha)
      have h5 : 0 ≤ a * x.tdiv a := Int.mul_nonneg (Int.le_of_lt ha) h4
      have h1 := Int.tmod_nonneg a h
      have := sq_mono (x := a * x.tdiv a) (y := x) (by omega) (by omega)
      rw [e1]
      exact this

theorem uni_len (K : Int) (U : Pt) : dt (uni K U) (uni K U) ≤ K * K := by
  obtain ⟨h1, h2, h3⟩ := len_spec K U
  obtain ⟨_, _, _, _, a1⟩ := tdiv_spec (K * K * U.1) (len K U + 1) (by omega)
  obtain ⟨_, _, _, _, a2⟩ := tdiv_spec (K * K * U.2) (len K U + 1) (by omega)
  have hdef : dt (uni K U) (uni K U) = (K * K * U.1).tdiv (len K U + 1) * (K * K * U.1).tdiv (len K U + 1) + (K * K * U.2).tdiv (len K U + 1) * (K * K * U.2).tdiv (len K U + 1) := rfl
  rw [hdef]
  generalize (K * K * U.1).tdiv (len K U + 1) = x at *
  generalize (K * K * U.2).tdiv (len K U + 1) = y at *
  generalize ha : len K U + 1 = a at *
  have hapos : 0 < a := by omega
  have haa := Int.mul_pos hapos hapos
  have e : (a * a) * (x * x + y * y) ≤ (a * a) * (K * K) := by
    have e1 : (a * a) * (x * x + y * y) = (x * a) * (x * a) + (y * a) * (y * a) := by grind
    have e2 : K * K * U.1 * (K * K * U.1) + K * K * U.2 * (K * K * U.2) = (K * K) * (K * K * dt U U) := by unfold dt; grind
    have e3 : (K * K) * (K * K * dt U U) ≤ (K * K) * (a * a) := Int.mul_le_mul_of_nonneg_left (Int.le_of_lt h3) (sqn K)
    have e4 : (K * K) * (a * a) = (a * a) * (K * K) := Int.mul_comm _ _
    omega
  exact Int.le_of_mul_le_mul_left e haa

theorem dot_le (K : Int) (u y : Pt) (hu : dt u u ≤ K * K) : dt u y ≤ len K y := by
  obtain ⟨h1, h2, h3⟩ := len_spec K y
  have hc := cauchy u y
  have h4 : dt u u * dt y y ≤ K * K * dt y y := Int.mul_le_mul_of_nonneg_right hu (dt_nonneg y)
  have := sq_lt (x := dt u y) (y := len K y + 1) (by omega) (by omega)
  omega

theorem uni_self (K B : Int) (U : Pt) (hB : -B ≤ U.1 ∧ U.1 ≤ B ∧ -B ≤ U.2 ∧ U.2 ≤ B) : len K U - 2 * B ≤ dt (uni K U) U := by
  obtain ⟨h1, h2, h3⟩ := len_spec K U
  obtain ⟨e1, a1, b1, c1, _⟩ := tdiv_spec (K * K * U.1) (len K U + 1) (by omega)
  obtain ⟨e2, a2, b2, c2, _⟩ := tdiv_spec (K * K * U.2) (len K U + 1) (by omega)
  have hdef : dt (uni K U) U = (K * K * U.1).tdiv (len K U + 1) * U.1 + (K * K * U.2).tdiv (len K U + 1) * U.2 := rfl
  rw [hdef]
  generalize (K * K * U.1).tdiv (len K U + 1) = x at *
  generalize (K * K * U.2).tdiv (len K U + 1) = y at *
  have bd : ∀ e a u : Int, 0 < a → -a < e → e < a → -B ≤ u → u ≤ B → e * u ≤ a * B := fun e a u ha h1 h2 h3 h4 => by
    have hB0 : 0 ≤ B := by omega
    rcases Int.lt_or_le e 0 with h | h
    · have q1 : (-e) * (-u) ≤ (-e) * B := Int.mul_le_mul_of_nonneg_left (by omega) (by omega)
      have q2 : (-e) * B ≤ a * B := Int.mul_le_mul_of_nonneg_right (by omega) hB0
      have q3 : (-e) * (-u) = e * u := by grind
      omega
    · have q1 : e * u ≤ e * B := Int.mul_le_mul_of_nonneg_left h4 h
      have q2 : e * B ≤ a * B := Int.mul_le_mul_of_nonneg_right (by omega) hB0
      omega
  have d1 := bd e1 (len K U + 1) U.1 (by omega) b1 c1 hB.1 hB.2.1
  have d2 := bd e2 (len K U + 1) U.2 (by omega) b2 c2 hB.2.2.1 hB.2.2.2
  generalize ha : len K U + 1 = a at *
  have e : a * (a - 2) < a * (x * U.1 + y * U.2 + 2 * B) := by
    have q1 : a * (x * U.1 + y * U.2 + 2 * B) = (K * K * U.1) * U.1 - e1 * U.1 + ((K * K * U.2) * U.2 - e2 * U.2) + 2 * (a * B) := by
      rw [a1, a2]; grind
    have q2 : (K * K * U.1) * U.1 + (K * K * U.2) * U.2 = K * K * dt U U := by unfold dt; grind
    have q3 : len K U = a - 1 := by omega
    rw [q3] at h2
    have q4 : (a - 1) * (a - 1) = a * (a - 2) + 1 := by grind
    omega
  have := Int.lt_of_mul_lt_mul_left e (by omega)
  omega

theorem len_tri (K : Int) (u v w : Pt) (h1 : w.1 = u.1 + v.1) (h2 : w.2 = u.2 + v.2) : len K w ≤ len K u + len K v + 1 := by
  obtain ⟨a1, a2, a3⟩ := len_spec K u
  obtain ⟨b1, b2, b3⟩ := len_spec K v
  obtain ⟨c1, c2, c3⟩ := len_spec K w
  have e : K * K * dt w w = K * K * dt u u + K * K * dt v v + 2 * (K * K * dt u v) := by unfold dt; rw [h1, h2]; grind
  have hp : K * K * dt u v ≤ (len K u + 1) * (len K v + 1) := by
    refine sq_le (Int.mul_nonneg (by omega) (by omega)) ?_
    have q1 : K * K * dt u v * (K * K * dt u v) ≤ (K * K * dt u u) * (K * K * dt v v) := by
      have := Int.mul_le_mul_of_nonneg_left (cauchy u v) (Int.mul_nonneg (sqn K) (sqn K))
      have e1 : K * K * dt u v * (K * K * dt u v) = K * K * (K * K) * (dt u v * dt u v) := by grind
      have e2 : (K * K * dt u u) * (K * K * dt v v) = K * K * (K * K) * (dt u u * dt v v) := by grind
      omega
    have q2 : (K * K * dt u u) * (K * K * dt v v) ≤ ((len K u + 1) * (len K u + 1)) * (K * K * dt v v) := Int.mul_le_mul_of_nonneg_right (Int.le_of_lt a3) (Int.mul_nonneg (sqn K) (dt_nonneg v))
    have q3 : ((len K u + 1) * (len K u + 1)) * (K * K * dt v v) ≤ ((len K u + 1) * (len K u + 1)) * ((len K v + 1) * (len K v + 1)) := Int.mul_le_mul_of_nonneg_left (Int.le_of_lt b3) (sqn _)
    have q4 : ((len K u + 1) * (len K u + 1)) * ((len K v + 1) * (len K v + 1)) = (len K u + 1) * (len K v + 1) * ((len K u + 1) * (len K v + 1)) := by grind
    omega
  have := sq_lt (x := len K w) (y := len K u + len K v + 2) (by omega) (by
    have : (len K u + len K v + 2) * (len K u + len K v + 2) = (len K u + 1) * (len K u + 1) + (len K v + 1) * (len K v + 1) + 2 * ((len K u + 1) * (len K v + 1)) := by grind
    omega)
  omega

/-- Whole lengths. -/
theorem len_floor (K f : Int) (v : Pt) (hK : 0 ≤ K) (hf : 0 ≤ f) (h1 : f * f ≤ dt v v) (h2 : dt v v < (f + 1) * (f + 1)) : K * f ≤ len K v ∧ len K v ≤ K * (f + 1) := by
  obtain ⟨a1, a2, a3⟩ := len_spec K v
  have hKf := Int.mul_nonneg hK hf
  refine ⟨?_, ?_⟩
  · have q : (K * f) * (K * f) ≤ K * K * dt v v := by
      have := Int.mul_le_mul_of_nonneg_left h1 (sqn K)
      have e : (K * f) * (K * f) = K * K * (f * f) := by grind
      omega
    have := sq_lt (x := K * f) (y := len K v + 1) (by omega) (by omega)
    omega
  · refine sq_le (Int.mul_nonneg hK (by omega)) ?_
    have := Int.mul_le_mul_of_nonneg_left (Int.le_of_lt h2) (sqn K)
    have e : K * (f + 1) * (K * (f + 1)) = K * K * ((f + 1) * (f + 1)) := by grind
    omega
end Go.Proofs.Ytaiflkjchbpphaa.P
namespace Go.Proofs.Ytaiflkjchbpphaa.P

theorem abs_mul_le {e a u B : Int} (h1 : -a < e) (h2 : e < a) (h3 : -B ≤ u) (h4 : u ≤ B) : e * u ≤ a * B ∧ -(a * B) ≤ e * u := by
  have hB0 : 0 ≤ B := by omega
  have q : ∀ e u : Int, 0 ≤ e → e < a → -B ≤ u → u ≤ B → e * u ≤ a * B ∧ -(a * B) ≤ e * u := fun e u h h2 h3 h4 => by
    have q1 : e * u ≤ e * B := Int.mul_le_mul_of_nonneg_left h4 h
    have q2 : e * B ≤ a * B := Int.mul_le_mul_of_nonneg_right (by omega) hB0
    have q3 : e * -B ≤ e * u := Int.mul_le_mul_of_nonneg_left h3 h
    have q4 : e * -B = -(e * B) := by grind
    omega
  rcases Int.lt_or_le e 0 with h | h
  · have := q (-e) (-u) (by omega) (by omega) (by omega) (by omega)
    have e1 : (-e) * (-u) = e * u := by grind
    rw [e1] at this
    exact this
  · exact q e u h h2 h3 h4

/-- A direction times a vector, against the exact product. -/
theorem uni_dot (K B : Int) (U r : Pt) (hB : -B ≤ r.1 ∧ r.1 ≤ B ∧ -B ≤ r.2 ∧ r.2 ≤ B) :
    (len K U + 1) * dt (uni K U) r ≤ K * K * dt U r + 2 * ((len K U + 1) * B) ∧ K * K * dt U r - 2 * ((len K U + 1) * B) ≤ (len K U + 1) * dt (uni K U) r := by
  obtain ⟨h1, _, _⟩ := len_spec K U
  obtain ⟨e1, a1, b1, c1, _⟩ := tdiv_spec (K * K * U.1) (len K U + 1) (by omega)
  obtain ⟨e2, a2, b2, c2, _⟩ := tdiv_spec (K * K * U.2) (len K U + 1) (by omega)
  have hdef : dt (uni K U) r = (K * K * U.1).tdiv (len K U + 1) * r.1 + (K * K * U.2).tdiv (len K U + 1) * r.2 := rfl
  rw [hdef]
  generalize (K * K * U.1).tdiv (len K U + 1) = x at *
  generalize (K * K * U.2).tdiv (len K U + 1) = y at *
  have d1 := abs_mul_le b1 c1 hB.1 hB.2.1
  have d2 := abs_mul_le b2 c2 hB.2.2.1 hB.2.2.2
  generalize len K U + 1 = a at *
  have q : a * (x * r.1 + y * r.2) = K * K * dt U r - e1 * r.1 - e2 * r.2 := by
    have : K * K * dt U r = (K * K * U.1) * r.1 + (K * K * U.2) * r.2 := by unfold dt; grind
    rw [this, a1, a2]; grind
  omega

theorem len_ge {K : Int} {W : Pt} (hW : 0 < dt W W) : K ≤ len K W := by
  obtain ⟨h1, h2, h3⟩ := len_spec K W
  have : K * K * 1 ≤ K * K * dt W W := Int.mul_le_mul_of_nonneg_left (by omega) (sqn K)
  have := sq_lt (x := K) (y := len K W + 1) (by omega) (by omega)
  omega
theorem dt_pos {W : Pt} (hW : W ≠ (0, 0)) : 0 < dt W W := by
  have a := sqn W.1
  have b := sqn W.2
  rcases Int.lt_or_le 0 (dt W W) with h | h
  · exact h
  · exfalso
    unfold dt at h
    have e1 : W.1 * W.1 = 0 := by omega
    have e2 : W.2 * W.2 = 0 := by omega
    have f1 : W.1 = 0 := by rcases Int.mul_eq_zero.1 e1 with h | h <;> exact h
    have f2 : W.2 = 0 := by rcases Int.mul_eq_zero.1 e2 with h | h <;> exact h
    exact hW (Prod.ext f1 f2)

/-- The exact products, weighed with the lengths. -/
theorem bend_num {K : Int} {U r W : Pt} (h : Bend U r W) (hW : W ≠ (0, 0)) :
    -(dt U r).natAbs - (dt W r).natAbs ≤ (len K W + 1) * dt U r - (len K U + 1) * dt W r := by
  obtain ⟨u1, u2, u3⟩ := len_spec K U
  obtain ⟨w1, w2, w3⟩ := len_spec K W
  have hWp := dt_pos hW
  have l1 := lag U r
  have l2 := lag W r
  have hs : cx U r ≤ 0 := h.b1
  have hS := h.b2
  have hT := h.b3
  have hk : dt U r * cx r W + cx U r * dt W r = dt r r * cx U W := by unfold dt cx; grind
  have hrr := dt_nonneg r
  have hTn := Int.mul_nonneg hrr hT
  have hcx : cx W r = - cx r W := cx_anti _ _
  rw [hcx] at l2
  have l2' : dt W r * dt W r + cx r W * cx r W = dt W W * dt r r := by
    have : - cx r W * - cx r W = cx r W * cx r W := by grind
    omega
  have b4 := h.b4
  generalize dt U r = p at *
  generalize dt W r = q at *
  generalize hs' : cx U r = s at *
  generalize cx r W = t at *
  generalize dt r r = d at *
  generalize hla : len K U + 1 = a at *
  generalize hlb : len K W + 1 = b at *
  have sqs : ∀ x y : Int, (x * y) * (x * y) = (x * x) * (y * y) := fun x y => by grind
  -- the difference of the squares
  have hdiff : d * (p * p * dt W W - q * q * dt U U) = (p * t + s * q) * (p * t - s * q) := by
    have e1 : d * (p * p * dt W W - q * q * dt U U) = p * p * (dt W W * d) - q * q * (dt U U * d) := by grind
    rw [e1, ← l1, ← l2']; grind
  have key : ∀ x y c e f g : Int, 0 ≤ x → 0 ≤ y → 0 ≤ e → 0 ≤ f → y * y * f ≤ x * x * e → K * K * e < c * c → 0 ≤ c → 0 ≤ g → g * g ≤ K * K * f → g * y ≤ c * x := by
    intro x y c e f g hx hy he hf h1 h2 hc hg h3
    refine sq_le (Int.mul_nonneg hc hx) ?_
    rw [sqs, sqs]
    have q1 : g * g * (y * y) ≤ K * K * f * (y * y) := Int.mul_le_mul_of_nonneg_right h3 (sqn y)
    have q2 : K * K * (y * y * f) ≤ K * K * (x * x * e) := Int.mul_le_mul_of_nonneg_left h1 (sqn K)
    have q3 : K * K * e * (x * x) ≤ c * c * (x * x) := Int.mul_le_mul_of_nonneg_right (Int.le_of_lt h2) (sqn x)
    have q4 : K * K * f * (y * y) = K * K * (y * y * f) := by grind
    have q5 : K * K * (x * x * e) = K * K * e * (x * x) := by grind
    omega
  have e1 : len K U = a - 1 := by omega
  have e2 : len K W = b - 1 := by omega
  rw [e1] at u2
  rw [e2] at w2
  have hUn := dt_nonneg U
  have hd : 0 < d ∨ (p = 0 ∧ q = 0) := by
    rcases Int.lt_or_le 0 d with h0 | h0
    · exact .inl h0
    · have hd0 : d = 0 := by omega
      subst hd0
      rw [Int.mul_zero] at l1 l2'
      have a1 := sqn p
      have a2 := sqn q
      have a3 := sqn s
      have a4 := sqn t
      refine .inr ⟨?_, ?_⟩
      · rcases Int.mul_eq_zero.1 (show p * p = 0 by omega) with h | h <;> exact h
      · rcases Int.mul_eq_zero.1 (show q * q = 0 by omega) with h | h <;> exact h
  rcases hd with hd | ⟨rfl, rfl⟩
  · rcases Int.lt_or_le p 0 with hp | hp
    · rcases Int.lt_or_le q 0 with hq | hq
      · -- both against
        have n1 : p * t ≤ 0 := Int.mul_nonpos_of_nonpos_of_nonneg (Int.le_of_lt hp) hS
        have n2 : 0 ≤ s * q := Int.mul_nonneg_of_nonpos_of_nonpos hs (Int.le_of_lt hq)
        have n3 : p * t - s * q ≤ 0 := by omega
        have n4 : 0 ≤ p * t + s * q := by omega
        have n5 := Int.mul_nonpos_of_nonneg_of_nonpos n4 n3
        have n6 : p * p * dt W W ≤ q * q * dt U U := by
          rcases Int.lt_or_le (q * q * dt U U) (p * p * dt W W) with h0 | h0
          · have := Int.mul_pos hd (show 0 < p * p * dt W W - q * q * dt U U by omega); omega
          · exact h0
        have := key (-q) (-p) a (dt U U) (dt W W) (b - 1) (by omega) (by omega) hUn (Int.le_of_lt hWp) (by
          have x1 : -p * -p = p * p := by grind
          have x2 : -q * -q = q * q := by grind
          rw [x1, x2]; exact n6) u3 (by omega) (by omega) w2
        have x1 : (b - 1) * -p = -(b * p) + p := by grind
        have x2 : a * -q = -(a * q) := by grind
        omega
      · exfalso
        have n1 : p * t ≤ 0 := Int.mul_nonpos_of_nonpos_of_nonneg (Int.le_of_lt hp) hS
        have n2 : s * q ≤ 0 := Int.mul_nonpos_of_nonpos_of_nonneg hs hq
        have n3 : p * t = 0 := by omega
        have n4 : s * q = 0 := by omega
        have t0 : t = 0 := by rcases Int.mul_eq_zero.1 n3 with h | h <;> omega
        rw [t0] at l2'
        have n5 := Int.mul_pos hWp hd
        have q0 : q ≠ 0 := fun h0 => by rw [h0] at l2'; omega
        have s0 : s = 0 := by rcases Int.mul_eq_zero.1 n4 with h | h <;> omega
        exact b4 ⟨s0, hp⟩
    · rcases Int.lt_or_le 0 q with hq | hq
      · have n1 : 0 ≤ p * t := Int.mul_nonneg hp hS
        have n2 : s * q ≤ 0 := Int.mul_nonpos_of_nonpos_of_nonneg hs (Int.le_of_lt hq)
        have n5 := Int.mul_nonneg (show 0 ≤ p * t + s * q by omega) (show 0 ≤ p * t - s * q by omega)
        have n6 : q * q * dt U U ≤ p * p * dt W W := by
          rcases Int.lt_or_le (p * p * dt W W) (q * q * dt U U) with h0 | h0
          · have := Int.mul_neg_of_pos_of_neg hd (show p * p * dt W W - q * q * dt U U < 0 by omega); omega
          · exact h0
        have := key p q b (dt W W) (dt U U) (a - 1) hp (Int.le_of_lt hq) (Int.le_of_lt hWp) hUn n6 w3 (by omega) (by omega) u2
        have x1 : (a - 1) * q = a * q - q := by grind
        omega
      · have n1 := Int.mul_nonneg (show 0 ≤ b by omega) hp
        have n2 := Int.mul_nonpos_of_nonneg_of_nonpos (show 0 ≤ a by omega) hq
        omega
  · simp

/-- A product against the length. -/
theorem dot_bound {K B : Int} {U r : Pt} (hB : -B ≤ r.1 ∧ r.1 ≤ B ∧ -B ≤ r.2 ∧ r.2 ≤ B) : K * (dt U r).natAbs ≤ 2 * B * (len K U + 1) := by
  obtain ⟨u1, u2, u3⟩ := len_spec K U
  refine sq_le (Int.mul_nonneg (by omega) (by omega)) ?_
  have e0 : ((dt U r).natAbs : Int) * (dt U r).natAbs = dt U r * dt U r := by
    have := Int.natAbs_mul_self (a := dt U r); omega
  have e1 : K * ((dt U r).natAbs : Int) * (K * ((dt U r).natAbs : Int)) = K * K * (dt U r * dt U r) := by rw [← e0]; grind
  rw [e1]
  have q1 := Int.mul_le_mul_of_nonneg_left (cauchy U r) (sqn K)
  have q2 : K * K * (dt U U * dt r r) = (K * K * dt U U) * dt r r := by grind
  have q3 : (K * K * dt U U) * dt r r ≤ (len K U + 1) * (len K U + 1) * dt r r := Int.mul_le_mul_of_nonneg_right (Int.le_of_lt u3) (dt_nonneg r)
  have sq : ∀ x : Int, -B ≤ x → x ≤ B → x * x ≤ B * B := fun x h1 h2 => by
    rcases Int.lt_or_le x 0 with h | h
    · have := sq_mono (x := -x) (y := B) (by omega) (by omega)
      have : -x * -x = x * x := by grind
      omega
    · exact sq_mono h h2
  have r1 := sq r.1 hB.1 hB.2.1
  have r2 := sq r.2 hB.2.2.1 hB.2.2.2
  have q4 : dt r r ≤ 4 * (B * B) := by unfold dt; have := sqn B; omega
  have q5 : (len K U + 1) * (len K U + 1) * dt r r ≤ (len K U + 1) * (len K U + 1) * (4 * (B * B)) := Int.mul_le_mul_of_nonneg_left q4 (sqn _)
  have q6 : (len K U + 1) * (len K U + 1) * (4 * (B * B)) = 2 * B * (len K U + 1) * (2 * B * (len K U + 1)) := by grind
  omega

/-- At a bend the directions change outwards. -/
theorem bend_uni {K B : Int} (hK : 0 < K) {U r W : Pt} (h : Bend U r W) (hW : W ≠ (0, 0)) (hU : U ≠ (0, 0)) (hB : -B ≤ r.1 ∧ r.1 ≤ B ∧ -B ≤ r.2 ∧ r.2 ≤ B) :
    dt (uni K W) r ≤ dt (uni K U) r + 8 * B := by
  have hB0 : 0 ≤ B := by omega
  obtain ⟨u1, _, _⟩ := len_spec K U
  obtain ⟨w1, _, _⟩ := len_spec K W
  have k1 := len_ge (K := K) (dt_pos hU)
  have k2 := len_ge (K := K) (dt_pos hW)
  have n1 := bend_num (K := K) h hW
  obtain ⟨_, d2⟩ := uni_dot K B U r hB
  obtain ⟨d3, _⟩ := uni_dot K B W r hB
  have b1 := dot_bound (K := K) (U := U) hB
  have b2 := dot_bound (K := K) (U := W) hB
  generalize hla : len K U + 1 = a at *
  generalize hlb : len K W + 1 = b at *
  generalize ((dt U r).natAbs : Int) = p' at *
  generalize ((dt W r).natAbs : Int) = q' at *
  generalize dt (uni K U) r = x at *
  generalize dt (uni K W) r = y at *
  generalize dt U r = p at *
  generalize dt W r = q at *
  have ha : 0 < a := by omega
  have hb : 0 < b := by omega
  have hab := Int.mul_pos ha hb
  -- a b (x - y) >= K K (b p - a q) - 4 a b B
  have m1 : b * (K * K * p - 2 * (a * B)) ≤ b * (a * x) := Int.mul_le_mul_of_nonneg_left d2 (Int.le_of_lt hb)
  have m2 : a * (b * y) ≤ a * (K * K * q + 2 * (b * B)) := Int.mul_le_mul_of_nonneg_left d3 (Int.le_of_lt ha)
  have m3 : K * K * (-p' - q') ≤ K * K * (b * p - a * q) := Int.mul_le_mul_of_nonneg_left n1 (sqn K)
  have m4 : K * (K * p') ≤ K * (2 * B * a) := Int.mul_le_mul_of_nonneg_left b1 (Int.le_of_lt hK)
  have m5 : K * (K * q') ≤ K * (2 * B * b) := Int.mul_le_mul_of_nonneg_left b2 (Int.le_of_lt hK)
  have m6 : K * (2 * B * a) ≤ b * (2 * B * a) := Int.mul_le_mul_of_nonneg_right (by omega) (Int.mul_nonneg (by omega) (Int.le_of_lt ha))
  have m7 : K * (2 * B * b) ≤ a * (2 * B * b) := Int.mul_le_mul_of_nonneg_right (by omega) (Int.mul_nonneg (by omega) (Int.le_of_lt hb))
  have e : (a * b) * y ≤ (a * b) * (x + 8 * B) := by
    have f1 : b * (K * K * p - 2 * (a * B)) = K * K * (b * p) - 2 * (a * b * B) := by grind
    have f2 : b * (a * x) = a * b * x := by grind
    have f3 : a * (b * y) = a * b * y := by grind
    have f4 : a * (K * K * q + 2 * (b * B)) = K * K * (a * q) + 2 * (a * b * B) := by grind
    have f5 : K * K * (b * p - a * q) = K * K * (b * p) - K * K * (a * q) := by grind
    have f6 : K * K * (-p' - q') = -(K * (K * p')) - K * (K * q') := by grind
    have f7 : b * (2 * B * a) = 2 * (a * b * B) := by grind
    have f8 : a * (2 * B * b) = 2 * (a * b * B) := by grind
    have f9 : a * b * (x + 8 * B) = a * b * x + 8 * (a * b * B) := by grind
    omega
  exact Int.le_of_mul_le_mul_left e hab
end Go.Proofs.Ytaiflkjchbpphaa.P
namespace Go.Proofs.Ytaiflkjchbpphaa.P

theorem len_flp (K : Int) (v : Pt) : len K (flp v) = len K v := by unfold len; rw [dt_mir]
theorem uni_flp (K : Int) (U : Pt) : uni K (flp U) = flp (uni K U) := by
  unfold uni
  rw [len_flp]
  have : K * K * (flp U).1 = -(K * K * U.1) := by unfold flp; grind
  rw [this, Int.neg_tdiv]
  rfl
theorem bend_uni' {K B : Int} (hK : 0 < K) {U r W : Pt} (h : Bend (flp U) (flp r) (flp W)) (hW : W ≠ (0, 0)) (hU : U ≠ (0, 0)) (hB : -B ≤ r.1 ∧ r.1 ≤ B ∧ -B ≤ r.2 ∧ r.2 ≤ B) :
    dt (uni K W) r ≤ dt (uni K U) r + 8 * B := by
  have z : ∀ P : Pt, P ≠ (0, 0) → flp P ≠ (0, 0) := fun P hP e => hP (by
    rw [← mir_mir P, e]; simp [flp])
  have := bend_uni hK h (z W hW) (z U hU) (B := B) (by unfold flp; simp only []; omega)
  rw [uni_flp, uni_flp, dt_mir, dt_mir] at this
  exact this

/-- On a gate. -/
def On (g : Pt × Pt) (A : Pt) : Prop := cr g.1 g.2 A = 0 ∧ 0 ≤ (A.1 - g.1.1) * (g.2.1 - A.1) ∧ 0 ≤ (A.2 - g.1.2) * (g.2.2 - A.2)
/-- The rooms between the gates: room i lies before gate i. -/
structure Rooms (G : Nat → Pt × Pt) (n : Nat) (C : Nat → Pt → Prop) : Prop where
  ahead : ∀ i A, i + 1 < n → C i A → 0 ≤ cr A (G i).2 (G i).1
  on : ∀ i A, i + 1 < n → C i A → cr A (G i).2 (G i).1 = 0 → On (G i) A
  next : ∀ i A, i + 1 < n → On (G i) A → C (i + 1) A
  lr : ∀ i, i + 1 < n → (G i).1 ≠ (G i).2
  c3 : ∀ k, k + 2 < n → cr (G (k + 1)).2 (G (k + 1)).1 (G k).1 = 0 → (G (k + 1)).1 = (G k).1
  c4 : ∀ k, k + 2 < n → cr (G (k + 1)).2 (G (k + 1)).1 (G k).2 = 0 → (G (k + 1)).2 = (G k).2

theorem cr_cyc (a b c : Pt) : cr a b c = cr b c a := by unfold cr cx sb; grind
theorem on_left (g : Pt × Pt) : On g g.1 := ⟨by unfold cr cx sb; grind, by grind, by grind⟩
theorem on_right (g : Pt × Pt) : On g g.2 := ⟨by unfold cr cx sb; grind, by grind, by grind⟩
theorem on_point {P A : Pt} (h : On (P, P) A) : A = P := by
  obtain ⟨_, h1, h2⟩ := h
  simp only [] at h1 h2
  have e : ∀ a b : Int, 0 ≤ (a - b) * (b - a) → a = b := fun a b h => by
    have q := sqn (a - b)
    have e1 : (a - b) * (b - a) = -((a - b) * (a - b)) := by grind
    have e2 : (a - b) * (a - b) = 0 := by omega
    rcases Int.mul_eq_zero.1 e2 with h | h <;> omega
  exact Prod.ext (e _ _ h1) (e _ _ h2)

/-- The way from A, gate i being the next one. -/
inductive Pul (G : Nat → Pt × Pt) (n : Nat) : Pt → Nat → List Pt → Prop
  | stop (A : Pt) : Pul G n A n [A]
  | skip (A : Pt) (i : Nat) (p : List Pt) (hi : i < n) (hon : On (G i) A) (h : Pul G n A (i + 1) p) : Pul G n A i p
  | turn (A : Pt) (i : Nat) (P : Pt) (x : Nat) (p : List Pt) (hi : i < n) (hon : ¬ On (G i) A) (hT : Trn G n A (i + 1) (G i).1 (G i).2 i i P x) (h : Pul G n P x p) : Pul G n A i (A :: p)

theorem Pul.head {G : Nat → Pt × Pt} {n : Nat} {A : Pt} {i : Nat} {p : List Pt} (h : Pul G n A i p) : ∃ q, p = A :: q := by
  induction h with
  | stop A => exact ⟨[], rfl⟩
  | skip _ _ _ _ _ _ ih => exact ih
  | turn A i P x p hi hon hT h ih => exact ⟨p, rfl⟩
theorem Pul.le {G : Nat → Pt × Pt} {n : Nat} {A : Pt} {i : Nat} {p : List Pt} (h : Pul G n A i p) : i ≤ n := by
  cases h with
  | stop => exact Nat.le_refl _
  | skip _ _ _ hi => exact Nat.le_of_lt hi
  | turn _ _ _ _ _ hi => exact Nat.le_of_lt hi

noncomputable def plen (K : Int) : List Pt → Int
  | A :: B :: p => len K (sb B A) + plen K (B :: p)
  | _ => 0
/-- Another way: through the points xs i, xs (i + 1), .. -/
noncomputable def tot (K : Int) (xs : Nat → Pt) : Nat → Nat → Pt → Int
  | 0, _, _ => 0
  | m + 1, i, y => len K (sb (xs i) y) + tot K xs m (i + 1) (xs i)

theorem dt_sb (w a b c : Pt) : dt w (sb a c) = dt w (sb a b) + dt w (sb b c) := by unfold dt sb; grind
/-- A part of the other way, against a direction. -/
theorem tot_ge (K : Int) (xs : Nat → Pt) (w : Pt) (hw : dt w w ≤ K * K) : ∀ (d m i : Nat) (y : Pt), dt w (sb (xs (i + d)) y) + tot K xs m (i + d + 1) (xs (i + d)) ≤ tot K xs (m + d + 1) i y
  | 0, m, i, y => by
    show _ ≤ len K (sb (xs i) y) + tot K xs m (i + 1) (xs i)
    have := dot_le K w (sb (xs i) y) hw
    simp only [Nat.add_zero]
    omega
  | d + 1, m, i, y => by
    show _ ≤ len K (sb (xs i) y) + tot K xs (m + d + 1) (i + 1) (xs i)
    have h1 := dot_le K w (sb (xs i) y) hw
    have h2 := tot_ge K xs w hw d m (i + 1) (xs i)
    rw [show i + 1 + d = i + (d + 1) by omega] at h2
    have h3 := dt_sb w (xs (i + (d + 1))) (xs i) y
    omega

/-- The points of the other way: near the gates' middles. -/
structure Mids (G : Nat → Pt × Pt) (n : Nat) (B : Int) (xs : Nat → Pt) : Prop where
  mid1 : ∀ i, i + 1 < n → -1 ≤ 2 * (xs i).1 - (G i).1.1 - (G i).2.1 ∧ 2 * (xs i).1 - (G i).1.1 - (G i).2.1 ≤ 1
  mid2 : ∀ i, i + 1 < n → -1 ≤ 2 * (xs i).2 - (G i).1.2 - (G i).2.2 ∧ 2 * (xs i).2 - (G i).1.2 - (G i).2.2 ≤ 1
  last : xs (n - 1) = (G (n - 1)).1
  far : ∀ i j, i < n → j < n → (-B ≤ (G i).1.1 - (G j).2.1 ∧ (G i).1.1 - (G j).2.1 ≤ B) ∧ (-B ≤ (G i).1.2 - (G j).2.2 ∧ (G i).1.2 - (G j).2.2 ≤ B) ∧ (-B ≤ (G i).1.1 - (G j).1.1 ∧ (G i).1.1 - (G j).1.1 ≤ B) ∧ (-B ≤ (G i).1.2 - (G j).1.2 ∧ (G i).1.2 - (G j).1.2 ≤ B) ∧ (-B ≤ (G i).2.1 - (G j).2.1 ∧ (G i).2.1 - (G j).2.1 ≤ B) ∧ (-B ≤ (G i).2.2 - (G j).2.2 ∧ (G i).2.2 - (G j).2.2 ≤ B)

theorem unit_small {K : Int} (hK : 0 ≤ K) {w : Pt} (hw : dt w w ≤ K * K) : -K ≤ w.1 ∧ w.1 ≤ K ∧ -K ≤ w.2 ∧ w.2 ≤ K := by
  have a := sqn w.1
  have b := sqn w.2
  unfold dt at hw
  have e : ∀ x : Int, x * x ≤ K * K → -K ≤ x ∧ x ≤ K := fun x h => by
    have h1 := sq_le hK h
    have h2 := sq_le (x := -x) hK (by
      have : -x * -x = x * x := by grind
      omega)
    omega
  have := e w.1 (by omega)
  have := e w.2 (by omega)
  omega

/-- The change of direction at a gate's middle. -/
theorem change {K D : Int} (hK : 0 ≤ K) {u w V E m : Pt} (hu : dt u u ≤ K * K) (hw : dt w w ≤ K * K) (h : dt w (sb E V) ≤ dt u (sb E V) + D)
    (h1 : -1 ≤ 2 * m.1 - V.1 - E.1 ∧ 2 * m.1 - V.1 - E.1 ≤ 1) (h2 : -1 ≤ 2 * m.2 - V.2 - E.2 ∧ 2 * m.2 - V.2 - E.2 ≤ 1) : 2 * dt w (sb m V) ≤ 2 * dt u (sb m V) + D + 4 * K := by
  have a := unit_small hK hu
  have b := unit_small hK hw
  obtain ⟨e1, he1⟩ : ∃ e, 2 * m.1 - V.1 - E.1 = e := ⟨_, rfl⟩
  obtain ⟨e2, he2⟩ : ∃ e, 2 * m.2 - V.2 - E.2 = e := ⟨_, rfl⟩
  rw [he1] at h1
  rw [he2] at h2
  have q : ∀ v : Pt, 2 * dt v (sb m V) = dt v (sb E V) + v.1 * e1 + v.2 * e2 := fun v => by
    unfold dt sb
    rw [← he1, ← he2]
    grind
  rw [q, q]
  have s : ∀ x e : Int, -K ≤ x → x ≤ K → -1 ≤ e → e ≤ 1 → -K ≤ x * e ∧ x * e ≤ K := fun x e p1 p2 p3 p4 => by
    obtain rfl | rfl | rfl : e = -1 ∨ e = 0 ∨ e = 1 := by omega
    all_goals omega
  have s1 := s u.1 e1 a.1 a.2.1 h1.1 h1.2
  have s2 := s u.2 e2 a.2.2.1 a.2.2.2 h2.1 h2.2
  have s3 := s w.1 e1 b.1 b.2.1 h1.1 h1.2
  have s4 := s w.2 e2 b.2.2.1 b.2.2.2 h2.1 h2.2
  omega

theorem uni_zero {K : Int} (_hK : 0 ≤ K) : dt ((0, 0) : Pt) (0, 0) ≤ K * K := by
  have := sqn K
  unfold dt; simp only []; omega
end Go.Proofs.Ytaiflkjchbpphaa.P
namespace Go.Proofs.Ytaiflkjchbpphaa.P

/-- Not far from the gates. -/
def Near (G : Nat → Pt × Pt) (n : Nat) (B : Int) (A : Pt) : Prop := ∀ j, j < n → (-B ≤ (G j).1.1 - A.1 ∧ (G j).1.1 - A.1 ≤ B) ∧ (-B ≤ (G j).1.2 - A.2 ∧ (G j).1.2 - A.2 ≤ B) ∧ (-B ≤ (G j).2.1 - A.1 ∧ (G j).2.1 - A.1 ≤ B) ∧ (-B ≤ (G j).2.2 - A.2 ∧ (G j).2.2 - A.2 ≤ B)
theorem Mids.left {G : Nat → Pt × Pt} {n : Nat} {B : Int} {xs : Nat → Pt} (h : Mids G n B xs) {t : Nat} (ht : t < n) : Near G n B (G t).1 := fun j hj => by
  have a := h.far j t hj ht
  have b := h.far t j ht hj
  omega
theorem Mids.right {G : Nat → Pt × Pt} {n : Nat} {B : Int} {xs : Nat → Pt} (h : Mids G n B xs) {t : Nat} (ht : t < n) : Near G n B (G t).2 := fun j hj => by
  have a := h.far j t hj ht
  have b := h.far t j ht hj
  omega

/-- The directions in which the way may go on. -/
structure Perm (K : Int) (G : Nat → Pt × Pt) (n : Nat) (A : Pt) (i : Nat) (w : Pt) : Prop where
  small : dt w w ≤ K * K
  onl : i + 1 < n → (G i).1 = A → w = uni K (sb (G i).2 A)
  onr : i + 1 < n → (G i).2 = A → w = uni K (sb (G i).1 A)
  off : ¬ On (G i) A → ∃ W y, Trn G n A (i + 1) (G i).1 (G i).2 i i W y ∧ W ≠ A ∧ w = uni K (sb W A)

theorem sb_swap (P A : Pt) (w : Pt) : dt w (sb P A) = - dt w (sb A P) := by unfold dt sb; grind
theorem ne_sb {P A : Pt} (h : P ≠ A) : sb P A ≠ (0, 0) := fun e => h (by
  have e1 := congrArg Prod.fst e
  have e2 := congrArg Prod.snd e
  simp only [sb] at e1 e2
  exact Prod.ext (by omega) (by omega))
theorem sb_self (P : Pt) : sb P P = (0, 0) := by simp [sb]
theorem dt_zero (w : Pt) : dt w (0, 0) = 0 := by simp [dt]
theorem tot_nonneg (K : Int) (xs : Nat → Pt) : ∀ (m i : Nat) (y : Pt), 0 ≤ tot K xs m i y
  | 0, _, _ => Int.le_refl 0
  | m + 1, i, y => by
    show 0 ≤ len K (sb (xs i) y) + tot K xs m (i + 1) (xs i)
    have := tot_nonneg K xs m (i + 1) (xs i)
    have := (len_spec K (sb (xs i) y)).1
    omega

theorem step_num {e a b : Int} {m k : Nat} (h : m + 1 ≤ k) (he : 0 ≤ e) (h2 : a ≤ b + e * m + e) : a ≤ b + e * k := by
  have : e * ((m : Int) + 1) ≤ e * k := Int.mul_le_mul_of_nonneg_left (by omega) he
  have e1 : e * ((m : Int) + 1) = e * m + e := by grind
  omega

set_option maxHeartbeats 1000000 in
theorem pul_len {G : Nat → Pt × Pt} {n : Nat} {C : Nat → Pt → Prop} {xs : Nat → Pt} {K B : Int} (hK : 0 < K) (hB0 : 0 ≤ B) (hS : Slv G n) (hR : Rooms G n C) (hM : Mids G n B xs) {A : Pt} {i : Nat} {p : List Pt} (h : Pul G n A i p) (hi : i < n) (hC : C i A) (hN : Near G n B A) :
    ∃ w, Perm K G n A i w ∧ ∀ y, 2 * (plen K p + dt w (sb A y)) ≤ 2 * tot K xs (n - i) i y + (12 * B + 4 * K) * ((n - i : Nat) : Int) := by
  induction h with
  | stop A => exact absurd hi (Nat.lt_irrefl _)
  | skip A i p hi' hon h ih =>
    by_cases hn : i + 1 < n
    · obtain ⟨w, hw, hy⟩ := ih hn (hR.next i A hn hon) hN
      have hE0 : 0 ≤ 12 * B + 4 * K := by omega
      have key : ∀ v : Pt, dt v v ≤ K * K → 2 * dt w (sb (xs i) A) ≤ 2 * dt v (sb (xs i) A) + (12 * B + 4 * K) → ∀ y, 2 * (plen K p + dt v (sb A y)) ≤ 2 * tot K xs (n - i) i y + (12 * B + 4 * K) * ((n - i : Nat) : Int) := fun v hv hc y => by
        refine step_num (m := n - (i + 1)) (by omega) hE0 ?_
        have h1 := hy (xs i)
        have h2 := dot_le K v (sb (xs i) y) hv
        have h3 : tot K xs (n - i) i y = len K (sb (xs i) y) + tot K xs (n - (i + 1)) (i + 1) (xs i) := by
          rw [show n - i = (n - (i + 1)) + 1 by omega]; rfl
        have h4 := dt_sb v (xs i) A y
        have h5 := sb_swap A (xs i) w
        omega
      have m1 := hM.mid1 i hn
      have m2 := hM.mid2 i hn
      have hNi := hN i hi'
      by_cases e1 : (G i).1 = A
      · have hne : (G i).2 ≠ A := fun e => hR.lr i hn (e1.trans e.symm)
        refine ⟨uni K (sb (G i).2 A), ⟨uni_len _ _, fun _ _ => rfl, fun _ e => absurd e hne, fun h => absurd hon h⟩, key _ (uni_len _ _) ?_⟩
        have c := change (D := 8 * B) (Int.le_of_lt hK) (uni_len K (sb (G i).2 A)) hw.small (V := A) (E := (G i).2) (m := xs i) (by
          have a1 := dot_le K w (sb (G i).2 A) hw.small
          have a2 := uni_self K B (sb (G i).2 A) (by simp only [sb]; omega)
          omega) (by rw [← e1]; exact m1) (by rw [← e1]; exact m2)
        omega
      · by_cases e2 : (G i).2 = A
        · refine ⟨uni K (sb (G i).1 A), ⟨uni_len _ _, fun _ e => absurd e e1, fun _ _ => rfl, fun h => absurd hon h⟩, key _ (uni_len _ _) ?_⟩
          have c := change (D := 8 * B) (Int.le_of_lt hK) (uni_len K (sb (G i).1 A)) hw.small (V := A) (E := (G i).1) (m := xs i) (by
            have a1 := dot_le K w (sb (G i).1 A) hw.small
            have a2 := uni_self K B (sb (G i).1 A) (by simp only [sb]; omega)
            omega) (by rw [← e2]; omega) (by rw [← e2]; omega)
          omega
        · exact ⟨w, ⟨hw.small, fun _ e => absurd e e1, fun _ e => absurd e e2, fun h => absurd hon h⟩, key w hw.small (by omega)⟩
    · -- the last point
      have hin : i + 1 = n := by omega
      rw [hin] at h
      obtain ⟨_, rfl⟩ : True ∧ p = [A] := by
        cases h with
        | stop => exact ⟨trivial, rfl⟩
        | skip _ _ _ hi => exact absurd hi (Nat.lt_irrefl _)
        | turn _ _ _ _ _ hi => exact absurd hi (Nat.lt_irrefl _)
      refine ⟨(0, 0), ⟨uni_zero (Int.le_of_lt hK), fun h => absurd h (by omega), fun h => absurd h (by omega), fun h => absurd hon h⟩, fun y => ?_⟩
      have := tot_nonneg K xs (n - i) i y
      have e : plen K [A] = 0 := rfl
      have e2 : dt (0, 0) (sb A y) = 0 := by simp [dt]
      have := Int.mul_nonneg (show 0 ≤ 12 * B + 4 * K by omega) (show 0 ≤ ((n - i : Nat) : Int) by omega)
      omega
  | turn A i P x p hi' hon hT h ih =>
    have hgood : (i + 1 < n ∧ 0 < cr A (G i).2 (G i).1) ∨ (i + 1 = n ∧ (G i).1 ≠ A) := by
      by_cases e : i + 1 < n
      · refine .inl ⟨e, ?_⟩
        have h1 := hR.ahead i A e hC
        rcases Int.lt_or_le 0 (cr A (G i).2 (G i).1) with h2 | h2
        · exact h2
        · exact absurd (hR.on i A e hC (by omega)) hon
      · refine .inr ⟨by omega, fun e1 => hon ?_⟩
        rw [← e1]; exact on_left _
    have hTu := turn_ok hS hi' hT hgood
    obtain ⟨q, hq⟩ := h.head
    have hxi := hTu.lt
    have hxn := hTu.le
    have hPN : Near G n B P ∧ (-B ≤ P.1 - A.1 ∧ P.1 - A.1 ≤ B ∧ -B ≤ P.2 - A.2 ∧ P.2 - A.2 ≤ B) := by
      rcases hTu.kind with ⟨e1, e2⟩ | ⟨e1, e2, _⟩ | ⟨e1, e2, _⟩
      · have := hN (n - 1) (by omega)
        rw [e2]; exact ⟨hM.left (by omega), by omega⟩
      · have := hN (x - 1) (by omega)
        rw [e2]; exact ⟨hM.left (by omega), by omega⟩
      · have := hN (x - 1) (by omega)
        rw [e2]; exact ⟨hM.right (by omega), by omega⟩
    have hself := uni_self K B (sb P A) (by simp only [sb]; omega)
    have hpl : plen K (A :: p) = len K (sb P A) + plen K p := by rw [hq]; rfl
    have hE0 : 0 ≤ 12 * B + 4 * K := by omega
    have hgo : ∀ y, dt (uni K (sb P A)) (sb (xs (x - 1)) y) + tot K xs (n - x) x (xs (x - 1)) ≤ tot K xs (n - i) i y := fun y => by
      have := tot_ge K xs (uni K (sb P A)) (uni_len _ _) (x - 1 - i) (n - x) i y
      rw [show i + (x - 1 - i) = x - 1 by omega, show x - 1 + 1 = x by omega, show n - x + (x - 1 - i) + 1 = n - i by omega] at this
      exact this
    refine ⟨uni K (sb P A), ⟨uni_len _ _, fun _ e => absurd (by rw [← e]; exact on_left _) hon, fun _ e => absurd (by rw [← e]; exact on_right _) hon, fun _ => ⟨P, x, hT, hTu.ne, rfl⟩⟩, fun y => ?_⟩
    have h1 := hgo y
    rw [hpl]
    by_cases hx : x < n
    · -- a bend at P
      have hCx : C x P := by
        have := hR.next (x - 1) P (by omega) (by
          rcases hTu.kind with ⟨e1, _⟩ | ⟨_, e2, _⟩ | ⟨_, e2, _⟩
          · omega
          · rw [e2]; exact on_left _
          · rw [e2]; exact on_right _)
        rwa [show x - 1 + 1 = x by omega] at this
      obtain ⟨w, hw, hy⟩ := ih hx hCx hPN.1
      have h2 := hy (xs (x - 1))
      have m1 := hM.mid1 (x - 1) (by omega)
      have m2 := hM.mid2 (x - 1) (by omega)
      have hNP := hPN.1 (x - 1) (by omega)
      have hoff : ¬ On (G x) P → (x + 1 < n ∧ 0 < cr P (G x).2 (G x).1 ∨ x + 1 = n ∧ (G x).1 ≠ P) := fun ho => by
        by_cases e : x + 1 < n
        · refine .inl ⟨e, ?_⟩
          have h1 := hR.ahead x P e hCx
          rcases Int.lt_or_le 0 (cr P (G x).2 (G x).1) with h2 | h2
          · exact h2
          · exact absurd (hR.on x P e hCx (by omega)) ho
        · refine .inr ⟨by omega, fun e1 => ho ?_⟩
          rw [← e1]; exact on_left _
      have hxx : x - 1 + 1 = x := by omega
      have hch : 2 * dt w (sb (xs (x - 1)) P) ≤ 2 * dt (uni K (sb P A)) (sb (xs (x - 1)) P) + 8 * B + 4 * K := by
        rcases hTu.kind with ⟨e1, _⟩ | ⟨_, e2, k, k1, k2, k3, k4⟩ | ⟨_, e2, k, k1, k2, k3, k4⟩
        · omega
        · have hW : ∃ W, W ≠ P ∧ w = uni K (sb W P) ∧ ((x + 1 < n ∧ (G x).1 = P ∧ W = (G x).2) ∨ ((x + 1 < n ∧ 0 < cr P (G x).2 (G x).1 ∨ x + 1 = n ∧ (G x).1 ≠ P) ∧ ∃ y, Trn G n P (x + 1) (G x).1 (G x).2 x x W y)) := by
            by_cases ho : On (G x) P
            · have hx1 : x + 1 < n := by
                by_cases e : x + 1 < n
                · exact e
                · exfalso
                  have hl := hS.last
                  rw [show n - 1 = x by omega] at hl
                  have : P = (G x).2 := on_point (by have : G x = ((G x).2, (G x).2) := Prod.ext hl rfl; rw [this] at ho; exact ho)
                  obtain rfl : k = x := by omega
                  rw [← this, cr_self] at k4
                  omega
              have hl : (G x).1 = P := by
                have := hR.c3 (x - 1) (by omega)
                rw [hxx] at this
                rw [e2]
                refine this ?_
                have h0 := ho.1
                rw [← e2]
                have e3 : cr (G x).2 (G x).1 P = - cr (G x).1 (G x).2 P := by unfold cr cx sb; grind
                omega
              exact ⟨(G x).2, fun e => hR.lr x hx1 (hl.trans e.symm), hw.onl hx1 hl, .inl ⟨hx1, hl, rfl⟩⟩
            · obtain ⟨W, y, h3, h4, h5⟩ := hw.off ho
              exact ⟨W, h4, h5, .inr ⟨hoff ho, y, h3⟩⟩
          obtain ⟨W, hWP, rfl, hW⟩ := hW
          have hb := bend_left hS hTu hx e2 k1 k2 k3 k4 hW
          have := bend_uni hK hb (ne_sb hWP) (ne_sb hTu.ne) (B := B) (by simp only [sb]; omega)
          have := change (Int.le_of_lt hK) (uni_len K (sb P A)) (uni_len K (sb W P)) (V := P) (E := (G (x - 1)).2) (m := xs (x - 1)) this (by rw [e2]; exact m1) (by rw [e2]; exact m2)
          omega
        · have hW : ∃ W, W ≠ P ∧ w = uni K (sb W P) ∧ ((x + 1 < n ∧ (G x).2 = P ∧ W = (G x).1) ∨ ((x + 1 < n ∧ 0 < cr P (G x).2 (G x).1 ∨ x + 1 = n ∧ (G x).1 ≠ P) ∧ ∃ y, Trn G n P (x + 1) (G x).1 (G x).2 x x W y)) := by
            by_cases ho : On (G x) P
            · have hx1 : x + 1 < n := by
                by_cases e : x + 1 < n
                · exact e
                · exfalso
                  have hl := hS.last
                  rw [show n - 1 = x by omega] at hl
                  have : P = (G x).1 := on_point (by have : G x = ((G x).1, (G x).1) := Prod.ext rfl hl.symm; rw [this] at ho; exact ho)
                  obtain rfl : k = x := by omega
                  rw [← this, cr_self] at k4
                  omega
              have hl : (G x).2 = P := by
                have := hR.c4 (x - 1) (by omega)
                rw [hxx] at this
                rw [e2]
                refine this ?_
                have h0 := ho.1
                rw [← e2]
                have e3 : cr (G x).2 (G x).1 P = - cr (G x).1 (G x).2 P := by unfold cr cx sb; grind
                omega
              exact ⟨(G x).1, fun e => hR.lr x hx1 (e.trans hl.symm), hw.onr hx1 hl, .inl ⟨hx1, hl, rfl⟩⟩
            · obtain ⟨W, y, h3, h4, h5⟩ := hw.off ho
              exact ⟨W, h4, h5, .inr ⟨hoff ho, y, h3⟩⟩
          obtain ⟨W, hWP, rfl, hW⟩ := hW
          have hb := bend_right hS hTu hx e2 k1 k2 k3 k4 hW
          have := bend_uni' hK hb (ne_sb hWP) (ne_sb hTu.ne) (B := B) (by simp only [sb]; omega)
          have := change (Int.le_of_lt hK) (uni_len K (sb P A)) (uni_len K (sb W P)) (V := P) (E := (G (x - 1)).1) (m := xs (x - 1)) this (by rw [e2]; omega) (by rw [e2]; omega)
          omega
      refine step_num (m := n - x) (by omega) hE0 ?_
      have h3 := dt_sb (uni K (sb P A)) (xs (x - 1)) P y
      have h4 := dt_sb (uni K (sb P A)) P A y
      have h5 := sb_swap P (xs (x - 1)) w
      omega
    · obtain rfl : x = n := by omega
      obtain rfl : p = [P] := by
        cases h with
        | stop => rfl
        | skip _ _ _ hi => exact absurd hi (Nat.lt_irrefl _)
        | turn _ _ _ _ _ hi => exact absurd hi (Nat.lt_irrefl _)
      have hP : P = xs (x - 1) := by
        rcases hTu.kind with ⟨_, e2⟩ | ⟨e1, _⟩ | ⟨e1, _⟩
        · rw [e2, hM.last]
        · omega
        · omega
      refine step_num (m := x - x) (by omega) hE0 ?_
      rw [← hP] at h1
      have e0 : tot K xs (x - x) x P = 0 := by rw [Nat.sub_self]; rfl
      have e1 : plen K [P] = 0 := rfl
      have h4 := dt_sb (uni K (sb P A)) P A y
      rw [Nat.sub_self]
      simp only [Int.natCast_zero, Int.mul_zero]
      omega
end Go.Proofs.Ytaiflkjchbpphaa.P
namespace Go.Proofs.Ytaiflkjchbpphaa.P

theorem cr_from (s t M Z : Pt) : cr s t Z = cr s t M + cx (sb t s) (sb Z M) := by unfold cr cx sb; grind
theorem turn_by (U D z : Pt) : dt U U * cx D z = dt U z * cx D U + cx U z * dt D U := by unfold dt cx; grind
/-- A point between two others on a line: it is not beyond a side that both are not beyond. The two are given by weights on the ends of gates. -/
theorem between_side {U M s t L R L' R' : Pt} {p q p' q' : Int} (hU : U ≠ (0, 0)) (h0 : 0 ≤ p) (h1 : 0 ≤ q) (h2 : 0 < p + q) (k0 : 0 ≤ p') (k1 : 0 ≤ q') (k2 : 0 < p' + q')
    (hl : p * cx U (sb L M) + q * cx U (sb R M) = 0) (kl : p' * cx U (sb L' M) + q' * cx U (sb R' M) = 0)
    (he : p * dt U (sb L M) + q * dt U (sb R M) ≤ 0) (ke : 0 ≤ p' * dt U (sb L' M) + q' * dt U (sb R' M))
    (fL : 0 ≤ cr s t L) (fR : 0 ≤ cr s t R) (fL' : 0 ≤ cr s t L') (fR' : 0 ≤ cr s t R') : 0 ≤ cr s t M := by
  have hUU := dt_pos hU
  obtain ⟨D, hD⟩ : ∃ D, sb t s = D := ⟨_, rfl⟩
  have e1 := cr_from s t M L
  have e2 := cr_from s t M R
  have e3 := cr_from s t M L'
  have e4 := cr_from s t M R'
  rw [hD] at e1 e2 e3 e4
  have t1 := turn_by U D (sb L M)
  have t2 := turn_by U D (sb R M)
  have t3 := turn_by U D (sb L' M)
  have t4 := turn_by U D (sb R' M)
  generalize cr s t M = m at *
  generalize cr s t L = a at *
  generalize cr s t R = b at *
  generalize cr s t L' = c at *
  generalize cr s t R' = d at *
  generalize cx D (sb L M) = xa at *
  generalize cx D (sb R M) = xb at *
  generalize cx D (sb L' M) = xc at *
  generalize cx D (sb R' M) = xd at *
  generalize dt U (sb L M) = ea at *
  generalize dt U (sb R M) = eb at *
  generalize dt U (sb L' M) = ec at *
  generalize dt U (sb R' M) = ed at *
  generalize cx U (sb L M) = ya at *
  generalize cx U (sb R M) = yb at *
  generalize cx U (sb L' M) = yc at *
  generalize cx U (sb R' M) = yd at *
  generalize cx D U = k at *
  generalize dt D U = l at *
  generalize dt U U = u at *
  obtain ⟨E, hE⟩ : ∃ E, p * ea + q * eb = E := ⟨_, rfl⟩
  obtain ⟨E', hE'⟩ : ∃ E, p' * ec + q' * ed = E := ⟨_, rfl⟩
  obtain ⟨F, hF⟩ : ∃ F, p * a + q * b = F := ⟨_, rfl⟩
  obtain ⟨F', hF'⟩ : ∃ F, p' * c + q' * d = F := ⟨_, rfl⟩
  have hF0 : 0 ≤ F := by rw [← hF]; have := Int.mul_nonneg h0 fL; have := Int.mul_nonneg h1 fR; omega
  have hF0' : 0 ≤ F' := by rw [← hF']; have := Int.mul_nonneg k0 fL'; have := Int.mul_nonneg k1 fR'; omega
  rw [hE] at he
  rw [hE'] at ke
  have g1 : u * F = (p + q) * (u * m) + E * k := by
    rw [← hF, ← hE, e1, e2]
    have : u * (p * (m + xa) + q * (m + xb)) = (p + q) * (u * m) + p * (u * xa) + q * (u * xb) := by grind
    rw [this, t1, t2]
    have : (p + q) * (u * m) + p * (ea * k + ya * l) + q * (eb * k + yb * l) = (p + q) * (u * m) + (p * ea + q * eb) * k + (p * ya + q * yb) * l := by grind
    rw [this, hl]; omega
  have g2 : u * F' = (p' + q') * (u * m) + E' * k := by
    rw [← hF', ← hE', e3, e4]
    have : u * (p' * (m + xc) + q' * (m + xd)) = (p' + q') * (u * m) + p' * (u * xc) + q' * (u * xd) := by grind
    rw [this, t3, t4]
    have : (p' + q') * (u * m) + p' * (ec * k + yc * l) + q' * (ed * k + yd * l) = (p' + q') * (u * m) + (p' * ec + q' * ed) * k + (p' * yc + q' * yd) * l := by grind
    rw [this, kl]; omega
  have n1 : 0 ≤ u * F := Int.mul_nonneg (Int.le_of_lt hUU) hF0
  have n2 : 0 ≤ u * F' := Int.mul_nonneg (Int.le_of_lt hUU) hF0'
  by_cases hz : E = 0 ∧ E' = 0
  · rw [hz.1] at g1
    have : 0 ≤ (p + q) * (u * m) := by omega
    exact nonneg_of_mul hUU (nonneg_of_mul h2 this)
  · -- E' (u F) - E (u F') = (u m) ((p + q) E' - (p' + q') E)
    have g3 : E' * (u * F) - E * (u * F') = ((p + q) * E' - (p' + q') * E) * (u * m) := by rw [g1, g2]; grind
    have n3 : 0 ≤ E' * (u * F) := Int.mul_nonneg ke n1
    have n4 : E * (u * F') ≤ 0 := Int.mul_nonpos_of_nonpos_of_nonneg he n2
    have n5 : 0 < (p + q) * E' - (p' + q') * E := by
      rcases Int.lt_or_le E 0 with h | h
      · have := Int.mul_neg_of_pos_of_neg k2 h
        have := Int.mul_nonneg (Int.le_of_lt h2) ke
        omega
      · have hE0 : E = 0 := by omega
        have hE1 : 0 < E' := by omega
        rw [hE0]
        have := Int.mul_pos h2 hE1
        omega
    exact nonneg_of_mul hUU (nonneg_of_mul n5 (by omega))

/-- On the piece from A to P. -/
structure Seg (A P M : Pt) : Prop where
  ln : cx (sb P A) (sb M A) = 0
  fr : 0 ≤ dt (sb P A) (sb M A)
  tl : 0 ≤ dt (sb P A) (sb P M)

theorem sb_ca (P A M : Pt) (U : Pt) : cx U (sb P M) = cx U (sb P A) - cx U (sb M A) := by unfold cx sb; grind
theorem sb_da (P A M : Pt) (U : Pt) : dt U (sb P M) = dt U (sb P A) - dt U (sb M A) := by unfold dt sb; grind

/-- A point of a straight piece through gates lies in one of the rooms. -/
theorem piece_in {G : Nat → Pt × Pt} {S : Nat → Pt → Pt → Prop} {A P M : Pt} {x : Nat} (hne : P ≠ A) (hM : Seg A P M)
    (hg : ∀ j, j + 1 < x → ∀ s t, (S j s t ∨ S (j + 1) s t) → 0 ≤ cr s t (G j).1 ∧ 0 ≤ cr s t (G j).2)
    (hc : ∀ j, j + 1 < x → 0 ≤ cr A P (G j).1 ∧ cr A P (G j).2 ≤ 0)
    (hP : ∀ s t, S (x - 1) s t → 0 ≤ cr s t P) :
    ∀ (d i : Nat), i + d + 1 = x → ∀ (L R : Pt) (p q : Int), 0 ≤ p → 0 ≤ q → 0 < p + q → p * cx (sb P A) (sb L M) + q * cx (sb P A) (sb R M) = 0 → p * dt (sb P A) (sb L M) + q * dt (sb P A) (sb R M) ≤ 0 →
      (∀ s t, S i s t → 0 ≤ cr s t L ∧ 0 ≤ cr s t R) → ∃ j, i ≤ j ∧ j < x ∧ ∀ s t, S j s t → 0 ≤ cr s t M := by
  intro d
  have hMP : cx (sb P A) (sb P M) = 0 := by
    have h1 := sb_ca P A M (sb P A)
    rw [cx_self, hM.ln] at h1
    omega
  induction d with
  | zero =>
    intro i hi L R p q h0 h1 h2 hl he hS
    refine ⟨i, Nat.le_refl _, by omega, fun s t hst => ?_⟩
    have hi' : x - 1 = i := by omega
    rw [hi'] at hP
    exact between_side (ne_sb hne) h0 h1 h2 (p' := 1) (q' := 0) (by omega) (by omega) (by omega) hl (L' := P) (R' := P) (by rw [hMP]; omega) he (by have := hM.tl; omega) (hS s t hst).1 (hS s t hst).2 (hP s t hst) (hP s t hst)
  | succ d ih =>
    intro i hi L R p q h0 h1 h2 hl he hS
    obtain ⟨c1, c2⟩ := hc i (by omega)
    -- the gate's point on the line
    obtain ⟨p', q', k0, k1, k2, kl⟩ : ∃ p' q' : Int, 0 ≤ p' ∧ 0 ≤ q' ∧ 0 < p' + q' ∧ p' * cx (sb P A) (sb (G i).1 M) + q' * cx (sb P A) (sb (G i).2 M) = 0 := by
      have e1 : cx (sb P A) (sb (G i).1 M) = cr A P (G i).1 := by
        have := sb_ca (G i).1 A M (sb P A)
        rw [this, hM.ln]; unfold cr; omega
      have e2 : cx (sb P A) (sb (G i).2 M) = cr A P (G i).2 := by
        have := sb_ca (G i).2 A M (sb P A)
        rw [this, hM.ln]; unfold cr; omega
      rw [e1, e2]
      by_cases hz : 0 < cr A P (G i).1 - cr A P (G i).2
      · refine ⟨-cr A P (G i).2, cr A P (G i).1, by omega, c1, by omega, ?_⟩
        grind
      · refine ⟨1, 0, by omega, by omega, by omega, by omega⟩
    rcases Int.lt_or_le (p' * dt (sb P A) (sb (G i).1 M) + q' * dt (sb P A) (sb (G i).2 M)) 0 with hn | hn
    · obtain ⟨j, j1, j2, j3⟩ := ih (i + 1) (by omega) (G i).1 (G i).2 p' q' k0 k1 k2 kl (Int.le_of_lt hn) (fun s t hst => hg i (by omega) s t (.inr hst))
      exact ⟨j, by omega, j2, j3⟩
    · refine ⟨i, Nat.le_refl _, by omega, fun s t hst => ?_⟩
      have hh := hg i (by omega) s t (.inl hst)
      exact between_side (ne_sb hne) h0 h1 h2 k0 k1 k2 hl kl he hn (hS s t hst).1 (hS s t hst).2 hh.1 hh.2

/-- A piece that is two pieces on a line. -/
theorem seg_split {a b p M : Pt} (hab : a ≠ b) (hbp : b ≠ p) (hcr : cr a b p = 0) (h1 : 0 ≤ (b.1 - a.1) * (p.1 - b.1)) (h2 : 0 ≤ (b.2 - a.2) * (p.2 - b.2)) (h : Seg a p M) : Seg a b M ∨ Seg b p M := by
  obtain ⟨u, hu⟩ : ∃ u, sb b a = u := ⟨_, rfl⟩
  obtain ⟨v, hv⟩ : ∃ v, sb p b = v := ⟨_, rfl⟩
  obtain ⟨m, hm⟩ : ∃ m, sb M a = m := ⟨_, rfl⟩
  have hW : sb p a = (u.1 + v.1, u.2 + v.2) := by rw [← hu, ← hv]; unfold sb; exact Prod.ext (by simp only []; omega) (by simp only []; omega)
  have hbM : sb b M = (u.1 - m.1, u.2 - m.2) := by rw [← hu, ← hm]; unfold sb; exact Prod.ext (by simp only []; omega) (by simp only []; omega)
  have hMb : sb M b = (m.1 - u.1, m.2 - u.2) := by rw [← hu, ← hm]; unfold sb; exact Prod.ext (by simp only []; omega) (by simp only []; omega)
  have hpM : sb p M = (u.1 + v.1 - m.1, u.2 + v.2 - m.2) := by rw [← hu, ← hv, ← hm]; unfold sb; exact Prod.ext (by simp only []; omega) (by simp only []; omega)
  have hu0 : u ≠ (0, 0) := by rw [← hu]; exact ne_sb (fun e => hab e.symm)
  have hv0 : v ≠ (0, 0) := by rw [← hv]; exact ne_sb (fun e => hbp e.symm)
  have huu := dt_pos hu0
  have hvv := dt_pos hv0
  have hc : cx u v = 0 := by
    have : cr a b p = cx u v := by
      unfold cr
      rw [hu, hW]
      unfold cx; grind
    rw [← this]; exact hcr
  have hduv : 0 < dt u v := by
    have h3 : 0 ≤ dt u v := by
      rw [← hu, ← hv]
      simp only [dt, sb]
      omega
    have h4 := lag u v
    rw [hc, Int.mul_zero, Int.add_zero] at h4
    have h5 := Int.mul_pos huu hvv
    rcases Int.lt_or_le 0 (dt u v) with h6 | h6
    · exact h6
    · have : dt u v = 0 := by omega
      rw [this] at h4; omega
  have q1 := h.ln
  have q2 := h.fr
  have q3 := h.tl
  rw [hW, hm] at q1 q2
  rw [hW, hpM] at q3
  -- everything by u: dt u u * v = dt u v * u
  have pv : ∀ y : Pt, dt u u * dt v y = dt u v * dt u y := fun y => by
    have : dt u u * dt v y = dt u v * dt u y + cx u v * cx u y := by unfold dt cx; grind
    rw [this, hc]; omega
  have pc : ∀ y : Pt, dt u u * cx v y = dt u v * cx u y := fun y => by
    have : dt u u * cx v y = dt u v * cx u y - cx u v * dt u y := by unfold dt cx; grind
    rw [this, hc]; omega
  have ad : ∀ y : Pt, dt (u.1 + v.1, u.2 + v.2) y = dt u y + dt v y := fun y => by unfold dt; grind
  have ac : ∀ y : Pt, cx (u.1 + v.1, u.2 + v.2) y = cx u y + cx v y := fun y => by unfold cx; grind
  rw [ac] at q1
  rw [ad] at q2 q3
  have hs : 0 < dt u u + dt u v := by omega
  have r1 : cx u m = 0 := by
    have : (dt u u + dt u v) * cx u m = 0 := by
      have := pc m
      have e : (dt u u + dt u v) * cx u m = dt u u * cx u m + dt u v * cx u m := by grind
      rw [e, ← this]
      have : dt u u * cx u m + dt u u * cx v m = dt u u * (cx u m + cx v m) := by grind
      rw [this, q1]; omega
    rcases Int.mul_eq_zero.1 this with h | h <;> omega
  have r2 : 0 ≤ dt u m := by
    refine nonneg_of_mul hs ?_
    have := pv m
    have e : (dt u u + dt u v) * dt u m = dt u u * dt u m + dt u v * dt u m := by grind
    rw [e, ← this]
    have e2 : dt u u * dt u m + dt u u * dt v m = dt u u * (dt u m + dt v m) := by grind
    rw [e2]
    exact Int.mul_nonneg (Int.le_of_lt huu) q2
  rcases Int.lt_or_le (dt u (u.1 - m.1, u.2 - m.2)) 0 with hn | hn
  · refine .inr ⟨?_, ?_, ?_⟩
    · rw [hv, hMb]
      have : dt u u * cx v (m.1 - u.1, m.2 - u.2) = 0 := by
        rw [pc]
        have : cx u (m.1 - u.1, m.2 - u.2) = cx u m := by unfold cx; grind
        rw [this, r1]; omega
      rcases Int.mul_eq_zero.1 this with h | h <;> omega
    · rw [hv, hMb]
      refine nonneg_of_mul huu ?_
      rw [pv]
      have : dt u (m.1 - u.1, m.2 - u.2) = - dt u (u.1 - m.1, u.2 - m.2) := by unfold dt; grind
      exact Int.mul_nonneg (Int.le_of_lt hduv) (by omega)
    · rw [hv, hpM]
      refine nonneg_of_mul huu ?_
      rw [pv]
      refine Int.mul_nonneg (Int.le_of_lt hduv) ?_
      refine nonneg_of_mul hs ?_
      have := pv (u.1 + v.1 - m.1, u.2 + v.2 - m.2)
      have e : (dt u u + dt u v) * dt u (u.1 + v.1 - m.1, u.2 + v.2 - m.2) = dt u u * dt u (u.1 + v.1 - m.1, u.2 + v.2 - m.2) + dt u v * dt u (u.1 + v.1 - m.1, u.2 + v.2 - m.2) := by grind
      rw [e, ← this]
      have e2 : dt u u * dt u (u.1 + v.1 - m.1, u.2 + v.2 - m.2) + dt u u * dt v (u.1 + v.1 - m.1, u.2 + v.2 - m.2) = dt u u * (dt u (u.1 + v.1 - m.1, u.2 + v.2 - m.2) + dt v (u.1 + v.1 - m.1, u.2 + v.2 - m.2)) := by grind
      rw [e2]
      exact Int.mul_nonneg (Int.le_of_lt huu) q3
  · exact .inl ⟨by rw [hu, hm]; exact r1, by rw [hu, hm]; exact r2, by rw [hu, hbM]; exact hn⟩
end Go.Proofs.Ytaiflkjchbpphaa.P
namespace Go.Proofs.Ytaiflkjchbpphaa.P

theorem nx {s a : Nat} (h : a < s) : (a + 1 = s ∧ (a + 1) % s = 0) ∨ (a + 1 < s ∧ (a + 1) % s = a + 1) := by
  rcases Nat.lt_or_ge (a + 1) s with h1 | h1
  · exact .inr ⟨h1, Nat.mod_eq_of_lt h1⟩
  · have e : a + 1 = s := by omega
    exact .inl ⟨e, by rw [e, Nat.mod_self]⟩
/-- A convex polygon. -/
structure Cx (s : Nat) (V : Nat → Pt) : Prop where
  s3 : 3 ≤ s
  cv : ∀ a b, a < s → b < s → b ≠ a → b ≠ (a + 1) % s → 0 < cr (V a) (V ((a + 1) % s)) (V b)
/-- In a polygon. -/
def In (s : Nat) (V : Nat → Pt) (A : Pt) : Prop := ∀ e, e < s → 0 ≤ cr (V e) (V ((e + 1) % s)) A
theorem cr_fst (a b : Pt) : cr a b a = 0 := by unfold cr cx sb; grind
theorem cr_snd (a b : Pt) : cr a b b = 0 := by unfold cr cx sb; grind
theorem Cx.inj {s : Nat} {V : Nat → Pt} (h : Cx s V) {a b : Nat} (ha : a < s) (hb : b < s) (e : V a = V b) : a = b := by
  have s3 := h.s3
  rcases Nat.decEq a b with hab | hab
  · exfalso
    by_cases h1 : b = (a + 1) % s
    · have h2 : a ≠ (b + 1) % s := fun h2 => by
        rcases nx ha with ⟨k1, k2⟩ | ⟨k1, k2⟩ <;> rcases nx hb with ⟨k3, k4⟩ | ⟨k3, k4⟩ <;> omega
      have := h.cv b a hb ha hab h2
      rw [e, cr_fst] at this
      omega
    · have := h.cv a b ha hb (fun x => hab x.symm) h1
      rw [← e, cr_fst] at this
      omega
  · exact hab
theorem Cx.seen {s : Nat} {V : Nat → Pt} (h : Cx s V) {a b : Nat} (ha : a < s) (hb : b < s) : 0 ≤ cr (V a) (V ((a + 1) % s)) (V b) ∧ (cr (V a) (V ((a + 1) % s)) (V b) = 0 → b = a ∨ b = (a + 1) % s) := by
  by_cases h1 : b = a
  · subst h1; rw [cr_fst]; exact ⟨Int.le_refl 0, fun _ => .inl rfl⟩
  · by_cases h2 : b = (a + 1) % s
    · subst h2; rw [cr_snd]; exact ⟨Int.le_refl 0, fun _ => .inr rfl⟩
    · have := h.cv a b ha hb h1 h2
      exact ⟨by omega, fun e => by omega⟩
theorem Cx.corner {s : Nat} {V : Nat → Pt} (h : Cx s V) {b : Nat} (hb : b < s) : In s V (V b) := fun _ he => (h.seen he hb).1
/-- A point on the line of a side, by weights. -/
theorem on_line {C L R T : Pt} (h : cr L R T = 0) : cr C L R * (T.1 - L.1) = cr C L T * (R.1 - L.1) ∧ cr C L R * (T.2 - L.2) = cr C L T * (R.2 - L.2) := by
  unfold cr cx sb at *
  simp only at *
  constructor <;> grind
theorem on_line' {C L R T : Pt} (h : cr L R T = 0) : cr R C L * (R.1 - T.1) = cr R C T * (R.1 - L.1) ∧ cr R C L * (R.2 - T.2) = cr R C T * (R.2 - L.2) := by
  unfold cr cx sb at *
  simp only at *
  constructor <;> grind
theorem Cx.between {s : Nat} {V : Nat → Pt} (h : Cx s V) {j : Nat} (hj : j < s) {T : Pt} (hT : In s V T) (h0 : cr (V j) (V ((j + 1) % s)) T = 0) :
    ∃ D1 D2 α β : Int, 0 < D1 ∧ 0 < D2 ∧ 0 ≤ α ∧ 0 ≤ β ∧ (D1 * (T.1 - (V j).1) = α * ((V ((j + 1) % s)).1 - (V j).1) ∧ D1 * (T.2 - (V j).2) = α * ((V ((j + 1) % s)).2 - (V j).2)) ∧
      (D2 * ((V ((j + 1) % s)).1 - T.1) = β * ((V ((j + 1) % s)).1 - (V j).1) ∧ D2 * ((V ((j + 1) % s)).2 - T.2) = β * ((V ((j + 1) % s)).2 - (V j).2)) := by
  have s3 := h.s3
  obtain ⟨p, hp, hpj⟩ : ∃ p, p < s ∧ (p + 1) % s = j := by
    rcases Nat.eq_zero_or_pos j with e | e
    · exact ⟨s - 1, by omega, by rw [show s - 1 + 1 = s by omega, Nat.mod_self, e]⟩
    · exact ⟨j - 1, by omega, by rw [show j - 1 + 1 = j by omega]; exact Nat.mod_eq_of_lt hj⟩
  obtain ⟨k, hk⟩ : ∃ k, (j + 1) % s = k := ⟨_, rfl⟩
  have hks : k < s := by rw [← hk]; exact Nat.mod_lt _ (by omega)
  rw [hk] at h0 ⊢
  have n1 : k ≠ p := by
    rcases nx hp with ⟨a1, a2⟩ | ⟨a1, a2⟩ <;> rcases nx hj with ⟨b1, b2⟩ | ⟨b1, b2⟩ <;> omega
  have n2 : k ≠ (p + 1) % s := by
    rcases nx hp with ⟨a1, a2⟩ | ⟨a1, a2⟩ <;> rcases nx hj with ⟨b1, b2⟩ | ⟨b1, b2⟩ <;> omega
  have n3 : j ≠ k := by
    rcases nx hj with ⟨b1, b2⟩ | ⟨b1, b2⟩ <;> omega
  have n4 : j ≠ (k + 1) % s := by
    rcases nx hks with ⟨a1, a2⟩ | ⟨a1, a2⟩ <;> rcases nx hj with ⟨b1, b2⟩ | ⟨b1, b2⟩ <;> omega
  have d1 := h.cv p k hp hks n1 n2
  have d2 := h.cv k j hks hj n3 n4
  have t1 := hT p hp
  have t2 := hT k hks
  rw [hpj] at d1 t1
  exact ⟨_, _, _, _, d1, d2, t1, t2, on_line h0, on_line' h0⟩
theorem mul_pos' {a b : Int} (ha : 0 < a) (hb : 0 < b) : 0 < a * b := Int.mul_pos ha hb
theorem btw_num {D1 D2 α β L T R : Int} (h1 : 0 < D1) (h2 : 0 < D2) (h3 : 0 ≤ α) (h4 : 0 ≤ β) (e1 : D1 * (T - L) = α * (R - L)) (e2 : D2 * (R - T) = β * (R - L)) : 0 ≤ (T - L) * (R - T) := by
  have e : (D1 * D2) * ((T - L) * (R - T)) = (α * β) * ((R - L) * (R - L)) := by
    have : (D1 * D2) * ((T - L) * (R - T)) = (D1 * (T - L)) * (D2 * (R - T)) := by grind
    rw [this, e1, e2]
    grind
  exact nonneg_of_mul (mul_pos' h1 h2) (by rw [e]; exact Int.mul_nonneg (Int.mul_nonneg h3 h4) (sqn _))
/-- On a side, both ways. -/
theorem Cx.on {s : Nat} {V : Nat → Pt} (h : Cx s V) {j : Nat} (hj : j < s) {T : Pt} (hT : In s V T) (h0 : cr (V j) (V ((j + 1) % s)) T = 0) : On (V ((j + 1) % s), V j) T := by
  obtain ⟨D1, D2, α, β, h1, h2, h3, h4, ⟨e1, e2⟩, ⟨e3, e4⟩⟩ := h.between hj hT h0
  have b1 := btw_num h1 h2 h3 h4 e1 e3
  have b2 := btw_num h1 h2 h3 h4 e2 e4
  refine ⟨?_, ?_, ?_⟩
  · simp only; rw [cr_swap, h0]; rfl
  · simp only; grind
  · simp only; grind
theorem Cx.weights {s : Nat} {V : Nat → Pt} (h : Cx s V) {j : Nat} (hj : j < s) {T : Pt} (hT : In s V T) (h0 : cr (V j) (V ((j + 1) % s)) T = 0) :
    ∃ a b : Int, 0 ≤ a ∧ 0 ≤ b ∧ 0 < a + b ∧ (a + b) * T.1 = a * (V j).1 + b * (V ((j + 1) % s)).1 ∧ (a + b) * T.2 = a * (V j).2 + b * (V ((j + 1) % s)).2 := by
  obtain ⟨D1, D2, α, β, h1, h2, h3, h4, ⟨e1, e2⟩, ⟨e3, e4⟩⟩ := h.between hj hT h0
  have hne : V j ≠ V ((j + 1) % s) := fun e => by
    have := h.inj hj (Nat.mod_lt _ (by omega)) e
    have s3 := h.s3
    rcases nx hj with ⟨b1, b2⟩ | ⟨b1, b2⟩ <;> omega
  have hab : ∀ L T R : Int, D1 * (T - L) = α * (R - L) → D2 * (R - T) = β * (R - L) → (D1 * D2 - (α * D2 + β * D1)) * (R - L) = 0 := fun L T R e1 e2 => by grind
  have z1 := hab _ _ _ e1 e3
  have z2 := hab _ _ _ e2 e4
  have hsum : β * D1 + α * D2 = D1 * D2 := by
    rcases Int.mul_eq_zero.mp z1 with z | z
    · omega
    · rcases Int.mul_eq_zero.mp z2 with y | y
      · omega
      · exact absurd (Prod.ext (by omega) (by omega)) hne
  refine ⟨β * D1, α * D2, Int.mul_nonneg h4 (Int.le_of_lt h1), Int.mul_nonneg h3 (Int.le_of_lt h2), by rw [hsum]; exact mul_pos' h1 h2, ?_, ?_⟩
  · rw [hsum]; grind
  · rw [hsum]; grind
/-- A point on a gate, by weights. -/
theorem on_weights {L R A : Pt} (hne : L ≠ R) (h : On (L, R) A) : ∃ p q : Int, 0 ≤ p ∧ 0 ≤ q ∧ 0 < p + q ∧ p * (L.1 - A.1) + q * (R.1 - A.1) = 0 ∧ p * (L.2 - A.2) + q * (R.2 - A.2) = 0 := by
  obtain ⟨h0, h1, h2⟩ := h
  simp only at h0 h1 h2
  unfold cr cx sb at h0
  simp only at h0
  have key : ∀ l r a l' r' a' : Int, l ≠ r → (r - l) * (a' - l') - (r' - l') * (a - l) = 0 → 0 ≤ (a - l) * (r - a) → ∃ p q : Int, 0 ≤ p ∧ 0 ≤ q ∧ 0 < p + q ∧ p * (l - a) + q * (r - a) = 0 ∧ p * (l' - a') + q * (r' - a') = 0 := by
    intro l r a l' r' a' hlr h0 h1
    rcases Int.lt_or_le l r with h | h
    · have h3 : 0 ≤ r - a := by
        rcases Int.lt_or_le (r - a) 0 with hh | hh
        · have := Int.mul_neg_of_pos_of_neg (show 0 < a - l by omega) hh; omega
        · exact hh
      have h4 : 0 ≤ a - l := by
        rcases Int.lt_or_le (a - l) 0 with hh | hh
        · have := Int.mul_neg_of_neg_of_pos hh (show 0 < r - a by omega); omega
        · exact hh
      exact ⟨r - a, a - l, h3, h4, by omega, by grind, by grind⟩
    · have h3 : r - a ≤ 0 := by
        rcases Int.lt_or_le 0 (r - a) with hh | hh
        · have := Int.mul_neg_of_neg_of_pos (show a - l < 0 by omega) hh; omega
        · exact hh
      have h4 : a - l ≤ 0 := by
        rcases Int.lt_or_le 0 (a - l) with hh | hh
        · have := Int.mul_neg_of_pos_of_neg hh (show r - a < 0 by omega); omega
        · exact hh
      exact ⟨a - r, l - a, by omega, by omega, by omega, by grind, by grind⟩
  by_cases e : L.1 = R.1
  · have e2 : L.2 ≠ R.2 := fun e2 => hne (Prod.ext e e2)
    obtain ⟨p, q, k1, k2, k3, k4, k5⟩ := key L.2 R.2 A.2 L.1 R.1 A.1 e2 (by grind) h2
    exact ⟨p, q, k1, k2, k3, k5, k4⟩
  · exact key L.1 R.1 A.1 L.2 R.2 A.2 e h0 h1
theorem weights_in {L R A : Pt} {p q : Int} (h1 : 0 ≤ p) (h2 : 0 ≤ q) (h3 : 0 < p + q) (e1 : p * (L.1 - A.1) + q * (R.1 - A.1) = 0) (e2 : p * (L.2 - A.2) + q * (R.2 - A.2) = 0) {s t : Pt} (hL : 0 ≤ cr s t L) (hR : 0 ≤ cr s t R) : 0 ≤ cr s t A := by
  have e : (p + q) * cr s t A = p * cr s t L + q * cr s t R := by
    have i1 := cr_from s t A L
    have i2 := cr_from s t A R
    have : p * cx (sb t s) (sb L A) + q * cx (sb t s) (sb R A) = (sb t s).1 * (p * (L.2 - A.2) + q * (R.2 - A.2)) - (sb t s).2 * (p * (L.1 - A.1) + q * (R.1 - A.1)) := by unfold cx sb; grind
    rw [e1, e2] at this
    rw [i1, i2]
    grind
  exact nonneg_of_mul h3 (by rw [e]; exact Int.add_nonneg (Int.mul_nonneg h1 hL) (Int.mul_nonneg h2 hR))
theorem on_in {L R A : Pt} (hne : L ≠ R) (h : On (L, R) A) {s : Nat} {V : Nat → Pt} (hL : In s V L) (hR : In s V R) : In s V A := fun e he => by
  obtain ⟨p, q, h1, h2, h3, e1, e2⟩ := on_weights hne h
  exact weights_in h1 h2 h3 e1 e2 (hL e he) (hR e he)

/-! ### a way over cells -/
structure Chn (m : Nat) (s : Nat → Nat) (V : Nat → Nat → Pt) (kx jn : Nat → Nat) : Prop where
  cx : ∀ t, t ≤ m → Cx (s t) (V t)
  kl : ∀ t, t < m → kx t < s t
  jl : ∀ t, t < m → jn t < s (t + 1)
  le : ∀ t, t < m → V (t + 1) (jn t) = V t ((kx t + 1) % s t)
  ri : ∀ t, t < m → V (t + 1) ((jn t + 1) % s (t + 1)) = V t (kx t)
  no : ∀ t, t + 1 < m → kx (t + 1) ≠ jn t
def Gt (m : Nat) (s : Nat → Nat) (V : Nat → Nat → Pt) (kx : Nat → Nat) (tp : Pt) (t : Nat) : Pt × Pt := if t < m then (V t ((kx t + 1) % s t), V t (kx t)) else (tp, tp)
theorem Gt.lt {m : Nat} {s : Nat → Nat} {V : Nat → Nat → Pt} {kx : Nat → Nat} {tp : Pt} {t : Nat} (h : t < m) : Gt m s V kx tp t = (V t ((kx t + 1) % s t), V t (kx t)) := if_pos h
theorem Gt.at {m : Nat} {s : Nat → Nat} {V : Nat → Nat → Pt} {kx : Nat → Nat} {tp : Pt} : Gt m s V kx tp m = (tp, tp) := if_neg (Nat.lt_irrefl m)
variable {m : Nat} {s : Nat → Nat} {V : Nat → Nat → Pt} {kx jn : Nat → Nat} {tp : Pt}
theorem mod_inj {a b n : Nat} (ha : a < n) (hb : b < n) (e : (a + 1) % n = (b + 1) % n) : a = b := by
  rcases nx ha with ⟨a1, a2⟩ | ⟨a1, a2⟩ <;> rcases nx hb with ⟨b1, b2⟩ | ⟨b1, b2⟩ <;> omega
/-- Two gates of a cell, as sides of it: the side j by which it is entered, the side e by which it is left. -/
theorem Chn.two (h : Chn m s V kx jn) {k : Nat} (hk : k + 1 < m) : ∃ (n : Nat) (U : Nat → Pt) (j e : Nat), Cx n U ∧ j < n ∧ e < n ∧ j ≠ e ∧ Gt m s V kx tp k = (U j, U ((j + 1) % n)) ∧ Gt m s V kx tp (k + 1) = (U ((e + 1) % n), U e) := by
  refine ⟨s (k + 1), V (k + 1), jn k, kx (k + 1), h.cx _ (by omega), h.jl k (by omega), h.kl _ hk, (h.no k hk).symm, ?_, Gt.lt hk⟩
  rw [Gt.lt (by omega), h.le k (by omega), h.ri k (by omega)]
theorem Chn.end (h : Chn m s V kx jn) {k : Nat} (hk : k + 1 = m) : jn k < s m ∧ Gt m s V kx tp k = (V m (jn k), V m ((jn k + 1) % s m)) := by
  subst hk
  refine ⟨h.jl k (by omega), ?_⟩
  rw [Gt.lt (by omega), h.le k (by omega), h.ri k (by omega)]
theorem Chn.slv (h : Chn m s V kx jn) (ht : In (s m) (V m) tp) : Slv (Gt m s V kx tp) (m + 1) := by
  refine ⟨by omega, fun k hk => ?_, fun k hk e0 => ?_, fun k hk => ?_, fun k hk e0 => ?_, fun k hk => ?_, fun k hk => ?_, fun k hk => ?_, ?_, fun k hk => ?_, fun k hk e0 => ?_⟩
  · obtain ⟨n, U, j, e, hc, hj, he, hne, e1, e2⟩ := h.two (tp := tp) (k := k) (by omega)
    rw [e1, e2]
    exact (hc.seen hj he).1
  · obtain ⟨n, U, j, e, hc, hj, he, hne, e1, e2⟩ := h.two (tp := tp) (k := k) (by omega)
    rw [e1, e2] at e0
    rw [e1, e2]
    rcases (hc.seen hj he).2 e0 with x | x
    · exact absurd x.symm hne
    · simp only; rw [← x]
  · obtain ⟨n, U, j, e, hc, hj, he, hne, e1, e2⟩ := h.two (tp := tp) (k := k) (by omega)
    rw [e1, e2]
    exact (hc.seen hj (Nat.mod_lt _ (by omega))).1
  · obtain ⟨n, U, j, e, hc, hj, he, hne, e1, e2⟩ := h.two (tp := tp) (k := k) (by omega)
    rw [e1, e2] at e0
    rw [e1, e2]
    rcases (hc.seen hj (Nat.mod_lt _ (by omega))).2 e0 with x | x
    · simp only; rw [x]
    · exact absurd (mod_inj he hj x).symm hne
  · obtain ⟨n, U, j, e, hc, hj, he, hne, e1, e2⟩ := h.two (tp := tp) (k := k) (by omega)
    rw [e1, e2]
    exact (hc.seen he hj).1
  · obtain ⟨n, U, j, e, hc, hj, he, hne, e1, e2⟩ := h.two (tp := tp) (k := k) (by omega)
    rw [e1, e2]
    exact (hc.seen he (Nat.mod_lt _ (by omega))).1
  · obtain ⟨n, U, j, e, hc, hj, he, hne, e1, e2⟩ := h.two (tp := tp) (k := k) (by omega)
    rw [e1, e2]
    rintro ⟨x, y⟩
    have s3 := hc.s3
    have x1 := hc.inj (Nat.mod_lt _ (by omega)) hj x
    have y1 := hc.inj he (Nat.mod_lt _ (by omega)) y
    rcases nx hj with ⟨a1, a2⟩ | ⟨a1, a2⟩ <;> rcases nx he with ⟨b1, b2⟩ | ⟨b1, b2⟩ <;> omega
  · rw [Nat.add_sub_cancel, Gt.at]
  · obtain ⟨hj, e1⟩ := h.end (tp := tp) (k := k) (by omega)
    rw [e1, show k + 1 = m by omega, Gt.at]
    exact ht _ hj
  · obtain ⟨hj, e1⟩ := h.end (tp := tp) (k := k) (by omega)
    rw [e1, show k + 1 = m by omega, Gt.at] at e0
    rw [e1, show k + 1 = m by omega, Gt.at]
    exact (h.cx m (Nat.le_refl m)).weights hj ht e0
theorem Chn.rooms (h : Chn m s V kx jn) : Rooms (Gt m s V kx tp) (m + 1) (fun t => In (s t) (V t)) := by
  refine ⟨fun t A ht hA => ?_, fun t A ht hA e0 => ?_, fun t A ht hA => ?_, fun t ht => ?_, fun k hk e0 => ?_, fun k hk e0 => ?_⟩
  · rw [Gt.lt (by omega)]
    have := hA _ (h.kl t (by omega))
    simp only
    rw [cr_cyc]
    exact this
  · rw [Gt.lt (by omega)] at e0 ⊢
    simp only at e0
    rw [cr_cyc] at e0
    exact (h.cx t (by omega)).on (h.kl t (by omega)) hA e0
  · rw [Gt.lt (by omega)] at hA
    have hc := h.cx (t + 1) (by omega)
    have hj := h.jl t (by omega)
    rw [← h.le t (by omega), ← h.ri t (by omega)] at hA
    refine on_in (fun e => ?_) hA (hc.corner hj) (hc.corner (Nat.mod_lt _ (by omega)))
    have s3 := hc.s3
    have := hc.inj hj (Nat.mod_lt _ (by omega)) e
    rcases nx hj with ⟨b1, b2⟩ | ⟨b1, b2⟩ <;> omega
  · rw [Gt.lt (by omega)]
    intro e
    have hc := h.cx t (by omega)
    have hj := h.kl t (by omega)
    have s3 := hc.s3
    have := hc.inj (Nat.mod_lt _ (by omega)) hj e
    rcases nx hj with ⟨b1, b2⟩ | ⟨b1, b2⟩ <;> omega
  · obtain ⟨n, U, j, e, hc, hj, he, hne, e1, e2⟩ := h.two (tp := tp) (k := k) (by omega)
    rw [e1, e2] at e0
    rw [e1, e2]
    rcases (hc.seen he hj).2 e0 with x | x
    · exact absurd x hne
    · simp only; rw [← x]
  · obtain ⟨n, U, j, e, hc, hj, he, hne, e1, e2⟩ := h.two (tp := tp) (k := k) (by omega)
    rw [e1, e2] at e0
    rw [e1, e2]
    rcases (hc.seen he (Nat.mod_lt _ (by omega))).2 e0 with x | x
    · simp only; rw [x]
    · exact absurd (mod_inj hj he x) hne
end Go.Proofs.Ytaiflkjchbpphaa.P
