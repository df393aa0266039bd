/- Beside the middle of a piece lies a cell; what TopPaths asks of a route; small laws. -/
import Derived.Test.YtaiflkjchbpphaaGB
import Derived.Test.YtaiflkjchbpphaaPy
import Derived.Test.YtaiflkjchbpphaaPm
namespace Go.Proofs.Ytaiflkjchbpphaa.P
open Go.RowKit

/-! ### hulls -/
theorem bary (s t P Q R M : Pt) : cr P Q R * cr s t M = cr Q R M * cr s t P + cr R P M * cr s t Q + cr P Q M * cr s t R := by unfold cr cx sb; grind
theorem tri_hull {P Q R M : Pt} (h0 : 0 < cr P Q R) (h1 : 0 ≤ cr P Q M) (h2 : 0 ≤ cr Q R M) (h3 : 0 ≤ cr R P M) {s t : Pt} (a : 0 ≤ cr s t P) (b : 0 ≤ cr s t Q) (c : 0 ≤ cr s t R) : 0 ≤ cr s t M := by
  refine nonneg_of_mul h0 ?_
  rw [bary]
  have := Int.mul_nonneg h2 a
  have := Int.mul_nonneg h3 b
  have := Int.mul_nonneg h1 c
  omega
/-- In the hull of four points. -/
def Hul (A B C D M : Pt) : Prop := ∀ s t : Pt, 0 ≤ cr s t A → 0 ≤ cr s t B → 0 ≤ cr s t C → 0 ≤ cr s t D → 0 ≤ cr s t M
theorem Hul.lo1 {A B C D M : Pt} (h : Hul A B C D M) {v : Int} (a : v ≤ A.1) (b : v ≤ B.1) (c : v ≤ C.1) (d : v ≤ D.1) : v ≤ M.1 := by
  have e : ∀ Z : Pt, cr (v, 0) (v, -1) Z = Z.1 - v := fun Z => by unfold cr cx sb; grind
  have := h (v, 0) (v, -1) (by rw [e]; omega) (by rw [e]; omega) (by rw [e]; omega) (by rw [e]; omega)
  rw [e] at this; omega
theorem Hul.hi1 {A B C D M : Pt} (h : Hul A B C D M) {v : Int} (a : A.1 ≤ v) (b : B.1 ≤ v) (c : C.1 ≤ v) (d : D.1 ≤ v) : M.1 ≤ v := by
  have e : ∀ Z : Pt, cr (v, 0) (v, 1) Z = v - Z.1 := fun Z => by unfold cr cx sb; grind
  have := h (v, 0) (v, 1) (by rw [e]; omega) (by rw [e]; omega) (by rw [e]; omega) (by rw [e]; omega)
  rw [e] at this; omega
theorem Hul.lo2 {A B C D M : Pt} (h : Hul A B C D M) {v : Int} (a : v ≤ A.2) (b : v ≤ B.2) (c : v ≤ C.2) (d : v ≤ D.2) : v ≤ M.2 := by
  have e : ∀ Z : Pt, cr (0, v) (1, v) Z = Z.2 - v := fun Z => by unfold cr cx sb; grind
  have := h (0, v) (1, v) (by rw [e]; omega) (by rw [e]; omega) (by rw [e]; omega) (by rw [e]; omega)
  rw [e] at this; omega
theorem Hul.hi2 {A B C D M : Pt} (h : Hul A B C D M) {v : Int} (a : A.2 ≤ v) (b : B.2 ≤ v) (c : C.2 ≤ v) (d : D.2 ≤ v) : M.2 ≤ v := by
  have e : ∀ Z : Pt, cr (0, v) (-1, v) Z = v - Z.2 := fun Z => by unfold cr cx sb; grind
  have := h (0, v) (-1, v) (by rw [e]; omega) (by rw [e]; omega) (by rw [e]; omega) (by rw [e]; omega)
  rw [e] at this; omega

/-! ### a step inwards -/
theorem mul_up {u a h b : Int} (h1 : -a ≤ u) (h2 : u ≤ a) (h3 : -b ≤ h) (h4 : h ≤ b) : u * h ≤ a * b := by
  have hb : 0 ≤ b := by omega
  have ha : 0 ≤ a := by omega
  rcases Int.le_total 0 u with hu | hu
  · exact Int.le_trans (Int.mul_le_mul_of_nonneg_left h4 hu) (Int.mul_le_mul_of_nonneg_right h2 hb)
  · have e : u * h = (-u) * (-h) := by grind
    rw [e]
    exact Int.le_trans (Int.mul_le_mul_of_nonneg_left (show -h ≤ b by omega) (by omega)) (Int.mul_le_mul_of_nonneg_right (show -u ≤ a by omega) hb)
theorem side_ok {ux uy hx hy dx dy : Int} (f : 0 ≤ ux * hy - uy * hx) (u1 : 786000 ≤ ux) (u2 : -262400 ≤ uy) (u3 : uy ≤ 262400) (d1 : -2 ≤ dx) (d2 : dx ≤ 2)
    (hd : (1 ≤ dy ∧ dy ≤ 2) ∨ (-2 ≤ dy ∧ 393000 ≤ hy ∧ -262500 ≤ hx ∧ hx ≤ ux + 262500)) : 0 ≤ ux * (hy + dy) - uy * (hx + dx) := by
  rcases hd with ⟨h1, h2⟩ | ⟨h1, h2, h3, h4⟩
  · rw [Int.mul_add, Int.mul_add]
    have k1 : ux * 1 ≤ ux * dy := Int.mul_le_mul_of_nonneg_left h1 (by omega)
    have k2 := mul_up (u := uy) (a := 262400) (h := dx) (b := 2) u2 u3 d1 d2
    omega
  · have k1 : ux * 392998 ≤ ux * (hy + dy) := Int.mul_le_mul_of_nonneg_left (by omega) (by omega)
    have k2 := mul_up (u := uy) (a := 262400) (h := hx + dx) (b := ux + 262502) u2 u3 (by omega) (by omega)
    omega
theorem pick (m : Int) (c : Int) : ∃ n : Int, (-1 ≤ n - m.tdiv 2 ∧ n - m.tdiv 2 ≤ 1) ∧ ((m ≤ c ∧ 1 ≤ 2 * n - m ∧ 2 * n - m ≤ 2) ∨ (c < m ∧ -2 ≤ 2 * n - m ∧ 2 * n - m ≤ -1)) := by
  have h := tdiv2 m
  rcases Int.lt_or_le c m with hc | hc
  · by_cases h2 : 2 * m.tdiv 2 - m ≤ -1
    · exact ⟨m.tdiv 2, by omega, .inr ⟨hc, by omega, h2⟩⟩
    · exact ⟨m.tdiv 2 - 1, by omega, .inr ⟨hc, by omega, by omega⟩⟩
  · by_cases h2 : 1 ≤ 2 * m.tdiv 2 - m
    · exact ⟨m.tdiv 2, by omega, .inl ⟨hc, h2, by omega⟩⟩
    · exact ⟨m.tdiv 2 + 1, by omega, .inl ⟨hc, by omega, by omega⟩⟩
/-- The four corners of the square at (x, y). -/
structure Sq (x y : Nat) (A B C D : Pt) : Prop where
  a : Gb x A.1 ∧ Gb y A.2
  b : Gb (x + 1) B.1 ∧ Gb y B.2
  c : Gb (x + 1) C.1 ∧ Gb (y + 1) C.2
  d : Gb x D.1 ∧ Gb (y + 1) D.2
theorem Sq.abc {x y : Nat} {A B C D : Pt} (h : Sq x y A B C D) : 0 < cr A B C := (Qd.of h.a h.b h.c h.d).abc
theorem Sq.bcd {x y : Nat} {A B C D : Pt} (h : Sq x y A B C D) : 0 < cr B C D := (Qd.of h.a h.b h.c h.d).bcd
theorem Sq.cda {x y : Nat} {A B C D : Pt} (h : Sq x y A B C D) : 0 < cr C D A := (Qd.of h.a h.b h.c h.d).cda
theorem Sq.dab {x y : Nat} {A B C D : Pt} (h : Sq x y A B C D) : 0 < cr D A B := (Qd.of h.a h.b h.c h.d).dab
theorem step_in {x y : Nat} {A B C D M : Pt} (h : Sq x y A B C D) (hM : Hul (dbl A) (dbl B) (dbl C) (dbl D) M) :
    ∃ N : Pt, ((-1 ≤ N.1 - M.1.tdiv 2 ∧ N.1 - M.1.tdiv 2 ≤ 1) ∧ (-1 ≤ N.2 - M.2.tdiv 2 ∧ N.2 - M.2.tdiv 2 ≤ 1)) ∧ 0 ≤ cr A B N ∧ 0 ≤ cr B C N ∧ 0 ≤ cr C D N ∧ 0 ≤ cr D A N := by
  have abc := h.abc
  have bcd := h.bcd
  have cda := h.cda
  have dab := h.dab
  have z : ∀ P Q R : Pt, cr P Q R = cr Q R P := cr_cyc
  have f1 := hM (dbl A) (dbl B) (by rw [cr_dbl, cr_fst]; decide) (by rw [cr_dbl, cr_snd]; decide) (by rw [cr_dbl]; omega) (by rw [cr_dbl, ← z]; omega)
  have f2 := hM (dbl B) (dbl C) (by rw [cr_dbl, ← z]; omega) (by rw [cr_dbl, cr_fst]; decide) (by rw [cr_dbl, cr_snd]; decide) (by rw [cr_dbl]; omega)
  have f3 := hM (dbl C) (dbl D) (by rw [cr_dbl]; omega) (by rw [cr_dbl, ← z]; omega) (by rw [cr_dbl, cr_fst]; decide) (by rw [cr_dbl, cr_snd]; decide)
  have f4 := hM (dbl D) (dbl A) (by rw [cr_dbl, cr_snd]; decide) (by rw [cr_dbl]; omega) (by rw [cr_dbl, ← z]; omega) (by rw [cr_dbl, cr_fst]; decide)
  obtain ⟨⟨a1, a2⟩, ⟨b1, b2⟩, ⟨c1, c2⟩, ⟨d1, d2⟩⟩ := h
  clear abc bcd cda dab z
  unfold Gb at a1 a2 b1 b2 c1 c2 d1 d2
  have l1 := hM.lo1 (v := 2 * (8 * (x : Int) * 65536 - 65536)) (by unfold dbl; simp only; omega) (by unfold dbl; simp only; omega) (by unfold dbl; simp only; omega) (by unfold dbl; simp only; omega)
  have l2 := hM.hi1 (v := 2 * (8 * ((x : Int) + 1) * 65536 + 65635)) (by unfold dbl; simp only; omega) (by unfold dbl; simp only; omega) (by unfold dbl; simp only; omega) (by unfold dbl; simp only; omega)
  have l3 := hM.lo2 (v := 2 * (8 * (y : Int) * 65536 - 65536)) (by unfold dbl; simp only; omega) (by unfold dbl; simp only; omega) (by unfold dbl; simp only; omega) (by unfold dbl; simp only; omega)
  have l4 := hM.hi2 (v := 2 * (8 * ((y : Int) + 1) * 65536 + 65635)) (by unfold dbl; simp only; omega) (by unfold dbl; simp only; omega) (by unfold dbl; simp only; omega) (by unfold dbl; simp only; omega)
  clear hM
  obtain ⟨ax, ay⟩ := A
  obtain ⟨bx, by'⟩ := B
  obtain ⟨cx', cy⟩ := C
  obtain ⟨dx, dy⟩ := D
  obtain ⟨m1, m2⟩ := M
  simp only at a1 a2 b1 b2 c1 c2 d1 d2 l1 l2 l3 l4 ⊢
  obtain ⟨n1, hn1, p1⟩ := pick m1 (2 * (8 * (x : Int) + 4) * 65536)
  obtain ⟨n2, hn2, p2⟩ := pick m2 (2 * (8 * (y : Int) + 4) * 65536)
  refine ⟨(n1, n2), ⟨hn1, hn2⟩, ?_⟩
  obtain ⟨e1, he1⟩ : ∃ e1, 2 * n1 - m1 = e1 := ⟨_, rfl⟩
  obtain ⟨e2, he2⟩ : ∃ e2, 2 * n2 - m2 = e2 := ⟨_, rfl⟩
  rw [he1] at p1
  rw [he2] at p2
  have g1 := side_ok (ux := 2 * bx - 2 * ax) (uy := 2 * by' - 2 * ay) (hx := m1 - 2 * ax) (hy := m2 - 2 * ay) (dx := e1) (dy := e2) (by unfold cr cx sb dbl at f1; simp only at f1; exact f1) (by omega) (by omega) (by omega) (by omega) (by omega) (by omega)
  have g2 := side_ok (ux := 2 * cy - 2 * by') (uy := -(2 * cx' - 2 * bx)) (hx := m2 - 2 * by') (hy := -(m1 - 2 * bx)) (dx := e2) (dy := -e1) (by unfold cr cx sb dbl at f2; simp only at f2; grind) (by omega) (by omega) (by omega) (by omega) (by omega) (by omega)
  have g3 := side_ok (ux := 2 * cx' - 2 * dx) (uy := 2 * cy - 2 * dy) (hx := 2 * cx' - m1) (hy := 2 * cy - m2) (dx := -e1) (dy := -e2) (by unfold cr cx sb dbl at f3; simp only at f3; grind) (by omega) (by omega) (by omega) (by omega) (by omega) (by omega)
  have g4 := side_ok (ux := 2 * dy - 2 * ay) (uy := 2 * ax - 2 * dx) (hx := 2 * dy - m2) (hy := m1 - 2 * dx) (dx := -e2) (dy := e1) (by unfold cr cx sb dbl at f4; simp only at f4; grind) (by omega) (by omega) (by omega) (by omega) (by omega) (by omega)
  clear f1 f2 f3 f4 a1 a2 b1 b2 c1 c2 d1 d2 l1 l2 l3 l4 p1 p2 hn1 hn2
  have k1 : m1 = 2 * n1 - e1 := by omega
  have k2 : m2 = 2 * n2 - e2 := by omega
  subst k1 k2
  clear he1 he2
  refine ⟨?_, ?_, ?_, ?_⟩
  · have : 0 ≤ 4 * cr (ax, ay) (bx, by') (n1, n2) := by unfold cr cx sb; simp only; grind
    omega
  · have : 0 ≤ 4 * cr (bx, by') (cx', cy) (n1, n2) := by unfold cr cx sb; simp only; grind
    omega
  · have : 0 ≤ 4 * cr (cx', cy) (dx, dy) (n1, n2) := by unfold cr cx sb; simp only; grind
    omega
  · have : 0 ≤ 4 * cr (dx, dy) (ax, ay) (n1, n2) := by unfold cr cx sb; simp only; grind
    omega

/-! ### pieces -/
def InP (f : Nat → Pt) (cs : List Nat) (M : Pt) : Prop := ∀ e, e < cs.length → 0 ≤ cr (f (cs.getD e 0)) (f (cs.getD ((e + 1) % cs.length) 0)) M
theorem inP3 {f : Nat → Pt} {u v t : Nat} {M : Pt} : InP f [u, v, t] M ↔ 0 ≤ cr (f u) (f v) M ∧ 0 ≤ cr (f v) (f t) M ∧ 0 ≤ cr (f t) (f u) M := by
  constructor
  · intro h
    exact ⟨h 0 (by simp), h 1 (by simp), by have := h 2 (by simp); simpa using this⟩
  · rintro ⟨h1, h2, h3⟩ e he
    simp only [List.length_cons, List.length_nil] at he ⊢
    match e, he with
    | 0, _ => exact h1
    | 1, _ => exact h2
    | 2, _ => exact h3
theorem inP4 {f : Nat → Pt} {u v t r : Nat} {M : Pt} : InP f [u, v, t, r] M ↔ 0 ≤ cr (f u) (f v) M ∧ 0 ≤ cr (f v) (f t) M ∧ 0 ≤ cr (f t) (f r) M ∧ 0 ≤ cr (f r) (f u) M := by
  constructor
  · intro h
    exact ⟨h 0 (by simp), h 1 (by simp), h 2 (by simp), by have := h 3 (by simp); simpa using this⟩
  · rintro ⟨h1, h2, h3, h4⟩ e he
    simp only [List.length_cons, List.length_nil] at he ⊢
    match e, he with
    | 0, _ => exact h1
    | 1, _ => exact h2
    | 2, _ => exact h3
    | 3, _ => exact h4
theorem piece_hul {g : Nat → Pt} {W a t : Nat} {cs : List Nat} (hcs : cs ∈ pieces W a t) {M : Pt} (hM : InP g cs M)
    (abc : 0 < cr (g a) (g (a + 1)) (g (a + W + 2))) (bcd : 0 < cr (g (a + 1)) (g (a + W + 2)) (g (a + W + 1))) (cda : 0 < cr (g (a + W + 2)) (g (a + W + 1)) (g a)) (dab : 0 < cr (g (a + W + 1)) (g a) (g (a + 1))) :
    Hul (g a) (g (a + 1)) (g (a + W + 2)) (g (a + W + 1)) M := by
  intro s t' hA hB hC hD
  have z : ∀ P Q R : Pt, cr P Q R = cr Q R P := cr_cyc
  unfold pieces at hcs
  split at hcs
  · simp at hcs
  · simp at hcs
    rcases hcs with rfl | rfl
    · obtain ⟨h1, h2, h3⟩ := inP3.mp hM
      exact tri_hull abc h1 h2 h3 hA hB hC
    · obtain ⟨h1, h2, h3⟩ := inP3.mp hM
      exact tri_hull (by rw [z]; exact cda) h1 h2 h3 hA hC hD
  · simp at hcs
    rcases hcs with rfl | rfl
    · obtain ⟨h1, h2, h3⟩ := inP3.mp hM
      exact tri_hull bcd h1 h2 h3 hB hC hD
    · obtain ⟨h1, h2, h3⟩ := inP3.mp hM
      exact tri_hull (by rw [← z]; exact dab) h1 h2 h3 hA hB hD
  · simp at hcs
    subst hcs
    obtain ⟨h1, h2, h3, h4⟩ := inP4.mp hM
    rcases Int.le_total 0 (cr (g a) (g (a + W + 2)) M) with h | h
    · exact tri_hull (by rw [z]; exact cda) h h3 h4 hA hC hD
    · exact tri_hull abc h1 h2 (by rw [cr_swap]; omega) hA hB hC
theorem in_piece {g : Nat → Pt} {W a t : Nat} (ht : pieces W a t ≠ []) {N : Pt} (h1 : 0 ≤ cr (g a) (g (a + 1)) N) (h2 : 0 ≤ cr (g (a + 1)) (g (a + W + 2)) N) (h3 : 0 ≤ cr (g (a + W + 2)) (g (a + W + 1)) N) (h4 : 0 ≤ cr (g (a + W + 1)) (g a) N) :
    ∃ cs ∈ pieces W a t, InP g cs N := by
  unfold pieces at ht ⊢
  split
  · simp at ht
  · rcases Int.le_total 0 (cr (g a) (g (a + W + 2)) N) with h | h
    · exact ⟨_, List.mem_cons_of_mem _ (List.mem_cons_self ..), inP3.mpr ⟨h, h3, h4⟩⟩
    · exact ⟨_, List.mem_cons_self .., inP3.mpr ⟨h1, h2, by rw [cr_swap]; omega⟩⟩
  · rcases Int.le_total 0 (cr (g (a + 1)) (g (a + W + 1)) N) with h | h
    · exact ⟨_, List.mem_cons_of_mem _ (List.mem_cons_self ..), inP3.mpr ⟨h1, h, h4⟩⟩
    · exact ⟨_, List.mem_cons_self .., inP3.mpr ⟨h2, h3, by rw [cr_swap]; omega⟩⟩
  · exact ⟨_, List.mem_cons_self .., inP4.mpr ⟨h1, h2, h3, h4⟩⟩

theorem near_law {w w' : World} {W H : Nat} {L : List Pt} {rs : List (Nat × List Nat)} {kd : Nat → Nat} {vp vc : Value} (h : Made w W H L rs kd vp vc w') {c : Nat} (hc : c < rs.length) {M : Pt}
    (hM : ∀ e, e < zz rs c → 0 ≤ cr (dbl (LX L (KK rs c e), LY L (KK rs c e))) (dbl (LX L (KK rs c ((e + 1) % zz rs c)), LY L (KK rs c ((e + 1) % zz rs c)))) M) :
    ∃ x y : Int, (-1 ≤ x ∧ x ≤ 1) ∧ (-1 ≤ y ∧ y ≤ 1) ∧ ∃ c', c' < rs.length ∧ InCell (LX L) (LY L) (zz rs) (KK rs) c' (M.1.tdiv 2 + x, M.2.tdiv 2 + y) := by
  obtain ⟨r, x, y, a, hr, _, hx, hy, ha, hp, _⟩ := h.cell hc
  obtain ⟨q0, q1, q2, q3, q4⟩ := h.grd.square h.len hx hy ha
  have hQ : Sq x y (LX L a, LY L a) (LX L (a + 1), LY L (a + 1)) (LX L (a + W + 2), LY L (a + W + 2)) (LX L (a + W + 1), LY L (a + W + 1)) := ⟨q1, q2, q3, q4⟩
  have abc := hQ.abc
  have bcd := hQ.bcd
  have cda := hQ.cda
  have dab := hQ.dab
  have hMp : InP (fun c => dbl (LX L c, LY L c)) r.2 M := by
    intro e he
    have := hM e (by unfold zz; rw [hr]; exact he)
    unfold zz KK at this
    rw [hr] at this
    exact this
  have hH := piece_hul hp hMp (by rw [cr_dbl]; omega) (by rw [cr_dbl]; omega) (by rw [cr_dbl]; omega) (by rw [cr_dbl]; omega)
  obtain ⟨N, ⟨n1, n2⟩, k1, k2, k3, k4⟩ := step_in hQ hH
  obtain ⟨cs, hcs, hin⟩ := in_piece (g := fun c => (LX L c, LY L c)) (t := kd (y * W + x)) (List.ne_nil_of_mem hp) k1 k2 k3 k4
  have hW := h.w1
  have hfl : cs ∈ floorOf W (H * W) kd := by
    unfold floorOf
    rw [List.mem_flatMap]
    refine ⟨y * W + x, List.mem_range.mpr ?_, ?_⟩
    · have e1 : (y + 1) * W ≤ H * W := Nat.mul_le_mul_right _ (by omega)
      rw [Nat.succ_mul] at e1
      omega
    · rw [Nat.mul_comm y W, Nat.mul_add_div (by omega), Nat.div_eq_of_lt hx, Nat.mul_add_mod, Nat.mod_eq_of_lt hx, Nat.add_zero, ha, Nat.mul_comm W y]
      exact hcs
  rw [← h.fls] at hfl
  obtain ⟨r', hr', e'⟩ := List.mem_map.mp hfl
  obtain ⟨c', hc', e2⟩ := List.getElem_of_mem hr'
  have hrc : rs.getD c' (0, []) = r' := by rw [List.getD_eq_getElem?_getD, List.getElem?_eq_getElem hc', e2]; rfl
  refine ⟨N.1 - M.1.tdiv 2, N.2 - M.2.tdiv 2, n1, n2, c', hc', ?_⟩
  intro e he
  unfold zz at he ⊢
  unfold KK
  rw [hrc, e'] at he ⊢
  have := hin e he
  have e5 : M.1.tdiv 2 + (N.1 - M.1.tdiv 2) = N.1 := by omega
  have e6 : M.2.tdiv 2 + (N.2 - M.2.tdiv 2) = N.2 := by omega
  simp only [e5, e6]
  exact this
end Go.Proofs.Ytaiflkjchbpphaa.P
namespace Go.Proofs.Ytaiflkjchbpphaa.P
open Go.RowKit

/-- What TopPaths asks of a route. -/
structure Law (nc : Nat) (X Y : Nat → Int) (z : Nat → Nat) (K : Nat → Nat → Nat) (fr tp : Pt) (m : Nat) (l : List Nat) (kf : Nat → Nat) (raw : List Pt) : Prop where
  pos : 0 < (pln raw).length
  len : hlong (pln raw) ≤ hlong (others (gts X Y z K (wf l) kf m tp) m fr tp) + 4 * (m + 2)
  near : ∀ (k : Nat) (a b : Pt), (pln raw)[k]? = some a → (pln raw)[k + 1]? = some b → ∃ x y : Int, (-1 ≤ x ∧ x ≤ 1) ∧ (-1 ≤ y ∧ y ≤ 1) ∧ ∃ c, c < nc ∧ InCell X Y z K c ((a.1 + b.1).tdiv 2 + x, (a.2 + b.2).tdiv 2 + y)
theorem Made.in {w w' : World} {W H : Nat} {L : List Pt} {rs : List (Nat × List Nat)} {kd : Nat → Nat} {vp vc : Value} (h : Made w W H L rs kd vp vc w') (k : Nat) (hk : k < L.length) : InM 1703936 (LX L k, LY L k) := by
  have e : L[k]? = some (L.getD k (0, 0)) := by rw [List.getD_eq_getElem?_getD, List.getElem?_eq_getElem hk]; rfl
  obtain ⟨g1, g2⟩ := h.grd k _ e
  have hW3 := h.w3
  have hH3 := h.h3
  have m1 : k % (W + 1) < W + 1 := Nat.mod_lt _ (by omega)
  have m2 : k / (W + 1) < H + 1 := Nat.div_lt_of_lt_mul (by rw [Nat.mul_comm, ← h.len]; exact hk)
  obtain ⟨m, hm⟩ : ∃ m, k / (W + 1) = m := ⟨_, rfl⟩
  obtain ⟨t, ht⟩ : ∃ t, k % (W + 1) = t := ⟨_, rfl⟩
  rw [ht] at m1 g1
  rw [hm] at m2 g2
  unfold Gb at g1 g2
  unfold InM LX LY
  simp only
  omega
theorem Made.rng {w w' : World} {W H : Nat} {L : List Pt} {rs : List (Nat × List Nat)} {kd : Nat → Nat} {vp vc : Value} (h : Made w W H L rs kd vp vc w') : (∀ i j, i < rs.length → j < zz rs i → KK rs i j < L.length) ∧ ∀ i, i < rs.length → 3 ≤ zz rs i ∧ zz rs i ≤ 4 := by
  refine ⟨fun i j hi hj => ?_, fun i hi => ?_⟩
  · obtain ⟨r, x, y, a, hr, _, hx, hy, hc, hp, _⟩ := h.cell hi
    obtain ⟨q0, _⟩ := h.grd.square h.len hx hy hc
    unfold zz at hj
    unfold KK
    rw [hr] at hj ⊢
    exact (pieces_ok q0 r.2 hp).2 _ (getD_mem hj)
  · obtain ⟨r, x, y, a, hr, _, hx, hy, hc, hp, _⟩ := h.cell hi
    obtain ⟨q0, _⟩ := h.grd.square h.len hx hy hc
    unfold zz
    rw [hr]
    exact (pieces_ok q0 r.2 hp).1
theorem law_of {np nc : Nat} {X Y : Nat → Int} {z : Nat → Nat} {K : Nat → Nat → Nat} {C : Int} (hC : 0 ≤ C) (hg : Good np nc X Y z K) (r1 : ∀ i j, i < nc → j < z i → K i j < np) (r2 : ∀ i, i < nc → 3 ≤ z i ∧ z i ≤ 4) (hin : ∀ k, k < np → InM C (X k, Y k))
    (hnear : ∀ (c : Nat) (_ : c < nc) (M : Pt), (∀ e, e < z c → 0 ≤ cr (dbl (X (K c e), Y (K c e))) (dbl (X (K c ((e + 1) % z c)), Y (K c ((e + 1) % z c)))) M) → ∃ x y : Int, (-1 ≤ x ∧ x ≤ 1) ∧ (-1 ≤ y ∧ y ≤ 1) ∧ ∃ c', c' < nc ∧ InCell X Y z K c' (M.1.tdiv 2 + x, M.2.tdiv 2 + y))
    {fr tp : Pt} {i k m : Nat} {N : Nat → Nat → Int} {F : Nat → Int} {l : List Nat} {kf : Nat → Nat} {raw : List Pt} (hf : InM C fr) (ht : InM C tp) (R : Route nc X Y z K fr tp i k m N F l kf) (hp : Pul (gts X Y z K (wf l) kf m tp) (m + 1) fr 0 raw) : Law nc X Y z K fr tp m l kf raw := by
  have hc := R.chn hg r2
  have h1 := law_len (M := C) hC hg r1 r2 hin hf ht R hp
  have hp' : Pul (Gt m (fun t => z (wf l t)) (Vx X Y K (wf l)) kf tp) (m + 1) fr 0 raw := hp
  refine ⟨h1.1, h1.2, fun j a b ha hb => ?_⟩
  obtain ⟨t, k1, k2⟩ := mid_ok hc R.end hp' R.first ha hb
  have k3 := hnear (wf l t) (R.st.lt t k1) (a.1 + b.1, a.2 + b.2) k2
  exact k3
theorem made_law {w w' : World} {W H : Nat} {L : List Pt} {rs : List (Nat × List Nat)} {kd : Nat → Nat} {vp vc : Value} (h : Made w W H L rs kd vp vc w') {fr tp : Pt} {i k m : Nat} {N : Nat → Nat → Int} {F : Nat → Int} {l : List Nat} {kf : Nat → Nat} {raw : List Pt}
    (hf : InM 1703936 fr) (ht : InM 1703936 tp) (R : Route rs.length (LX L) (LY L) (zz rs) (KK rs) fr tp i k m N F l kf) (hp : Pul (gts (LX L) (LY L) (zz rs) (KK rs) (wf l) kf m tp) (m + 1) fr 0 raw) : Law rs.length (LX L) (LY L) (zz rs) (KK rs) fr tp m l kf raw :=
  law_of (by decide) h.good h.rng.1 h.rng.2 h.in (fun c hc M hM => near_law h hc hM) hf ht R hp
end Go.Proofs.Ytaiflkjchbpphaa.P
namespace Go.Proofs.Ytaiflkjchbpphaa.P
open Go.RowKit

def uX (k : Nat) : Int := if k = 1 ∨ k = 2 then 65536 else 0
def uY (k : Nat) : Int := if k = 2 ∨ k = 3 then 65536 else 0
theorem unit_good : Good 4 1 uX uY (fun _ => 4) (fun _ j => j) := by
  refine ⟨by decide, by decide, fun k _ => ?_, fun i a b hi ha hb h1 h2 => ?_, fun i j i' j' hi hi' hj hj' e1 e2 => ⟨by omega, e1⟩⟩
  · unfold uX uY
    constructor <;> split <;> decide
  · have key : ∀ a, a < 4 → ∀ b, b < 4 → b ≠ a → b ≠ (a + 1) % 4 → 0 < ara (uX a) (uY a) (uX ((a + 1) % 4)) (uY ((a + 1) % 4)) (uX b) (uY b) := by decide
    exact key a ha b hb h1 h2
theorem unit_lost : ¬ Lost 1 uX uY (fun _ => 4) (fun _ j => j) (0, 0) (65536, 65536) := by
  have k1 : ∀ j, j < 4 → 0 ≤ ara (uX j) (uY j) (uX ((j + 1) % 4)) (uY ((j + 1) % 4)) 0 0 := by decide
  have k2 : ∀ j, j < 4 → 0 ≤ ara (uX j) (uY j) (uX ((j + 1) % 4)) (uY ((j + 1) % 4)) 65536 65536 := by decide
  rintro (h | h | ⟨i, k, h1, h2, h3⟩)
  · exact h 0 (by omega) k1
  · exact h 0 (by omega) k2
  · omega
theorem unit_len {i k m : Nat} {N : Nat → Nat → Int} {F : Nat → Int} {l : List Nat} {kf : Nat → Nat} {raw : List Pt} (R : Route 1 uX uY (fun _ => 4) (fun _ j => j) (0, 0) (65536, 65536) i k m N F l kf) (hp : Pul (gts uX uY (fun _ => 4) (fun _ j => j) (wf l) kf m (65536, 65536)) (m + 1) (0, 0) 0 raw) : (pln raw).length = 2 := by
  have hm := R.mn
  obtain rfl : m = 0 := by omega
  have hG : ∀ j, gts uX uY (fun _ => 4) (fun _ j => j) (wf l) kf 0 (65536, 65536) j = ((65536, 65536), (65536, 65536)) := fun j => by unfold gts; rw [if_neg (Nat.not_lt_zero j)]
  generalize gts uX uY (fun _ => 4) (fun _ j => j) (wf l) kf 0 (65536, 65536) = G at hp hG
  have hne : ((0, 0) : Pt) ≠ (65536, 65536) := by decide
  generalize hA : ((0, 0) : Pt) = A at hp hne
  generalize hT : ((65536, 65536) : Pt) = T at hG hne
  cases hp with
  | skip _ _ p hi hon h =>
    rw [hG] at hon
    exact absurd (on_point hon) hne
  | turn _ _ P x p hi hon hT' h =>
    cases hT' with
    | left _ _ _ _ _ hk => omega
    | right _ _ _ _ _ hk => omega
    | go _ _ _ _ _ hk => omega
    | done =>
      rw [hG] at h
      cases h with
      | skip _ _ _ hi => omega
      | turn _ _ _ _ _ hi => omega
      | stop =>
        unfold pln
        simp only [List.foldl_cons, List.foldl_nil]
        show (pst (pst [] A) T).reverse.length = 2
        have e1 : pst [] A = [A] := rfl
        rw [e1, pst1, if_neg hne]
        rfl
end Go.Proofs.Ytaiflkjchbpphaa.P
namespace Go.Proofs.Ytaiflkjchbpphaa.P
open Go.RowKit

theorem Trn.lt {G : Nat → Pt × Pt} {n : Nat} {A : Pt} {i k : Nat} {l r : Pt} {li ri : Nat} {P : Pt} {x : Nat} (h : Trn G n A k l r li ri P x) (h1 : i ≤ li) (h2 : i ≤ ri) (h3 : i < k) : i < x := by
  induction h with
  | done => exact h3
  | left => omega
  | right => omega
  | go k l r li ri P x hk g1 g2 h ih =>
    refine ih ?_ ?_ (by omega)
    · split <;> omega
    · split <;> omega
theorem Pul.len {G : Nat → Pt × Pt} {n : Nat} {A : Pt} {i : Nat} {p : List Pt} (h : Pul G n A i p) : p.length + i ≤ n + 1 := by
  induction h with
  | stop => simp; omega
  | skip _ _ _ _ _ _ ih => omega
  | turn A i P x p hi hon hT h ih =>
    have := hT.lt (i := i) (by omega) (by omega) (by omega)
    rw [List.length_cons]
    omega
theorem pln_le (L : List Pt) : (pln L).length ≤ L.length := by
  unfold pln
  rw [List.length_reverse]
  have := fold_len L []
  simpa using this
theorem pln_small {L : List Pt} (h : SmallL L) : SmallL (pln L) := by
  unfold pln
  intro P hP
  exact fold_small L [] (fun _ h => by cases h) h P (List.mem_reverse.1 hP)
theorem others_snoc (G : Nat → Pt × Pt) (m : Nat) (fr tp : Pt) : fr :: (List.range m).map (fun t => mid (G t)) ++ [tp] = others G m fr tp := rfl
theorem others_length (G : Nat → Pt × Pt) (m : Nat) (fr tp : Pt) : (others G m fr tp).length = m + 2 := by
  unfold others; simp
theorem mid_small {g : Pt × Pt} (h : Small g.1 ∧ Small g.2) : Small (mid g) := by
  obtain ⟨h1, h2⟩ := h
  have t1 := tdiv2 (g.1.1 + g.2.1)
  have t2 := tdiv2 (g.1.2 + g.2.2)
  unfold mid
  unfold Small at h1 h2 ⊢
  simp only
  omega
theorem others_small {G : Nat → Pt × Pt} {m : Nat} {fr tp : Pt} (h1 : Small fr) (h2 : Small tp) (h : ∀ t, t < m → Small (G t).1 ∧ Small (G t).2) : SmallL (others G m fr tp) := by
  intro P hP
  unfold others at hP
  rcases List.mem_append.1 hP with hP | hP
  · rcases List.mem_cons.1 hP with rfl | hP
    · exact h1
    · obtain ⟨j, hj, rfl⟩ := List.mem_map.1 hP
      exact mid_small (h j (List.mem_range.1 hj))
  · obtain rfl := List.mem_singleton.1 hP
    exact h2
theorem others_congr {G G' : Nat → Pt × Pt} {m : Nat} (fr tp : Pt) (h : ∀ t, t < m → G t = G' t) : others G m fr tp = others G' m fr tp := by
  unfold others
  have e : (List.range m).map (fun j => mid (G j)) = (List.range m).map (fun j => mid (G' j)) := List.map_congr_left fun j hj => by rw [h j (List.mem_range.1 hj)]
  rw [e]
theorem hlong_bd : ∀ L : List Pt, SmallL L → 0 ≤ hlong L ∧ hlong L ≤ 2199023255552 * L.length
  | [], _ => by unfold hlong; simp
  | [A], _ => by unfold hlong; simp
  | A :: B :: r, h => by
    obtain ⟨h1, h2⟩ := flen_bd A B (h A (List.mem_cons_self ..)) (h B (List.mem_cons_of_mem _ (List.mem_cons_self ..)))
    obtain ⟨h3, h4⟩ := hlong_bd (B :: r) (fun P hP => h P (List.mem_cons_of_mem _ hP))
    have e : hlong (A :: B :: r) = flen A B + hlong (B :: r) := rfl
    rw [e]
    simp only [List.length_cons] at h4 ⊢
    push_cast at h4 ⊢
    omega
theorem Trn.in {G : Nat → Pt × Pt} {n : Nat} {A : Pt} {k : Nat} {l r : Pt} {li ri : Nat} {P : Pt} {x : Nat} {C : Int} (h : Trn G n A k l r li ri P x) (hG : ∀ j, InM C (G j).1 ∧ InM C (G j).2) (hl : InM C l) (hr : InM C r) : InM C P := by
  induction h with
  | done => exact (hG _).1
  | left => exact hl
  | right => exact hr
  | go k l r li ri P x hk g1 g2 h ih =>
    refine ih ?_ ?_
    · split
      · exact (hG _).1
      · exact hl
    · split
      · exact (hG _).2
      · exact hr
theorem Pul.in {G : Nat → Pt × Pt} {n : Nat} {A : Pt} {i : Nat} {p : List Pt} {C : Int} (h : Pul G n A i p) (hG : ∀ j, InM C (G j).1 ∧ InM C (G j).2) (hA : InM C A) : ∀ P ∈ p, InM C P := by
  induction h with
  | stop => intro P hP; obtain rfl := List.mem_singleton.1 hP; exact hA
  | skip _ _ _ _ _ _ ih => exact ih hA
  | turn A i P x p hi hon hT h ih =>
    intro Q hQ
    rcases List.mem_cons.1 hQ with rfl | hQ
    · exact hA
    · exact ih (hT.in hG (hG _).1 (hG _).2) Q hQ
theorem pst_mem {R : List Pt} {p P : Pt} (h : P ∈ pst R p) : P ∈ R ∨ P = p := by
  unfold pst at h
  split at h
  · exact .inr (List.mem_singleton.1 h)
  · split at h
    · exact .inl h
    · rcases List.mem_cons.1 h with h | h
      · exact .inr h
      · exact .inl h
  · split at h
    · exact .inl h
    · split at h
      · rcases List.mem_cons.1 h with h | h
        · exact .inr h
        · exact .inl (List.mem_cons_of_mem _ h)
      · rcases List.mem_cons.1 h with h | h
        · exact .inr h
        · exact .inl h
theorem fold_mem {P : Pt} : ∀ (L R : List Pt), P ∈ L.foldl pst R → P ∈ R ∨ P ∈ L
  | [], _, h => .inl h
  | p :: L, R, h => by
    rcases fold_mem L (pst R p) h with h | h
    · rcases pst_mem h with h | h
      · exact .inl h
      · exact .inr (h ▸ List.mem_cons_self ..)
    · exact .inr (List.mem_cons_of_mem _ h)
theorem pln_mem {L : List Pt} {P : Pt} (h : P ∈ pln L) : P ∈ L := by
  unfold pln at h
  rcases fold_mem L [] (List.mem_reverse.1 h) with h | h
  · cases h
  · exact h
theorem mid_in {C : Int} {A B : Pt} (hA : InM C A) (hB : InM C B) : InM C ((A.1 + B.1).tdiv 2, (A.2 + B.2).tdiv 2) := by
  have t1 := tdiv2 (A.1 + B.1)
  have t2 := tdiv2 (A.2 + B.2)
  unfold InM at hA hB ⊢
  simp only
  omega
end Go.Proofs.Ytaiflkjchbpphaa.P
