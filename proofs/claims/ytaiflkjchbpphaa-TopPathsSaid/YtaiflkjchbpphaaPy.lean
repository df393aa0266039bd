/- tourref5.Mesh: its floors are valid. No program but for the last theorem. -/
import Derived.Test.YtaiflkjchbpphaaPB
import Derived.Test.YtaiflkjchbpphaaPb
import Derived.Test.YtaiflkjchbpphaaPn
namespace Go.Proofs.Ytaiflkjchbpphaa.P
open Go.RowKit

/-! ### sides that run alike are the same -/
def edgesOf (W k t : Nat) : List (Nat × Nat × Nat × Nat) :=
  (pieces W (k / W * (W + 1) + k % W) t).zipIdx.flatMap fun x => (List.range x.1.length).map fun j => (x.2, j, x.1.getD j 0, x.1.getD ((j + 1) % x.1.length) 0)
def sides_chk (W : Nat) : Bool := (List.range (3 * W)).all fun k => (List.range (3 * W)).all fun k' => (List.range 4).all fun t => (List.range 4).all fun t' =>
  (edgesOf W k t).all fun e => (edgesOf W k' t').all fun e' => !(e.2.2.1 == e'.2.2.1 && e.2.2.2 == e'.2.2.2) || (k == k' && (!(t == t') || (e.1 == e'.1 && e.2.1 == e'.2.1)))
theorem sides_1 : sides_chk 1 = true := by decide +kernel
theorem sides_2 : sides_chk 2 = true := by decide +kernel
theorem sides_3 : sides_chk 3 = true := by decide +kernel
theorem pieces_min (W a t : Nat) : pieces W a t = pieces W a (min t 3) := by
  match t with
  | 0 => rfl
  | 1 => rfl
  | 2 => rfl
  | t + 3 => rw [show min (t + 3) 3 = 3 by omega]; rfl
theorem edge_mem {W k t s j : Nat} {cs : List Nat} (h : (pieces W (k / W * (W + 1) + k % W) t)[s]? = some cs) (hj : j < cs.length) : (s, j, cs.getD j 0, cs.getD ((j + 1) % cs.length) 0) ∈ edgesOf W k t := by
  unfold edgesOf
  rw [List.mem_flatMap]
  refine ⟨(cs, s), ?_, ?_⟩
  · rw [List.mem_zipIdx_iff_getElem?]; exact h
  · rw [List.mem_map]
    exact ⟨j, List.mem_range.mpr hj, rfl⟩
theorem sides_eq {W : Nat} (w1 : 1 ≤ W) (w3 : W ≤ 3) {k k' t t' s s' j j' : Nat} {cs cs' : List Nat} (hk : k < 3 * W) (hk' : k' < 3 * W) (h : (pieces W (k / W * (W + 1) + k % W) t)[s]? = some cs) (h' : (pieces W (k' / W * (W + 1) + k' % W) t')[s']? = some cs') (hj : j < cs.length) (hj' : j' < cs'.length)
    (e1 : cs.getD j 0 = cs'.getD j' 0) (e2 : cs.getD ((j + 1) % cs.length) 0 = cs'.getD ((j' + 1) % cs'.length) 0) : k = k' ∧ (min t 3 = min t' 3 → s = s' ∧ j = j') := by
  have hc : sides_chk W = true := by
    rcases (show W = 1 ∨ W = 2 ∨ W = 3 by omega) with rfl | rfl | rfl
    · exact sides_1
    · exact sides_2
    · exact sides_3
  rw [pieces_min] at h h'
  have m1 := edge_mem h hj
  have m2 := edge_mem h' hj'
  unfold sides_chk at hc
  simp only [List.all_eq_true, List.mem_range] at hc
  have := hc k hk k' hk' (min t 3) (by omega) (min t' 3) (by omega) _ m1 _ m2
  simp only [e1, e2, beq_self_eq_true, Bool.and_self, Bool.not_true, Bool.false_or, Bool.and_eq_true, beq_iff_eq, Bool.or_eq_true, Bool.not_eq_true', beq_eq_false_iff_ne] at this
  refine ⟨this.1, fun e => ?_⟩
  rcases this.2 with h | h
  · exact absurd e h
  · exact h

theorem floorOf_add (W n : Nat) (kd : Nat → Nat) : floorOf W (n + 1) kd = floorOf W n kd ++ pieces W (n / W * (W + 1) + n % W) (kd n) := by
  unfold floorOf; rw [List.range_succ, List.flatMap_append]; simp
theorem floor_in {W : Nat} {kd : Nat → Nat} : ∀ {n i : Nat} {cs : List Nat}, (floorOf W n kd)[i]? = some cs → ∃ k s : Nat, k < n ∧ (pieces W (k / W * (W + 1) + k % W) (kd k))[s]? = some cs
  | 0, i, cs, h => by simp [floorOf] at h
  | n + 1, i, cs, h => by
    rw [floorOf_add] at h
    by_cases hi : i < (floorOf W n kd).length
    · rw [List.getElem?_append_left hi] at h
      obtain ⟨k, s, h1, h2⟩ := floor_in h
      exact ⟨k, s, by omega, h2⟩
    · rw [List.getElem?_append_right (by omega)] at h
      exact ⟨n, _, Nat.lt_succ_self n, h⟩
theorem floor_ds {W : Nat} (w1 : 1 ≤ W) (w3 : W ≤ 3) {kd : Nat → Nat} : ∀ {n : Nat}, n ≤ 3 * W → ∀ {i i' j j' : Nat} {cs cs' : List Nat}, (floorOf W n kd)[i]? = some cs → (floorOf W n kd)[i']? = some cs' → j < cs.length → j' < cs'.length →
    cs.getD j 0 = cs'.getD j' 0 → cs.getD ((j + 1) % cs.length) 0 = cs'.getD ((j' + 1) % cs'.length) 0 → i = i' ∧ j = j'
  | 0, hn, i, i', j, j', cs, cs', h, _, _, _, _, _ => by simp [floorOf] at h
  | n + 1, hn, i, i', j, j', cs, cs', h, h', hj, hj', e1, e2 => by
    rw [floorOf_add] at h h'
    by_cases hi : i < (floorOf W n kd).length
    · rw [List.getElem?_append_left hi] at h
      by_cases hi' : i' < (floorOf W n kd).length
      · rw [List.getElem?_append_left hi'] at h'
        exact floor_ds w1 w3 (by omega) h h' hj hj' e1 e2
      · rw [List.getElem?_append_right (by omega)] at h'
        obtain ⟨k, s, h1, h2⟩ := floor_in h
        have := (sides_eq w1 w3 (by omega) (by omega) h2 h' hj hj' e1 e2).1
        omega
    · rw [List.getElem?_append_right (by omega)] at h
      by_cases hi' : i' < (floorOf W n kd).length
      · rw [List.getElem?_append_left hi'] at h'
        obtain ⟨k, s, h1, h2⟩ := floor_in h'
        have := (sides_eq w1 w3 (by omega) (by omega) h h2 hj hj' e1 e2).1
        omega
      · rw [List.getElem?_append_right (by omega)] at h'
        obtain ⟨a, b⟩ := (sides_eq w1 w3 (by omega) (by omega) h h' hj hj' e1 e2).2 rfl
        exact ⟨by omega, b⟩

/-! ### cells are convex -/
theorem mul_lo {a b m : Int} (h1 : m ≤ a) (h2 : m ≤ b) (h0 : 0 ≤ m) : m * m ≤ a * b := Int.mul_le_mul h1 h2 h0 (by omega)
theorem mul_hi {a b m : Int} (h1 : -m ≤ a) (h2 : a ≤ m) (h3 : -m ≤ b) (h4 : b ≤ m) : a * b ≤ m * m := by
  rcases Int.le_total 0 a with ha | ha
  · rcases Int.le_total 0 b with hb | hb
    · exact Int.mul_le_mul h2 h4 hb (by omega)
    · have := Int.mul_nonpos_of_nonneg_of_nonpos ha hb
      have := Int.mul_nonneg (show 0 ≤ m by omega) (show 0 ≤ m by omega)
      omega
  · rcases Int.le_total 0 b with hb | hb
    · have := Int.mul_nonpos_of_nonpos_of_nonneg ha hb
      have := Int.mul_nonneg (show 0 ≤ m by omega) (show 0 ≤ m by omega)
      omega
    · have e : a * b = (-a) * (-b) := by grind
      rw [e]
      exact Int.mul_le_mul (by omega) (by omega) (by omega) (by omega)
/-- A corner of a square: from a to b along the axis, from b to c to its left. -/
theorem ara_turn {u1 u2 v1 v2 : Int} (h1 : 393000 ≤ u1) (h2 : -131500 ≤ u2) (h3 : u2 ≤ 131500) (h4 : 393000 ≤ v2) (h5 : -131500 ≤ v1) (h6 : v1 ≤ 131500) : 0 < u1 * v2 - u2 * v1 := by
  have := mul_lo h1 h4 (by decide)
  have := mul_hi h2 h3 h5 h6
  omega
theorem ara_rot (a b c d x y : Int) : ara c d x y a b = ara a b c d x y := by unfold ara; grind
/-- The four corners of a square. -/
structure Qd (ax ay bx by' cx cy dx dy : Int) : Prop where
  b1 : 393000 ≤ bx - ax
  b2 : -131500 ≤ by' - ay
  b3 : by' - ay ≤ 131500
  c1 : 393000 ≤ cy - by'
  c2 : -131500 ≤ cx - bx
  c3 : cx - bx ≤ 131500
  d1 : 393000 ≤ cx - dx
  d2 : -131500 ≤ cy - dy
  d3 : cy - dy ≤ 131500
  a1 : 393000 ≤ dy - ay
  a2 : -131500 ≤ dx - ax
  a3 : dx - ax ≤ 131500
theorem Qd.abc {ax ay bx by' cx cy dx dy : Int} (h : Qd ax ay bx by' cx cy dx dy) : 0 < ara ax ay bx by' cx cy := by
  have e : ara ax ay bx by' cx cy = (bx - ax) * (cy - by') - (by' - ay) * (cx - bx) := by unfold ara; grind
  rw [e]
  exact ara_turn h.b1 h.b2 h.b3 h.c1 h.c2 h.c3
theorem Qd.bcd {ax ay bx by' cx cy dx dy : Int} (h : Qd ax ay bx by' cx cy dx dy) : 0 < ara bx by' cx cy dx dy := by
  have e : ara bx by' cx cy dx dy = (cy - by') * (cx - dx) - (cx - bx) * (cy - dy) := by unfold ara; grind
  rw [e]
  exact ara_turn h.c1 h.c2 h.c3 h.d1 h.d2 h.d3
theorem Qd.cda {ax ay bx by' cx cy dx dy : Int} (h : Qd ax ay bx by' cx cy dx dy) : 0 < ara cx cy dx dy ax ay := by
  have e : ara cx cy dx dy ax ay = (cx - dx) * (dy - ay) - (cy - dy) * (dx - ax) := by unfold ara; grind
  rw [e]
  exact ara_turn h.d1 h.d2 h.d3 h.a1 h.a2 h.a3
theorem Qd.dab {ax ay bx by' cx cy dx dy : Int} (h : Qd ax ay bx by' cx cy dx dy) : 0 < ara dx dy ax ay bx by' := by
  have e : ara dx dy ax ay bx by' = (dy - ay) * (bx - ax) - (dx - ax) * (by' - ay) := by unfold ara; grind
  rw [e]
  exact ara_turn h.a1 h.a2 h.a3 h.b1 h.b2 h.b3

def Cvx (X Y : Nat → Int) (cs : List Nat) : Prop := ∀ a b, a < cs.length → b < cs.length → b ≠ a → b ≠ (a + 1) % cs.length → 0 < ara (X (cs.getD a 0)) (Y (cs.getD a 0)) (X (cs.getD ((a + 1) % cs.length) 0)) (Y (cs.getD ((a + 1) % cs.length) 0)) (X (cs.getD b 0)) (Y (cs.getD b 0))
theorem cvx3 {X Y : Nat → Int} {u v t : Nat} (h : 0 < ara (X u) (Y u) (X v) (Y v) (X t) (Y t)) : Cvx X Y [u, v, t] := by
  intro a b ha hb h1 h2
  simp only [List.length_cons, List.length_nil] at ha hb h2 ⊢
  have h' := h
  rw [← ara_rot] at h'
  have h'' := h'
  rw [← ara_rot] at h''
  match a, b, ha, hb, h1, h2 with
  | 0, 0, _, _, h1, _ => exact absurd rfl h1
  | 0, 1, _, _, _, h2 => exact absurd rfl h2
  | 0, 2, _, _, _, _ => exact h
  | 1, 1, _, _, h1, _ => exact absurd rfl h1
  | 1, 2, _, _, _, h2 => exact absurd rfl h2
  | 1, 0, _, _, _, _ => exact h'
  | 2, 2, _, _, h1, _ => exact absurd rfl h1
  | 2, 0, _, _, _, h2 => exact absurd rfl h2
  | 2, 1, _, _, _, _ => exact h''
theorem cvx4 {X Y : Nat → Int} {a b c d : Nat} (h : Qd (X a) (Y a) (X b) (Y b) (X c) (Y c) (X d) (Y d)) : Cvx X Y [a, b, c, d] := by
  intro i j ha hb h1 h2
  simp only [List.length_cons, List.length_nil] at ha hb h2 ⊢
  have r : ∀ {a b c d x y : Int}, 0 < ara a b c d x y → 0 < ara c d x y a b := fun h => by rw [ara_rot]; exact h
  match i, j, ha, hb, h1, h2 with
  | 0, 0, _, _, h1, _ => exact absurd rfl h1
  | 0, 1, _, _, _, h2 => exact absurd rfl h2
  | 0, 2, _, _, _, _ => exact h.abc
  | 0, 3, _, _, _, _ => exact r h.dab
  | 1, 1, _, _, h1, _ => exact absurd rfl h1
  | 1, 2, _, _, _, h2 => exact absurd rfl h2
  | 1, 3, _, _, _, _ => exact h.bcd
  | 1, 0, _, _, _, _ => exact r h.abc
  | 2, 2, _, _, h1, _ => exact absurd rfl h1
  | 2, 3, _, _, _, h2 => exact absurd rfl h2
  | 2, 0, _, _, _, _ => exact h.cda
  | 2, 1, _, _, _, _ => exact r h.bcd
  | 3, 3, _, _, h1, _ => exact absurd rfl h1
  | 3, 0, _, _, _, h2 => exact absurd rfl h2
  | 3, 1, _, _, _, _ => exact h.dab
  | 3, 2, _, _, _, _ => exact r h.cda

def LX (L : List Pt) (k : Nat) : Int := (L.getD k (0, 0)).1
def LY (L : List Pt) (k : Nat) : Int := (L.getD k (0, 0)).2
theorem Grd.at {W : Nat} {L : List Pt} (h : Grd W L) {x y : Nat} (hx : x ≤ W) (hl : y * (W + 1) + x < L.length) : Gb x (LX L (y * (W + 1) + x)) ∧ Gb y (LY L (y * (W + 1) + x)) := by
  have e : L[y * (W + 1) + x]? = some (L.getD (y * (W + 1) + x) (0, 0)) := by rw [List.getD_eq_getElem?_getD, List.getElem?_eq_getElem hl]; rfl
  obtain ⟨h1, h2⟩ := h _ _ e
  have e1 : (y * (W + 1) + x) % (W + 1) = x := by rw [Nat.mul_comm, Nat.mul_add_mod]; exact Nat.mod_eq_of_lt (by omega)
  have e2 : (y * (W + 1) + x) / (W + 1) = y := by rw [Nat.mul_comm, Nat.mul_add_div (by omega), Nat.div_eq_of_lt (by omega)]; rfl
  rw [e1] at h1
  rw [e2] at h2
  exact ⟨h1, h2⟩
/-- The square at (x, y). -/
theorem Grd.square {W H : Nat} {L : List Pt} (h : Grd W L) (hl : L.length = (H + 1) * (W + 1)) {x y : Nat} (hx : x < W) (hy : y < H) {a : Nat} (ha : y * (W + 1) + x = a) :
    a + W + 2 < L.length ∧ (Gb x (LX L a) ∧ Gb y (LY L a)) ∧ (Gb (x + 1) (LX L (a + 1)) ∧ Gb y (LY L (a + 1))) ∧ (Gb (x + 1) (LX L (a + W + 2)) ∧ Gb (y + 1) (LY L (a + W + 2))) ∧ (Gb x (LX L (a + W + 1)) ∧ Gb (y + 1) (LY L (a + W + 1))) := by
  have e : (y + 1) * (W + 1) = y * (W + 1) + (W + 1) := Nat.succ_mul _ _
  have e3 : (y + 1) * (W + 1) ≤ H * (W + 1) := Nat.mul_le_mul_right _ (by omega)
  have e4 : (H + 1) * (W + 1) = H * (W + 1) + (W + 1) := Nat.succ_mul _ _
  have p1 := h.at (x := x) (y := y) (by omega) (by omega)
  have p2 := h.at (x := x + 1) (y := y) (by omega) (by omega)
  have p3 := h.at (x := x + 1) (y := y + 1) (by omega) (by omega)
  have p4 := h.at (x := x) (y := y + 1) (by omega) (by omega)
  rw [show y * (W + 1) + (x + 1) = a + 1 by omega] at p2
  rw [show (y + 1) * (W + 1) + (x + 1) = a + W + 2 by omega] at p3
  rw [show (y + 1) * (W + 1) + x = a + W + 1 by omega] at p4
  rw [ha] at p1
  exact ⟨by omega, p1, p2, p3, p4⟩
theorem Qd.of {x y : Nat} {ax ay bx by' cx cy dx dy : Int} (ha : Gb x ax ∧ Gb y ay) (hb : Gb (x + 1) bx ∧ Gb y by') (hc : Gb (x + 1) cx ∧ Gb (y + 1) cy) (hd : Gb x dx ∧ Gb (y + 1) dy) : Qd ax ay bx by' cx cy dx dy := by
  unfold Gb at ha hb hc hd
  constructor <;> omega
theorem piece_cvx {X Y : Nat → Int} {W a t : Nat} (h : Qd (X a) (Y a) (X (a + 1)) (Y (a + 1)) (X (a + W + 2)) (Y (a + W + 2)) (X (a + W + 1)) (Y (a + W + 1))) : ∀ cs ∈ pieces W a t, Cvx X Y cs := by
  intro cs hcs
  have r : ∀ {a b c d x y : Int}, 0 < ara a b c d x y → 0 < ara c d x y a b := fun h => by rw [ara_rot]; exact h
  unfold pieces at hcs
  split at hcs
  · simp at hcs
  · simp at hcs
    rcases hcs with rfl | rfl
    · exact cvx3 h.abc
    · exact cvx3 (r (r h.cda))
  · simp at hcs
    rcases hcs with rfl | rfl
    · exact cvx3 h.bcd
    · exact cvx3 (r h.dab)
  · simp at hcs
    subst hcs
    exact cvx4 h

def zz (rs : List (Nat × List Nat)) (i : Nat) : Nat := (rs.getD i (0, [])).2.length
def qq (rs : List (Nat × List Nat)) (i : Nat) : Nat := (rs.getD i (0, [])).1
def KK (rs : List (Nat × List Nat)) (i j : Nat) : Nat := (rs.getD i (0, [])).2.getD j 0
/-- Where a cell of the floor lies. -/
theorem Made.cell {w w' : World} {W H : Nat} {L : List Pt} {rs : List (Nat × List Nat)} {kd : Nat → Nat} {vp vc : Value} (h : Made w W H L rs kd vp vc w') {i : Nat} (hi : i < rs.length) :
    ∃ r x y a, rs.getD i (0, []) = r ∧ r ∈ rs ∧ x < W ∧ y < H ∧ y * (W + 1) + x = a ∧ r.2 ∈ pieces W a (kd (y * W + x)) ∧ (floorOf W (H * W) kd)[i]? = some r.2 := by
  have e : rs[i]? = some (rs.getD i (0, [])) := by rw [List.getD_eq_getElem?_getD, List.getElem?_eq_getElem hi]; rfl
  obtain ⟨r, hr⟩ : ∃ r, rs.getD i (0, []) = r := ⟨_, rfl⟩
  rw [hr] at e
  have hf : (floorOf W (H * W) kd)[i]? = some r.2 := by rw [← h.fls, List.getElem?_map, e]; rfl
  obtain ⟨k, s, hk, hs⟩ := floor_in hf
  have hW := h.w1
  have ek : k / W * W + k % W = k := by rw [Nat.mul_comm]; exact Nat.div_add_mod k W
  refine ⟨r, k % W, k / W, _, hr, List.mem_of_getElem? e, Nat.mod_lt _ (by omega), ?_, rfl, ?_, hf⟩
  · exact Nat.div_lt_of_lt_mul (by rw [Nat.mul_comm]; exact hk)
  · rw [ek]; exact List.mem_of_getElem? hs
theorem pieces_ok {W a t n : Nat} (h : a + W + 2 < n) : ∀ cs ∈ pieces W a t, (3 ≤ cs.length ∧ cs.length ≤ 4) ∧ ∀ c ∈ cs, c < n := by
  intro cs hcs
  unfold pieces at hcs
  split at hcs
  · simp at hcs
  · simp at hcs
    rcases hcs with rfl | rfl
    · exact ⟨by simp, by intro c hc; simp at hc; omega⟩
    · exact ⟨by simp, by intro c hc; simp at hc; omega⟩
  · simp at hcs
    rcases hcs with rfl | rfl
    · exact ⟨by simp, by intro c hc; simp at hc; omega⟩
    · exact ⟨by simp, by intro c hc; simp at hc; omega⟩
  · simp at hcs
    subst hcs
    exact ⟨by simp, by intro c hc; simp at hc; omega⟩
theorem getD_mem {cs : List Nat} {j : Nat} (hj : j < cs.length) : cs.getD j 0 ∈ cs := by
  rw [List.getD_eq_getElem?_getD, List.getElem?_eq_getElem hj]
  exact List.getElem_mem hj

theorem Made.good {w w' : World} {W H : Nat} {L : List Pt} {rs : List (Nat × List Nat)} {kd : Nat → Nat} {vp vc : Value} (h : Made w W H L rs kd vp vc w') : Good L.length rs.length (LX L) (LY L) (zz rs) (KK rs) := by
  have hW1 := h.w1
  have hW3 := h.w3
  have hH3 := h.h3
  have hHW : H * W ≤ 3 * W := Nat.mul_le_mul_right _ hH3
  have hn : L.length ≤ 16 := by rw [h.len]; exact Nat.mul_le_mul (show H + 1 ≤ 4 by omega) (show W + 1 ≤ 4 by omega)
  have hr : rs.length ≤ 18 := by
    have e := congrArg List.length h.fls
    rw [List.length_map] at e
    have := floorOf_len W (H * W) kd
    omega
  refine ⟨by omega, by omega, fun k hk => ?_, fun i a b hi ha hb h1 h2 => ?_, fun i j i' j' hi hi' hj hj' e1 e2 => ?_⟩
  · have e : L[k]? = some (L.getD k (0, 0)) := by rw [List.getD_eq_getElem?_getD, List.getElem?_eq_getElem hk]; rfl
    obtain ⟨g1, g2⟩ := h.grd k _ e
    have m1 : k % (W + 1) < W + 1 := Nat.mod_lt _ (by omega)
    have m2 : k / (W + 1) < H + 1 := Nat.div_lt_of_lt_mul (by rw [Nat.mul_comm, ← h.len]; exact hk)
    obtain ⟨m, hm⟩ : ∃ m, k / (W + 1) = m := ⟨_, rfl⟩
    obtain ⟨t, ht⟩ : ∃ t, k % (W + 1) = t := ⟨_, rfl⟩
    rw [ht] at m1 g1
    rw [hm] at m2 g2
    unfold Gb at g1 g2
    unfold LX LY
    omega
  · obtain ⟨r, x, y, c, hr, _, hx, hy, hc, hp, _⟩ := h.cell hi
    obtain ⟨_, q1, q2, q3, q4⟩ := h.grd.square h.len hx hy hc
    have := piece_cvx (X := LX L) (Y := LY L) (Qd.of q1 q2 q3 q4) r.2 hp
    unfold zz at ha hb h2
    unfold zz KK
    rw [hr] at ha hb h2 ⊢
    exact this a b ha hb h1 h2
  · obtain ⟨r, _, _, _, hr, _, _, _, _, _, hf⟩ := h.cell hi
    obtain ⟨r', _, _, _, hr', _, _, _, _, _, hf'⟩ := h.cell hi'
    unfold zz at hj hj' e2
    unfold KK at e1 e2
    rw [hr] at hj e1 e2
    rw [hr'] at hj' e1 e2
    exact floor_ds hW1 hW3 hHW hf hf' hj hj' e1 e2
theorem Made.msh {w w' : World} {W H : Nat} {L : List Pt} {rs : List (Nat × List Nat)} {kd : Nat → Nat} {gp pcap gc ccap : Nat} (h : Made w W H L rs kd (.slice (some ⟨gp, 0, none⟩) L.length pcap) (.slice (some ⟨gc, 0, none⟩) rs.length ccap) w') : Msh gp L.length gc rs.length (LX L) (LY L) (zz rs) (zz rs) (qq rs) (KK rs) w' := by
  have hp := ptl_of h.pts rfl
  obtain ⟨_, p2, _, _, _, _⟩ := owns_at h.pts
  obtain ⟨_, c2, _, _, c5, _⟩ := owns_at h.own
  have hrow : ∀ i, i < rs.length → (rs.getD i (0, [])) ∈ rs ∧ rs[i]? = some (rs.getD i (0, [])) := fun i hi => by
    have e : rs[i]? = some (rs.getD i (0, [])) := by rw [List.getD_eq_getElem?_getD, List.getElem?_eq_getElem hi]; rfl
    exact ⟨List.mem_of_getElem? e, e⟩
  refine ⟨fun k hk => ?_, fun i hi => ?_, fun i j hi hj => ?_, fun i j hi hj => ?_, fun i hi => ?_, p2, c2, fun i hi => ?_⟩
  · have e : L[k]? = some (L.getD k (0, 0)) := by rw [List.getD_eq_getElem?_getD, List.getElem?_eq_getElem hk]; rfl
    exact hp k _ e
  · rw [c5 i (by omega), List.getElem?_map, (hrow i hi).2]
    rfl
  · obtain ⟨r1, _⟩ := h.row _ (hrow i hi).1
    show w'.cell? ⟨(rs.getD i (0, [])).1, j, none⟩ = _
    rw [cell_of_row _ _ _ _ _ _ r1]
    unfold zz at hj
    unfold KK
    generalize (rs.getD i (0, [])).2 = cs at hj ⊢
    rw [List.getElem?_toArray, List.getElem?_map, List.getD_eq_getElem?_getD, List.getElem?_eq_getElem hj]
    rfl
  · obtain ⟨r, x, y, a, hr, _, hx, hy, hc, hp, _⟩ := h.cell hi
    obtain ⟨q0, _⟩ := h.grd.square h.len hx hy hc
    unfold zz at hj
    unfold KK
    rw [hr] at hj ⊢
    exact (pieces_ok q0 r.2 hp).2 _ (getD_mem hj)
  · obtain ⟨r, x, y, a, hr, _, hx, hy, hc, hp, _⟩ := h.cell hi
    obtain ⟨q0, _⟩ := h.grd.square h.len hx hy hc
    unfold zz
    rw [hr]
    exact (pieces_ok q0 r.2 hp).1
  · obtain ⟨r1, _⟩ := h.row _ (hrow i hi).1
    unfold qq
    rcases Nat.lt_or_ge (rs.getD i (0, [])).1 w'.heap.size with h | h
    · exact h
    · rw [Array.getElem?_eq_none h] at r1; cases r1
end Go.Proofs.Ytaiflkjchbpphaa.P
