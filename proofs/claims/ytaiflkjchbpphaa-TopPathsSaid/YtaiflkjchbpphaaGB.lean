/- The length law, and the middles of pieces. -/
import Derived.Test.YtaiflkjchbpphaaGA
import Derived.Test.YtaiflkjchbpphaaPp
import Derived.Test.YtaiflkjchbpphaaPq
namespace Go.Proofs.Ytaiflkjchbpphaa.P

/-! ### the cells of a route -/
def Vx (X Y : Nat → Int) (K : Nat → Nat → Nat) (l : Nat → Nat) (t e : Nat) : Pt := (X (K (l t) e), Y (K (l t) e))
noncomputable def jof (z : Nat → Nat) (K : Nat → Nat → Nat) (a b k : Nat) : Nat := Classical.epsilon fun j => j < z b ∧ K b j = K a ((k + 1) % z a) ∧ K b ((j + 1) % z b) = K a k
theorem jof_spec {z : Nat → Nat} {K : Nat → Nat → Nat} {a b k : Nat} (h : First z K a b k) : jof z K a b k < z b ∧ K b (jof z K a b k) = K a ((k + 1) % z a) ∧ K b ((jof z K a b k + 1) % z b) = K a k := by
  obtain ⟨_, ⟨j, h1, h2, _, h3⟩, _⟩ := h
  exact Classical.epsilon_spec (p := fun j => j < z b ∧ K b j = K a ((k + 1) % z a) ∧ K b ((j + 1) % z b) = K a k) ⟨j, h1, h2, h3⟩
theorem Way.down {nc : Nat} {N : Nat → Nat → Int} {F : Nat → Int} {b a : Nat} {l : List Nat} (h : Way nc N F b a l) : ∀ i, i + 1 < l.length → F (wf l (i + 1)) + 1 = F (wf l i) := by
  induction h with
  | stop => intro i hi; simp at hi
  | step a c l hab hc h ih =>
    intro i hi
    cases i with
    | zero =>
      obtain ⟨r, hr⟩ := h.head
      have e1 : wf (a :: l) 1 = c := by rw [hr]; rfl
      have e2 : wf (a :: l) 0 = a := rfl
      rw [e1, e2]
      exact hc.2.2.1
    | succ i => exact ih i (by simpa using hi)
theorem good_cx {np nc : Nat} {X Y : Nat → Int} {z : Nat → Nat} {K : Nat → Nat → Nat} (h : Good np nc X Y z K) (hz : ∀ i, i < nc → 3 ≤ z i ∧ z i ≤ 4) {i : Nat} (hi : i < nc) : Cx (z i) (fun e => (X (K i e), Y (K i e))) :=
  ⟨(hz i hi).1, fun a b ha hb h1 h2 => h.cv i a b hi ha hb h1 h2⟩
variable {np nc : Nat} {X Y : Nat → Int} {z : Nat → Nat} {K : Nat → Nat → Nat} {fr tp : Pt} {i k m : Nat} {N : Nat → Nat → Int} {F : Nat → Int} {l : List Nat} {kf : Nat → Nat}
theorem Route.chn (h : Good np nc X Y z K) (hz : ∀ i, i < nc → 3 ≤ z i ∧ z i ≤ 4) (R : Route nc X Y z K fr tp i k m N F l kf) : Chn m (fun t => z (wf l t)) (Vx X Y K (wf l)) kf (fun t => jof z K (wf l t) (wf l (t + 1)) (kf t)) := by
  have hs := R.st
  refine ⟨fun t ht => good_cx h hz (hs.lt t ht), fun t ht => (hs.first t ht).1, fun t ht => (jof_spec (hs.first t ht)).1, fun t ht => ?_, fun t ht => ?_, fun t ht e => ?_⟩
  · have := (jof_spec (hs.first t ht)).2.1
    unfold Vx
    rw [this]
  · have := (jof_spec (hs.first t ht)).2.2
    unfold Vx
    rw [this]
  · obtain ⟨a1, a2, a3⟩ := jof_spec (hs.first t (by omega))
    obtain ⟨b1, b2, b3⟩ := jof_spec (hs.first (t + 1) ht)
    rw [← e] at a2 a3
    have hk := (hs.first t (by omega)).1
    have hd := h.ds (wf l t) (kf t) (wf l (t + 2)) _ (hs.lt t (by omega)) (hs.lt (t + 2) (by omega)) hk b1 (a3.symm.trans b2.symm) (a2.symm.trans b3.symm)
    have hw := R.way.down
    have hl := R.len
    have f1 := hw t (by omega)
    have f2 := hw (t + 1) (by omega)
    rw [show t + 1 + 1 = t + 2 from rfl, ← hd.1] at f2
    omega
theorem gts_gt : gts X Y z K (wf l) kf m tp = Gt m (fun t => z (wf l t)) (Vx X Y K (wf l)) kf tp := rfl
theorem Route.first (R : Route nc X Y z K fr tp i k m N F l kf) : In (z (wf l 0)) (Vx X Y K (wf l) 0) fr := by
  have e := (R.way.pairs R.hi).2.2.2
  have := R.fi
  unfold Vx
  rw [e]
  exact this
theorem Route.end (R : Route nc X Y z K fr tp i k m N F l kf) : In (z (wf l m)) (Vx X Y K (wf l) m) tp := by
  have e := (R.way.pairs R.hi).2.2.1
  rw [R.len, Nat.add_sub_cancel] at e
  have := R.ti
  unfold Vx
  rw [e]
  exact this

/-! ### lengths -/
theorem flen_len (q : Int) (hq : 0 ≤ q) (A B : Pt) : q * flen A B ≤ len q (sb B A) ∧ len q (sb B A) ≤ q * (flen A B + 1) := by
  obtain ⟨h1, h2, h3⟩ := flen_spec A B
  exact len_floor q _ _ hq h1 h2 h3
theorem hlong_plen (q : Int) (hq : 0 ≤ q) : ∀ p : List Pt, q * hlong p ≤ plen q p
  | [] => by simp [hlong, plen]
  | [A] => by simp [hlong, plen]
  | A :: B :: p => by
    have h1 := hlong_plen q hq (B :: p)
    have h2 := (flen_len q hq A B).1
    show q * (flen A B + hlong (B :: p)) ≤ len q (sb B A) + plen q (B :: p)
    rw [Int.mul_add]
    omega
theorem tot_hlong (q : Int) (hq : 0 ≤ q) (xs : Nat → Pt) : ∀ (n i : Nat) (y : Pt), tot q xs n i y ≤ q * hlong (y :: (List.range' i n).map xs) + q * n
  | 0, i, y => by simp [tot, hlong]
  | n + 1, i, y => by
    have h1 := tot_hlong q hq xs n (i + 1) (xs i)
    have h2 := (flen_len q hq y (xs i)).2
    show len q (sb (xs i) y) + tot q xs n (i + 1) (xs i) ≤ q * (flen y (xs i) + hlong (xs i :: (List.range' (i + 1) n).map xs)) + q * ((n + 1 : Nat) : Int)
    push_cast
    have e1 : q * (flen y (xs i) + hlong (xs i :: (List.range' (i + 1) n).map xs)) = q * flen y (xs i) + q * hlong (xs i :: (List.range' (i + 1) n).map xs) := by rw [Int.mul_add]
    have e2 : q * ((n : Int) + 1) = q * n + q := by rw [Int.mul_add, Int.mul_one]
    have e3 : q * (flen y (xs i) + 1) = q * flen y (xs i) + q := by rw [Int.mul_add, Int.mul_one]
    omega
/-- The length of a way that stands in reverse order. -/
noncomputable def rplen (q : Int) : List Pt → Int
  | P :: B :: p => len q (sb P B) + rplen q (B :: p)
  | _ => 0
theorem len_nonneg (q : Int) (v : Pt) : 0 ≤ len q v := (len_spec q v).1
theorem pst_plen (q : Int) (b : Pt) (r : List Pt) (p : Pt) : ∃ r', pst (b :: r) p = p :: r' ∧ rplen q (p :: r') ≤ rplen q (b :: r) + len q (sb p b) + 1 := by
  have h0 := len_nonneg q (sb p b)
  cases r with
  | nil =>
    rw [pst1]
    by_cases e : b = p
    · rw [if_pos e]; subst e; exact ⟨[], rfl, by simp [rplen]; omega⟩
    · rw [if_neg e]; exact ⟨[b], rfl, by simp [rplen]; omega⟩
  | cons a r =>
    rw [pst]
    by_cases e : b = p
    · rw [if_pos e]; subst e; exact ⟨a :: r, rfl, by omega⟩
    · rw [if_neg e]
      split
      · refine ⟨a :: r, rfl, ?_⟩
        have := len_tri q (sb b a) (sb p b) (sb p a) (by simp [sb]; omega) (by simp [sb]; omega)
        show len q (sb p a) + rplen q (a :: r) ≤ len q (sb b a) + rplen q (a :: r) + len q (sb p b) + 1
        omega
      · refine ⟨b :: a :: r, rfl, ?_⟩
        show len q (sb p b) + rplen q (b :: a :: r) ≤ _
        omega
theorem fold_plen (q : Int) : ∀ (raw : List Pt) (b : Pt) (r : List Pt), rplen q (raw.foldl pst (b :: r)) ≤ rplen q (b :: r) + plen q (b :: raw) + raw.length
  | [], b, r => by simp [plen]
  | p :: raw, b, r => by
    obtain ⟨r', e, h⟩ := pst_plen q b r p
    rw [List.foldl_cons, e]
    have := fold_plen q raw p r'
    show _ ≤ rplen q (b :: r) + (len q (sb p b) + plen q (p :: raw)) + ((raw.length + 1 : Nat) : Int)
    push_cast
    omega
theorem plen_snoc (q : Int) : ∀ (L : List Pt) (b p : Pt), plen q (L ++ [b, p]) = plen q (L ++ [b]) + len q (sb p b)
  | [], b, p => by simp [plen]
  | [a], b, p => by simp [plen]
  | a :: c :: L, b, p => by
    have := plen_snoc q (c :: L) b p
    show len q (sb c a) + plen q (c :: L ++ [b, p]) = len q (sb c a) + plen q (c :: L ++ [b]) + len q (sb p b)
    rw [this]; omega
theorem rplen_rev (q : Int) : ∀ L : List Pt, plen q L.reverse = rplen q L
  | [] => rfl
  | [a] => rfl
  | p :: b :: L => by
    have := rplen_rev q (b :: L)
    rw [List.reverse_cons] at this
    rw [List.reverse_cons, List.reverse_cons, List.append_assoc]
    show plen q (L.reverse ++ [b, p]) = len q (sb p b) + rplen q (b :: L)
    rw [plen_snoc, this]; omega
theorem pln_len (q : Int) (A : Pt) (p : List Pt) : plen q (pln (A :: p)) ≤ plen q (A :: p) + p.length := by
  unfold pln
  rw [rplen_rev]
  have := fold_plen q p A []
  simp only [List.foldl_cons]
  show rplen q (p.foldl pst [A]) ≤ _
  have e : rplen q [A] = 0 := rfl
  omega

def mid (g : Pt × Pt) : Pt := ((g.1.1 + g.2.1).tdiv 2, (g.1.2 + g.2.2).tdiv 2)
def others (G : Nat → Pt × Pt) (m : Nat) (fr tp : Pt) : List Pt := fr :: ((List.range m).map fun j => mid (G j)) ++ [tp]
theorem tdiv2 (x : Int) : -1 ≤ 2 * x.tdiv 2 - x ∧ 2 * x.tdiv 2 - x ≤ 1 := by
  have := Int.mul_tdiv_add_tmod x 2
  have h1 := Int.tmod_lt_of_pos x (show (0 : Int) < 2 by decide)
  have h2 := Int.lt_tmod_of_pos x (show (0 : Int) < 2 by decide)
  omega
def InM (M : Int) (P : Pt) : Prop := (-M ≤ P.1 ∧ P.1 ≤ M) ∧ (-M ≤ P.2 ∧ P.2 ≤ M)
theorem gts_in {M : Int} (hlt : ∀ i j, i < nc → j < z i → K i j < np) (hz : ∀ i, i < nc → 3 ≤ z i ∧ z i ≤ 4) (hX : ∀ k, k < np → InM M (X k, Y k)) (ht : InM M tp) (hs : Steps nc z K (wf l) kf m) (j : Nat) : InM M (gts X Y z K (wf l) kf m tp j).1 ∧ InM M (gts X Y z K (wf l) kf m tp j).2 := by
  unfold gts
  split
  · rename_i hj
    have hc := hs.lt j (by omega)
    have hk := (hs.first j hj).1
    have hz3 := hz _ hc
    exact ⟨hX _ (hlt _ _ hc (Nat.mod_lt _ (by omega))), hX _ (hlt _ _ hc hk)⟩
  · exact ⟨ht, ht⟩
theorem others_eq (G : Nat → Pt × Pt) (m : Nat) (fr tp : Pt) : others G m fr tp = fr :: (List.range' 0 (m + 1)).map (fun j => if j < m then mid (G j) else tp) := by
  unfold others
  rw [← List.range_eq_range', List.range_succ, List.map_append, List.cons_append]
  congr 2
  · refine List.map_congr_left fun j hj => ?_
    rw [if_pos (List.mem_range.mp hj)]
  · simp
theorem law_len {M : Int} (hM : 0 ≤ M) (h : Good np nc X Y z K) (hlt : ∀ i j, i < nc → j < z i → K i j < np) (hz : ∀ i, i < nc → 3 ≤ z i ∧ z i ≤ 4) (hX : ∀ k, k < np → InM M (X k, Y k)) (hf : InM M fr) (ht : InM M tp) (R : Route nc X Y z K fr tp i k m N F l kf) {raw : List Pt} (hp : Pul (gts X Y z K (wf l) kf m tp) (m + 1) fr 0 raw) :
    0 < (pln raw).length ∧ hlong (pln raw) ≤ hlong (others (gts X Y z K (wf l) kf m tp) m fr tp) + 4 * (m + 2) := by
  have hc := R.chn h hz
  have hin := gts_in hlt hz hX ht R.st
  obtain ⟨G, hG⟩ : ∃ G, gts X Y z K (wf l) kf m tp = G := ⟨_, rfl⟩
  have hS : Slv G (m + 1) := by rw [← hG]; exact hc.slv R.end
  have hR := hc.rooms (tp := tp)
  rw [← gts_gt, hG] at hR
  have hgm : G m = (tp, tp) := by rw [← hG]; unfold gts; rw [if_neg (Nat.lt_irrefl m)]
  rw [hG] at hp hin ⊢
  obtain ⟨xs, hxs⟩ : ∃ xs : Nat → Pt, (fun j => if j < m then mid (G j) else tp) = xs := ⟨_, rfl⟩
  have hMid : Mids G (m + 1) (2 * M) xs := by
    refine ⟨fun j hj => ?_, fun j hj => ?_, ?_, fun a b _ _ => ?_⟩
    · rw [← hxs]
      simp only [if_pos (show j < m by omega), mid]
      have := tdiv2 ((G j).1.1 + (G j).2.1)
      omega
    · rw [← hxs]
      simp only [if_pos (show j < m by omega), mid]
      have := tdiv2 ((G j).1.2 + (G j).2.2)
      omega
    · rw [← hxs, Nat.add_sub_cancel, hgm]
      simp only [if_neg (Nat.lt_irrefl m)]
    · have := hin a
      have := hin b
      unfold InM at *
      omega
  have hNear : Near G (m + 1) (2 * M) fr := fun j _ => by
    have := hin j
    unfold InM at *
    omega
  obtain ⟨q, hq⟩ := hp.head
  obtain ⟨Q, hQ⟩ : ∃ Q : Int, 12 * M * ((m + 1 : Nat) : Int) + q.length + 1 = Q := ⟨_, rfl⟩
  have hMm : 0 ≤ 12 * M * ((m + 1 : Nat) : Int) := Int.mul_nonneg (by omega) (by omega)
  have hQ0 : 0 < Q := by omega
  obtain ⟨w, _, hy⟩ := pul_len hQ0 (by omega) hS hR hMid hp (by omega) R.first hNear
  have h1 := hy fr
  have e0 : dt w (sb fr fr) = 0 := by unfold dt sb; simp
  rw [e0, Int.add_zero, Nat.sub_zero] at h1
  have h2 := tot_hlong Q (by omega) xs (m + 1) 0 fr
  have eo : fr :: (List.range' 0 (m + 1)).map xs = others G m fr tp := by rw [others_eq, hxs]
  rw [eo] at h2
  have h3 := pln_len Q fr q
  rw [← hq] at h3
  have h4 := hlong_plen Q (by omega) (pln raw)
  refine ⟨?_, ?_⟩
  · rw [hq]
    obtain ⟨r', hr'⟩ : ∃ b r', q.foldl pst [fr] = b :: r' := by
      have : ∀ (q : List Pt) (b : Pt) (r : List Pt), ∃ b' r', q.foldl pst (b :: r) = b' :: r' := by
        intro q
        induction q with
        | nil => exact fun b r => ⟨b, r, rfl⟩
        | cons p q ih =>
          intro b r
          obtain ⟨r', e, _⟩ := pst_plen 0 b r p
          rw [List.foldl_cons, e]
          exact ih p r'
      exact this q fr []
    obtain ⟨r'', e⟩ := hr'
    unfold pln
    rw [List.length_reverse]
    have e1 : (fr :: q).foldl pst [] = q.foldl pst [fr] := rfl
    rw [e1, e]
    simp
  · generalize hlong (pln raw) = a at *
    generalize hlong (others G m fr tp) = o at *
    generalize tot Q xs (m + 1) 0 fr = t at *
    generalize plen Q raw = pr at *
    have key : Q * a < Q * (o + 3 * ((m + 1 : Nat) : Int) + 1) := by
      have e1 : Q * (o + 3 * ((m + 1 : Nat) : Int) + 1) = Q * o + 3 * (Q * ((m + 1 : Nat) : Int)) + Q := by grind
      have e2 : (12 * (2 * M) + 4 * Q) * ((m + 1 : Nat) : Int) = 2 * (12 * M * ((m + 1 : Nat) : Int)) + 4 * (Q * ((m + 1 : Nat) : Int)) := by grind
      rw [e2] at h1
      rw [e1]
      generalize Q * ((m + 1 : Nat) : Int) = u at *
      generalize 12 * M * ((m + 1 : Nat) : Int) = v at *
      generalize Q * o = uo at *
      generalize Q * a = ua at *
      omega
    have := Int.lt_of_mul_lt_mul_left key (by omega)
    push_cast at this
    omega
end Go.Proofs.Ytaiflkjchbpphaa.P
namespace Go.Proofs.Ytaiflkjchbpphaa.P

def dbl (P : Pt) : Pt := (2 * P.1, 2 * P.2)
theorem cr_dbl (a b c : Pt) : cr (dbl a) (dbl b) (dbl c) = 4 * cr a b c := by unfold cr cx sb dbl; grind
theorem dbl_inj {a b : Pt} (h : dbl a = dbl b) : a = b := by
  have h1 := congrArg Prod.fst h
  have h2 := congrArg Prod.snd h
  simp only [dbl] at h1 h2
  exact Prod.ext (by omega) (by omega)
def dG (G : Nat → Pt × Pt) (j : Nat) : Pt × Pt := (dbl (G j).1, dbl (G j).2)
/-- In one of the cells of the way, doubled. -/
def Ok (m : Nat) (s : Nat → Nat) (V : Nat → Nat → Pt) (M : Pt) : Prop := ∃ j, j ≤ m ∧ ∀ e, e < s j → 0 ≤ cr (dbl (V j e)) (dbl (V j ((e + 1) % s j))) M
variable {m : Nat} {s : Nat → Nat} {V : Nat → Nat → Pt} {kx jn : Nat → Nat} {tp : Pt}
theorem Chn.gate (h : Chn m s V kx jn) {j : Nat} (hj : j < m) : (In (s j) (V j) (Gt m s V kx tp j).1 ∧ In (s j) (V j) (Gt m s V kx tp j).2) ∧ (In (s (j + 1)) (V (j + 1)) (Gt m s V kx tp j).1 ∧ In (s (j + 1)) (V (j + 1)) (Gt m s V kx tp j).2) := by
  rw [Gt.lt hj]
  have h1 := h.cx j (by omega)
  have h2 := h.cx (j + 1) (by omega)
  have k1 := h.kl j hj
  have k2 := h.jl j hj
  refine ⟨⟨h1.corner (Nat.mod_lt _ (by omega)), h1.corner k1⟩, ?_, ?_⟩
  · simp only; rw [← h.le j hj]; exact h2.corner k2
  · simp only; rw [← h.ri j hj]; exact h2.corner (Nat.mod_lt _ (by omega))
theorem pul_in (hc : Chn m s V kx jn) (ht : In (s m) (V m) tp) {A : Pt} {i : Nat} {raw : List Pt} (h : Pul (Gt m s V kx tp) (m + 1) A i raw) (hC : i ≤ m → In (s i) (V i) A) :
    ∀ (k : Nat) (a b : Pt), raw[k]? = some a → raw[k + 1]? = some b → a ≠ b ∧ ∀ M, Seg (dbl a) (dbl b) M → Ok m s V M := by
  have hS := hc.slv ht
  have hR := hc.rooms (tp := tp)
  induction h with
  | stop A => intro k a b _ hb; simp at hb
  | skip A i p hi hon h ih =>
    exact ih (fun hi1 => hR.next i A (by omega) hon)
  | turn A i P x p hi hon hT h ih =>
    have hCi := hC (by omega)
    have hTd : Turned (Gt m s V kx tp) (m + 1) A i P x := by
      refine turn_ok hS hi hT ?_
      by_cases him : i < m
      · left
        refine ⟨by omega, ?_⟩
        have h1 := hR.ahead i A (by omega) hCi
        have h2 : cr A (Gt m s V kx tp i).2 (Gt m s V kx tp i).1 ≠ 0 := fun e => hon (hR.on i A (by omega) hCi e)
        omega
      · right
        obtain rfl : i = m := by omega
        refine ⟨rfl, fun e => hon ?_⟩
        rw [← e]
        exact on_left _
    obtain ⟨x1, x2, hne, hcross, _, _, hkind⟩ := hTd
    have hPx : In (s (x - 1)) (V (x - 1)) P := by
      rcases hkind with ⟨e1, e2⟩ | ⟨e1, e2, _⟩ | ⟨e1, e2, _⟩
      · rw [e2, Nat.add_sub_cancel, Gt.at, show x - 1 = m by omega]; exact ht
      · rw [e2]; exact (hc.gate (by omega)).1.1
      · rw [e2]; exact (hc.gate (by omega)).1.2
    have hPn : x ≤ m → In (s x) (V x) P := fun hxm => by
      have e0 : x = x - 1 + 1 := by omega
      rcases hkind with ⟨e1, e2⟩ | ⟨e1, e2, _⟩ | ⟨e1, e2, _⟩
      · omega
      · rw [e2, e0, Nat.add_sub_cancel]; exact (hc.gate (by omega)).2.1
      · rw [e2, e0, Nat.add_sub_cancel]; exact (hc.gate (by omega)).2.2
    obtain ⟨q, hq⟩ := h.head
    intro k a b ha hb
    cases k with
    | succ k => exact ih hPn k a b (by simpa using ha) (by simpa using hb)
    | zero =>
      obtain rfl : A = a := by simpa using ha
      rw [hq] at hb
      obtain rfl : P = b := by simpa using hb
      refine ⟨fun e => hne e.symm, fun M hM => ?_⟩
      have hx1 : x - i - 1 + i = x - 1 := by omega
      obtain ⟨j, j1, j2, j3⟩ := piece_in (G := fun j => dG (Gt m s V kx tp) (j + i)) (S := fun j u v => ∃ e, e < s (j + i) ∧ u = dbl (V (j + i) e) ∧ v = dbl (V (j + i) ((e + 1) % s (j + i)))) (x := x - i) (fun e => hne (dbl_inj e)) hM
        (fun j hj u v huv => by
          have hg := hc.gate (tp := tp) (j := j + i) (by omega)
          rw [show j + 1 + i = j + i + 1 by omega] at huv
          rcases huv with ⟨e, he, rfl, rfl⟩ | ⟨e, he, rfl, rfl⟩
          · unfold dG
            simp only
            rw [cr_dbl, cr_dbl]
            have := hg.1.1 e he
            have := hg.1.2 e he
            omega
          · unfold dG
            simp only
            rw [cr_dbl, cr_dbl]
            have := hg.2.1 e he
            have := hg.2.2 e he
            omega)
        (fun j hj => by
          unfold dG
          simp only
          rw [cr_dbl, cr_dbl]
          have := hcross (j + i) (by omega) (by omega)
          omega)
        (fun u v huv => by
          rw [hx1] at huv
          obtain ⟨e, he, rfl, rfl⟩ := huv
          rw [cr_dbl]
          have := hPx e he
          omega)
        (x - i - 1) 0 (by omega) (dbl A) (dbl A) 1 1 (by omega) (by omega) (by omega)
        (by
          have := hM.ln
          have e : cx (sb (dbl P) (dbl A)) (sb (dbl A) M) = - cx (sb (dbl P) (dbl A)) (sb M (dbl A)) := by unfold cx sb; grind
          rw [e]; omega)
        (by
          have := hM.fr
          have e : dt (sb (dbl P) (dbl A)) (sb (dbl A) M) = - dt (sb (dbl P) (dbl A)) (sb M (dbl A)) := by unfold dt sb; grind
          rw [e]; omega)
        (fun u v huv => by
          rw [Nat.zero_add] at huv
          obtain ⟨e, he, rfl, rfl⟩ := huv
          rw [cr_dbl]
          have := hCi e he
          omega)
      exact ⟨j + i, by omega, fun e he => j3 _ _ ⟨e, he, rfl, rfl⟩⟩

/-! ### straight pieces put together -/
def Pairs (Q : Pt → Pt → Prop) (L : List Pt) : Prop := ∀ (k : Nat) (a b : Pt), L[k]? = some a → L[k + 1]? = some b → a ≠ b ∧ Q a b
def RPairs (Q : Pt → Pt → Prop) : List Pt → Prop
  | p :: b :: r => (b ≠ p ∧ Q b p) ∧ RPairs Q (b :: r)
  | _ => True
theorem Pairs.tail {Q : Pt → Pt → Prop} {A : Pt} {L : List Pt} (h : Pairs Q (A :: L)) : Pairs Q L := fun k a b h1 h2 => h (k + 1) a b (by simpa using h1) (by simpa using h2)
theorem btw_ne {a b p : Pt} (hab : a ≠ b) (h : Btw a b p) : a ≠ p := fun e => by
  subst e
  unfold Btw at h
  obtain ⟨h1, h2⟩ := h
  have key : ∀ x y : Int, 0 ≤ (y - x) * (x - y) → x = y := fun x y h => by
    have e : (y - x) * (x - y) = - ((y - x) * (y - x)) := by grind
    have := sqn (y - x)
    have e0 : (y - x) * (y - x) = 0 := by omega
    rcases Int.mul_eq_zero.mp e0 with h | h <;> omega
  exact hab (Prod.ext (key _ _ h1) (key _ _ h2))
theorem pst_pairs {Q : Pt → Pt → Prop} (hQ : ∀ a b p, a ≠ b → b ≠ p → cr a b p = 0 → Btw a b p → Q a b → Q b p → Q a p) {b : Pt} {r : List Pt} {p : Pt} (h : RPairs Q (b :: r)) (hb : b ≠ p ∧ Q b p) : ∃ r', pst (b :: r) p = p :: r' ∧ RPairs Q (p :: r') := by
  cases r with
  | nil => rw [pst1, if_neg hb.1]; exact ⟨[b], rfl, hb, trivial⟩
  | cons a r =>
    rw [pst, if_neg hb.1]
    split
    · rename_i hc
      obtain ⟨⟨h1, h2⟩, h3⟩ := h
      exact ⟨a :: r, rfl, ⟨btw_ne h1 hc.2, hQ a b p h1 hb.1 hc.1 hc.2 h2 hb.2⟩, h3⟩
    · exact ⟨b :: a :: r, rfl, hb, h⟩
theorem fold_pairs {Q : Pt → Pt → Prop} (hQ : ∀ a b p, a ≠ b → b ≠ p → cr a b p = 0 → Btw a b p → Q a b → Q b p → Q a p) : ∀ (raw : List Pt) (b : Pt) (r : List Pt), RPairs Q (b :: r) → Pairs Q (b :: raw) → RPairs Q (raw.foldl pst (b :: r))
  | [], b, r, h, _ => h
  | p :: raw, b, r, h, hp => by
    obtain ⟨r', e, h'⟩ := pst_pairs hQ h (hp 0 b p rfl rfl)
    rw [List.foldl_cons, e]
    exact fold_pairs hQ raw p r' h' hp.tail
theorem pairs_rev {Q : Pt → Pt → Prop} : ∀ (L : List Pt), RPairs Q L → Pairs Q L.reverse
  | [], _ => fun k a b h _ => by simp at h
  | [x], _ => fun k a b _ h => by simp at h
  | p :: b :: r, ⟨h1, h2⟩ => fun k x y hx hy => by
    have ih := pairs_rev (b :: r) h2
    rw [List.reverse_cons] at hx hy
    have hl : (b :: r).reverse.length = r.length + 1 := by simp
    by_cases hk : k + 1 < (b :: r).reverse.length
    · rw [List.getElem?_append_left (by omega)] at hx
      rw [List.getElem?_append_left hk] at hy
      exact ih k x y hx hy
    · have hk2 : k + 1 = (b :: r).reverse.length := by
        rcases Nat.lt_or_ge (k + 1) ((b :: r).reverse.length + 1) with h | h
        · omega
        · rw [List.getElem?_eq_none (by simp at h ⊢; omega)] at hy; cases hy
      rw [List.getElem?_append_left (by omega)] at hx
      rw [List.getElem?_append_right (by omega), hk2, Nat.sub_self] at hy
      obtain rfl : p = y := by simpa using hy
      rw [List.reverse_cons, List.getElem?_append_right (by simp at hk2 ⊢; omega)] at hx
      have e : k - r.reverse.length = 0 := by simp at hk2 ⊢; omega
      rw [e] at hx
      obtain rfl : b = x := by simpa using hx
      exact h1
theorem pln_pairs {Q : Pt → Pt → Prop} (hQ : ∀ a b p, a ≠ b → b ≠ p → cr a b p = 0 → Btw a b p → Q a b → Q b p → Q a p) {A : Pt} {raw : List Pt} (h : Pairs Q (A :: raw)) : Pairs Q (pln (A :: raw)) := by
  unfold pln
  exact pairs_rev _ (fold_pairs hQ raw A [] trivial h)
/-- The middle of a piece of the answer lies in a cell. -/
theorem mid_ok (hc : Chn m s V kx jn) (ht : In (s m) (V m) tp) {A : Pt} {raw : List Pt} (h : Pul (Gt m s V kx tp) (m + 1) A 0 raw) (hC : In (s 0) (V 0) A) {k : Nat} {a b : Pt} (ha : (pln raw)[k]? = some a) (hb : (pln raw)[k + 1]? = some b) : Ok m s V (a.1 + b.1, a.2 + b.2) := by
  have hp : Pairs (fun a b => ∀ M, Seg (dbl a) (dbl b) M → Ok m s V M) raw := pul_in hc ht h (fun _ => hC)
  obtain ⟨q, hq⟩ := h.head
  rw [hq] at hp ha hb
  have := pln_pairs (Q := fun a b => ∀ M, Seg (dbl a) (dbl b) M → Ok m s V M) (fun a b p hab hbp hcr hbt h1 h2 M hM => by
    obtain ⟨b1, b2⟩ := hbt
    rcases seg_split (fun e => hab (dbl_inj e)) (fun e => hbp (dbl_inj e)) (by rw [cr_dbl, hcr]; rfl)
      (by have e : ((dbl b).1 - (dbl a).1) * ((dbl p).1 - (dbl b).1) = 4 * ((b.1 - a.1) * (p.1 - b.1)) := by unfold dbl; grind
          rw [e]; omega)
      (by have e : ((dbl b).2 - (dbl a).2) * ((dbl p).2 - (dbl b).2) = 4 * ((b.2 - a.2) * (p.2 - b.2)) := by unfold dbl; grind
          rw [e]; omega) hM with h | h
    · exact h1 M h
    · exact h2 M h) hp k a b ha hb
  refine this.2 _ ⟨?_, ?_, ?_⟩
  · unfold cx sb dbl; grind
  · have e : dt (sb (dbl b) (dbl a)) (sb (a.1 + b.1, a.2 + b.2) (dbl a)) = 2 * dt (sb b a) (sb b a) := by unfold dt sb dbl; grind
    rw [e]
    have := dt_nonneg (sb b a)
    omega
  · have e : dt (sb (dbl b) (dbl a)) (sb (dbl b) (a.1 + b.1, a.2 + b.2)) = 2 * dt (sb b a) (sb b a) := by unfold dt sb dbl; grind
    rw [e]
    have := dt_nonneg (sb b a)
    omega
end Go.Proofs.Ytaiflkjchbpphaa.P
