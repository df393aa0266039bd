/- mesh.plain. -/
import Derived.Test.YtaiflkjchbpphaaPk
import Derived.Laws.StructEq
namespace Go.Proofs.Ytaiflkjchbpphaa.P
open Go.RowKit

/-- One point more: the points so far stand in reverse order. -/
def pst : List Pt → Pt → List Pt
  | [], p => [p]
  | [b], p => if b = p then [b] else [p, b]
  | b :: a :: r, p => if b = p then b :: a :: r else if cr a b p = 0 ∧ Btw a b p then p :: a :: r else p :: b :: a :: r
def pln (L : List Pt) : List Pt := (L.foldl pst []).reverse
def it (P : Pt) : Itm := ⟨0, P.1, P.2⟩
/-- The points' coordinates, flat. -/
def fl (L : List Pt) : List Value := flat (L.map it)
theorem fl_length (L : List Pt) : (fl L).length = L.length * 2 := by unfold fl; rw [flat_length, List.length_map]
theorem fl_get (L : List Pt) (k : Nat) (P : Pt) (h : L[k]? = some P) : (fl L)[k * 2]? = some (.int .i64 P.1) ∧ (fl L)[k * 2 + 1]? = some (.int .i64 P.2) := by
  have hk : k < L.length := by
    rcases Nat.lt_or_ge k L.length with h1 | h1
    · exact h1
    · rw [List.getElem?_eq_none h1] at h; cases h
  obtain ⟨a, b⟩ := flat_get (L.map it) k (by simpa using hk)
  have e : at' (L.map it) k = it P := by unfold at'; rw [List.getElem?_map, h]; rfl
  rw [e] at a b
  exact ⟨a, b⟩
theorem fl_append (A : List Pt) (P : Pt) : fl (A ++ [P]) = fl A ++ [.int .i64 P.1, .int .i64 P.2] := by
  unfold fl
  rw [List.map_append, flat_append]
  rfl
theorem fl_set (L : List Pt) (P : Pt) (i : Nat) (h : i < L.length) : fl (L.set i P) = ((fl L).set (i * 2) (.int .i64 P.1)).set (i * 2 + 1) (.int .i64 P.2) := by
  unfold fl
  rw [List.map_set, flat_set _ _ _ (by simpa using h)]
  rfl
/-- Points in a block, in a row. -/
def Ptl (w : World) (g : Nat) (L : List Pt) : Prop := ∀ (k : Nat) (P : Pt), L[k]? = some P → w.cell? ⟨g, k * 2, none⟩ = some (.int .i64 P.1) ∧ w.cell? ⟨g, k * 2 + 1, none⟩ = some (.int .i64 P.2)
def SmallL (L : List Pt) : Prop := ∀ P ∈ L, Small P

theorem pst1 (b p : Pt) : pst [b] p = if b = p then [b] else [p, b] := rfl
theorem pst2 (b a : Pt) (r : List Pt) (p : Pt) : pst (b :: a :: r) p = if b = p then b :: a :: r else if cr a b p = 0 ∧ Btw a b p then p :: a :: r else p :: b :: a :: r := rfl
theorem pst_small {R : List Pt} {p : Pt} (h : SmallL R) (hp : Small p) : SmallL (pst R p) := by
  intro x hx
  match R, h with
  | [], _ => simp [pst] at hx; subst hx; exact hp
  | [b], h =>
    rw [pst1] at hx
    by_cases e : b = p
    · rw [if_pos e] at hx; exact h x hx
    · rw [if_neg e] at hx
      rcases List.mem_cons.1 hx with rfl | hx
      · exact hp
      · exact h x hx
  | b :: a :: r, h =>
    rw [pst2] at hx
    by_cases e : b = p
    · rw [if_pos e] at hx; exact h x hx
    · rw [if_neg e] at hx
      by_cases e2 : cr a b p = 0 ∧ Btw a b p
      · rw [if_pos e2] at hx
        rcases List.mem_cons.1 hx with rfl | hx
        · exact hp
        · exact h x (List.mem_cons_of_mem _ hx)
      · rw [if_neg e2] at hx
        rcases List.mem_cons.1 hx with rfl | hx
        · exact hp
        · exact h x hx
theorem pst_len (R : List Pt) (p : Pt) : (pst R p).length ≤ R.length + 1 := by
  match R with
  | [] => simp [pst]
  | [b] =>
    rw [pst1]
    by_cases e : b = p
    · rw [if_pos e]; simp
    · rw [if_neg e]; simp
  | b :: a :: r =>
    rw [pst2]
    by_cases e : b = p
    · rw [if_pos e]; simp
    · rw [if_neg e]
      by_cases e2 : cr a b p = 0 ∧ Btw a b p
      · rw [if_pos e2]; simp
      · rw [if_neg e2]; simp
theorem fold_len (L : List Pt) : ∀ R : List Pt, (L.foldl pst R).length ≤ R.length + L.length := by
  induction L with
  | nil => intro R; simp
  | cons p L ih =>
    intro R
    have := ih (pst R p)
    have := pst_len R p
    simp only [List.foldl_cons, List.length_cons]
    omega
theorem fold_small (L : List Pt) : ∀ R : List Pt, SmallL R → SmallL L → SmallL (L.foldl pst R) := by
  induction L with
  | nil => intro R h _; exact h
  | cons p L ih => intro R h k; exact ih _ (pst_small h (k p (by simp))) (fun x hx => k x (List.mem_cons_of_mem _ hx))

/-- The box of a point, and the points so far. -/
structure Pbx (B : Nat) (w0 : World) (v : Value) (R : List Pt) (m xb : Nat) (p : Pt) (w : World) : Prop where
  own : w.ownsRow B 24 2 v m (fl R.reverse)
  bel : Below B w0 w
  sz : B ≤ w.heap.size
  bx : At w xb p
theorem Pbx.on {B : Nat} {w0 : World} {v : Value} {R : List Pt} {m xb : Nat} {p : Pt} {w w' : World} (h : Pbx B w0 v R m xb p w) (hb : Below w.heap.size w w') : Pbx B w0 v R m xb p w' :=
  ⟨owns_below h.own hb (Nat.le_refl _), h.bel.trans (hb.mono h.sz), Nat.le_trans h.sz hb.size, h.bx.on hb⟩
theorem Pbx.begin {B : Nat} {w0 : World} {v : Value} {R : List Pt} {m : Nat} {p : Pt} {w : World} (h : w.ownsRow B 24 2 v m (fl R.reverse)) (hb : Below B w0 w) (hB : B ≤ w.heap.size) :
    Pbx B w0 v R m w.heap.size p (w.alloc (Obj.cells #[.int .i64 p.1, .int .i64 p.2] 24)) :=
  ⟨h.alloc _, hb.alloc hB _, by simp; omega, by refine ⟨?_, ?_, ?_, ?_, by simp⟩ <;> simp [go_sem]⟩

/-- The same, with the last point b. -/
structure Pb1 (B : Nat) (w0 : World) (v : Value) (R : List Pt) (m xb : Nat) (p : Pt) (gv t : Nat) (b : Pt) (w : World) : Prop where
  own : w.ownsRow B 24 2 v m (fl R.reverse)
  bel : Below B w0 w
  sz : B ≤ w.heap.size
  bx : At w xb p
  e0 : w.cell? ⟨gv, t * 2, none⟩ = some (.int .i64 b.1)
  e1 : w.cell? ⟨gv, t * 2 + 1, none⟩ = some (.int .i64 b.2)
  gl : gv < w.heap.size
  gf : w.frozen? ⟨gv, t * 2, none⟩ = false ∧ w.frozen? ⟨gv, t * 2 + 1, none⟩ = false
theorem Pb1.on {B : Nat} {w0 : World} {v : Value} {R : List Pt} {m xb : Nat} {p : Pt} {gv t : Nat} {b : Pt} {w w' : World} (h : Pb1 B w0 v R m xb p gv t b w) (hb : Below w.heap.size w w') : Pb1 B w0 v R m xb p gv t b w' :=
  ⟨owns_below h.own hb (Nat.le_refl _), h.bel.trans (hb.mono h.sz), Nat.le_trans h.sz hb.size, h.bx.on hb, (hb.cell (p := ⟨gv, t * 2, none⟩) h.gl).trans h.e0, (hb.cell (p := ⟨gv, t * 2 + 1, none⟩) h.gl).trans h.e1, Nat.lt_of_lt_of_le h.gl hb.size, (hb.frozen (p := ⟨gv, t * 2, none⟩) h.gl).trans h.gf.1, (hb.frozen (p := ⟨gv, t * 2 + 1, none⟩) h.gl).trans h.gf.2⟩
/-- The same, with the point a before it. -/
structure Pb2 (B : Nat) (w0 : World) (v : Value) (R : List Pt) (m xb : Nat) (p : Pt) (gv t : Nat) (b : Pt) (u : Nat) (a : Pt) (w : World) : Prop where
  own : w.ownsRow B 24 2 v m (fl R.reverse)
  bel : Below B w0 w
  sz : B ≤ w.heap.size
  bx : At w xb p
  e0 : w.cell? ⟨gv, t * 2, none⟩ = some (.int .i64 b.1)
  e1 : w.cell? ⟨gv, t * 2 + 1, none⟩ = some (.int .i64 b.2)
  gl : gv < w.heap.size
  gf : w.frozen? ⟨gv, t * 2, none⟩ = false ∧ w.frozen? ⟨gv, t * 2 + 1, none⟩ = false
  f0 : w.cell? ⟨gv, u * 2, none⟩ = some (.int .i64 a.1)
  f1 : w.cell? ⟨gv, u * 2 + 1, none⟩ = some (.int .i64 a.2)
theorem Pb2.on {B : Nat} {w0 : World} {v : Value} {R : List Pt} {m xb : Nat} {p : Pt} {gv t : Nat} {b : Pt} {u : Nat} {a : Pt} {w w' : World} (h : Pb2 B w0 v R m xb p gv t b u a w) (hb : Below w.heap.size w w') : Pb2 B w0 v R m xb p gv t b u a w' :=
  ⟨owns_below h.own hb (Nat.le_refl _), h.bel.trans (hb.mono h.sz), Nat.le_trans h.sz hb.size, h.bx.on hb, (hb.cell (p := ⟨gv, t * 2, none⟩) h.gl).trans h.e0, (hb.cell (p := ⟨gv, t * 2 + 1, none⟩) h.gl).trans h.e1, Nat.lt_of_lt_of_le h.gl hb.size, ⟨(hb.frozen (p := ⟨gv, t * 2, none⟩) h.gl).trans h.gf.1, (hb.frozen (p := ⟨gv, t * 2 + 1, none⟩) h.gl).trans h.gf.2⟩, (hb.cell (p := ⟨gv, u * 2, none⟩) h.gl).trans h.f0, (hb.cell (p := ⟨gv, u * 2 + 1, none⟩) h.gl).trans h.f1⟩
theorem Pbx.one {B : Nat} {w0 : World} {gv cp : Nat} {b : Pt} {rest : List Pt} {m t xb : Nat} {p : Pt} {w : World} (h : Pbx B w0 (.slice (some ⟨gv, 0, none⟩) m cp) (b :: rest) m xb p w) (hm : m = t + 1) (hl : (b :: rest).length = m) : Pb1 B w0 (.slice (some ⟨gv, 0, none⟩) m cp) (b :: rest) m xb p gv t b w := by
  obtain ⟨h1, h2, h3, h4, h5, h6⟩ := owns_at h.own
  have hg : (b :: rest).reverse[t]? = some b := by
    rw [List.reverse_cons, List.getElem?_append_right (by simp at hl; simp; omega)]
    simp at hl
    simp [show t - rest.length = 0 by omega]
  obtain ⟨a1, a2⟩ := fl_get _ _ _ hg
  exact ⟨h.own, h.bel, h.sz, h.bx, (h5 _ (by omega)).trans a1, (h5 _ (by omega)).trans a2, h2, h6 _, h6 _⟩
theorem Pb1.two {B : Nat} {w0 : World} {gv cp : Nat} {b a : Pt} {rest : List Pt} {m t u xb : Nat} {p : Pt} {w : World} (h : Pb1 B w0 (.slice (some ⟨gv, 0, none⟩) m cp) (b :: a :: rest) m xb p gv t b w) (hm : m = u + 2) (hl : (b :: a :: rest).length = m) : Pb2 B w0 (.slice (some ⟨gv, 0, none⟩) m cp) (b :: a :: rest) m xb p gv t b u a w := by
  obtain ⟨h1, h2, h3, h4, h5, h6⟩ := owns_at h.own
  have hg : (b :: a :: rest).reverse[u]? = some a := by
    rw [List.reverse_cons, List.reverse_cons]
    simp at hl
    rw [List.getElem?_append_left (by simp; omega), List.getElem?_append_right (by simp; omega)]
    simp [show u - rest.length = 0 by omega]
  obtain ⟨a1, a2⟩ := fl_get _ _ _ hg
  exact ⟨h.own, h.bel, h.sz, h.bx, h.e0, h.e1, h.gl, h.gf, (h5 _ (by omega)).trans a1, (h5 _ (by omega)).trans a2⟩
def peq (a b c d : Int) : Bool := a == c && b == d
theorem run_peq (a b c d : Int) (w : World) : (binOp .eql 24 (.agg #[.int .i64 a, .int .i64 b]) (.agg #[.int .i64 c, .int .i64 d])).run Try.prog w = .ok (.bool (peq a b c d)) w := by
  have h3 : ∀ (n : Nat) (x y : Int) (w : World), (Op.equalIn (n + 1) 3 (.int .i64 x) (.int .i64 y)).run Try.prog w = .ok (x == y) w := fun n x y w => run_equalIn_int w n 3 .i64 .i64 x y Try.underlying3
  rw [run_eql_struct, run_equalIn_struct w 9999 24 _ _ (by kernel_rfl) (by kernel_rfl)]
  have hf : (Try.prog.fieldsOf 24).toList.map (fun f => (f.name, f.type, f.offset)) = [("X", 3, 0), ("Y", 3, 1)] := by kernel_rfl
  obtain ⟨f1, f2, hfs⟩ : ∃ f1 f2, (Try.prog.fieldsOf 24).toList = [f1, f2] := by
    generalize (Try.prog.fieldsOf 24).toList = l at hf
    have hl := congrArg List.length hf
    simp only [List.length_map, List.length_cons, List.length_nil] at hl
    cases l with
    | nil => cases hl
    | cons f1 l =>
      cases l with
      | nil => cases hl
      | cons f2 l =>
        cases l with
        | nil => exact ⟨f1, f2, rfl⟩
        | cons _ _ => simp at hl
  rw [hfs] at hf ⊢
  simp only [List.map_cons, List.map_nil, List.cons.injEq, Prod.mk.injEq, and_true] at hf
  obtain ⟨⟨n1, t1, o1⟩, ⟨n2, t2, o2⟩⟩ := hf
  simp only [Op.eqFields, n1, t1, o1, n2, t2, o2]
  by_cases h1 : a = c
  · by_cases h2 : b = d
    · simp [h1, h2, go_sem, h3, peq]
    · simp [h1, h2, go_sem, h3, peq]
  · simp [h1, go_sem, h3, peq]
attribute [local go_sem ↓] run_peq
theorem peq_true (P Q : Pt) : peq P.1 P.2 Q.1 Q.2 = true ↔ P = Q := by
  unfold peq
  rw [Bool.and_eq_true, beq_iff_eq, beq_iff_eq]
  exact ⟨fun ⟨h1, h2⟩ => Prod.ext h1 h2, fun h => by rw [h]; exact ⟨rfl, rfl⟩⟩

theorem pst_same (b : Pt) (r : List Pt) : pst (b :: r) b = b :: r := by
  cases r with
  | nil => rw [pst1, if_pos rfl]
  | cons a r => rw [pst2, if_pos rfl]
theorem rev_set (b p a : Pt) (r : List Pt) (t : Nat) (ht : t = r.length + 1) : (b :: a :: r).reverse.set t p = (p :: a :: r).reverse := by
  rw [List.reverse_cons, List.reverse_cons, List.reverse_cons, List.reverse_cons]
  rw [List.set_append_right _ _ (by simp; omega)]
  simp [ht]
theorem Pb2.put {B : Nat} {w0 : World} {gv cp : Nat} {b a : Pt} {r : List Pt} {m t u xb : Nat} {p : Pt} {w : World} (h : Pb2 B w0 (.slice (some ⟨gv, 0, none⟩) m cp) (b :: a :: r) m xb p gv t b u a w) (ht : t = r.length + 1) :
    ((w.setCell ⟨gv, t * 2, none⟩ (.int .i64 p.1)).setCell ⟨gv, t * 2 + 1, none⟩ (.int .i64 p.2)).ownsRow B 24 2 (.slice (some ⟨gv, 0, none⟩) m cp) m (fl (p :: a :: r).reverse) ∧ Below B w0 ((w.setCell ⟨gv, t * 2, none⟩ (.int .i64 p.1)).setCell ⟨gv, t * 2 + 1, none⟩ (.int .i64 p.2)) := by
  have hB := (owns_at h.own).1
  have o1 := (h.own.stored (t * 2) (.int .i64 p.1)).1
  have o2 := (o1.stored (t * 2 + 1) (.int .i64 p.2)).1
  refine ⟨?_, (h.bel.setCell (p := ⟨gv, t * 2, none⟩) hB _).setCell (p := ⟨gv, t * 2 + 1, none⟩) hB _⟩
  rw [← rev_set b p a r t ht, fl_set _ _ _ (by simp; omega)]
  exact o2

/-- What plain answers. -/
def Plained (L : List Pt) (w : World) (e : Ending) (w' : World) : Prop := ∃ v, e = .returned v ∧ w'.ownsRow w.heap.size 24 2 v (pln L).length (fl (pln L)) ∧ Below w.heap.size w w'

set_option maxRecDepth 8000 in
set_option maxHeartbeats 4000000 in
theorem plain_any (g n cap : Nat) (L : List Pt) (w : World) (h : Ptl w g L) (hg : g < w.heap.size) (hn : L.length = n) (hn2 : n ≤ 1000) (hs : SmallL L) :
    Calls Try.prog 36 #[.slice (some ⟨g, 0, none⟩) n cap] w (Plained L w) := by
  obtain ⟨i0, hi0, hz0, hz1, hz2⟩ := info_parts Try.info24
  have HL := Lib.hid h
  have HS := Lib.hid hs
  have HN := Lib.hid hn
  obtain ⟨B, hB⟩ : ∃ B, w.heap.size = B := ⟨_, rfl⟩
  have hgB : g < B := by omega
  clear h hs hn
  go_enter Try.func36, Try.ntmps36
  go_wp2_with fail
  go_loopw [3, 9] (fun v3 v9 wr => ∃ (j m : Nat) (R : List Pt), v9 = .int .i64 j ∧ j ≤ n ∧ Hid (R = (L.take j).foldl pst [] ∧ R.length = m ∧ wr.ownsRow B 24 2 v3 m (fl R.reverse) ∧ Below B w wr)) (fun _ v9 _ => n - (intOf v9).toNat)
  case atStart => exact ⟨0, 0, [], rfl, Nat.zero_le _, rfl, rfl, World.ownsRow_nil _ _ _ _, Below.refl _ _⟩
  case round =>
    obtain ⟨j, m, R, rfl, hj, hR⟩ := hrel
    have hwB : Hid (B ≤ wr.heap.size) := by have := hR.out.2.2.2.size; rw [hB] at this; exact this
    by_cases h0 : j = n
    · have i1 : ¬ (j : Int) < (n : Int) := by omega
      have HJ := Lib.hid h0
      clear h0
      go_wp2_with fail
      go_ret
      refine ⟨_, rfl, ?_, hB ▸ hR.out.2.2.2⟩
      have e : pln L = R.reverse := by
        unfold pln
        rw [hR.out.1, HJ.out, ← HN.out, List.take_length]
      rw [e, List.length_reverse, hR.out.2.1, hB]
      exact hR.out.2.2.1
    · have hjn : j < n := by omega
      have i1 : (j : Int) < (n : Int) := by omega
      obtain ⟨p, hp⟩ : ∃ p, L[j]? = some p := ⟨L[j]'(by rw [HN.out]; exact hjn), List.getElem?_eq_getElem _⟩
      obtain ⟨c0, c1⟩ := HL.out j p hp
      have d0 := (hR.out.2.2.2.cell (p := ⟨g, j * 2, none⟩) hgB).trans c0
      have d1 := (hR.out.2.2.2.cell (p := ⟨g, j * 2 + 1, none⟩) hgB).trans c1
      have hps : Small p := HS.out p (List.mem_of_getElem? hp)
      have hgw : g < wr.heap.size := by have := hwB.out; omega
      have hnx : Hid (pst R p = (L.take (j + 1)).foldl pst []) := by
        show pst R p = (L.take (j + 1)).foldl pst []
        rw [List.take_add_one, hp, Option.toList_some, List.foldl_append, ← hR.out.1]
        rfl
      have hml : Hid (m ≤ j) := by
        have := fold_len (L.take j) []
        rw [← hR.out.1, hR.out.2.1] at this
        simp at this
        show m ≤ j
        omega
      have hRS : Hid (SmallL R) := by
        rw [hR.out.1]
        exact fold_small _ _ (fun x hx => by cases hx) (fun x hx => HS.out x (List.mem_of_mem_take hx))
      obtain ⟨px, py⟩ := p
      simp only at d0 d1
      clear c0 c1 hp h0
      have hml2 := hml.out
      have hlen0 := Lib.hid hR.out.2.1
      by_cases hm0 : m = 0
      · obtain ⟨ao, cp, rfl, _⟩ := owns_source hR.out.2.2.1
        have hRn : R = [] := List.eq_nil_of_length_eq_zero (by rw [hR.out.2.1]; exact hm0)
        have HRn : Hid (pst R (px, py) = (px, py) :: R) := by rw [hRn]; rfl
        have m1 : ¬ (0 : Int) < (m : Int) := by omega
        have m2 : decide ((0 : Int) < (m : Int)) = false := by simp; omega
        have m3 : decide ((m : Int) > 0) = false := by simp; omega
        have m4 : decide ((1 : Int) < (m : Int)) = false := by simp; omega
        have m5 : decide ((m : Int) > 1) = false := by simp; omega
        have m6 : decide (0 < m) = false := by simp; omega
        have m7 : decide (1 < m) = false := by simp; omega
        have hBw := hwB.out
        have HB0 := Lib.hid (Pbx.begin (p := (px, py)) hR.out.2.2.1 hR.out.2.2.2 hBw)
        clear hm0 hRn hBw
        go_upto_region 6 with fail
        obtain ⟨W4, hW4⟩ : ∃ X, wr.alloc (Obj.cells #[.int .i64 px, .int .i64 py] 24) = X := ⟨_, rfl⟩
        obtain ⟨xb, hxb⟩ : ∃ x, wr.heap.size = x := ⟨_, rfl⟩
        rw [hW4, hxb] at HB0
        rw [hW4]
        simp only [hxb]
        clear hW4 hxb d0 d1
        have b0 := HB0.out.bx.c0
        have b1 := HB0.out.bx.c1
        have bl := HB0.out.bx.lt
        refine region_grow (by kernel_rfl) (by kernel_rfl) ?_
        repeat (go_big_quiet_step ((fail)))
        refine wpQuiet_nil ?_
        intro _ hw'
        obtain ⟨k9, m9, rfl⟩ := hw'
        obtain ⟨Y1, hY1⟩ : ∃ X, ext W4 k9 m9 = X := ⟨_, rfl⟩
        have HB1 := Lib.hid (HB0.out.on (hY1 ▸ below_ext W4 k9 m9))
        rw [hY1]
        clear hY1
        clear b0 b1 bl
        have b0 := HB1.out.bx.c0
        have b1 := HB1.out.bx.c1
        have bl := HB1.out.bx.lt
        go_wp2_with fail
        refine region_grow (by kernel_rfl) (by kernel_rfl) ?_
        repeat (go_big_quiet_step ((fail)))
        refine wpQuiet_nil ?_
        intro _ hw'
        obtain ⟨k9, m9, rfl⟩ := hw'
        obtain ⟨Y2, hY2⟩ : ∃ X, ext Y1 k9 m9 = X := ⟨_, rfl⟩
        have HB2 := Lib.hid (HB1.out.on (hY2 ▸ below_ext Y1 k9 m9))
        rw [hY2]
        clear hY2
        clear b0 b1 bl
        have b0 := HB2.out.bx.c0
        have b1 := HB2.out.bx.c1
        have bl := HB2.out.bx.lt
        have hBW : B ≤ Y2.heap.size := HB2.out.sz
        go_wp2_with (at_builtin; refine wpList_append_own _ rfl _ _ 25 rfl B 24 i0 (.agg #[.int .i64 0, .int .i64 0]) 2 16 Try.underlying25 hi0 hz0 hz1 hz2 rfl (by decide) _ m _ rfl (HB2.out.own.alloc _) ⟨Y2.heap.size, 0, none⟩ 1 1 [.int .i64 px, .int .i64 py] rfl rfl (new_two _ _ _ _) (two_ok rfl rfl) (by unfold maxLen; omega) (by omega) (by simp; omega) ?_)
        intro v' w' own' hgr _
        have HN2 : Hid (pst R (px, py) = (L.take (j + 1)).foldl pst [] ∧ (pst R (px, py)).length = m + 1 ∧ w'.ownsRow B 24 2 v' (m + 1) (fl (pst R (px, py)).reverse) ∧ Below B w w') := by
          refine ⟨hnx.out, ?_, ?_, (HB2.out.bel.alloc hBW _).grown hgr (by simp; omega) (fun k hk => (HB2.out.own.lt k hk).1)⟩
          · rw [HRn.out]; have := hlen0.out; simp at this ⊢; omega
          · rw [HRn.out, List.reverse_cons, fl_append]; first | exact own' | simpa using own'
        clear own' hgr
        go_wp2_with fail
        go_roundw
        case rel => exact ⟨j + 1, m + 1, pst R (px, py), by push_cast; rfl, by omega, HN2.out⟩
        case measure => simp [intOf] <;> omega
      · obtain ⟨gv, cp, rfl, _⟩ := owns_open hR.out.2.2.1 (by omega)
        obtain ⟨t, ht⟩ : ∃ t, m = t + 1 := ⟨m - 1, by omega⟩
        obtain ⟨b, rest, hRb⟩ : ∃ b rest, R = b :: rest := by
          cases R with
          | nil => have := hR.out.2.1; simp at this; omega
          | cons b rest => exact ⟨b, rest, rfl⟩
        subst hRb
        have k1 : (m : Int) - 1 = (t : Int) := by omega
        have k2 : t < m := by omega
        have m1 : (0 : Int) < (m : Int) := by omega
        have m2 : decide ((0 : Int) < (m : Int)) = true := by simp; omega
        have m3 : decide ((m : Int) > 0) = true := by simp; omega
        have m6 : decide (0 < m) = true := by simp; omega
        have hBw := hwB.out
        have HB0 := Lib.hid ((Pbx.begin (p := (px, py)) hR.out.2.2.1 hR.out.2.2.2 hBw).one ht hR.out.2.1)
        have HT := Lib.hid ht
        have HLN := Lib.hid hR.out.2.1
        have hbs := hRS.out b (by simp)
        clear hm0 hBw ht
        go_upto_region 6 with fail
        obtain ⟨W4, hW4⟩ : ∃ X, wr.alloc (Obj.cells #[.int .i64 px, .int .i64 py] 24) = X := ⟨_, rfl⟩
        obtain ⟨xb, hxb⟩ : ∃ x, wr.heap.size = x := ⟨_, rfl⟩
        rw [hW4, hxb] at HB0
        rw [hW4]
        simp only [hxb]
        clear hW4 hxb d0 d1
        obtain ⟨bx, by'⟩ := b
        by_cases hbp : (bx, by') = (px, py)
        · have hq : peq bx by' px py = true := (peq_true (bx, by') (px, py)).2 hbp
          have HRn : Hid (pst ((bx, by') :: rest) (px, py) = (bx, by') :: rest) := by
            show pst ((bx, by') :: rest) (px, py) = (bx, by') :: rest
            rw [← hbp]; exact pst_same _ _
          clear hbp
          have b0 := HB0.out.bx.c0
          have b1 := HB0.out.bx.c1
          have bl := HB0.out.bx.lt
          have e0 := HB0.out.e0
          have e1 := HB0.out.e1
          have gl := HB0.out.gl
          refine region_grow (by kernel_rfl) (by kernel_rfl) ?_
          repeat (go_big_quiet_step ((fail)))
          refine wpQuiet_nil ?_
          intro _ hw'
          obtain ⟨k9, m9, rfl⟩ := hw'
          obtain ⟨Y1, hY1⟩ : ∃ X, ext W4 k9 m9 = X := ⟨_, rfl⟩
          have HB1 := Lib.hid (HB0.out.on (hY1 ▸ below_ext W4 k9 m9))
          rw [hY1]
          clear hY1
          clear b0 b1 bl e0 e1 gl
          have b0 := HB1.out.bx.c0
          have b1 := HB1.out.bx.c1
          have bl := HB1.out.bx.lt
          have e0 := HB1.out.e0
          have e1 := HB1.out.e1
          have gl := HB1.out.gl
          go_wp2_with fail
          go_roundw
          case rel => exact ⟨j + 1, m, (bx, by') :: rest, by push_cast; rfl, by omega, HRn.out.symm.trans hnx.out, HLN.out, HB1.out.own, HB1.out.bel⟩
          case measure => simp [intOf] <;> omega
        · have hq : peq bx by' px py = false := by
            cases hpe : peq bx by' px py
            · rfl
            · exact absurd ((peq_true (bx, by') (px, py)).1 hpe) hbp
          have HBP := Lib.hid hbp
          clear hbp
          cases rest with
          | nil =>
            have hm1 : m = 1 := by have := HLN.out; simp at this; omega
            have m4 : decide ((1 : Int) < (m : Int)) = false := by simp; omega
            have m5 : decide ((m : Int) > 1) = false := by simp; omega
            have m7 : decide (1 < m) = false := by simp; omega
            have HRn : Hid (pst [(bx, by')] (px, py) = (px, py) :: [(bx, by')]) := by
              show pst [(bx, by')] (px, py) = (px, py) :: [(bx, by')]
              rw [pst1, if_neg HBP.out]
            clear hm1
            have b0 := HB0.out.bx.c0
            have b1 := HB0.out.bx.c1
            have bl := HB0.out.bx.lt
            have e0 := HB0.out.e0
            have e1 := HB0.out.e1
            have gl := HB0.out.gl
            refine region_grow (by kernel_rfl) (by kernel_rfl) ?_
            repeat (go_big_quiet_step ((fail)))
            refine wpQuiet_nil ?_
            intro _ hw'
            obtain ⟨k9, m9, rfl⟩ := hw'
            obtain ⟨Y1, hY1⟩ : ∃ X, ext W4 k9 m9 = X := ⟨_, rfl⟩
            have HB1 := Lib.hid (HB0.out.on (hY1 ▸ below_ext W4 k9 m9))
            rw [hY1]
            clear hY1
            clear b0 b1 bl e0 e1 gl
            have b0 := HB1.out.bx.c0
            have b1 := HB1.out.bx.c1
            have bl := HB1.out.bx.lt
            have e0 := HB1.out.e0
            have e1 := HB1.out.e1
            have gl := HB1.out.gl
            go_wp2_with fail
            refine region_grow (by kernel_rfl) (by kernel_rfl) ?_
            repeat (go_big_quiet_step ((fail)))
            refine wpQuiet_nil ?_
            intro _ hw'
            obtain ⟨k9, m9, rfl⟩ := hw'
            obtain ⟨Y2, hY2⟩ : ∃ X, ext Y1 k9 m9 = X := ⟨_, rfl⟩
            have HB2 := Lib.hid (HB1.out.on (hY2 ▸ below_ext Y1 k9 m9))
            rw [hY2]
            clear hY2
            clear b0 b1 bl e0 e1 gl
            have b0 := HB2.out.bx.c0
            have b1 := HB2.out.bx.c1
            have bl := HB2.out.bx.lt
            have e0 := HB2.out.e0
            have e1 := HB2.out.e1
            have gl := HB2.out.gl
            have hBW : B ≤ Y2.heap.size := HB2.out.sz
            go_wp2_with (at_builtin; refine wpList_append_own _ rfl _ _ 25 rfl B 24 i0 (.agg #[.int .i64 0, .int .i64 0]) 2 16 Try.underlying25 hi0 hz0 hz1 hz2 rfl (by decide) _ m _ rfl (HB2.out.own.alloc _) ⟨Y2.heap.size, 0, none⟩ 1 1 [.int .i64 px, .int .i64 py] rfl rfl (new_two _ _ _ _) (two_ok rfl rfl) (by unfold maxLen; omega) (by omega) (by simp; omega) ?_)
            intro v' w' own' hgr _
            have HN2 : Hid (pst [(bx, by')] (px, py) = (L.take (j + 1)).foldl pst [] ∧ (pst [(bx, by')] (px, py)).length = m + 1 ∧ w'.ownsRow B 24 2 v' (m + 1) (fl (pst [(bx, by')] (px, py)).reverse) ∧ Below B w w') := by
              refine ⟨hnx.out, ?_, ?_, (HB2.out.bel.alloc hBW _).grown hgr (by simp; omega) (fun k hk => (HB2.out.own.lt k hk).1)⟩
              · rw [HRn.out]; have := hlen0.out; simp at this ⊢; omega
              · rw [HRn.out, List.reverse_cons, fl_append]; first | exact own' | simpa using own'
            clear own' hgr
            go_wp2_with fail
            go_roundw
            case rel => exact ⟨j + 1, m + 1, pst [(bx, by')] (px, py), by push_cast; rfl, by omega, HN2.out⟩
            case measure => simp [intOf] <;> omega
          | cons a r =>
            have hlen : r.length + 2 = m := by have := HLN.out; simpa using this
            obtain ⟨u, hu⟩ : ∃ u, m = u + 2 := ⟨r.length, by omega⟩
            have k3 : (m : Int) - 2 = (u : Int) := by omega
            have k4 : u < m := by omega
            have m4 : decide ((1 : Int) < (m : Int)) = true := by simp; omega
            have m5 : decide ((m : Int) > 1) = true := by simp; omega
            have m7 : decide (1 < m) = true := by simp; omega
            have HB0 := Lib.hid (HB0.out.two hu HLN.out)
            have HTR : Hid (t = r.length + 1) := by have := HT.out; show t = r.length + 1; omega
            have has := hRS.out a (by simp)
            have hcr := fun w' => mside_any a (bx, by') (px, py) w' has hbs hps
            have hbt := fun w' => between_any a (bx, by') (px, py) w' has hbs hps
            obtain ⟨ax, ay⟩ := a
            obtain ⟨S, hS⟩ : ∃ S, cr (ax, ay) (bx, by') (px, py) = S := ⟨_, rfl⟩
            obtain ⟨T, hT⟩ : ∃ T, decide (Btw (ax, ay) (bx, by') (px, py)) = T := ⟨_, rfl⟩
            simp only [hS] at hcr
            simp only [hT] at hbt
            have HST := Lib.hid (And.intro hS hT)
            clear hS hT hu hlen has
            by_cases h1 : S = 0
            · have z1 : (S == 0) = true := by simp [h1]
              have HS0 : Hid (cr (ax, ay) (bx, by') (px, py) = 0) := HST.out.1.trans h1
              clear h1
              cases T with
              | true =>
                have HRn : Hid (pst ((bx, by') :: (ax, ay) :: r) (px, py) = (px, py) :: (ax, ay) :: r) := by
                  show pst ((bx, by') :: (ax, ay) :: r) (px, py) = (px, py) :: (ax, ay) :: r
                  rw [pst2, if_neg HBP.out, if_pos ⟨HS0.out, of_decide_eq_true HST.out.2⟩]
                have b0 := HB0.out.bx.c0
                have b1 := HB0.out.bx.c1
                have bl := HB0.out.bx.lt
                have e0 := HB0.out.e0
                have e1 := HB0.out.e1
                have gl := HB0.out.gl
                have f0 := HB0.out.f0
                have f1 := HB0.out.f1
                refine region_grow (by kernel_rfl) (by kernel_rfl) ?_
                repeat (go_big_quiet_step ((fail)))
                refine wpQuiet_nil ?_
                intro _ hw'
                obtain ⟨k9, m9, rfl⟩ := hw'
                obtain ⟨Y1, hY1⟩ : ∃ X, ext W4 k9 m9 = X := ⟨_, rfl⟩
                have HB1 := Lib.hid (HB0.out.on (hY1 ▸ below_ext W4 k9 m9))
                rw [hY1]
                clear hY1
                clear b0 b1 bl e0 e1 gl f0 f1
                have b0 := HB1.out.bx.c0
                have b1 := HB1.out.bx.c1
                have bl := HB1.out.bx.lt
                have e0 := HB1.out.e0
                have e1 := HB1.out.e1
                have gl := HB1.out.gl
                have f0 := HB1.out.f0
                have f1 := HB1.out.f1
                go_wp2_with fail
                refine region_grow (by kernel_rfl) (by kernel_rfl) ?_
                repeat (go_big_quiet_step ((first | (intro _; go_at_call 49; exact grow_of (hcr _)) | (intro _; go_at_call 50; exact grow_of (hbt _)))))
                refine wpQuiet_nil ?_
                intro _ hw'
                obtain ⟨k9, m9, rfl⟩ := hw'
                obtain ⟨Y2, hY2⟩ : ∃ X, ext Y1 k9 m9 = X := ⟨_, rfl⟩
                have HB2 := Lib.hid (HB1.out.on (hY2 ▸ below_ext Y1 k9 m9))
                rw [hY2]
                clear hY2
                clear b0 b1 bl e0 e1 gl f0 f1
                have b0 := HB2.out.bx.c0
                have b1 := HB2.out.bx.c1
                have bl := HB2.out.bx.lt
                have e0 := HB2.out.e0
                have e1 := HB2.out.e1
                have gl := HB2.out.gl
                have f0 := HB2.out.f0
                have f1 := HB2.out.f1
                have gf0 := HB2.out.gf.1
                have gf1 := HB2.out.gf.2
                have HPUT := Lib.hid (HB2.out.put HTR.out)
                go_wp2_with fail
                go_roundw
                case rel => exact ⟨j + 1, m, (px, py) :: (ax, ay) :: r, by push_cast; rfl, by omega, HRn.out.symm.trans hnx.out, HLN.out, HPUT.out.1, HPUT.out.2⟩
                case measure => simp [intOf] <;> omega
              | false =>
                have HRn : Hid (pst ((bx, by') :: (ax, ay) :: r) (px, py) = (px, py) :: (bx, by') :: (ax, ay) :: r) := by
                  show pst ((bx, by') :: (ax, ay) :: r) (px, py) = (px, py) :: (bx, by') :: (ax, ay) :: r
                  rw [pst2, if_neg HBP.out, if_neg (fun h => of_decide_eq_false HST.out.2 h.2)]
                have b0 := HB0.out.bx.c0
                have b1 := HB0.out.bx.c1
                have bl := HB0.out.bx.lt
                have e0 := HB0.out.e0
                have e1 := HB0.out.e1
                have gl := HB0.out.gl
                have f0 := HB0.out.f0
                have f1 := HB0.out.f1
                refine region_grow (by kernel_rfl) (by kernel_rfl) ?_
                repeat (go_big_quiet_step ((fail)))
                refine wpQuiet_nil ?_
                intro _ hw'
                obtain ⟨k9, m9, rfl⟩ := hw'
                obtain ⟨Y1, hY1⟩ : ∃ X, ext W4 k9 m9 = X := ⟨_, rfl⟩
                have HB1 := Lib.hid (HB0.out.on (hY1 ▸ below_ext W4 k9 m9))
                rw [hY1]
                clear hY1
                clear b0 b1 bl e0 e1 gl f0 f1
                have b0 := HB1.out.bx.c0
                have b1 := HB1.out.bx.c1
                have bl := HB1.out.bx.lt
                have e0 := HB1.out.e0
                have e1 := HB1.out.e1
                have gl := HB1.out.gl
                have f0 := HB1.out.f0
                have f1 := HB1.out.f1
                go_wp2_with fail
                refine region_grow (by kernel_rfl) (by kernel_rfl) ?_
                repeat (go_big_quiet_step ((first | (intro _; go_at_call 49; exact grow_of (hcr _)) | (intro _; go_at_call 50; exact grow_of (hbt _)))))
                refine wpQuiet_nil ?_
                intro _ hw'
                obtain ⟨k9, m9, rfl⟩ := hw'
                obtain ⟨Y2, hY2⟩ : ∃ X, ext Y1 k9 m9 = X := ⟨_, rfl⟩
                have HB2 := Lib.hid (HB1.out.on (hY2 ▸ below_ext Y1 k9 m9))
                rw [hY2]
                clear hY2
                clear b0 b1 bl e0 e1 gl f0 f1
                have b0 := HB2.out.bx.c0
                have b1 := HB2.out.bx.c1
                have bl := HB2.out.bx.lt
                have e0 := HB2.out.e0
                have e1 := HB2.out.e1
                have gl := HB2.out.gl
                have f0 := HB2.out.f0
                have f1 := HB2.out.f1
                have hBW : B ≤ Y2.heap.size := HB2.out.sz
                go_wp2_with (at_builtin; refine wpList_append_own _ rfl _ _ 25 rfl B 24 i0 (.agg #[.int .i64 0, .int .i64 0]) 2 16 Try.underlying25 hi0 hz0 hz1 hz2 rfl (by decide) _ m _ rfl (HB2.out.own.alloc _) ⟨Y2.heap.size, 0, none⟩ 1 1 [.int .i64 px, .int .i64 py] rfl rfl (new_two _ _ _ _) (two_ok rfl rfl) (by unfold maxLen; omega) (by omega) (by simp; omega) ?_)
                intro v' w' own' hgr _
                have HN2 : Hid (pst ((bx, by') :: (ax, ay) :: r) (px, py) = (L.take (j + 1)).foldl pst [] ∧ (pst ((bx, by') :: (ax, ay) :: r) (px, py)).length = m + 1 ∧ w'.ownsRow B 24 2 v' (m + 1) (fl (pst ((bx, by') :: (ax, ay) :: r) (px, py)).reverse) ∧ Below B w w') := by
                  refine ⟨hnx.out, ?_, ?_, (HB2.out.bel.alloc hBW _).grown hgr (by simp; omega) (fun k hk => (HB2.out.own.lt k hk).1)⟩
                  · rw [HRn.out]; have := hlen0.out; simp at this ⊢; omega
                  · rw [HRn.out, List.reverse_cons, fl_append]; first | exact own' | simpa using own'
                clear own' hgr
                go_wp2_with fail
                go_roundw
                case rel => exact ⟨j + 1, m + 1, pst ((bx, by') :: (ax, ay) :: r) (px, py), by push_cast; rfl, by omega, HN2.out⟩
                case measure => simp [intOf] <;> omega
            · have z1 : (S == 0) = false := by simp [h1]
              have HRn : Hid (pst ((bx, by') :: (ax, ay) :: r) (px, py) = (px, py) :: (bx, by') :: (ax, ay) :: r) := by
                show pst ((bx, by') :: (ax, ay) :: r) (px, py) = (px, py) :: (bx, by') :: (ax, ay) :: r
                rw [pst2, if_neg HBP.out, if_neg (fun h => h1 (HST.out.1.symm.trans h.1))]
              clear h1
              have b0 := HB0.out.bx.c0
              have b1 := HB0.out.bx.c1
              have bl := HB0.out.bx.lt
              have e0 := HB0.out.e0
              have e1 := HB0.out.e1
              have gl := HB0.out.gl
              have f0 := HB0.out.f0
              have f1 := HB0.out.f1
              refine region_grow (by kernel_rfl) (by kernel_rfl) ?_
              repeat (go_big_quiet_step ((fail)))
              refine wpQuiet_nil ?_
              intro _ hw'
              obtain ⟨k9, m9, rfl⟩ := hw'
              obtain ⟨Y1, hY1⟩ : ∃ X, ext W4 k9 m9 = X := ⟨_, rfl⟩
              have HB1 := Lib.hid (HB0.out.on (hY1 ▸ below_ext W4 k9 m9))
              rw [hY1]
              clear hY1
              clear b0 b1 bl e0 e1 gl f0 f1
              have b0 := HB1.out.bx.c0
              have b1 := HB1.out.bx.c1
              have bl := HB1.out.bx.lt
              have e0 := HB1.out.e0
              have e1 := HB1.out.e1
              have gl := HB1.out.gl
              have f0 := HB1.out.f0
              have f1 := HB1.out.f1
              go_wp2_with fail
              refine region_grow (by kernel_rfl) (by kernel_rfl) ?_
              repeat (go_big_quiet_step ((first | (intro _; go_at_call 49; exact grow_of (hcr _)) | (intro _; go_at_call 50; exact grow_of (hbt _)))))
              refine wpQuiet_nil ?_
              intro _ hw'
              obtain ⟨k9, m9, rfl⟩ := hw'
              obtain ⟨Y2, hY2⟩ : ∃ X, ext Y1 k9 m9 = X := ⟨_, rfl⟩
              have HB2 := Lib.hid (HB1.out.on (hY2 ▸ below_ext Y1 k9 m9))
              rw [hY2]
              clear hY2
              clear b0 b1 bl e0 e1 gl f0 f1
              have b0 := HB2.out.bx.c0
              have b1 := HB2.out.bx.c1
              have bl := HB2.out.bx.lt
              have e0 := HB2.out.e0
              have e1 := HB2.out.e1
              have gl := HB2.out.gl
              have f0 := HB2.out.f0
              have f1 := HB2.out.f1
              have hBW : B ≤ Y2.heap.size := HB2.out.sz
              go_wp2_with (at_builtin; refine wpList_append_own _ rfl _ _ 25 rfl B 24 i0 (.agg #[.int .i64 0, .int .i64 0]) 2 16 Try.underlying25 hi0 hz0 hz1 hz2 rfl (by decide) _ m _ rfl (HB2.out.own.alloc _) ⟨Y2.heap.size, 0, none⟩ 1 1 [.int .i64 px, .int .i64 py] rfl rfl (new_two _ _ _ _) (two_ok rfl rfl) (by unfold maxLen; omega) (by omega) (by simp; omega) ?_)
              intro v' w' own' hgr _
              have HN2 : Hid (pst ((bx, by') :: (ax, ay) :: r) (px, py) = (L.take (j + 1)).foldl pst [] ∧ (pst ((bx, by') :: (ax, ay) :: r) (px, py)).length = m + 1 ∧ w'.ownsRow B 24 2 v' (m + 1) (fl (pst ((bx, by') :: (ax, ay) :: r) (px, py)).reverse) ∧ Below B w w') := by
                refine ⟨hnx.out, ?_, ?_, (HB2.out.bel.alloc hBW _).grown hgr (by simp; omega) (fun k hk => (HB2.out.own.lt k hk).1)⟩
                · rw [HRn.out]; have := hlen0.out; simp at this ⊢; omega
                · rw [HRn.out, List.reverse_cons, fl_append]; first | exact own' | simpa using own'
              clear own' hgr
              go_wp2_with fail
              go_roundw
              case rel => exact ⟨j + 1, m + 1, pst ((bx, by') :: (ax, ay) :: r) (px, py), by push_cast; rfl, by omega, HN2.out⟩
              case measure => simp [intOf] <;> omega
end Go.Proofs.Ytaiflkjchbpphaa.P
