/- flow.Field. -/
import Derived.Test.YtaiflkjchbpphaaGrid
import Derived.Test.YtaiflkjchbpphaaPop
import Derived.Test.YtaiflkjchbpphaaDij
namespace Go.Proofs.Ytaiflkjchbpphaa
open Go.RowKit

theorem check_any (W H N c cap : Nat) (Cs : List Int) (w : World) (hW1 : 1 ≤ W) (hW2 : W ≤ 64) (hH1 : 1 ≤ H) (hH2 : H ≤ 64) (hN : W * H = N) (hC : Cs.length = N) (hr : IRow w c Cs) (h01 : ∀ a, a < N → 0 ≤ gt Cs a ∧ gt Cs a ≤ 1000) (hc : c < w.heap.size) :
    Calls Try.prog 30 #[.agg #[.int .i64 W, .int .i64 H, .slice (some ⟨c, 0, none⟩) N cap]] w fun e w' => e = .returned (.int .i64 0) ∧ Below w.heap.size w w' := by
  have hNb : N ≤ 4096 := by rw [← hN]; exact Nat.mul_le_mul hW2 hH2
  have e1 : (W : Int) * (H : Int) = (N : Int) := by rw [← hN]; push_cast; rfl
  have HR := Lib.hid hr
  have HC := Lib.hid hC
  have H01 := Lib.hid h01
  clear hr hC h01 hN
  go_enter Try.func30, Try.ntmps30
  go_wp2_with fail
  go_loopw [35] (fun v35 wr => ∃ i : Nat, v35 = .int .i64 i ∧ i ≤ N ∧ wr = w.alloc (Obj.cells #[Value.int IntKind.i64 W, Value.int IntKind.i64 H, .slice (some ⟨c, 0, none⟩) N cap] 47)) (fun v35 _ => N - (intOf v35).toNat)
  case atStart => exact ⟨0, rfl, Nat.zero_le _, rfl⟩
  case round =>
    obtain ⟨i, rfl, hi, rfl⟩ := hrel
    by_cases h0 : i = N
    · have i1 : ¬ (i : Int) < (N : Int) := by omega
      clear h0
      go_wp2_with fail
      go_ret
      exact ⟨rfl, Below.al (Below.refl _ _) _⟩
    · have hil : i < Cs.length := by rw [HC.out]; omega
      have hcell := HR.out.1 i hil
      have hb := H01.out i (by omega)
      have i1 : (i : Int) < (N : Int) := by omega
      unfold gt at hb
      obtain ⟨x, hx⟩ : ∃ x, Cs[i]?.getD 0 = x := ⟨_, rfl⟩
      rw [hx] at hcell hb
      obtain ⟨x1, x2⟩ := hb
      have i2 : ¬ x < 0 := by omega
      have i3 : ¬ 1000 < x := by omega
      clear hx hil
      go_wp2_with fail
      go_roundw
      case rel => exact ⟨i + 1, rfl, by omega, by first | rfl | trivial⟩
      case measure => simp [intOf] <;> omega

theorem Try.info3 : (Try.prog.info? 3).map (fun i => (i.zero, i.size, i.bytes)) = some (some (.int .i64 0), 1, 8) := by kernel_rfl

/-- What stands in memory while Field runs: the grid in block b, its costs in block c, the answer in block o. -/
structure Pre (b c o q W H N cap g : Nat) (Cs O : List Int) (w X : World) : Prop where
  b0 : X.cell? ⟨b, 0, none⟩ = some (.int .i64 W)
  b1 : X.cell? ⟨b, 1, none⟩ = some (.int .i64 H)
  b2 : X.cell? ⟨b, 2, none⟩ = some (.slice (some ⟨c, 0, none⟩) N cap)
  cq : X.cell? ⟨q, 0, none⟩ = some (.int .i64 g)
  rc : IRow X c Cs
  ro : IRow X o O
  oc : o ≠ c
  ob : o ≠ b
  oq : o ≠ q
  hb : w.heap.size ≤ b
  ho : w.heap.size ≤ o
  bs : b < X.heap.size
  os : o < X.heap.size
  cs : c < X.heap.size
  qs : q < X.heap.size
  below : Below w.heap.size w X
theorem Pre.on {b c o q W H N cap g : Nat} {Cs O : List Int} {w X X' : World} {B : Nat} (h : Pre b c o q W H N cap g Cs O w X) (k : Below B X X') (h1 : b < B) (h2 : c < B) (h3 : o < B) (h4 : q < B) : Pre b c o q W H N cap g Cs O w X' := by
  have h5 := k.size
  have h6 := h.hb
  exact ⟨(k.cell (p := ⟨b, 0, none⟩) h1).trans h.b0, (k.cell (p := ⟨b, 1, none⟩) h1).trans h.b1, (k.cell (p := ⟨b, 2, none⟩) h1).trans h.b2, (k.cell (p := ⟨q, 0, none⟩) h4).trans h.cq, h.rc.below k h2, h.ro.below k h3, h.oc, h.ob, h.oq, h.hb, h.ho, Nat.lt_of_lt_of_le h.bs h5, Nat.lt_of_lt_of_le h.os h5, Nat.lt_of_lt_of_le h.cs h5, Nat.lt_of_lt_of_le h.qs h5, h.below.trans (k.mono (by omega))⟩
theorem Pre.ext {b c o q W H N cap g : Nat} {Cs O : List Int} {w X X' : World} (h : Pre b c o q W H N cap g Cs O w X) (k : Below X.heap.size X X') : Pre b c o q W H N cap g Cs O w X' := h.on k h.bs h.cs h.os h.qs
theorem Pre.put {b c o q W H N cap g : Nat} {Cs O : List Int} {w X : World} (h : Pre b c o q W H N cap g Cs O w X) (k : Nat) (x : Int) : Pre b c o q W H N cap g Cs (O.set k x) w (X.setCell ⟨o, k, none⟩ (.int .i64 x)) := by
  have hne : ∀ r i, r ≠ o → (X.setCell ⟨o, k, none⟩ (.int .i64 x)).cell? ⟨r, i, none⟩ = X.cell? ⟨r, i, none⟩ := fun r i hq => World.cell?_setCell_other _ _ _ _ (fun e => hq (congrArg Addr.block e).symm)
  have hs : (X.setCell ⟨o, k, none⟩ (.int .i64 x)).heap.size = X.heap.size := by simp [World.setCell]
  exact ⟨(hne _ _ h.ob.symm).trans h.b0, (hne _ _ h.ob.symm).trans h.b1, (hne _ _ h.ob.symm).trans h.b2, (hne _ _ h.oq.symm).trans h.cq, h.rc.other _ h.oc _, h.ro.set k x, h.oc, h.ob, h.oq, h.hb, h.ho, by rw [hs]; exact h.bs, by rw [hs]; exact h.os, by rw [hs]; exact h.cs, by rw [hs]; exact h.qs, h.below.setCell h.ho _⟩
theorem Hp.put {B p z : Nat} {K : List Itm} {X : World} (h : Hp B p z K X) (o k : Nat) (ho : o < B) (x : Value) : Hp B p z K (X.setCell ⟨o, k, none⟩ x) := by
  obtain ⟨v, h0, hown, hn⟩ := h.ex
  have hBp := h.hB
  have hs : (X.setCell ⟨o, k, none⟩ x).heap.size = X.heap.size := by simp [World.setCell]
  exact ⟨⟨v, (World.cell?_setCell_other _ _ _ _ (fun e => by have := congrArg Addr.block e; simp only [] at this; omega)).trans h0, ownsRow_setCell_below hown (by simp only []; omega) _, hn⟩, h.zp, by rw [hs]; exact h.zl, fun j => (World.frozen?_setCell _ _ _ _).trans (h.f j), by rw [hs]; exact h.sz, hBp⟩
/-- Another block is kept: one below B, or a new one. -/
theorem Hp.re {B p z z' : Nat} {K : List Itm} {X : World} (h : Hp B p z K X) (hz : z' < B) : Hp B p z' K X := by
  obtain ⟨v, h0, hown, hn, _⟩ := h.ex
  have hBp := h.hB
  have hsz := h.sz
  exact ⟨⟨v, h0, hown, hn, fun e => by have := (hown.lt z' e).1; omega⟩, by omega, by omega, h.f, hsz, hBp⟩
theorem Hp.new {B p z : Nat} {K : List Itm} {X : World} (h : Hp B p z K X) (o : Obj) : Hp B p X.heap.size K (X.alloc o) := by
  have hb : Below X.heap.size X (X.alloc o) := Below.al (Below.refl _ _) _
  obtain ⟨v, h0, hown, hn, _⟩ := (h.below hb).ex
  obtain ⟨v', h0', hown', _, _⟩ := h.ex
  have hsz := h.sz
  have hv : v = v' := by
    have e := (hb.cell (p := ⟨p, 0, none⟩) hsz).symm.trans h0
    rw [h0'] at e
    exact (Option.some.inj e).symm
  subst hv
  exact ⟨⟨v, h0, hown, hn, fun e => by have := (hown'.lt _ e).2; omega⟩, by omega, by simp, (h.below hb).f, (h.below hb).sz, h.hB⟩

theorem hpush2 (B p z : Nat) (H : List Itm) (r c : Int) (w : World) (h : Hp B p z H w) (hH : Heap H) (hl : H.length < 4096) :
    Calls Try.prog 31 #[.iface 69 (.pointer (some ⟨p, 0, none⟩)), .iface 74 (.agg #[.int .i64 r, .int .i64 c])] w fun e w' => e = .returned (.tuple #[]) ∧ Hid (∃ K, Hp B p z K w' ∧ Heap K ∧ K.Perm (H ++ [⟨0, r, c⟩])) ∧ Bz B z w w' := hpush_any B p z H ⟨0, r, c⟩ w h hH hl

theorem stp_cases (W H x y d N : Nat) (v : Int) (hx : x < W) (hy : y < H) (hN : W * H = N) (h : stp W H x y d = v) : v < 0 ∨ ∃ e : Nat, v = (e : Int) ∧ e < N := by
  have key : ∀ x' y', x' < W → y' < H → y' * W + x' < N := fun x' y' h1 h2 => by
    have h3 : y' * W + W ≤ H * W := by rw [← Nat.succ_mul]; exact Nat.mul_le_mul_right _ h2
    rw [Nat.mul_comm H W, hN] at h3
    omega
  unfold stp at h
  split at h
  · split at h
    · exact .inr ⟨_, h.symm, by have := key (x + 1) y (by omega) hy; omega⟩
    · exact .inl (by omega)
  · split at h
    · split at h
      · exact .inr ⟨_, h.symm, key x (y + 1) hx (by omega)⟩
      · exact .inl (by omega)
    · split at h
      · split at h
        · exact .inr ⟨_, h.symm, key (x - 1) y (by omega) hy⟩
        · exact .inl (by omega)
      · split at h
        · exact .inr ⟨_, h.symm, key x (y - 1) hx (by omega)⟩
        · exact .inl (by omega)

theorem Bz.cell {B z : Nat} {a b : World} (h : Bz B z a b) (i : Nat) : b.cell? ⟨z, i, none⟩ = a.cell? ⟨z, i, none⟩ := by simp only [World.cell?, h.keep]

/-- The cells that are not done. -/
def und (O : List Int) : Nat := O.countP (fun x => decide (x < 0))
theorem und_le (O : List Int) : und O ≤ O.length := List.countP_le_length
theorem und_set (O : List Int) (c : Nat) (x : Int) (hc : c < O.length) (h : gt O c < 0) (hx : 0 ≤ x) : und (O.set c x) + 1 = und O := by
  unfold und
  have e : O[c] = gt O c := by unfold gt; rw [List.getElem?_eq_getElem hc]; rfl
  rw [List.countP_set hc, e, if_pos (by simpa using h), if_neg (by simp; omega)]
  have : 0 < O.countP (fun x => decide (x < 0)) := List.countP_pos_iff.2 ⟨O[c], List.getElem_mem hc, by rw [e]; simpa using h⟩
  omega

/-- The edges of the grid. -/
def Adj (W H : Nat) (a b : Nat) : Prop := ∃ d, 1 ≤ d ∧ d ≤ 4 ∧ stp W H (a % W) (a / W) d = (b : Int)

/-- What Field says. -/
def Fielded (W H N g : Nat) (Cs : List Int) (w : World) (e : Ending) (w' : World) : Prop :=
  ∃ (o : Nat) (O : List Int), e = .returned (.tuple #[.slice (some ⟨o, 0, none⟩) N N, .int .i64 0]) ∧ O.length = N ∧ Bfs N (fun a => gt Cs a = 1) (Adj W H) g (gt O) ∧ IRow w' o O ∧ w.heap.size ≤ o ∧ o < w'.heap.size ∧ Below w.heap.size w w'

set_option maxRecDepth 8000 in
set_option maxHeartbeats 4000000 in
theorem field_any (W H N c cap q g : Nat) (Cs : List Int) (w : World) (hW1 : 1 ≤ W) (hW2 : W ≤ 64) (hH1 : 1 ≤ H) (hH2 : H ≤ 64) (hN : W * H = N) (hN64 : N ≤ 64) (hC : Cs.length = N) (hr : IRow w c Cs) (h01 : ∀ a, a < N → gt Cs a = 0 ∨ gt Cs a = 1) (hc : c < w.heap.size)
    (hq : w.cell? ⟨q, 0, none⟩ = some (.int .i64 g)) (hqs : q < w.heap.size) (hg : g < N) :
    Calls Try.prog 13 #[.agg #[.int .i64 W, .int .i64 H, .slice (some ⟨c, 0, none⟩) N cap], .slice (some ⟨q, 0, none⟩) 1 1] w (Fielded W H N g Cs w) := by
  obtain ⟨i0, hi0, hz0, hz1, hz2⟩ := info_parts Try.info3
  have e1 : (W : Int) * (H : Int) = (N : Int) := by rw [← hN]; push_cast; rfl
  have HR := Lib.hid hr
  have HC := Lib.hid hC
  have HN := Lib.hid hN
  have H01 := Lib.hid h01
  have hchk : ∀ w', Below w.heap.size w w' → Calls Try.prog 30 #[.agg #[.int .i64 W, .int .i64 H, .slice (some ⟨c, 0, none⟩) N cap]] w' fun e w'' => e = .returned (.int .i64 0) ∧ Below w'.heap.size w' w'' := fun w' hb =>
    check_any W H N c cap Cs w' hW1 hW2 hH1 hH2 HN.out HC.out (HR.out.below hb hc) (fun a ha => by have := H01.out a ha; omega) (Nat.lt_of_lt_of_le hc hb.size)
  clear hr hC h01 hN
  go_enter Try.func13, Try.ntmps13
  go_wp2_with (first
    | (go_at_call 30; (with_reducible refine (hchk _ (by repeat (first | exact Below.refl _ _ | apply Below.drew | apply Below.al | apply Below.ex))).mono ?_); rintro e w1 ⟨rfl, hb⟩; obtain ⟨l0, n0, rfl⟩ := ext_of hb; clear hb)
    | (refine wpList_make_full _ rfl _ _ 22 rfl w.heap.size 3 i0 (.int .i64 0) 1 Try.underlying22 hi0 hz0 hz1 .i64 .i64 _ _ N rfl rfl rfl rfl (by rw [hz2]; omega) (by unfold maxLen; omega) (by simp [size_ext] <;> omega) ?_))
  intro W1 own1 hg1
  obtain ⟨V, hV⟩ : ∃ V, ext (w.alloc (Obj.cells #[Value.int IntKind.i64 W, Value.int IntKind.i64 H, .slice (some ⟨c, 0, none⟩) N cap] 47)) l0 n0 = V := ⟨_, rfl⟩
  have hVb : Below w.heap.size w V := by rw [← hV]; repeat (first | exact Below.refl _ _ | apply Below.drew | apply Below.al | apply Below.ex)
  have hVs : V.heap.size = w.heap.size + 1 + l0.length := by rw [← hV, size_ext]; simp
  have v0 : V.cell? ⟨w.heap.size, 0, none⟩ = some (.int .i64 W) := by rw [← hV]; simp [go_sem]
  have v1 : V.cell? ⟨w.heap.size, 1, none⟩ = some (.int .i64 H) := by rw [← hV]; simp [go_sem]
  have v2 : V.cell? ⟨w.heap.size, 2, none⟩ = some (.slice (some ⟨c, 0, none⟩) N cap) := by rw [← hV]; simp [go_sem]
  rw [hV] at hg1
  have hbi := (Below.refl V.heap.size V).grown hg1 (Nat.le_refl _) (fun k hk => by cases hk)
  obtain ⟨hlt1, hc1, hf1⟩ := made_ints own1
  obtain ⟨b, hb⟩ : ∃ b, w.heap.size = b := ⟨_, rfl⟩
  obtain ⟨o, ho⟩ : ∃ o, b + 1 + l0.length = o := ⟨_, rfl⟩
  rw [hb] at v0 v1 v2 hc1 hf1 hlt1 hVs
  rw [ho] at hc1 hf1 hlt1 hVs
  have HP : Hid (Pre b c o q W H N cap g Cs (List.replicate N 0) w W1) := by
    have hVw : Below w.heap.size w W1 := hVb.trans (hbi.mono hVb.size)
    exact ⟨(hbi.cell (p := ⟨b, 0, none⟩) (by simp only []; omega)).trans v0, (hbi.cell (p := ⟨b, 1, none⟩) (by simp only []; omega)).trans v1, (hbi.cell (p := ⟨b, 2, none⟩) (by simp only []; omega)).trans v2, (hVw.cell (p := ⟨q, 0, none⟩) hqs).trans hq, HR.out.below hVw hc, ⟨fun k hk => hc1 k (by simpa using hk), fun k _ => hf1 k⟩, by omega, by omega, by omega, by omega, by omega, by omega, hlt1, by omega, by omega, hVw⟩
  simp only [hb, ho]
  clear own1 hg1 hbi hlt1 hc1 hf1 v0 v1 v2 hV hVb hq hchk
  go_wp2_with fail
  go_loopw [30] (fun v30 wr => ∃ (i : Nat) (O : List Int), v30 = .int .i64 i ∧ i ≤ N ∧ Hid (O.length = N ∧ (∀ j, j < i → O[j]? = some (-1)) ∧ Pre b c o q W H N cap g Cs O w wr)) (fun v30 _ => N - (intOf v30).toNat)
  case atStart => exact ⟨0, _, rfl, Nat.zero_le _, by simp, fun j hj => by omega, HP.out⟩
  case round =>
    obtain ⟨i, O, rfl, hi, hO⟩ := hrel
    by_cases h0 : i = N
    · have i1 : ¬ (i : Int) < (N : Int) := by omega
      have hrep : O = List.replicate N (-1) := by
        apply List.ext_getElem?
        intro j
        rcases Nat.lt_or_ge j N with hj | hj
        · rw [hO.out.2.1 j (by omega), List.getElem?_replicate, if_pos hj]
        · rw [List.getElem?_eq_none (by rw [hO.out.1]; exact hj), List.getElem?_eq_none (by simpa using hj)]
      have HX := Lib.hid (hrep ▸ hO.out.2.2)
      clear h0 hO hrep
      have cq := HX.out.cq
      go_wp2_with fail
      go_loopw [39] (fun v39 wx => ∃ k : Nat, v39 = .int .i64 k ∧ k ≤ 1 ∧ wx = wr) (fun v39 _ => 1 - (intOf v39).toNat)
      case atStart => exact ⟨0, rfl, by omega, rfl⟩
      case round =>
        obtain ⟨k, rfl, hk, rfl⟩ := hrel
        obtain rfl | rfl : k = 0 ∨ k = 1 := by omega
        · go_wp2_with fail
          go_roundw
          case rel => exact ⟨1, rfl, by omega, by first | rfl | trivial⟩
          case measure => simp [intOf] <;> omega
        · go_wp2_with fail
          obtain ⟨B, hB⟩ : ∃ B, wr.heap.size = B := ⟨_, rfl⟩
          obtain ⟨X0, hX0⟩ : ∃ X, (wr.alloc (Obj.cells #[] 74)).alloc (Obj.cells #[Value.slice (some ⟨wr.heap.size, 0, none⟩) 0 0] 71) = X := ⟨_, rfl⟩
          have hlts : b < B ∧ c < B ∧ o < B ∧ q < B := by
            have h1 := HX.out.bs
            have h2 := HX.out.cs
            have h3 := HX.out.os
            have h4 := HX.out.qs
            omega
          obtain ⟨bB, cB, oB, qB⟩ := hlts
          have HF : Hid (Pre b c o q W H N cap g Cs (List.replicate N (-1)) w X0 ∧ Hp B (B + 1) b [] X0) := by
            have hbl : Below wr.heap.size wr X0 := by rw [← hX0]; exact Below.al (Below.al (Below.refl _ _) _) _
            refine ⟨HX.out.ext hbl, ?_⟩
            rw [← hX0, ← hB]
            have hown : ((wr.alloc (Obj.cells #[] 74)).alloc (Obj.cells #[Value.slice (some ⟨wr.heap.size, 0, none⟩) 0 0] 71)).ownsRow wr.heap.size 74 2 (.slice (some ⟨wr.heap.size, 0, none⟩) 0 0) 0 [] := (World.ownsRow_made wr #[] 0 (Nat.le_refl _) (by decide) rfl).alloc _
            exact ⟨⟨_, by simp [go_sem], hown, fun e => by have := Option.some.inj (show some wr.heap.size = some _ from e); omega, fun e => by have := Option.some.inj (show some wr.heap.size = some _ from e); omega⟩, by omega, by simp; omega, fun j => by simp [go_sem], by simp, by omega⟩
          simp only [hB] at hX0 ⊢
          rw [hX0]
          obtain ⟨p, hp⟩ : ∃ p, B + 1 = p := ⟨_, rfl⟩
          rw [hp] at HF
          simp only [hp]
          clear hX0 hB HX cq hp HP
          go_loopw [56] (fun v56 wx => ∃ k : Nat, v56 = .int .i64 k ∧ k ≤ 1 ∧ Hid (∃ K, Pre b c o q W H N cap g Cs (List.replicate N (-1)) w wx ∧ Hp B p b K wx ∧ Heap K ∧ (k = 0 → K = []) ∧ (k = 1 → (gt Cs g = 1 → K.Perm [⟨0, 0, g⟩]) ∧ (gt Cs g = 0 → K = [])))) (fun v56 _ => 1 - (intOf v56).toNat)
          case atStart => exact ⟨0, rfl, by omega, [], HF.out.1, HF.out.2, fun j h1 h2 => by simp at h2, fun _ => rfl, fun h => by omega⟩
          case round =>
            obtain ⟨k, rfl, hk, K, hK⟩ := hrel
            have HK := Lib.hid hK
            clear hK
            obtain rfl | rfl : k = 0 ∨ k = 1 := by omega
            · obtain rfl := HK.out.2.2.2.1 rfl
              have cq := HK.out.1.cq
              have b2 := HK.out.1.b2
              have cc := HK.out.1.rc.1 g (by rw [HC.out]; exact hg)
              rcases H01.out g hg with h01 | h01
              · have h01' := Lib.hid h01
                unfold gt at h01
                rw [h01] at cc
                clear h01
                go_wp2_with fail
                go_roundw
                case rel => exact ⟨1, rfl, by omega, [], HK.out.1, HK.out.2.1, HK.out.2.2.1, fun _ => rfl, fun _ => ⟨fun e => by rw [h01'.out] at e; omega, fun _ => rfl⟩⟩
                case measure => simp [intOf] <;> omega
              · have h01' := Lib.hid h01
                unfold gt at h01
                rw [h01] at cc
                clear h01
                go_wp2_with fail
                refine (hpush2 B p b [] 0 g _ HK.out.2.1 HK.out.2.2.1 (by decide)).mono ?_
                rintro e w1 ⟨rfl, ⟨K', hK1, hK2, hK3⟩, hb⟩
                have HK' : Hid (Pre b c o q W H N cap g Cs (List.replicate N (-1)) w w1 ∧ Hp B p b K' w1 ∧ Heap K' ∧ K'.Perm [⟨0, 0, g⟩]) := ⟨HK.out.1.on hb.below bB cB oB qB, hK1, hK2, hK3⟩
                clear hK1 hK2 hK3 hb
                go_wp2_with fail
                go_roundw
                case rel => exact ⟨_, _, _, _, _, _, _, _, _, _, _, _, _, _, _, _, _, _, ⟨1, rfl, by omega, K', HK'.out.1, HK'.out.2.1, HK'.out.2.2.1, fun h => by omega, fun _ => ⟨fun _ => HK'.out.2.2.2, fun e => by rw [h01'.out] at e; omega⟩⟩, rfl⟩
                case measure => simp [intOf] <;> omega
            · have HI : Hid (Inv N (fun a => gt Cs a = 1) (Adj W H) (Adj W H) g (List.replicate N (-1)) K ∧ K.length ≤ 1 ∧ ∀ t ∈ K, t.r = 0) := by
                obtain ⟨h1, h2⟩ := HK.out.2.2.2.2 rfl
                rcases H01.out g hg with h01 | h01
                · obtain rfl := h2 h01
                  exact ⟨Inv.begin hg (fun t ht => by simp at ht) (fun e => by omega), by simp, fun t ht => by simp at ht⟩
                · have hp1 := h1 h01
                  refine ⟨Inv.begin hg (fun t ht => ?_) (fun _ => ⟨⟨0, 0, g⟩, hp1.mem_iff.2 (by simp), rfl, rfl⟩), by rw [hp1.length_eq]; simp, fun t ht => by have := hp1.mem_iff.1 ht; simp only [List.mem_singleton] at this; subst this; rfl⟩
                  have := hp1.mem_iff.1 ht
                  simp only [List.mem_singleton] at this
                  subst this
                  exact ⟨rfl, rfl, h01⟩
              go_wp2_with fail
              go_loopg [] (5 * N + 3) (fun k wx => Hid (∃ (O : List Int) (K : List Itm), Pre b c o q W H N cap g Cs O w wx ∧ Hp B p b K wx ∧ Heap K ∧ Inv N (fun a => gt Cs a = 1) (Adj W H) (Adj W H) g O K ∧ 5 * und O + K.length + 1 ≤ k ∧ k ≤ 5 * N + 3 ∧ ∀ t ∈ K, t.r + und O ≤ N))
              case atStart => exact ⟨List.replicate N (-1), K, HK.out.1, HK.out.2.1, HK.out.2.2.1, HI.out.1, by have := HI.out.2.1; have := und_le (List.replicate N (-1)); simp at this; omega, Nat.le_refl _, fun t ht => by have := HI.out.2.2 t ht; have := und_le (List.replicate N (-1)); simp at this; omega⟩
              case round =>
                obtain ⟨O, K, hP, hH, hHeap, hInv, hk1, hk2, hkr⟩ := hrel
                have HP := Lib.hid hP
                have HH := Lib.hid hH
                have HI := Lib.hid hInv
                have HKK := Lib.hid (And.intro hHeap hkr)
                have hOl := hInv.len
                clear hP hH hHeap hInv hkr
                have huN : und O ≤ N := by rw [← hOl]; exact und_le O
                by_cases hK0 : K.length = 0
                · obtain ⟨v, c0, hown, _⟩ := HH.out.ex
                  obtain ⟨ao, cp, rfl, _, _, _⟩ := owns_source hown
                  rw [hK0] at c0
                  clear hown
                  go_wp2_with (go_at_call 32; (with_reducible refine (len_any _ _ _ _).mono ?_); rintro e wz ⟨rfl, rfl⟩)
                  obtain rfl := List.eq_nil_of_length_eq_zero hK0
                  exact bodyPost_ret (v := .tuple #[.slice (some ⟨o, 0, none⟩) N N, .int .i64 0]) (by simp [results, Try.results13, go_sem]) rfl ⟨o, O, rfl, hOl, HI.out.done', HP.out.ro, HP.out.ho, HP.out.os, HP.out.below⟩
                · obtain ⟨gg, cp, c0, _, hgp, hgz, hBg, hgl, hcap, _, _⟩ := HH.out.open (by omega)
                  obtain ⟨n, hn⟩ : ∃ n, K.length = n := ⟨_, rfl⟩
                  rw [hn] at c0 hK0
                  have hpop := fun X (hX : Hp B p b K X) => hpop_any B p b K X hX HKK.out.1 (by omega) (by omega)
                  have hn0 : (0 : Int) < n := by omega
                  obtain ⟨cn, hcn, hcnN, hCcn, hR0, hw⟩ := HI.out.item (at' K 0) (by rw [at_eq (by omega)]; exact List.getElem_mem _)
                  have hR1 := HKK.out.2 (at' K 0) (by rw [at_eq (by omega)]; exact List.getElem_mem _)
                  have hmin : Hid (∀ u ∈ K, (at' K 0).r ≤ u.r) := fun u hu => by
                    have := HKK.out.1.least_mem u hu
                    rw [Le_iff] at this
                    omega
                  obtain ⟨R, hR⟩ : ∃ R, (at' K 0).r = R := ⟨_, rfl⟩
                  have HT : Hid ((at' K 0).r = R ∧ (at' K 0).c = (cn : Int)) := ⟨hR, hcn⟩
                  simp only [hcn, hR] at hpop
                  rw [hR] at hR0 hR1
                  have HCN : Hid (gt Cs cn = 1) := hCcn
                  clear hw hcn hR hCcn
                  go_wp2_with (go_at_call 32; (with_reducible refine (len_any _ _ _ _).mono ?_); rintro e wz ⟨rfl, rfl⟩)
                  refine (hpop _ HH.out).mono ?_
                  rintro e X1 ⟨rfl, ⟨K1, hK1, hK2, hK3⟩, hb1⟩
                  have HP1 : Hid (Pre b c o q W H N cap g Cs O w X1 ∧ Hp B p b K1 X1 ∧ Heap K1 ∧ (at' K 0 :: K1).Perm K) := ⟨HP.out.on hb1.below bB cB oB qB, hK1, hK2, hK3⟩
                  have ro := HP1.out.1.ro.1 cn (by rw [hOl]; exact hcnN)
                  have fo := HP1.out.1.ro.2 cn (by rw [hOl]; exact hcnN)
                  have os1 := HP1.out.1.os
                  obtain ⟨vO, hvO⟩ : ∃ v, O[cn]?.getD 0 = v := ⟨_, rfl⟩
                  rw [hvO] at ro
                  have HVO : Hid (gt O cn = vO) := hvO
                  clear hK1 hK2 hK3 hb1 hpop c0 hvO
                  by_cases hv : 0 ≤ vO
                  · go_wp2_with fail
                    go_roundg (gk - 1)
                    case measure => omega
                    case rel =>
                      have hl1 : K1.length + 1 = n := by rw [← hn, ← HP1.out.2.2.2.length_eq]; rfl
                      have hbl := Below.al (Below.refl X1.heap.size X1) (Obj.cells #[Value.int IntKind.i64 R, Value.int IntKind.i64 cn] 74)
                      exact ⟨O, K1, HP1.out.1.ext hbl, HP1.out.2.1.below hbl, HP1.out.2.2.1, (HI.out.perm HP1.out.2.2.2).skip cn HT.out.2 (by rw [HVO.out]; exact hv), by omega, by omega, fun t ht => HKK.out.2 t (HP1.out.2.2.2.mem_iff.1 (List.mem_cons_of_mem _ ht))⟩
                  · have hl1 : K1.length + 1 = n := by rw [← hn, ← HP1.out.2.2.2.length_eq]; rfl
                    have hund : und (O.set cn R) + 1 = und O := und_set O cn R (by rw [hOl]; exact hcnN) (by rw [HVO.out]; omega) hR0
                    have hv' : vO < 0 := by omega
                    clear hv
                    go_wp2_with fail
                    obtain ⟨xb, hxb⟩ : ∃ xb, X1.heap.size = xb := ⟨_, rfl⟩
                    obtain ⟨V2, hV2⟩ : ∃ V, (X1.setCell { block := o, off := cn } (Value.int IntKind.i64 R)).alloc (Obj.cells #[Value.int IntKind.i64 R, Value.int IntKind.i64 cn] 74) = V := ⟨_, rfl⟩
                    have hss : (X1.setCell { block := o, off := cn } (Value.int IntKind.i64 R)).heap.size = xb := by rw [← hxb]; simp [World.setCell]
                    have HS : Hid (Pre b c o q W H N cap g Cs (O.set cn R) w V2 ∧ Hp B p xb K1 V2 ∧ V2.cell? ⟨xb, 0, none⟩ = some (.int .i64 R) ∧ V2.cell? ⟨xb, 1, none⟩ = some (.int .i64 cn)) := by
                      have hnew := (HP1.out.2.1.put o cn oB (.int .i64 R)).new (Obj.cells #[Value.int IntKind.i64 R, Value.int IntKind.i64 cn] 74)
                      rw [hss, hV2] at hnew
                      refine ⟨hV2 ▸ (HP1.out.1.put cn R).ext (Below.al (Below.refl _ _) _), hnew, ?_, ?_⟩
                      · rw [← hV2, ← hss]; simp [go_sem]
                      · rw [← hV2, ← hss]; simp [go_sem]
                    have HI2 : Hid (Inv N (fun a => gt Cs a = 1) (Adj W H) (fun a b => Adj W H a b ∧ a ≠ cn) g (O.set cn R) K1 ∧ (∀ a, a < N → 0 ≤ gt (O.set cn R) a → gt (O.set cn R) a ≤ R) ∧ gt (O.set cn R) cn = R ∧ ∀ t ∈ K1, t.r + und (O.set cn R) + 1 ≤ N) := by
                      have h := (HI.out.perm HP1.out.2.2.2).take cn HT.out.2 hcnN (by rw [HVO.out]; exact hv') (fun u hu => hmin.out u (HP1.out.2.2.2.mem_iff.1 (List.mem_cons_of_mem _ hu)))
                      rw [HT.out.1] at h
                      refine ⟨h.1, h.2.1, h.2.2.1, fun t ht => ?_⟩
                      have := HKK.out.2 t (HP1.out.2.2.2.mem_iff.1 (List.mem_cons_of_mem _ ht))
                      omega
                    have hxB : b < xb ∧ xb ≠ p := by
                      have h1 := HP1.out.2.1.sz
                      have h2 := HP1.out.2.1.hB
                      omega
                    have HK2 := Lib.hid HP1.out.2.2.1
                    simp only [hxb]
                    rw [hV2]
                    obtain ⟨O2, hO2⟩ : ∃ O2, O.set cn R = O2 := ⟨_, rfl⟩
                    have hO2l : O2.length = N := by rw [← hO2, List.length_set]; exact hOl
                    rw [hO2] at HS HI2 hund
                    clear ro fo os1 HVO hv' hV2 hss hmin HT HP1 hO2 hxb
                    obtain ⟨xx, hxx⟩ : ∃ x, cn % W = x := ⟨_, rfl⟩
                    obtain ⟨yy, hyy⟩ : ∃ y, cn / W = y := ⟨_, rfl⟩
                    have hcxy : yy * W + xx = cn := by rw [← hxx, ← hyy, Nat.mul_comm]; exact Nat.div_add_mod cn W
                    have hx1 : xx < W := by rw [← hxx]; exact Nat.mod_lt _ (by omega)
                    have hy1 : yy < H := by rw [← hyy]; exact Nat.div_lt_of_lt_mul (by rw [HN.out]; exact hcnN)
                    have HAdj : Hid (∀ d e, 1 ≤ d → d ≤ 4 → stp W H xx yy d = ((e : Nat) : Int) → Adj W H cn e) := fun d e h1 h2 h3 => ⟨d, h1, h2, by rw [hxx, hyy]; exact h3⟩
                    have HAdj2 : Hid (∀ e, Adj W H cn e → ∃ d, 1 ≤ d ∧ d ≤ 4 ∧ stp W H xx yy d = (e : Int)) := fun e h => by rw [← hxx, ← hyy]; exact h
                    clear hxx hyy
                    go_loopw [15] (fun v15 wx => ∃ d : Nat, v15 = .int .i64 d ∧ 1 ≤ d ∧ d ≤ 5 ∧ Hid (∃ K2, Pre b c o q W H N cap g Cs O2 w wx ∧ Hp B p xb K2 wx ∧ Heap K2 ∧ Inv N (fun a => gt Cs a = 1) (Adj W H) (fun a e => Adj W H a e ∧ (a ≠ cn ∨ ∃ d', 1 ≤ d' ∧ d' < d ∧ stp W H xx yy d' = (e : Int))) g O2 K2 ∧ K2.length + 1 ≤ K1.length + d ∧ (∀ t ∈ K2, t.r + und O2 ≤ N) ∧ wx.cell? ⟨xb, 0, none⟩ = some (.int .i64 R) ∧ wx.cell? ⟨xb, 1, none⟩ = some (.int .i64 cn))) (fun v15 _ => 5 - (intOf v15).toNat)
                    case atStart =>
                      refine ⟨1, rfl, by omega, by omega, K1, HS.out.1, HS.out.2.1, HK2.out, HI2.out.1.more (fun a e ha he h1 h2 h3 h4 => ?_), by omega, fun t ht => by have := HI2.out.2.2.2 t ht; omega, HS.out.2.2.1, HS.out.2.2.2⟩
                      rcases h2.2 with h5 | ⟨d', h5, h6, _⟩
                      · exact .inl ⟨h1, h5⟩
                      · omega
                    case round =>
                      obtain ⟨d, rfl, hd1, hd5, K2, hK⟩ := hrel
                      have HK3 := Lib.hid hK
                      clear hK
                      have x0 := HK3.out.2.2.2.2.2.2.1
                      have x1 := HK3.out.2.2.2.2.2.2.2
                      have xl := HK3.out.2.1.zl
                      by_cases hd : d = 5
                      · subst hd
                        go_wp2_with fail
                        go_roundg (gk - 1)
                        case measure => omega
                        case rel =>
                          refine ⟨O2, K2, HK3.out.1, HK3.out.2.1.re bB, HK3.out.2.2.1, HK3.out.2.2.2.1.more (fun a e ha he h1 h2 h3 h4 => ?_), by have := HK3.out.2.2.2.2.1; omega, by omega, HK3.out.2.2.2.2.2.1⟩
                          by_cases h5 : a = cn
                          · subst h5
                            obtain ⟨d', h6, h7, h8⟩ := HAdj2.out e h1
                            exact .inl ⟨h1, .inr ⟨d', h6, by omega, h8⟩⟩
                          · exact .inl ⟨h1, .inl h5⟩
                      · have b0 := HK3.out.1.b0
                        have b1 := HK3.out.1.b1
                        have b2 := HK3.out.1.b2
                        have bs := HK3.out.1.bs
                        have cs := HK3.out.1.cs
                        have os := HK3.out.1.os
                        obtain ⟨sv, hsv⟩ : ∃ sv, stp W H xx yy d = sv := ⟨_, rfl⟩
                        have hstep := fun X => step_any W H xx yy d N (.slice (some ⟨c, 0, none⟩) N cap) X hW1 hW2 hH1 hH2 hx1 hy1 HN.out hd1 (by omega) cn hcxy
                        rw [hsv] at hstep
                        have HSV := Lib.hid hsv
                        have i5 : (d : Int) ≤ 4 := by omega
                        rcases stp_cases W H xx yy d N sv hx1 hy1 HN.out hsv with hneg | ⟨e, he, heN⟩
                        · have hneg' : ¬ 0 ≤ sv := by omega
                          clear hsv
                          go_wp2_with (go_at_call 34; (with_reducible refine (hstep _).mono ?_); rintro e w1 ⟨rfl, hb⟩; obtain ⟨l5, n5, rfl⟩ := ext_of hb; clear hb)
                          go_roundw
                          case rel =>
                            have hbe := below_ext wr l5 n5
                            refine ⟨d + 1, rfl, by omega, by omega, K2, HK3.out.1.ext hbe, HK3.out.2.1.below hbe, HK3.out.2.2.1, HK3.out.2.2.2.1.more (fun a e' ha he h1 h2 h3 h4 => ?_), by have := HK3.out.2.2.2.2.1; omega, HK3.out.2.2.2.2.2.1, (hbe.cell (p := ⟨xb, 0, none⟩) xl).trans x0, (hbe.cell (p := ⟨xb, 1, none⟩) xl).trans x1⟩
                            by_cases hac : a = cn
                            · rcases h2.2 with h5 | ⟨d', h5, h6, h7⟩
                              · exact absurd hac h5
                              · by_cases h8 : d' < d
                                · exact .inl ⟨h1, .inr ⟨d', h5, h8, h7⟩⟩
                                · obtain rfl : d' = d := by omega
                                  rw [HSV.out] at h7; omega
                            · exact .inl ⟨h1, .inl hac⟩
                          case measure => simp [intOf] <;> omega
                        · subst he
                          have ce := HK3.out.1.rc.1 e (by rw [HC.out]; exact heN)
                          have oe := HK3.out.1.ro.1 e (by rw [hO2l]; exact heN)
                          obtain ⟨ve, hve⟩ : ∃ v, O2[e]?.getD 0 = v := ⟨_, rfl⟩
                          rw [hve] at oe
                          have HVE : Hid (gt O2 e = ve) := hve
                          have heN' : (e : Int) < N := by omega
                          clear hsv hve
                          rcases H01.out e heN with h01 | h01
                          · have h01' := Lib.hid h01
                            unfold gt at h01
                            rw [h01] at ce
                            clear h01
                            go_wp2_with (go_at_call 34; (with_reducible refine (hstep _).mono ?_); rintro e w1 ⟨rfl, hb⟩; obtain ⟨l5, n5, rfl⟩ := ext_of hb; clear hb)
                            go_roundw
                            case rel =>
                              have hbe := below_ext wr l5 n5
                              refine ⟨d + 1, rfl, by omega, by omega, K2, HK3.out.1.ext hbe, HK3.out.2.1.below hbe, HK3.out.2.2.1, HK3.out.2.2.2.1.more (fun a e' ha he h1 h2 h3 h4 => ?_), by have := HK3.out.2.2.2.2.1; omega, HK3.out.2.2.2.2.2.1, (hbe.cell (p := ⟨xb, 0, none⟩) xl).trans x0, (hbe.cell (p := ⟨xb, 1, none⟩) xl).trans x1⟩
                              by_cases hac : a = cn
                              · rcases h2.2 with h5 | ⟨d', h5, h6, h7⟩
                                · exact absurd hac h5
                                · by_cases h8 : d' < d
                                  · exact .inl ⟨h1, .inr ⟨d', h5, h8, h7⟩⟩
                                  · obtain rfl : d' = d := by omega
                                    rw [HSV.out] at h7; have : e = e' := by omega
                                    subst this; simp only [h01'.out] at h3; omega
                              · exact .inl ⟨h1, .inl hac⟩
                            case measure => simp [intOf] <;> omega
                          · have h01' := Lib.hid h01
                            unfold gt at h01
                            rw [h01] at ce
                            clear h01
                            by_cases hve0 : 0 ≤ ve
                            · have hve1 : ¬ ve < 0 := by omega
                              have HBD : Hid (gt O2 e ≤ gt O2 cn + 1) := by
                                have h9 := HI2.out.2.1 e heN (by rw [HVE.out]; exact hve0)
                                have h10 := HI2.out.2.2.1
                                show gt O2 e ≤ gt O2 cn + 1
                                omega
                              go_wp2_with (go_at_call 34; (with_reducible refine (hstep _).mono ?_); rintro e w1 ⟨rfl, hb⟩; obtain ⟨l5, n5, rfl⟩ := ext_of hb; clear hb)
                              go_roundw
                              case rel =>
                                have hbe := below_ext wr l5 n5
                                refine ⟨d + 1, rfl, by omega, by omega, K2, HK3.out.1.ext hbe, HK3.out.2.1.below hbe, HK3.out.2.2.1, HK3.out.2.2.2.1.more (fun a e' ha he h1 h2 h3 h4 => ?_), by have := HK3.out.2.2.2.2.1; omega, HK3.out.2.2.2.2.2.1, (hbe.cell (p := ⟨xb, 0, none⟩) xl).trans x0, (hbe.cell (p := ⟨xb, 1, none⟩) xl).trans x1⟩
                                by_cases hac : a = cn
                                · rcases h2.2 with h5 | ⟨d', h5, h6, h7⟩
                                  · exact absurd hac h5
                                  · by_cases h8 : d' < d
                                    · exact .inl ⟨h1, .inr ⟨d', h5, h8, h7⟩⟩
                                    · obtain rfl : d' = d := by omega
                                      rw [HSV.out] at h7; have : e = e' := by omega
                                      subst this; exact .inr ⟨by rw [HVE.out]; exact hve0, by rw [hac]; exact HBD.out⟩
                                · exact .inl ⟨h1, .inl hac⟩
                              case measure => simp [intOf] <;> omega
                            · have hve1 : ve < 0 := by omega
                              clear hve0
                              go_wp2_with (go_at_call 34; (with_reducible refine (hstep _).mono ?_); rintro e w1 ⟨rfl, hb⟩; obtain ⟨l5, n5, rfl⟩ := ext_of hb; clear hb)
                              have cc := HK3.out.1.rc.1 cn (by rw [HC.out]; exact hcnN)
                              have hcc : Cs[cn]?.getD 0 = 1 := HCN.out
                              rw [hcc] at cc
                              have hRb : R ≤ 64 := by omega
                              refine region_tail_ext 14 (by kernel_rfl) (by kernel_rfl) ?_
                              simp only [List.take_succ_cons, List.take_zero, List.drop_succ_cons, List.drop_zero]
                              repeat (go_big_quiet_step ((fail)))
                              refine wpQuiet_nil ?_
                              intro _ hw'
                              obtain ⟨l6, n6, rfl⟩ := hw'
                              have hbe := below_ext wr l6 n6
                              have HX6 : Hid (Pre b c o q W H N cap g Cs O2 w (ext wr l6 n6) ∧ Hp B p xb K2 (ext wr l6 n6) ∧ (ext wr l6 n6).cell? ⟨xb, 0, none⟩ = some (.int .i64 R) ∧ (ext wr l6 n6).cell? ⟨xb, 1, none⟩ = some (.int .i64 cn)) := ⟨HK3.out.1.ext hbe, HK3.out.2.1.below hbe, (hbe.cell (p := ⟨xb, 0, none⟩) xl).trans x0, (hbe.cell (p := ⟨xb, 1, none⟩) xl).trans x1⟩
                              clear hbe
                              go_wp2_with fail
                              refine (hpush2 B p xb K2 (R + 1) e _ HX6.out.2.1 HK3.out.2.2.1 (by have := HK3.out.2.2.2.2.1; omega)).mono ?_
                              rintro e' X7 ⟨rfl, ⟨K7, hK7, hK8, hK9⟩, hb7⟩
                              have HX7 : Hid (Pre b c o q W H N cap g Cs O2 w X7 ∧ Hp B p xb K7 X7 ∧ Heap K7 ∧ K7.Perm (K2 ++ [⟨0, R + 1, e⟩]) ∧ X7.cell? ⟨xb, 0, none⟩ = some (.int .i64 R) ∧ X7.cell? ⟨xb, 1, none⟩ = some (.int .i64 cn)) :=
                                ⟨HX6.out.1.on hb7.below bB cB oB qB, hK7, hK8, hK9, (hb7.cell _).trans HX6.out.2.2.1, (hb7.cell _).trans HX6.out.2.2.2⟩
                              clear hK7 hK8 hK9 hb7
                              go_wp2_with fail
                              go_roundw
                              case rel =>
                                have htop := HI2.out.2.2.1
                                have hp := HK3.out.2.2.2.1.push cn e hcnN heN (HAdj.out d e hd1 (by omega) HSV.out) h01'.out (by rw [htop]; exact hR0) (fun a ha h0 => by rw [htop]; exact HI2.out.2.1 a ha h0) (by rw [HVE.out]; exact hve1)
                                rw [htop] at hp
                                refine ⟨d + 1, rfl, by omega, by omega, K7, HX7.out.1, HX7.out.2.1, HX7.out.2.2.1, (hp.perm HX7.out.2.2.2.1).more (fun a e' ha he h1 h2 h3 h4 => ?_), by rw [HX7.out.2.2.2.1.length_eq, List.length_append]; have := HK3.out.2.2.2.2.1; simp; omega, fun t ht => ?_, HX7.out.2.2.2.2.1, HX7.out.2.2.2.2.2⟩
                                · by_cases hac : a = cn
                                  · rcases h2.2 with h5 | ⟨d', h5, h6, h7⟩
                                    · exact absurd hac h5
                                    · by_cases h8 : d' < d
                                      · exact .inl (.inl ⟨h1, .inr ⟨d', h5, h8, h7⟩⟩)
                                      · obtain rfl : d' = d := by omega
                                        rw [HSV.out] at h7
                                        exact .inl (.inr ⟨hac, by omega⟩)
                                  · exact .inl (.inl ⟨h1, .inl hac⟩)
                                · rcases List.mem_append.1 (HX7.out.2.2.2.1.mem_iff.1 ht) with h5 | h5
                                  · exact HK3.out.2.2.2.2.2.1 t h5
                                  · simp only [List.mem_singleton] at h5
                                    subst h5
                                    simp only []
                                    omega
                              case measure => simp [intOf] <;> omega
    · have hil : i < O.length := by rw [hO.out.1]; omega
      have hcell := hO.out.2.2.ro.at i hil
      have hf := hO.out.2.2.ro.2 i hil
      have i1 : (i : Int) < (N : Int) := by omega
      obtain ⟨x, hx⟩ : ∃ x, O[i] = x := ⟨_, rfl⟩
      rw [hx] at hcell
      clear hx hil
      go_wp2_with fail
      go_roundw
      case rel =>
        refine ⟨i + 1, O.set i (-1), rfl, by omega, by rw [List.length_set]; exact hO.out.1, fun j hj => ?_, hO.out.2.2.put i (-1)⟩
        rcases Nat.lt_or_ge j i with h | h
        · rw [List.getElem?_set_ne (by omega)]; exact hO.out.2.1 j h
        · obtain rfl : j = i := by omega
          exact List.getElem?_set_self (by rw [hO.out.1]; omega)
      case measure => simp [intOf] <;> omega
end Go.Proofs.Ytaiflkjchbpphaa
