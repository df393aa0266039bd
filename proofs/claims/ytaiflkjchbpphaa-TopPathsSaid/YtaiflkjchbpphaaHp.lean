/- A heap of items in memory: flow.fars behind a pointer. -/
import Derived.Test.YtaiflkjchbpphaaFars
import Derived.Deep.AppendLies
import Derived.Deep.RegionLaw
namespace Go.Proofs.Ytaiflkjchbpphaa
open Go.RowKit

theorem Try.info74 : (Try.prog.info? 74).map (fun i => (i.zero, i.size, i.bytes)) = some (some (.agg #[.int .i64 0, .int .i64 0]), 2, 16) := by kernel_rfl

/-- All blocks below B are as they were, and block z. -/
structure Bz (B z : Nat) (w w' : World) : Prop where
  below : Below B w w'
  keep : w'.heap[z]? = w.heap[z]?
theorem Bz.refl (B z : Nat) (w : World) : Bz B z w w := ⟨Below.refl _ _, rfl⟩
theorem Bz.trans {B z : Nat} {a b c : World} (h : Bz B z a b) (k : Bz B z b c) : Bz B z a c := ⟨h.below.trans k.below, k.keep.trans h.keep⟩
theorem Bz.of {B z : Nat} {a b : World} (h : Below a.heap.size a b) (hB : B ≤ a.heap.size) (hz : z < a.heap.size) : Bz B z a b := ⟨h.mono hB, h.block z hz⟩
theorem Bz.on {B z : Nat} {a b c : World} (h : Bz B z a b) (k : Below b.heap.size b c) (hB : B ≤ b.heap.size) (hz : z < b.heap.size) : Bz B z a c := h.trans (Bz.of k hB hz)
theorem Bz.setCell {B z : Nat} {a b : World} (h : Bz B z a b) {p : Addr} (hB : B ≤ p.block) (hz : p.block ≠ z) (v : Value) : Bz B z a (b.setCell p v) := ⟨h.below.setCell hB v, (Below.heap_setCell _ _ _ _ (fun e => hz e.symm)).trans h.keep⟩
theorem Bz.drew {B z : Nat} {a b : World} (h : Bz B z a b) : Bz B z a b.drew := ⟨h.below.drew, h.keep⟩

/-- Block p holds a slice of the items H, at or above block B, and not in block z. -/
structure Hp (B p z : Nat) (H : List Itm) (w : World) : Prop where
  ex : ∃ v, w.cell? ⟨p, 0, none⟩ = some v ∧ w.ownsRow B 74 2 v H.length (flat H) ∧ v.ownBlock ≠ some p ∧ v.ownBlock ≠ some z
  zp : z ≠ p
  zl : z < w.heap.size
  f : ∀ j, w.frozen? ⟨p, j, none⟩ = false
  sz : p < w.heap.size
  hB : B ≤ p

theorem Hp.open {B p z : Nat} {H : List Itm} {w : World} (h : Hp B p z H w) (hH : 1 ≤ H.length) :
    ∃ g cap, w.cell? ⟨p, 0, none⟩ = some (.slice (some ⟨g, 0, none⟩) H.length cap) ∧ w.ownsRow B 74 2 (.slice (some ⟨g, 0, none⟩) H.length cap) H.length (flat H) ∧ g ≠ p ∧ g ≠ z ∧ B ≤ g ∧ g < w.heap.size ∧ H.length ≤ cap ∧
      (∀ k, k < H.length → w.cell? ⟨g, k * 2, none⟩ = some (.int .i64 (at' H k).r) ∧ w.cell? ⟨g, k * 2 + 1, none⟩ = some (.int .i64 (at' H k).c)) ∧ (∀ j, w.frozen? ⟨g, j, none⟩ = false) := by
  obtain ⟨v, h0, ho, hne, hnz⟩ := h.ex
  obtain ⟨g, cap, rfl, hg, hgl, hc, _, _, hcl, hf⟩ := owns_open ho hH
  refine ⟨g, cap, h0, ho, fun e => hne (by rw [e]; rfl), fun e => hnz (by rw [e]; rfl), by omega, hgl, hc, ?_, hf⟩
  intro k hk
  obtain ⟨a, b⟩ := flat_get H k hk
  exact ⟨(hcl _ (by omega)).trans a, (hcl _ (by omega)).trans b⟩

theorem Hp.below {B p z : Nat} {H : List Itm} {w w' : World} (h : Hp B p z H w) (hb : Below w.heap.size w w') : Hp B p z H w' := by
  obtain ⟨v, h0, ho, hne⟩ := h.ex
  have hs := h.sz
  exact ⟨⟨v, (hb.cell (p := ⟨p, 0, none⟩) hs).trans h0, owns_below ho hb (Nat.le_refl _), hne⟩, h.zp, by have := hb.size; have := h.zl; omega, fun j => (hb.frozen (p := ⟨p, j, none⟩) hs).trans (h.f j), by have := hb.size; omega, h.hB⟩
theorem Hp.ext {B p z : Nat} {H : List Itm} {w : World} (h : Hp B p z H w) (l : List Obj) (m : Nat) : Hp B p z H (ext w l m) := h.below (below_ext w l m)
theorem Hp.drew {B p z : Nat} {H : List Itm} {w : World} (h : Hp B p z H w) : Hp B p z H w.drew := ⟨h.ex, h.zp, h.zl, h.f, h.sz, h.hB⟩

theorem flat_set (H : List Itm) (x : Itm) : ∀ i, i < H.length → flat (H.set i x) = ((flat H).set (i * 2) (.int .i64 x.r)).set (i * 2 + 1) (.int .i64 x.c) := by
  induction H with
  | nil => intro i hi; simp at hi
  | cons y r ih =>
    intro i hi
    have e : ∀ (z : Itm) (q : List Itm), flat (z :: q) = .int .i64 z.r :: .int .i64 z.c :: flat q := by intro z q; simp [flat]
    cases i with
    | zero => rw [List.set_cons_zero, e, e]; rfl
    | succ i =>
      rw [List.set_cons_succ, e, e, ih i (by simpa using hi), show (i + 1) * 2 = i * 2 + 2 by omega, show i * 2 + 2 + 1 = i * 2 + 1 + 2 by omega]
      rfl

/-- An item stored. -/
def store2 (w : World) (g i : Nat) (x : Itm) : World := (w.setCell ⟨g, i * 2, none⟩ (.int .i64 x.r)).setCell ⟨g, i * 2 + 1, none⟩ (.int .i64 x.c)
theorem store2_cell (w : World) (g i : Nat) (x : Itm) (b o : Nat) (h : b ≠ g) : (store2 w g i x).cell? ⟨b, o, none⟩ = w.cell? ⟨b, o, none⟩ := by
  have hne : ∀ q, (⟨g, q, none⟩ : Addr) ≠ ⟨b, o, none⟩ := fun q e => h (congrArg Addr.block e).symm
  unfold store2
  rw [World.cell?_setCell_other _ _ _ _ (hne _), World.cell?_setCell_other _ _ _ _ (hne _)]
theorem store2_size (w : World) (g i : Nat) (x : Itm) : (store2 w g i x).heap.size = w.heap.size := by simp [store2, World.setCell]
theorem store2_below {B g : Nat} (hg : B ≤ g) {a w : World} (h : Below B a w) (i : Nat) (x : Itm) : Below B a (store2 w g i x) :=
  (h.setCell (p := ⟨g, i * 2, none⟩) hg _).setCell (p := ⟨g, i * 2 + 1, none⟩) hg _
theorem Hp.store {B p z g cap i : Nat} {H : List Itm} {w : World} (h : Hp B p z H w) (hg : w.cell? ⟨p, 0, none⟩ = some (.slice (some ⟨g, 0, none⟩) H.length cap)) (hi : i < H.length) (x : Itm) : Hp B p z (H.set i x) (store2 w g i x) := by
  obtain ⟨v, h0, ho, hne⟩ := h.ex
  rw [hg] at h0
  injection h0 with h0
  subst h0
  have hpg : p ≠ g := fun e => hne.1 (by rw [e]; rfl)
  have o1 := (ho.stored (i * 2) (.int .i64 x.r)).1
  have o2 := (o1.stored (i * 2 + 1) (.int .i64 x.c)).1
  rw [← flat_set H x i hi] at o2
  refine ⟨⟨_, (store2_cell w g i x p 0 hpg).trans hg, by rw [List.length_set]; exact o2, hne⟩, h.zp, by rw [store2_size]; exact h.zl, ?_, by rw [store2_size]; exact h.sz, h.hB⟩
  intro j; unfold store2; rw [World.frozen?_setCell, World.frozen?_setCell]; exact h.f j
def swapW (w : World) (g i k : Nat) (A B : Itm) : World := store2 (store2 w g i B) g k A
theorem Hp.swap {B p z g cap i k : Nat} {H : List Itm} {w : World} (h : Hp B p z H w) (hg : w.cell? ⟨p, 0, none⟩ = some (.slice (some ⟨g, 0, none⟩) H.length cap)) (hgp : p ≠ g) (hi : i < H.length) (hk : k < H.length) :
    Hp B p z (swap H i k) (swapW w g i k (at' H i) (at' H k)) := by
  have h1 := h.store hg hi (at' H k)
  refine h1.store (g := g) (cap := cap) ?_ (by simpa using hk) (at' H i)
  rw [store2_cell _ _ _ _ _ _ hgp, List.length_set]; exact hg

theorem store2_bz {B z g : Nat} (hg : B ≤ g) (hz : g ≠ z) {a w : World} (h : Bz B z a w) (i : Nat) (x : Itm) : Bz B z a (store2 w g i x) := (h.setCell (p := ⟨g, i * 2, none⟩) hg hz _).setCell (p := ⟨g, i * 2 + 1, none⟩) hg hz _
theorem swapW_bz {B z g : Nat} (hg : B ≤ g) (hz : g ≠ z) {a w : World} (h : Bz B z a w) (i k : Nat) (A C : Itm) : Bz B z a (swapW w g i k A C) := store2_bz hg hz (store2_bz hg hz h i C) k A
theorem swap_comm (H : List Itm) (i k : Nat) (h : i ≠ k) : swap H i k = swap H k i := by unfold swap; rw [List.set_comm _ _ h]

/-- fars.Swap. -/
theorem swap_any (g i k n cap : Nat) (A C : Itm) (w : World) (hi : i < n) (hk : k < n) (hik : ¬ i = k)
    (a0 : w.cell? ⟨g, i * 2, none⟩ = some (.int .i64 A.r)) (a1 : w.cell? ⟨g, i * 2 + 1, none⟩ = some (.int .i64 A.c)) (b0 : w.cell? ⟨g, k * 2, none⟩ = some (.int .i64 C.r)) (b1 : w.cell? ⟨g, k * 2 + 1, none⟩ = some (.int .i64 C.c)) (hf : ∀ j, w.frozen? ⟨g, j, none⟩ = false) :
    Calls Try.prog 78 #[.slice (some ⟨g, 0, none⟩) n cap, .int .i64 i, .int .i64 k] w fun e w' => e = .returned (.tuple #[]) ∧ w' = (swapW w g i k A C).drew := by
  have hki : ¬ k = i := fun e => hik e.symm
  have h1 : ¬ i * 2 = k * 2 := by omega
  have h2 : ¬ i * 2 = k * 2 + 1 := by omega
  have h3 : ¬ i * 2 + 1 = k * 2 := by omega
  have h4 : ¬ i * 2 + 1 = k * 2 + 1 := by omega
  have h5 : ¬ k * 2 = i * 2 := by omega
  have h6 : ¬ k * 2 = i * 2 + 1 := by omega
  have h7 : ¬ k * 2 + 1 = i * 2 := by omega
  have h8 : ¬ k * 2 + 1 = i * 2 + 1 := by omega
  go_enter Try.func78, Try.ntmps78
  go_region
  go_wp2
  go_end0
  exact ⟨rfl, rfl⟩

theorem meth_any (name : String) (f : FuncId) (h : ((Try.prog.info? 69).bind fun i => (i.methods.find? (·.name == name)).map fun m => (m.path.size, m.func)) = some (0, some (f, false))) (p : Nat) (v : Value) :
    ∀ w : World, w.cell? ⟨p, 0, none⟩ = some v → (method 234 69 (.pointer (some ⟨p, 0, none⟩)) name).run Try.prog w = .ok (f, v) w := fun w hc => Try.meth69 name f h p v w hc
theorem meth_Less (p : Nat) (v : Value) : ∀ w : World, w.cell? ⟨p, 0, none⟩ = some v → (method 234 69 (.pointer (some ⟨p, 0, none⟩)) "Less").run Try.prog w = .ok (75, v) w := meth_any "Less" 75 (by kernel_rfl) p v
theorem meth_Len (p : Nat) (v : Value) : ∀ w : World, w.cell? ⟨p, 0, none⟩ = some v → (method 234 69 (.pointer (some ⟨p, 0, none⟩)) "Len").run Try.prog w = .ok (32, v) w := meth_any "Len" 32 (by kernel_rfl) p v
theorem meth_Swap (p : Nat) (v : Value) : ∀ w : World, w.cell? ⟨p, 0, none⟩ = some v → (method 234 69 (.pointer (some ⟨p, 0, none⟩)) "Swap").run Try.prog w = .ok (78, v) w := meth_any "Swap" 78 (by kernel_rfl) p v

theorem len_any (a : Option Addr) (n cap : Nat) (w : World) :
    Calls Try.prog 32 #[.slice a n cap] w fun e w' => e = .returned (.int .i64 n) ∧ w = w' := by
  go_enter Try.func32, Try.ntmps32
  go_wp2
  go_ret
  exact ⟨rfl, rfl⟩

set_option maxRecDepth 8000 in
theorem up_any (B p z j : Nat) (H : List Itm) (w : World) (h : Hp B p z H w) (hj : j < H.length) (hl : H.length ≤ 4096) (hU : Up H j) :
    Calls Try.prog 47 #[.iface 69 (.pointer (some ⟨p, 0, none⟩)), .int .i64 j] w fun e w' => e = .returned (.tuple #[]) ∧ Hid (∃ K, Hp B p z K w' ∧ Heap K ∧ K.Perm H) ∧ Bz B z w w' := by
  obtain ⟨n, hn⟩ : ∃ n, H.length = n := ⟨_, rfl⟩
  rw [hn] at hj hl
  have HH := Lib.hid h
  have HN := Lib.hid hn
  have HU := Lib.hid hU
  clear h hn hU
  go_enter Try.func47, Try.ntmps47
  go_wp2_with fail
  go_loopw [1] (fun v1 wr => ∃ (k : Nat) (K : List Itm), v1 = .int .i64 k ∧ k < n ∧ Hid (Hp B p z K wr ∧ Up K k ∧ K.Perm H ∧ K.length = n ∧ Bz B z w wr)) (fun v1 _ => (intOf v1).toNat)
  case atStart => exact ⟨j, H, rfl, hj, HH.out, HU.out, List.Perm.refl _, HN.out, Bz.refl _ _ _⟩
  case round =>
    obtain ⟨k, K, rfl, hk, hK⟩ := hrel
    by_cases hk0 : k = 0
    · subst hk0
      go_wp2_with fail
      go_end0
      exact ⟨rfl, ⟨K, hK.out.1, hK.out.2.1.done (.inl rfl), hK.out.2.2.1⟩, hK.out.2.2.2.2⟩
    · obtain ⟨P, hP, hPk⟩ : ∃ P : Nat, ((k : Int) - 1) / 2 = (P : Int) ∧ (k - 1) / 2 = P := ⟨(k - 1) / 2, by omega, rfl⟩
      have hPl : P < k := by omega
      obtain ⟨g, cap, c0, _, hgp, hgz, hBg, hgl, hcap, hcell, hfr⟩ := hK.out.1.open (by rw [hK.out.2.2.2.1]; omega)
      rw [hK.out.2.2.2.1] at c0 hcap
      obtain ⟨x0, x1⟩ := hcell k (by rw [hK.out.2.2.2.1]; omega)
      obtain ⟨y0, y1⟩ := hcell P (by rw [hK.out.2.2.2.1]; omega)
      have m1 := meth_Less p (.slice (some ⟨g, 0, none⟩) n cap)
      have m2 := meth_Swap p (.slice (some ⟨g, 0, none⟩) n cap)
      obtain ⟨A, hA⟩ : ∃ A, at' K k = A := ⟨_, rfl⟩
      obtain ⟨C, hC⟩ : ∃ C, at' K P = C := ⟨_, rfl⟩
      rw [hA] at x0 x1
      rw [hC] at y0 y1
      have hPk0 : ((P : Int) == (k : Int)) = false := by simp; omega
      obtain ⟨bb, hbb⟩ : ∃ bb, bef A C = bb := ⟨_, rfl⟩
      have HBB := Lib.hid hbb
      have hless := less_any g k P n cap A C wr hk (by omega) x0 x1 y0 y1 hgl
      rw [hbb] at hless
      have hpl := hK.out.1.sz
      have hBp := hK.out.1.hB
      have hzl := hK.out.1.zl
      clear hcell hbb
      cases bb with
      | false =>
        go_wp2_with (go_at_call 75; (with_reducible refine hless.mono ?_); rintro e w1 ⟨rfl, hb⟩; have HB1 := Lib.hid hb; clear hb)
        go_end0
        exact ⟨rfl, ⟨K, hK.out.1.below HB1.out, hK.out.2.1.done (.inr (by rw [hPk, hA, hC]; exact HBB.out)), hK.out.2.2.1⟩, hK.out.2.2.2.2.on HB1.out (by omega) hzl⟩
      | true =>
        go_wp2_with (go_at_call 75; (with_reducible refine hless.mono ?_); rintro e w1 ⟨rfl, hb⟩; have c1 := (hb.cell (p := ⟨p, 0, none⟩) hpl).trans c0; have HB1 := Lib.hid hb; clear hb)
        refine (swap_any g P k n cap C A w1 (by omega) hk (by omega) ((HB1.out.cell (p := ⟨g, P * 2, none⟩) hgl).trans y0) ((HB1.out.cell (p := ⟨g, P * 2 + 1, none⟩) hgl).trans y1) ((HB1.out.cell (p := ⟨g, k * 2, none⟩) hgl).trans x0) ((HB1.out.cell (p := ⟨g, k * 2 + 1, none⟩) hgl).trans x1) (fun j => (HB1.out.frozen (p := ⟨g, j, none⟩) hgl).trans (hfr j))).mono ?_
        rintro e w2 ⟨rfl, rfl⟩
        have hkl : k < K.length := by rw [hK.out.2.2.2.1]; exact hk
        have hPl2 : P < K.length := by omega
        have hS := (hK.out.1.below HB1.out).swap (i := P) (k := k) (by rw [hK.out.2.2.2.1]; exact c1) (fun e => hgp e.symm) hPl2 hkl
        rw [hA, hC] at hS
        have hUp : Up (swap K P k) P := by
          have := hK.out.2.1.step (by omega) hkl (by rw [hPk, hA, hC]; exact HBB.out)
          rw [hPk] at this
          rw [swap_comm K P k (by omega)]; exact this
        have HS : Hid (Hp B p z (swap K P k) (swapW w1 g P k C A).drew ∧ Up (swap K P k) P ∧ (swap K P k).Perm H ∧ (swap K P k).length = n ∧ Bz B z w (swapW w1 g P k C A).drew) :=
          ⟨hS.drew, hUp, (swap_perm K P k hPl2 hkl).trans hK.out.2.2.1, by rw [swap_length]; exact hK.out.2.2.2.1, (swapW_bz hBg hgz (hK.out.2.2.2.2.on HB1.out (by omega) hzl) P k C A).drew⟩
        go_wp2_with fail
        go_roundw
        case rel => exact ⟨P, _, rfl, by omega, HS.out⟩
        case measure => simp [intOf] <;> omega
end Go.Proofs.Ytaiflkjchbpphaa
