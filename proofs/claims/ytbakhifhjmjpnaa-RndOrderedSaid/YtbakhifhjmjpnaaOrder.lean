/- rnd.Order: each number once, in some order. -/
import Derived.Test.YtbakhifhjmjpnaaBegun
import Derived.Test.YtbakhifhjmjpnaaClone
namespace Go.Proofs.Ytbakhifhjmjpnaa
open Go.RowKit

/-- Numbers in a block. -/
def IRow (W : World) (g : Nat) (l : List Int) : Prop := (∀ k, k < l.length → W.cell? ⟨g, k, none⟩ = some (.int .i64 (l[k]?.getD 0))) ∧ ∀ k, k < l.length → W.frozen? ⟨g, k, none⟩ = false
theorem IRow.set {W : World} {g : Nat} {l : List Int} (h : IRow W g l) (k : Nat) (x : Int) : IRow (W.setCell ⟨g, k, none⟩ (.int .i64 x)) g (l.set k x) := by
  refine ⟨fun j hj => ?_, fun j hj => by rw [World.frozen?_setCell]; exact h.2 j (by rwa [List.length_set] at hj)⟩
  rw [List.length_set] at hj
  by_cases e : k = j
  · subst e
    rw [World.cell?_setCell_same _ _ _ (h.1 k hj), List.getElem?_set_self hj]; rfl
  · rw [World.cell?_setCell_other _ _ _ _ (fun e' => e (congrArg Addr.off e')), h.1 j hj, List.getElem?_set_ne e]
theorem IRow.below {B : Nat} {W W' : World} {g : Nat} {l : List Int} (h : IRow W g l) (hb : Below B W W') (hg : g < B) : IRow W' g l :=
  ⟨fun k hk => (hb.cell (p := ⟨g, k, none⟩) hg).trans (h.1 k hk), fun k hk => (hb.frozen (p := ⟨g, k, none⟩) hg).trans (h.2 k hk)⟩
theorem IRow.at {W : World} {g : Nat} {l : List Int} (h : IRow W g l) (k : Nat) (hk : k < l.length) : W.cell? ⟨g, k, none⟩ = some (.int .i64 l[k]) := by
  rw [h.1 k hk, List.getElem?_eq_getElem hk]; rfl
theorem IRow.other {W : World} {g : Nat} {l : List Int} (h : IRow W g l) (p : Addr) (hp : p.block ≠ g) (v : Value) : IRow (W.setCell p v) g l :=
  ⟨fun k hk => (World.cell?_setCell_other _ _ _ _ (fun e => hp (by rw [e]))).trans (h.1 k hk), fun k hk => (World.frozen?_setCell _ _ _ _).trans (h.2 k hk)⟩

/-- Where Order stands: the stream in block b, an empty result in block b + 1, the numbers in block G. -/
structure Ord (b : Nat) (w wr : World) (s g : W64) (G : Nat) (L : List Int) : Prop where
  row : IRow wr G L
  s0 : wr.cell? ⟨b, 0, none⟩ = some (.int .u64 (U s))
  s1 : wr.cell? ⟨b, 1, none⟩ = some (.int .u64 (U g))
  r0 : wr.cell? ⟨b + 1, 0, none⟩ = some (.int .u64 0)
  r1 : wr.cell? ⟨b + 1, 1, none⟩ = some (.int .u64 0)
  f0 : ∀ i, wr.frozen? ⟨b, i, none⟩ = false
  f1 : ∀ i, wr.frozen? ⟨b + 1, i, none⟩ = false
  hG : b + 1 < G
  lt : G < wr.heap.size
  below : Below b w wr
theorem Ord.put {b : Nat} {w wr : World} {s g : W64} {G : Nat} {L : List Int} (h : Ord b w wr s g G L) (k : Nat) (x : Int) : Ord b w (wr.setCell ⟨G, k, none⟩ (.int .i64 x)) s g G (L.set k x) := by
  have hG := h.hG
  have o : ∀ c i, c < G → (wr.setCell ⟨G, k, none⟩ (.int .i64 x)).cell? ⟨c, i, none⟩ = wr.cell? ⟨c, i, none⟩ := fun c i hc => World.cell?_setCell_other _ _ _ _ (fun e => by have := congrArg Addr.block e; simp only [] at this; omega)
  exact ⟨h.row.set k x, (o _ _ (by omega)).trans h.s0, (o _ _ (by omega)).trans h.s1, (o _ _ (by omega)).trans h.r0, (o _ _ (by omega)).trans h.r1, fun i => (World.frozen?_setCell _ _ _ _).trans (h.f0 i), fun i => (World.frozen?_setCell _ _ _ _).trans (h.f1 i), hG, by simpa [World.setCell] using h.lt, h.below.setCell (by simp only []; omega) _⟩
theorem Ord.on {b : Nat} {w wr w' : World} {s g : W64} {G : Nat} {L : List Int} (h : Ord b w wr s g G L) (hb : Below wr.heap.size wr w') : Ord b w w' s g G L := by
  have hG := h.hG
  have hl := h.lt
  have hs := hb.size
  have hs1 := h.below.size
  exact ⟨h.row.below hb hl, (hb.cell (p := ⟨b, 0, none⟩) (by simp only []; omega)).trans h.s0, (hb.cell (p := ⟨b, 1, none⟩) (by simp only []; omega)).trans h.s1, (hb.cell (p := ⟨b + 1, 0, none⟩) (by simp only []; omega)).trans h.r0, (hb.cell (p := ⟨b + 1, 1, none⟩) (by simp only []; omega)).trans h.r1,
    fun i => (hb.frozen (p := ⟨b, i, none⟩) (by simp only []; omega)).trans (h.f0 i), fun i => (hb.frozen (p := ⟨b + 1, i, none⟩) (by simp only []; omega)).trans (h.f1 i), hG, by omega, h.below.trans (hb.mono (by omega))⟩
theorem Ord.turn {b : Nat} {w wr : World} {s g : W64} {G : Nat} {L : List Int} (h : Ord b w wr s g G L) (t : W64) : Ord b w ((wr.setCell ⟨b, 0, none⟩ (.int .u64 (U t))).setCell ⟨b, 1, none⟩ (.int .u64 (U g))) t g G L := by
  have hG := h.hG
  refine ⟨(h.row.other _ (by simp only []; omega) _).other _ (by simp only []; omega) _, ?_, ?_, ?_, ?_, fun i => ?_, fun i => ?_, hG, by simpa [World.setCell] using h.lt, (h.below.setCell (by simp) _).setCell (by simp) _⟩
  · simp [go_sem, h.s0]
  · simp [go_sem, h.s1]
  · simp [go_sem, h.r0]
  · simp [go_sem, h.r1]
  · simp [go_sem, h.f0]
  · simp [go_sem, h.f1]

theorem range_of {L : List Int} {n : Nat} (hl : L.length = n) (h : ∀ j, j < n → L[j]? = some (j : Int)) : L = (List.range n).map fun (i : Nat) => (i : Int) := by
  apply List.ext_getElem?
  intro j
  rcases Nat.lt_or_ge j n with hj | hj
  · rw [h j hj]; simp [hj]
  · rw [List.getElem?_eq_none (by omega), List.getElem?_eq_none (by simpa using hj)]

/-- What Order says. -/
def Ordered (n : Nat) (g : W64) (w : World) (e : Ending) (w' : World) : Prop :=
  ∃ (G : Nat) (L : List Int) (t : W64), e = .returned (.tuple #[.slice (some ⟨G, 0, none⟩) n n, .agg #[.int .u64 (U t), .int .u64 (U g)], .int .i64 0]) ∧ L.length = n ∧ L.Perm ((List.range n).map fun (i : Nat) => (i : Int)) ∧ IRow w' G L ∧ w.heap.size ≤ G ∧ G < w'.heap.size ∧ Below w.heap.size w w'

set_option maxRecDepth 8000 in
theorem order_any (s g : W64) (n : Nat) (w : World) (h1 : n ≤ 1000) (hg : U (g % 2#64) = 1) :
    Calls Try.prog 6 #[.agg #[.int .u64 (U s), .int .u64 (U g)], .int .i64 n] w (Ordered n g w) := by
  obtain ⟨i0, hi0, hz0, hz1, hz2⟩ := info_parts Try.info3
  go_enter Try.func6, Try.ntmps6
  go_wp2_with (refine wpList_make_full _ rfl _ _ 24 rfl (w.heap.size + 2) 3 i0 (.int .i64 0) 1 Try.underlying24 hi0 hz0 hz1 .i64 .i64 _ _ n rfl rfl rfl rfl (by rw [hz2]; omega) (by unfold maxLen; omega) (by simp) ?_)
  intro W1 own1 hg1
  have hbi := (Below.refl ((w.alloc (Obj.cells #[Value.int IntKind.u64 (U s), Value.int IntKind.u64 (U g)] 27)).alloc (Obj.cells #[Value.int IntKind.u64 0, Value.int IntKind.u64 0] 27)).heap.size ((w.alloc (Obj.cells #[Value.int IntKind.u64 (U s), Value.int IntKind.u64 (U g)] 27)).alloc (Obj.cells #[Value.int IntKind.u64 0, Value.int IntKind.u64 0] 27))).grown hg1 (Nat.le_refl _) (fun k hk => by cases hk)
  have hb1 : Below w.heap.size w W1 := (Below.al (Below.al (Below.refl _ w) _) _).trans (hbi.mono (by simp [go_sem] <;> omega))
  obtain ⟨hlt1, hc1, hf1⟩ := made_ints own1
  have hcell : ∀ p : Addr, p.block < w.heap.size + 1 + 1 → W1.cell? p = _ := fun p hp => hbi.cell (p := p) (by simpa [go_sem] using hp)
  have hfroz : ∀ p : Addr, p.block < w.heap.size + 1 + 1 → W1.frozen? p = _ := fun p hp => hbi.frozen (p := p) (by simpa [go_sem] using hp)
  have HO : Hid (Ord w.heap.size w W1 s g (w.heap.size + 1 + 1) (List.replicate n 0)) := by
    refine ⟨⟨fun k hk => hc1 k (by simpa using hk), fun k _ => hf1 k⟩, ?_, ?_, ?_, ?_, fun i => ?_, fun i => ?_, by omega, hlt1, hb1⟩
    · rw [hcell _ (by simp only []; omega)]; simp [go_sem]
    · rw [hcell _ (by simp only []; omega)]; simp [go_sem]
    · rw [hcell _ (by simp only []; omega)]; simp [go_sem]
    · rw [hcell _ (by simp only []; omega)]; simp [go_sem]
    · rw [hfroz _ (by simp only []; omega)]; simp [go_sem]
    · rw [hfroz _ (by simp only []; omega)]; simp [go_sem]
  clear own1 hg1 hb1 hbi hlt1 hc1 hf1 hcell hfroz
  go_wp2_with fail
  obtain ⟨G, hGe⟩ : ∃ G, w.heap.size + 1 + 1 = G := ⟨_, rfl⟩
  rw [hGe] at HO
  simp only [hGe]
  clear hGe
  go_loopw [30] (fun v30 wr => ∃ (i : Nat) (L : List Int), v30 = .int .i64 i ∧ i ≤ n ∧ Hid (L.length = n ∧ (∀ j, j < i → L[j]? = some (j : Int)) ∧ Ord w.heap.size w wr s g G L)) (fun v30 _ => n - (intOf v30).toNat)
  case atStart => exact ⟨0, _, rfl, Nat.zero_le _, by simp, fun j hj => by omega, HO.out⟩
  case round =>
    obtain ⟨i, L, rfl, hi, hO⟩ := hrel
    by_cases h0 : i = n
    · have i1 : ¬ (i : Int) < (n : Int) := by omega
      have hO' := hO.out
      rw [h0] at hO'
      have HL : Hid (L.length = n ∧ L.Perm ((List.range n).map fun (i : Nat) => (i : Int))) := ⟨hO'.1, by rw [range_of hO'.1 hO'.2.1]⟩
      have HR := Lib.hid hO'.2.2
      clear h0 hO hO'
      go_wp2_with fail
      go_loopw [9] (fun v9 wr => ∃ (m : Int) (t : W64) (K : List Int), v9 = .int .i64 m ∧ -1 ≤ m ∧ m < n ∧ Hid (K.length = n ∧ K.Perm L ∧ Ord w.heap.size w wr t g G K)) (fun v9 _ => (intOf v9 + 1).toNat)
      case atStart => exact ⟨_, s, L, rfl, by omega, by omega, HL.out.1, List.Perm.refl _, HR.out⟩
      case round =>
        obtain ⟨m, t, K, rfl, hm1, hm2, hK⟩ := hrel
        have s0 := hK.out.2.2.s0
        have s1 := hK.out.2.2.s1
        have r0 := hK.out.2.2.r0
        have r1 := hK.out.2.2.r1
        have f0 := hK.out.2.2.f0
        have f1 := hK.out.2.2.f1
        have hG := hK.out.2.2.hG
        have hlt := hK.out.2.2.lt
        have hw0 : w.heap.size < wr.heap.size := by omega
        have hw1 : w.heap.size + 1 < wr.heap.size := by omega
        by_cases hm : m ≤ 0
        · go_wp2_with fail
          go_region
          go_wp2
          refine bodyPost_ret (v := .tuple #[.slice (some ⟨G, 0, none⟩) n n, .agg #[.int .u64 (U t), .int .u64 (U g)], .int .i64 0]) (by simp [results, Try.results6, go_sem, r0, r1]) rfl ⟨G, K, t, rfl, hK.out.1, hK.out.2.1.trans HL.out.2, ?_, by omega, by simpa [World.setCell] using hlt, ?_⟩
          · exact (((hK.out.2.2.row.other _ (by simp only []; omega) _).other _ (by simp only []; omega) _).below (Below.refl _ _).drew (by simpa [World.setCell] using hlt))
          · exact ((hK.out.2.2.below.setCell (by simp) _).setCell (by simp) _).drew
        · obtain ⟨M, rfl⟩ := Int.eq_ofNat_of_zero_le (show 0 ≤ m by omega)
          have hM : M < K.length := by rw [hK.out.1]; omega
          go_wp2_with fail
          refine (rndBelow_any _ _ _ _ (by omega) (by omega) hg).mono ?_
          rintro e w1 ⟨x, t2, rfl, hx0, hx1, -, -, hb⟩
          obtain ⟨l, k, rfl⟩ := ext_of hb
          clear hb
          go_wp2_with fail
          obtain ⟨X, rfl⟩ := Int.eq_ofNat_of_zero_le hx0
          have hX : X < K.length := by omega
          obtain ⟨V, hV⟩ : ∃ V, V = (ext ((wr.setCell { block := w.heap.size, off := 0 } (Value.int IntKind.u64 (U t2))).setCell { block := w.heap.size, off := 1 } (Value.int IntKind.u64 (U g))) l k).alloc (Obj.cells #[Value.int IntKind.u64 (U t2), Value.int IntKind.u64 (U g)] 27) := ⟨_, rfl⟩
          have HV : Hid (Ord w.heap.size w V t2 g G K) := by
            rw [hV]
            exact (hK.out.2.2.turn t2).on (Below.al (Below.ex (Below.refl _ _) _ _) _)
          rw [← hV]
          clear hV s0 s1 r0 r1 f0 f1 hlt hw0 hw1
          have cM := HV.out.row.at M hM
          have cX := HV.out.row.at X hX
          have fM := HV.out.row.2 M hM
          have fX := HV.out.row.2 X hX
          have HP : Hid (((K.set M K[X]).set X K[M]).Perm K ∧ ((K.set M K[X]).set X K[M]).length = n ∧ Ord w.heap.size w ((V.setCell ⟨G, M, none⟩ (.int .i64 K[X])).setCell ⟨G, X, none⟩ (.int .i64 K[M])) t2 g G ((K.set M K[X]).set X K[M])) :=
            ⟨List.set_set_perm hM hX, by simp only [List.length_set]; exact hK.out.1, (HV.out.put M _).put X _⟩
          have hMn : (M : Int) < n := hm2
          have hXn : (X : Int) < n := by omega
          obtain ⟨A, hA⟩ : ∃ A, K[M] = A := ⟨_, rfl⟩
          obtain ⟨B, hB⟩ : ∃ B, K[X] = B := ⟨_, rfl⟩
          rw [hA, hB] at HP
          rw [hA] at cM
          rw [hB] at cX
          by_cases hMX : M = X
          · subst hMX
            obtain rfl : A = B := hA.symm.trans hB
            clear hA hB hM hX cX fX
            go_region
            go_wp2
            go_roundw
            case rel => exact ⟨(M : Int) - 1, t2, _, rfl, by omega, by omega, HP.out.2.1, HP.out.1.trans hK.out.2.1, HP.out.2.2.on (Below.refl _ _).drew⟩
            case measure => simp [intOf] <;> omega
          · clear hA hB hM hX
            have hMX' : ¬ X = M := fun e => hMX e.symm
            go_region
            go_wp2
            go_roundw
            case rel => exact ⟨(M : Int) - 1, t2, _, rfl, by omega, by omega, HP.out.2.1, HP.out.1.trans hK.out.2.1, HP.out.2.2.on (Below.refl _ _).drew⟩
            case measure => simp [intOf] <;> omega
    · have hil : i < L.length := by rw [hO.out.1]; omega
      have hc := hO.out.2.2.row.at i hil
      have hf := hO.out.2.2.row.2 i hil
      have i1 : (i : Int) < (n : Int) := by omega
      obtain ⟨x, hx⟩ : ∃ x, L[i] = x := ⟨_, rfl⟩
      rw [hx] at hc
      clear hx hil
      go_wp2_with fail
      go_roundw
      case rel =>
        refine ⟨i + 1, L.set i i, rfl, by omega, by rw [List.length_set]; exact hO.out.1, fun j hj => ?_, hO.out.2.2.put i i⟩
        rcases Nat.lt_or_ge j i with h | h
        · rw [List.getElem?_set_ne (by omega)]; exact hO.out.2.1 j h
        · obtain rfl : j = i := by omega
          exact List.getElem?_set_self (by rw [hO.out.1]; omega)
      case measure => simp [intOf] <;> omega
end Go.Proofs.Ytbakhifhjmjpnaa
