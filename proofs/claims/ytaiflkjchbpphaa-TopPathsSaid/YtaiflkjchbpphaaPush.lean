/- fars.Push, fars.Pop, heap.Push, heap.Pop. -/
import Derived.Test.YtaiflkjchbpphaaDown
namespace Go.Proofs.Ytaiflkjchbpphaa
open Go.RowKit

@[go_sem ↓] theorem assert74 (v : Value) (w : World) : Sem.run Try.prog (Instr.typeAssert (Value.iface 74 v) 20 74 false) w = Result.ok v w := by kernel_rfl

theorem hp_mid {B p z n g cap : Nat} {H : List Itm} {x : Itm} {u : Value} {w : World} (hn : H.length = n) (own : w.ownsRow B 74 2 (.slice (some ⟨g, 0, none⟩) (n + 1) cap) (n + 1) (flat H ++ [.int .i64 x.r, .int .i64 x.c]))
    (hgp : g ≠ p) (hgz : g ≠ z) (hzp : z ≠ p) (hz : z < w.heap.size) (d0 : w.cell? ⟨p, 0, none⟩ = some u) (d2 : ∀ j, w.frozen? ⟨p, j, none⟩ = false) (hp : p < w.heap.size) (hB : B ≤ p) :
    Hp B p z (H ++ [x]) (w.setCell ⟨p, 0, none⟩ (.slice (some ⟨g, 0, none⟩) (n + 1) cap)) := by
  refine ⟨⟨_, World.cell?_setCell_same _ _ _ d0, ?_, fun e => hgp (by injection e), fun e => hgz (by injection e)⟩, hzp, by simpa [World.setCell] using hz, ?_, by simpa [World.setCell] using hp, hB⟩
  · have e : flat (H ++ [x]) = flat H ++ [.int .i64 x.r, .int .i64 x.c] := by rw [flat_append]; rfl
    rw [e, List.length_append, hn]
    rcases own.2 with ⟨h0, _⟩ | ⟨g', cap', cur, hv, hg, hh, hnc, hcm, hcs, ht⟩
    · cases h0
    · injection hv with e1 e2 e3
      injection e1 with e1
      injection e1 with e1
      subst e1 e3
      exact ⟨own.1, .inr ⟨g, cap, cur, rfl, hg, (Below.heap_setCell _ _ _ _ hgp).trans hh, hnc, hcm, hcs, ht⟩⟩
  · intro j; rw [World.frozen?_setCell]; exact d2 j

set_option maxRecDepth 100000 in
set_option maxHeartbeats 1000000 in
theorem fpush_any (B p z : Nat) (H : List Itm) (x : Itm) (w : World) (h : Hp B p z H w) (hl : H.length < 4096) :
    Calls Try.prog 77 #[.pointer (some ⟨p, 0, none⟩), .iface 74 (.agg #[.int .i64 x.r, .int .i64 x.c])] w fun e w' => e = .returned (.tuple #[]) ∧ Hid (Hp B p z (H ++ [x]) w') ∧ Bz B z w w' := by
  obtain ⟨i0, hi0, hz0, hz1, hz2⟩ := info_parts Try.info74
  obtain ⟨v0, h0, hown, hne, hnz⟩ := h.ex
  obtain ⟨ao, cap, rfl, hn0, _, _⟩ := owns_source hown
  have hf := h.f
  have hsz := h.sz
  have hBp := h.hB
  obtain ⟨n, hn⟩ : ∃ n, H.length = n := ⟨_, rfl⟩
  rw [hn] at h0 hown hl hne hnz
  have HN := Lib.hid hn
  have HO := Lib.hid hown
  have HNE := Lib.hid hne
  have HNZ := Lib.hid hnz
  have hzp := h.zp
  have hzl := h.zl
  have hsp : w.heap.size ≠ p := by omega
  clear h hn hown hn0 hne hnz
  go_enter Try.func77, Try.ntmps77
  obtain ⟨w1, hw1⟩ : ∃ w1, w.alloc (Obj.cells #[.int .i64 x.r, .int .i64 x.c] 74) = w1 := ⟨_, rfl⟩
  have ho1 : w1.ownsRow B 74 2 (.slice ao n cap) n (flat H) := by rw [← hw1]; exact HO.out.alloc _
  have hs1 : w1.heap.size = w.heap.size + 1 := by rw [← hw1]; simp
  have hc0' : w1.cell? ⟨p, 0, none⟩ = some (.slice ao n cap) := by rw [← hw1, World.cell?_alloc_lt _ _ _ hsz]; exact h0
  have hb1 : Below w.heap.size w w1 := by rw [← hw1]; exact (Below.refl _ _).alloc (Nat.le_refl _) _
  have HF1 : Hid (∀ j, w1.frozen? ⟨p, j, none⟩ = false) := fun j => (hb1.frozen (p := ⟨p, j, none⟩) hsz).trans (hf j)
  have hnew : ∀ j u, [Value.int .i64 x.r, .int .i64 x.c][j]? = some u → w1.drew.cell? ((⟨w.heap.size, 0, none⟩ : Addr).add j) = some u := by
    intro j u hj
    show w1.cell? _ = _
    rw [← hw1, Addr.add_lit]
    match j, hj with
    | 0, hj => simp at hj; subst hj; simp [go_sem]
    | 1, hj => simp at hj; subst hj; simp [go_sem]
  have HNEW := Lib.hid hnew
  have h1c : ∀ u ∈ [Value.int .i64 x.r, .int .i64 x.c], u.oneCell' = true := by
    intro u hu
    simp at hu
    rcases hu with rfl | rfl <;> rfl
  have H1C := Lib.hid h1c
  have HO1 := Lib.hid ho1
  have HC0 := Lib.hid hc0'
  have HB1 := Lib.hid hb1
  have hrow : Hid (∀ q, (Value.slice ao n cap).ownBlock = some q → B ≤ q) := fun q hq => (HO.out.lt q hq).1
  clear hnew h1c ho1 hb1
  go_region_law ((refine step_append_lies _ rfl _ _ 71 rfl B 74 i0 (.agg #[.int .i64 0, .int .i64 0]) 2 16 Try.underlying71 hi0 hz0 hz1 hz2 rfl (by decide) _ n (flat H) rfl HO1.out.drew ⟨w.heap.size, 0, none⟩ 1 1 [.int .i64 x.r, .int .i64 x.c] rfl rfl HNEW.out H1C.out (by omega) (by unfold maxLen; omega) (by omega) (by simp; omega) _ rfl ?_); intro g cap' w2 own2 hg2 hor hgl; have d0 : w2.cell? ⟨p, 0, none⟩ = some (.slice ao n cap) := hg2.cell (a := ⟨p, 0, none⟩) HC0.out (fun e => HNE.out e.symm); have hb2 : Below B w1.drew w2 := (Below.refl _ _).grown hg2 (by simp; omega) hrow.out; have d2 : ∀ j, w2.frozen? ⟨p, j, none⟩ = false := (fun j => (hg2.frozen_far ⟨p, j, none⟩ (by simp; omega) (fun e => HNE.out e.symm)).trans (HF1.out j)); have OWN2 := Lib.hid own2; have HB2 := Lib.hid hb2; have HGP : Hid (g ≠ p) := (fun e => hor.elim (fun h => HNE.out (by rw [← e]; exact h)) (fun h => by simp at h; omega)); have HGZ : Hid (g ≠ z) := (fun e => hor.elim (fun h => HNZ.out (by rw [← e]; exact h)) (fun h => by simp at h; omega)); have HKZ : Hid (w2.heap[z]? = w1.drew.heap[z]?) := hg2.block z (by simp; omega) (fun e => HNZ.out e.symm); clear own2 hg2 hb2 hor)
  all_goals
    go_wp2
    go_end0
    have hsz2 := HB2.out.size
    refine ⟨rfl, hp_mid HN.out OWN2.out HGP.out HGZ.out hzp (by simp at hsz2; omega) d0 d2 (by simp at hsz2; omega) hBp, ?_⟩
    have k1 : Bz B z w w1 := Bz.of HB1.out (by omega) hzl
    have k2 : Bz B z w1.drew w2 := ⟨HB2.out, HKZ.out⟩
    exact (k1.drew.trans k2).setCell (p := ⟨p, 0, none⟩) hBp (fun e => hzp e.symm) _
end Go.Proofs.Ytaiflkjchbpphaa
