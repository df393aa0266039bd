/- fars.Pop, heap.Push, heap.Pop. -/
import Derived.Test.YtaiflkjchbpphaaPush
namespace Go.Proofs.Ytaiflkjchbpphaa
open Go.RowKit

theorem owns_take {w : World} {B : Nat} {e : TypeId} {size g cap n m : Nat} {xs : List Value} (h : w.ownsRow B e size (.slice (some ⟨g, 0, none⟩) n cap) n xs) (hm : m ≤ n) :
    w.ownsRow B e size (.slice (some ⟨g, 0, none⟩) m cap) m (xs.take (m * size)) := by
  obtain ⟨h1, h2⟩ := h
  have hle : m * size ≤ n * size := Nat.mul_le_mul_right _ hm
  rcases h2 with ⟨h2, _⟩ | ⟨g', cap', cur, hv, hg, hh, hnc, hcm, hcs, ht⟩
  · cases h2
  · injection hv with e1 e2 e3
    injection e1 with e1
    injection e1 with e1
    subst e1 e3
    refine ⟨by rw [List.length_take, h1]; omega, .inr ⟨g, cap, cur, rfl, hg, hh, by omega, hcm, hcs, ?_⟩⟩
    rw [← ht, List.take_take, Nat.min_eq_left hle]
theorem Hp.cut {B p z g cap n : Nat} {K : List Itm} {x : Itm} {w : World} (h : Hp B p z (K ++ [x]) w) (hn : K.length = n) (hg : w.cell? ⟨p, 0, none⟩ = some (.slice (some ⟨g, 0, none⟩) (n + 1) cap)) :
    Hp B p z K (w.setCell ⟨p, 0, none⟩ (.slice (some ⟨g, 0, none⟩) n cap)) := by
  obtain ⟨v, h0, ho, hne⟩ := h.ex
  rw [hg] at h0
  injection h0 with h0
  subst h0
  have hl : (K ++ [x]).length = n + 1 := by simp [hn]
  rw [hl] at ho
  have hgp : g ≠ p := fun e => hne.1 (by rw [e]; rfl)
  have hgz : g ≠ z := fun e => hne.2 (by rw [e]; rfl)
  have o := owns_take (m := n) ho (by omega)
  rw [flat_take, List.take_left' hn] at o
  refine ⟨⟨_, World.cell?_setCell_same _ _ _ hg, ?_, fun e => hgp (by injection e), fun e => hgz (by injection e)⟩, h.zp, by simpa [World.setCell] using h.zl, ?_, by simpa [World.setCell] using h.sz, h.hB⟩
  · rw [hn]
    rcases o.2 with ⟨h0, _⟩ | ⟨g', cap', cur, hv, hg', hh, hnc, hcm, hcs, ht⟩
    · cases h0
    · injection hv with e1 e2 e3
      injection e1 with e1
      injection e1 with e1
      subst e1 e3
      exact ⟨o.1, .inr ⟨g, cap, cur, rfl, hg', (Below.heap_setCell _ _ _ _ hgp).trans hh, hnc, hcm, hcs, ht⟩⟩
  · intro j; rw [World.frozen?_setCell]; exact h.f j

theorem fpop_any (B p z : Nat) (K : List Itm) (x : Itm) (w : World) (h : Hp B p z (K ++ [x]) w) (hl : K.length < 4096) :
    Calls Try.prog 76 #[.pointer (some ⟨p, 0, none⟩)] w fun e w' => e = .returned (.iface 74 (.agg #[.int .i64 x.r, .int .i64 x.c])) ∧ Hid (Hp B p z K w') ∧ Bz B z w w' := by
  obtain ⟨i0, hi0, hz0, hz1, hz2⟩ := info_parts Try.info74
  obtain ⟨n, hn⟩ : ∃ n, K.length = n := ⟨_, rfl⟩
  have hlen : (K ++ [x]).length = n + 1 := by rw [List.length_append, hn]; rfl
  obtain ⟨g, cap, c0, _, hgp, hgz, hBg, hgl, hcap, hcell, hfr⟩ := h.open (by rw [hlen]; omega)
  rw [hlen] at c0 hcap
  obtain ⟨x0, x1⟩ := hcell n (by rw [hlen]; omega)
  have ex : at' (K ++ [x]) n = x := by unfold at'; rw [List.getElem?_append_right (by omega), hn, Nat.sub_self]; rfl
  rw [ex] at x0 x1
  have hcut : ∀ W : World, (Instr.slice 71 (.slice (some ⟨g, 0, none⟩) (n + 1) cap) none (some (.int .i64 (n : Int))) none).run Try.prog W = .ok (.slice (some ⟨g, 0, none⟩) n cap) W := fun W => run_cut W 71 74 _ _ cap n i0 Try.underlying71 hi0 (by omega) (by intro h; cases h)
  have hf := h.f
  have hsz := h.sz
  have hBp := h.hB
  have hzp := h.zp
  have hzl := h.zl
  rw [hn] at hl
  have HH := Lib.hid h
  have HN := Lib.hid hn
  clear h hn hcell hfr hlen ex
  go_enter Try.func76, Try.ntmps76
  go_wp2_with fail
  go_ret
  exact ⟨rfl, (HH.out.cut HN.out c0).below (Below.al (Below.refl _ _) _), ((Bz.refl B z w).setCell (p := ⟨p, 0, none⟩) hBp (fun e => hzp e.symm) _).on (Below.al (Below.refl _ _) _) (by simp [World.setCell]; omega) (by simp [World.setCell]; omega)⟩

theorem meth_Push (p : Nat) : ∀ w : World, (method 234 69 (.pointer (some ⟨p, 0, none⟩)) "Push").run Try.prog w = .ok (77, .pointer (some ⟨p, 0, none⟩)) w := fun _ => by kernel_rfl
theorem meth_Pop (p : Nat) : ∀ w : World, (method 234 69 (.pointer (some ⟨p, 0, none⟩)) "Pop").run Try.prog w = .ok (76, .pointer (some ⟨p, 0, none⟩)) w := fun _ => by kernel_rfl

theorem hpush_any (B p z : Nat) (H : List Itm) (x : Itm) (w : World) (h : Hp B p z H w) (hH : Heap H) (hl : H.length < 4096) :
    Calls Try.prog 31 #[.iface 69 (.pointer (some ⟨p, 0, none⟩)), .iface 74 (.agg #[.int .i64 x.r, .int .i64 x.c])] w fun e w' => e = .returned (.tuple #[]) ∧ Hid (∃ K, Hp B p z K w' ∧ Heap K ∧ K.Perm (H ++ [x])) ∧ Bz B z w w' := by
  have m1 := meth_Push p
  have HP := Lib.hid hH
  have HH := Lib.hid h
  obtain ⟨n, hn⟩ : ∃ n, H.length = n := ⟨_, rfl⟩
  have hpush := fpush_any B p z H x w h hl
  have HN := Lib.hid hn
  rw [hn] at hl
  clear h hH hn
  go_enter Try.func31, Try.ntmps31
  go_wp2_with fail
  refine hpush.mono ?_
  rintro e w1 ⟨rfl, hQ, hb⟩
  have hlen : (H ++ [x]).length = n + 1 := by rw [List.length_append, HN.out]; rfl
  obtain ⟨g, cap, c0, _, _, _, _, _, _, _, _⟩ := hQ.out.open (by rw [hlen]; omega)
  rw [hlen] at c0
  have m2 := meth_Len p (.slice (some ⟨g, 0, none⟩) (n + 1) cap)
  have HB := Lib.hid hb
  clear hb hpush
  go_wp2_with (go_at_call 32; (with_reducible refine (len_any _ _ _ _).mono ?_); rintro e wz ⟨rfl, rfl⟩)
  refine (up_any B p z n (H ++ [x]) _ hQ.out (by rw [hlen]; omega) (by rw [hlen]; omega) (by have := Up.new HP.out x; rwa [HN.out] at this)).mono ?_
  rintro e w2 ⟨rfl, hK, hb2⟩
  go_wp2_with fail
  go_end0
  exact ⟨rfl, hK, HB.out.trans hb2⟩

theorem swap_eq (g i n cap : Nat) (A : Itm) (w : World) (hi : i < n)
    (a0 : w.cell? ⟨g, i * 2, none⟩ = some (.int .i64 A.r)) (a1 : w.cell? ⟨g, i * 2 + 1, none⟩ = some (.int .i64 A.c)) (hf : ∀ j, w.frozen? ⟨g, j, none⟩ = false) :
    Calls Try.prog 78 #[.slice (some ⟨g, 0, none⟩) n cap, .int .i64 i, .int .i64 i] w fun e w' => e = .returned (.tuple #[]) ∧ w' = (swapW w g i i A A).drew := by
  go_enter Try.func78, Try.ntmps78
  go_region
  go_wp2
  go_end0
  exact ⟨rfl, rfl⟩

theorem pop_split (H : List Itm) (n : Nat) (hn : H.length = n + 1) : swap H 0 n = (H.set 0 (at' H n)).take n ++ [at' H 0] := by
  unfold swap
  rw [List.set_eq_take_append_cons_drop, if_pos (by simp; omega), List.drop_eq_nil_of_le (by simp; omega)]

/-- heap.Pop. -/
theorem hpop_any (B p z : Nat) (H : List Itm) (w : World) (h : Hp B p z H w) (hH : Heap H) (h1 : 1 ≤ H.length) (hl : H.length ≤ 4096) :
    Calls Try.prog 33 #[.iface 69 (.pointer (some ⟨p, 0, none⟩))] w fun e w' => e = .returned (.iface 74 (.agg #[.int .i64 (at' H 0).r, .int .i64 (at' H 0).c])) ∧ Hid (∃ K, Hp B p z K w' ∧ Heap K ∧ (at' H 0 :: K).Perm H) ∧ Bz B z w w' := by
  obtain ⟨n, hn⟩ : ∃ n, H.length = n + 1 := ⟨H.length - 1, by omega⟩
  obtain ⟨g, cap, c0, _, hgp, hgz, hBg, hgl, hcap, hcell, hfr⟩ := h.open h1
  obtain ⟨x0, x1⟩ := hcell 0 (by omega)
  obtain ⟨y0, y1⟩ := hcell n (by omega)
  have c0' := c0
  rw [hn] at c0 hcap hl
  have m1 := meth_Len p (.slice (some ⟨g, 0, none⟩) (n + 1) cap)
  have m2 := meth_Swap p (.slice (some ⟨g, 0, none⟩) (n + 1) cap)
  have m3 := meth_Pop p
  have hS := h.swap (i := 0) (k := n) c0' (fun e => hgp e.symm) (by omega) (by omega)
  rw [pop_split H n hn] at hS
  have hperm := take_perm H n hn.symm
  have hdown := Down.new hH n hn.symm
  have hJl : ((H.set 0 (at' H n)).take n).length = n := by rw [List.length_take, List.length_set]; omega
  obtain ⟨A, hA⟩ : ∃ A, at' H 0 = A := ⟨_, rfl⟩
  obtain ⟨D, hD⟩ : ∃ D, at' H n = D := ⟨_, rfl⟩
  obtain ⟨J, hJ⟩ : ∃ J, (H.set 0 (at' H n)).take n = J := ⟨_, rfl⟩
  rw [hJ, hA, hD] at hS
  rw [hJ, hA] at hperm
  rw [hJ] at hdown hJl
  rw [hA] at x0 x1 ⊢
  rw [hD] at y0 y1
  have hsw : Calls Try.prog 78 #[.slice (some ⟨g, 0, none⟩) (n + 1) cap, .int .i64 0, .int .i64 n] w fun e w' => e = .returned (.tuple #[]) ∧ w' = (swapW w g 0 n A D).drew := by
    by_cases hn0 : n = 0
    · subst hn0
      obtain rfl : A = D := hA.symm.trans hD
      exact swap_eq g 0 1 cap A w (by omega) x0 x1 hfr
    · exact swap_any g 0 n (n + 1) cap A D w (by omega) (by omega) (by omega) x0 x1 y0 y1 hfr
  have hBp := h.hB
  have hsz := h.sz
  have HS := Lib.hid hS.drew
  have HPM := Lib.hid hperm
  have HDN := Lib.hid hdown
  have HBW := Lib.hid ((swapW_bz hBg hgz (Bz.refl B z w) 0 n A D).drew)
  clear hS hperm hdown hA hD hJ hcell hfr x0 x1 y0 y1 c0' h hH
  go_enter Try.func33, Try.ntmps33
  go_wp2_with (first
    | (go_at_call 32; (with_reducible refine (len_any _ _ _ _).mono ?_); rintro e wz ⟨rfl, rfl⟩))
  refine hsw.mono ?_
  rintro e w1 ⟨rfl, rfl⟩
  obtain ⟨W, hW⟩ : ∃ W, (swapW w g 0 n A D).drew = W := ⟨_, rfl⟩
  rw [hW] at HS HBW ⊢
  clear hW hsw m1 m2 c0
  go_wp2_with fail
  refine (down_any B p z n J A W HS.out hJl (by omega) HDN.out).mono ?_
  rintro e w2 ⟨⟨v, rfl⟩, hK, hb2⟩
  obtain ⟨K, hK1, hK2, hK3⟩ := hK
  have hpop := fpop_any B p z K A w2 hK1 (by rw [hK3.length_eq, hJl]; omega)
  have HB2 := Lib.hid hb2
  have HK := Lib.hid (And.intro hK2 hK3)
  clear hb2 hK1 hK2 hK3
  go_wp2_with fail
  refine hpop.mono ?_
  rintro e w3 ⟨rfl, hQ, hb3⟩
  go_wp2_with fail
  go_ret
  exact ⟨rfl, ⟨K, hQ.out, HK.out.1, (HK.out.2.cons A).trans HPM.out⟩, (HBW.out.trans HB2.out).trans hb3⟩
end Go.Proofs.Ytaiflkjchbpphaa
