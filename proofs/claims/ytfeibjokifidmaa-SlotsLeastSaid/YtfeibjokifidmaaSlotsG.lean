/- slots.Of: slots that were never freed, some of them in use. -/
import Derived.Test.YtfeibjokifidmaaSlotsB
import Derived.Test.YtfeibjokifidmaaSlotsK
namespace Go.Proofs.Ytfeibjokifidmaa.Z
open Go.RowKit Go.Shelf Go.Proofs.Ytfeibjokifidmaa.M

theorem sub_not {U : Sets} {x : Nat} (h : has U x = false) : jn subW U (one x) = U := by
  refine has_ext fun j => ?_
  rw [has_sub, has_one]
  by_cases e : j = x
  · subst e; simp [h]
  · simp [e]
theorem upto_one' (i : Nat) : ∀ n, upto (one i) n = if i < n then [i] else []
  | 0 => by simp [upto]
  | n + 1 => by
    rw [upto_succ, upto_one' i n, has_one]
    by_cases h : i < n
    · have h1 : i < n + 1 := by omega
      have h2 : n ≠ i := by omega
      simp [h, h1, h2]
    · by_cases h2 : n = i
      · subst h2; simp
      · have h1 : ¬ i < n + 1 := by omega
        simp [h, h1, h2]
theorem len_new (s : Sets) (i : Nat) (hi : i < 4096) (h : has s i = false) : (elems (jn orW s (one i))).length = (elems s).length + 1 := by
  have h0 := len_or_and s (one i)
  have h1 : (elems (one i)).length = 1 := by unfold elems; rw [upto_one', if_pos hi]; rfl
  have h2 : elems (jn andW s (one i)) = [] := by
    rw [List.eq_nil_iff_forall_not_mem]
    intro j hj
    have := (mem_elems.1 hj).2
    rw [has_and, has_one] at this
    simp at this
    rw [this.2] at this
    rw [h] at this
    exact absurd this.1 (by simp)
  rw [h1, h2] at h0
  simpa using h0
/-- A shorter piece of a row. -/
theorem owns_cut {w : World} {B : Nat} {e : TypeId} {size : Nat} {ao : Option Addr} {n cap : Nat} {xs : List Value} (h : w.ownsRow B e size (.slice ao n cap) n xs) {k : Nat} (hk : k ≤ n) : w.ownsRow B e size (.slice ao k cap) k (xs.take (k * size)) := by
  obtain ⟨h1, h2⟩ := h
  refine ⟨by rw [List.length_take, h1]; exact Nat.min_eq_left (Nat.mul_le_mul_right _ hk), ?_⟩
  rcases h2 with ⟨e1, e2⟩ | ⟨g, cap', cur, e1, hb, hh, hn, hc, hs, ht⟩
  · injection e1 with e1 e3 e4
    subst e1 e4
    exact .inl ⟨by rw [show k = 0 by omega], by omega⟩
  · injection e1 with e1 _ e4
    subst e1 e4
    refine .inr ⟨g, cap, cur, rfl, hb, hh, by omega, hc, hs, ?_⟩
    rw [← ht, List.take_take, Nat.min_eq_left (Nat.mul_le_mul_right _ hk)]
theorem ints_take (L : List Nat) (k : Nat) : ints (L.take k) = (ints L).take (k * 1) := by unfold ints; rw [List.map_take, Nat.mul_one]
theorem getD_zeros (m i : Nat) : (List.replicate m 0)[i]?.getD 0 = 0 := by
  rw [List.getElem?_replicate]
  split <;> rfl

theorem sorted_len : ∀ (L : List Nat) (a b : Nat), a ≤ b → L.Pairwise (· < ·) → (∀ x ∈ L, a ≤ x ∧ x < b) → L.length + a ≤ b
  | [], a, b, h, _, _ => by simpa using h
  | x :: l, a, b, _, hs, hx => by
    obtain ⟨h1, h2⟩ := List.pairwise_cons.1 hs
    have h3 := hx x (by simp)
    have := sorted_len l (x + 1) b (by omega) h2 fun y hy => ⟨h1 y hy, (hx y (by simp [hy])).2⟩
    simp
    omega

/-- What Of says. -/
def Made (m : Nat) (L : List Nat) (w : World) (e : Ending) (w' : World) : Prop :=
  ∃ p bz U F, e = .returned (.tuple #[.pointer (some ⟨p, 0, none⟩), .int .i64 0]) ∧ SlotsAt w' p bz (List.replicate m 0) U F ∧ Inv (List.replicate m 0) U F ∧ (∀ i, has U i = decide (i ∈ L)) ∧ (elems U).length = L.length ∧ w.heap.size ≤ bz ∧ w.heap.size ≤ p ∧ bz ≤ w'.heap.size ∧ Below w.heap.size w w'

set_option maxRecDepth 8000 in
set_option maxHeartbeats 4000000 in
theorem slotsOf_any (ga ua : Option Addr) (m gc q uc B1 B2 : Nat) (L : List Nat) (w : World) (hm : m ≤ 256) (hG : w.ownsRow B1 3 1 (.slice ga m gc) m (ints (List.replicate m 0))) (hL : L.length = q) (hU : w.ownsRow B2 3 1 (.slice ua q uc) q (ints L))
    (hs : L.Pairwise (· < ·)) (hlt : ∀ x ∈ L, x < m) :
    Calls Try.prog 47 #[.slice ga m gc, .slice ua q uc] w (Made m L w) := by
  obtain ⟨i0, hi0, hz0, hz1, hz2⟩ := info_parts Try.info3
  have hq : q ≤ m := by have := sorted_len L 0 m (Nat.zero_le _) hs (fun x hx => ⟨Nat.zero_le _, hlt x hx⟩); omega
  have HGC : Hid (∀ k W, k < m → Below w.heap.size w W → ∃ g, ga = some ⟨g, 0, none⟩ ∧ W.cell? ⟨g, k, none⟩ = some (.int .i64 0)) := by
    intro k W hk hW
    obtain ⟨g, c, he, _, hg, _, _, _, hcl, _⟩ := owns_open hG (by omega)
    cases he
    refine ⟨g, rfl, (hW.cell (p := ⟨g, k, none⟩) hg).trans ((hcl k (by omega)).trans ?_)⟩
    rw [ints_at (by simp; omega), getD_zeros]
    rfl
  have HUC : Hid (∀ k W, k < q → Below w.heap.size w W → ∃ g, ua = some ⟨g, 0, none⟩ ∧ W.cell? ⟨g, k, none⟩ = some (.int .i64 (L[k]?.getD 0 : Nat))) := by
    intro k W hk hW
    obtain ⟨g, c, he, _, hg, _, _, _, hcl, _⟩ := owns_open hU (by omega)
    cases he
    exact ⟨g, rfl, (hW.cell (p := ⟨g, k, none⟩) hg).trans ((hcl k (by omega)).trans (ints_at (by omega)))⟩
  obtain ⟨ao, c', he, hgn, hgc, hgl⟩ := owns_source hG
  cases he
  have HGN := Lib.hid hgn
  have HGCC := Lib.hid hgc
  have HGL : Hid ((ints (List.replicate m 0)).length = m * 1) := hgl
  have HS := Lib.hid hs
  have HLT := Lib.hid hlt
  have HLL := Lib.hid hL
  clear hG hU hs hlt hL hgn hgc hgl
  go_enter Try.func47, Try.ntmps47
  go_wp2_with (at_builtin; refine wpList_append_copy _ rfl _ _ 22 rfl 3 i0 (.int .i64 0) 1 8 Try.underlying22 hi0 hz0 hz1 hz2 rfl (by decide) ga m gc (ints (List.replicate m 0)) rfl rfl HGL.out HGN.out HGCC.out (by intro u hu; unfold ints at hu; obtain ⟨x, _, rfl⟩ := List.mem_map.1 hu; rfl) (by unfold maxLen; omega) (by omega) ?_)
  intro v w1 hown hg
  have hB : Below w.heap.size w w1 := (Below.refl _ _).grown hg (Nat.le_refl _) (fun k hk => by cases hk)
  have HB := Lib.hid hB
  have HO := Lib.hid hown
  obtain ⟨vo, vc, rfl, _, _, _⟩ := owns_source hown
  clear hB hg hown
  go_wp2_with fail
  obtain ⟨W2, hW2⟩ : ∃ W2, w1.alloc (.cells #[.slice vo m vc, .slice none 0 0, .slice none 0 0] 94) = W2 := ⟨_, rfl⟩
  obtain ⟨p, hp⟩ : ∃ p, w1.heap.size = p := ⟨_, rfl⟩
  obtain ⟨bz, hbz⟩ : ∃ bz, w.heap.size = bz := ⟨_, rfl⟩
  have hbp : bz ≤ p := by rw [← hbz, ← hp]; exact HB.out.size
  have hB2 : Below bz w W2 := by rw [← hW2, ← hbz]; exact HB.out.alloc HB.out.size _
  have hS2 : SlotsAt W2 p bz (List.replicate m 0) none' none' := by
    have c0 : W2.cell? ⟨p, 0, none⟩ = some (.slice vo m vc) := by rw [← hW2, ← hp]; simp
    refine ⟨⟨_, c0, ?_⟩, ⟨.slice none 0 0, by rw [← hW2, ← hp]; simp, set_nil _⟩, ⟨.slice none 0 0, by rw [← hW2, ← hp]; simp, set_nil _⟩, fun j => by rw [← hW2, ← hp]; simp, by rw [← hW2, ← hp]; simp, fun v hv => ?_⟩
    · rw [← hW2, ← hbz, List.length_replicate]
      exact HO.out.alloc _
    · rw [c0] at hv
      injection hv with hv
      intro e
      rw [← hv] at e
      have := (HO.out.lt p e).2
      omega
  rw [hW2, hp]
  have HB2 := Lib.hid hB2
  have HS2 := Lib.hid hS2
  clear HO HB hW2 hp hB2 hS2 HGL HGN HGCC
  rw [hbz] at HGC HUC
  go_loopw [8, 21] (fun _ i wr => ∃ k : Nat, i = .int .i64 k ∧ k ≤ m ∧ wr = W2) (fun _ i _ => m - (intOf i).toNat)
  case atStart => exact ⟨0, rfl, Nat.zero_le _, rfl⟩
  case round =>
    obtain ⟨k, rfl, hk, rfl⟩ := hrel
    by_cases hlt : k < m
    · obtain ⟨g, rfl, hgk⟩ := HGC.out k wr hlt HB2.out
      go_wp2_with fail
      go_roundw
      case rel => exact ⟨k + 1, by go_num, by omega, trivial⟩
      case measure => simp [intOf]; omega
    · obtain rfl : k = m := by omega
      go_wp2_with fail
      go_loopw [9, 10, 34] (fun _ _ i wx => ∃ (j : Nat) (U : Sets), i = .int .i64 j ∧ j ≤ q ∧ SlotsAt wx p bz (List.replicate k 0) U none' ∧ Hid ((∀ t, has U t = decide (t ∈ L.take j)) ∧ (elems U).length = j) ∧ Below bz w wx) (fun _ _ i _ => q - (intOf i).toNat)
      case atStart => exact ⟨0, none', rfl, Nat.zero_le _, HS2.out, ⟨fun t => by rw [has_none]; simp, by simp [elems, upto, has, none']⟩, HB2.out⟩
      case round =>
        obtain ⟨j, U, rfl, hj, hS, hH, hB⟩ := hrel
        by_cases hjq : j < q
        · obtain ⟨b1, rfl, hu1⟩ := HUC.out j wr hjq hB
          obtain ⟨y, hy⟩ : ∃ y, L[j]? = some y := ⟨_, List.getElem?_eq_getElem (by rw [HLL.out]; exact hjq)⟩
          rw [hy] at hu1
          have hyk := HLT.out y (List.mem_of_getElem? hy)
          obtain ⟨g1, rfl, hgy⟩ := HGC.out y wr hyk hB
          obtain ⟨uv, hu, hsu⟩ := hS.used
          obtain ⟨uad, un, uc', rfl⟩ : ∃ ad n c, uv = .slice ad n c := by obtain ⟨l, ad, c, h1, _⟩ := hsu; exact ⟨ad, l.length, c, h1⟩
          have hpw := hS.sz
          have hfz := hS.fz 1
          have HWI := Lib.hid (with_any _ _ y wr hsu (by omega))
          have HS3 := Lib.hid hS
          have HB3 := Lib.hid hB
          have iy0 : (0 : Int) ≤ (y : Int) := Int.natCast_nonneg _
          have iy1 : (y : Int) < (k : Int) := by omega
          have HY := Lib.hid hy
          have hgm : decide ((k : Int) ≤ (y : Int)) = false := by rw [decide_eq_false_iff_not]; omega
          have hu1 : wr.cell? ⟨b1, j, none⟩ = some (.int .i64 (y : Nat)) := hu1
          have hpv : j = 0 ∨ ∃ j' z, j = j' + 1 ∧ wr.cell? ⟨b1, j', none⟩ = some (.int .i64 ((z : Nat) : Int)) ∧ z < y := by
            cases j with
            | zero => exact .inl rfl
            | succ j' =>
              obtain ⟨b2, he2, hu2⟩ := HUC.out j' wr (by omega) hB
              cases he2
              refine .inr ⟨j', _, rfl, hu2, ?_⟩
              have h1 : j' < L.length := by rw [HLL.out]; omega
              have h2 : j' + 1 < L.length := by rw [HLL.out]; omega
              rw [List.getElem?_eq_getElem h1]
              rw [List.getElem?_eq_getElem h2] at hy
              injection hy with hy
              rw [← hy]
              exact List.pairwise_iff_getElem.1 HS.out j' (j' + 1) h1 h2 (Nat.lt_succ_self _)
          clear hS hB hsu hy
          have HN : ∀ w4 rv, SetAt w4 rv (jn orW U (one y)) → Below wr.heap.size wr w4 → SlotsAt (w4.setCell ⟨p, 1, none⟩ rv) p bz (List.replicate k 0) (jn orW U (one y)) none' ∧ Hid ((∀ t, has (jn orW U (one y)) t = decide (t ∈ L.take (j + 1))) ∧ (elems (jn orW U (one y))).length = j + 1) ∧ Below bz w (w4.setCell ⟨p, 1, none⟩ rv) := by
            intro w4 rv h4 hb4
            have hny : has U y = false := by
              rw [hH.out.1 y, decide_eq_false_iff_not]
              intro hm
              obtain ⟨i, hi, he⟩ := List.getElem_of_mem hm
              have hil : i < j := by simp at hi; omega
              rw [List.getElem_take] at he
              have h2 : j < L.length := by rw [HLL.out]; exact hjq
              have := List.pairwise_iff_getElem.1 HS.out i j (by omega) h2 hil
              have hyj := HY.out
              rw [List.getElem?_eq_getElem h2] at hyj
              injection hyj with hyj
              omega
            refine ⟨((HS3.out.keep hb4).setUsed h4).1, ⟨fun t => ?_, ?_⟩, (HB3.out.trans (hb4.mono (by rw [← hbz]; have := HB3.out.size; omega))).setCell (p := ⟨p, 1, none⟩) hbp _⟩
            · rw [has_or, has_one, hH.out.1 t, List.take_add_one, HY.out]
              simp
            · rw [len_new U y (by omega) hny, hH.out.2]
          have HN := Lib.hid HN
          rcases hpv with rfl | ⟨j', z, rfl, hz, hzy⟩
          · go_wp2_with fail
            with_reducible refine HWI.out.mono ?_
            rintro e w4 ⟨rv, rfl, h4, hb4⟩
            obtain ⟨ad4, n4, c4, rfl⟩ : ∃ ad n c, rv = .slice ad n c := by obtain ⟨l, ad, c, h1, _⟩ := h4; exact ⟨ad, l.length, c, h1⟩
            have HN4 := Lib.hid (HN.out _ _ h4 hb4)
            have hu4 := (hb4.cell (p := ⟨p, 1, none⟩) hpw).trans hu
            have hf4 := (hb4.frozen (p := ⟨p, 1, none⟩) hpw).trans hfz
            have hpw4 : p < w4.heap.size := by have := hb4.size; omega
            clear h4 hb4 HN
            go_wp2_with fail
            go_roundw
            case rel => exact ⟨0 + 1, _, by go_num, by omega, HN4.out⟩
            case measure => simp [intOf]; omega
          · go_wp2_with fail
            with_reducible refine HWI.out.mono ?_
            rintro e w4 ⟨rv, rfl, h4, hb4⟩
            obtain ⟨ad4, n4, c4, rfl⟩ : ∃ ad n c, rv = .slice ad n c := by obtain ⟨l, ad, c, h1, _⟩ := h4; exact ⟨ad, l.length, c, h1⟩
            have HN4 := Lib.hid (HN.out _ _ h4 hb4)
            have hu4 := (hb4.cell (p := ⟨p, 1, none⟩) hpw).trans hu
            have hf4 := (hb4.frozen (p := ⟨p, 1, none⟩) hpw).trans hfz
            have hpw4 : p < w4.heap.size := by have := hb4.size; omega
            clear h4 hb4 HN
            go_wp2_with fail
            go_roundw
            case rel => exact ⟨j' + 1 + 1, _, by go_num, by omega, HN4.out⟩
            case measure => simp [intOf]; omega
        · obtain rfl : j = q := by omega
          have HU := Lib.hid (And.intro (fun t => (hH.out.1 t).trans (by rw [List.take_of_length_le (by rw [HLL.out]; exact Nat.le_refl _)])) hH.out.2 : (∀ t, has U t = decide (t ∈ L)) ∧ (elems U).length = j)
          have HS3 := Lib.hid hS
          have HB3 := Lib.hid hB
          clear hS hH hB
          go_wp2_with fail
          go_loopw [11, 77] (fun _ i wy => ∃ (t : Nat) (F : Sets), i = .int .i64 t ∧ t ≤ k ∧ SlotsAt wy p bz (List.replicate k 0) U F ∧ (∀ x, has F x = (decide (x < t) && !has U x)) ∧ Below bz w wy) (fun _ i _ => k - (intOf i).toNat)
          case atStart => exact ⟨0, none', rfl, Nat.zero_le _, HS3.out, fun x => by rw [has_none]; simp, HB3.out⟩
          case round =>
            obtain ⟨t, F, rfl, ht, hS, hF, hB⟩ := hrel
            have HF := Lib.hid hF
            have HS4 := Lib.hid hS
            have HB4 := Lib.hid hB
            clear hF
            by_cases htk : t < k
            · obtain ⟨uv, hu, hsu⟩ := hS.used
              obtain ⟨uad, un, uc', rfl⟩ : ∃ ad n c, uv = .slice ad n c := by obtain ⟨l, ad, c, h1, _⟩ := hsu; exact ⟨ad, l.length, c, h1⟩
              obtain ⟨fv, hf, hsf⟩ := hS.free
              obtain ⟨fad, fn, fc, rfl⟩ : ∃ ad n c, fv = .slice ad n c := by obtain ⟨l, ad, c, h1, _⟩ := hsf; exact ⟨ad, l.length, c, h1⟩
              have hhas := has_any _ U t wr hsu (by omega)
              have hpw := hS.sz
              have hfz := hS.fz 2
              obtain ⟨bb, hbb⟩ : ∃ bb, has U t = bb := ⟨_, rfl⟩
              rw [hbb] at hhas
              have HH := Lib.hid hhas
              have HBB := Lib.hid hbb
              cases bb with
              | true =>
                clear hhas hbb hsf hsu hS hB
                go_wp2_with fail
                with_reducible refine HH.out.mono ?_
                rintro e _ ⟨rfl, rfl⟩
                go_wp2_with fail
                go_roundw
                case rel =>
                  refine ⟨t + 1, F, by go_num, by omega, HS4.out, fun x => ?_, HB4.out⟩
                  rw [HF.out x]
                  by_cases hxt : x = t
                  · subst hxt; rw [HBB.out]; simp
                  · rw [show decide (x < t + 1) = decide (x < t) from by simp; omega]
                case measure => simp [intOf]; omega
              | false =>
                obtain ⟨g1, rfl, hgy⟩ := HGC.out t wr htk hB
                have HWI := Lib.hid (with_any _ _ t wr hsf (by omega))
                have it0 : (0 : Int) ≤ (t : Int) := Int.natCast_nonneg _
                have it1 : (t : Int) < (k : Int) := by omega
                clear hhas hbb hsf hsu hS hB
                go_wp2_with fail
                with_reducible refine HH.out.mono ?_
                rintro e _ ⟨rfl, rfl⟩
                go_wp2_with fail
                with_reducible refine HWI.out.mono ?_
                rintro e w4 ⟨rv, rfl, h4, hb4⟩
                obtain ⟨ad4, n4, c4, rfl⟩ : ∃ ad n c, rv = .slice ad n c := by obtain ⟨l, ad, c, h1, _⟩ := h4; exact ⟨ad, l.length, c, h1⟩
                have hu4 := (hb4.cell (p := ⟨p, 2, none⟩) hpw).trans hf
                have hf4 := (hb4.frozen (p := ⟨p, 2, none⟩) hpw).trans hfz
                have hpw4 : p < w4.heap.size := by have := hb4.size; omega
                have HS5 := Lib.hid ((HS4.out.keep hb4).setFree h4).1
                have HB5 := Lib.hid ((HB4.out.trans (hb4.mono (by rw [← hbz]; have := HB4.out.size; omega))).setCell (p := ⟨p, 2, none⟩) hbp (.slice ad4 n4 c4))
                clear h4 hb4
                go_wp2_with fail
                go_roundw
                case rel =>
                  refine ⟨t + 1, _, by go_num, by omega, HS5.out, fun x => ?_, HB5.out⟩
                  rw [has_or, has_one, HF.out x]
                  by_cases hxt : x = t
                  · subst hxt; rw [HBB.out]; simp
                  · rw [show decide (x < t + 1) = decide (x < t) from by simp; omega]
                    simp [hxt]
                case measure => simp [intOf]; omega
            · obtain rfl : t = k := by omega
              clear hS hB
              go_wp2_with fail
              refine bodyPost_ret (v := .tuple #[.pointer (some ⟨p, 0, none⟩), .int .i64 0]) (by simp [results, Try.f47, go_sem]) rfl ?_
              refine ⟨p, bz, U, F, rfl, HS4.out, ⟨by simp; omega, fun i hi => ?_, fun i => ?_⟩, HU.out.1, by rw [HU.out.2, HLL.out], by omega, by omega, by have := HS4.out.sz; omega, by rw [hbz]; exact HB4.out⟩
              · rw [HU.out.1 i, decide_eq_true_iff] at hi
                rw [List.length_replicate]
                exact HLT.out i hi
              · rw [HF.out i, List.length_replicate]
end Go.Proofs.Ytfeibjokifidmaa.Z
