/- queue.Sort. -/
import Derived.Test.YtfeibjokifidmaaTake
import Derived.Test.YtfeibjokifidmaaSorted
namespace Go.Proofs.Ytfeibjokifidmaa
open Go.RowKit

theorem Try.info3 : (Try.prog.info? 3).map (fun i => (i.zero, i.size, i.bytes)) = some (some (.int .i64 0), 1, 8) := by kernel_rfl

/-- The length in a slot. -/
def lenOf : Value → Nat | .slice _ r _ => r | _ => 0

theorem owns_keep {w w' : World} {B : Nat} {e : TypeId} {size : Nat} {v : Value} {n : Nat} {xs : List Value} (h : w.ownsRow B e size v n xs) (hb : ∀ k, B ≤ k → k < w.heap.size → v.ownBlock = some k → w'.heap[k]? = w.heap[k]?) : w'.ownsRow B e size v n xs := by
  obtain ⟨h1, h2⟩ := h
  refine ⟨h1, ?_⟩
  rcases h2 with h2 | ⟨g, cap, cur, hv, hg, hh, r⟩
  · exact .inl h2
  · have hlt : g < w.heap.size := by
      rcases Nat.lt_or_ge g w.heap.size with h' | h'
      · exact h'
      · simp [Array.getElem?_eq_none h'] at hh
    exact .inr ⟨g, cap, cur, hv, hg, by rw [hb g hg hlt (by rw [hv]; rfl)]; exact hh, r⟩
theorem owns_fr {w w' : World} {B p g : Nat} {e : TypeId} {size : Nat} {v : Value} {n : Nat} {xs : List Value} (h : w.ownsRow B e size v n xs) (hf : Fr p g w w') (hp : p < B) (hg : g < B) : w'.ownsRow B e size v n xs :=
  owns_keep h fun k hk hl _ => hf.block k hl (by omega) (by omega)
theorem Que.keep {p came g cap B : Nat} {H : List Itm} {w w' : World} (h : Que p H came w) (hg : w.cell? ⟨p, 0, none⟩ = some (.slice (some ⟨g, 0, none⟩) H.length cap)) (hb : Below B w w') (hp : p < B) (hgB : g < B) : Que p H came w' := by
  obtain ⟨v, h0, ho⟩ := h.ex
  have hs := h.sz
  rw [hg] at h0
  injection h0 with h0
  subst h0
  refine ⟨⟨_, (hb.cell (p := ⟨p, 0, none⟩) hp).trans hg, owns_keep ho ?_⟩, (hb.cell (p := ⟨p, 1, none⟩) hp).trans h.c1, fun j => (hb.frozen (p := ⟨p, j, none⟩) hp).trans (h.f j), by have := hb.size; omega⟩
  intro k _ _ hk
  injection hk with hk
  subst hk
  exact hb.block _ hgB

theorem Que.made (w : World) (t : TypeId) : Que w.heap.size [] 0 (w.alloc (Obj.cells #[.slice none 0 0, .int .i64 0] t)) := by
  refine ⟨⟨.slice none 0 0, by simp [go_sem], ?_⟩, by simp [go_sem], ?_, by simp⟩
  · exact World.ownsRow_nil _ _ _ _
  · intro j; simp [go_sem]

/-- What Sort says. -/
def Sorts (rs : List Int) (n : Nat) (w : World) (e : Ending) (w' : World) : Prop :=
  ∃ v O, e = .returned (.tuple #[v, .int .i64 0]) ∧ Sorted rs n O ∧ w'.ownsRow w.heap.size 3 1 v n (O.map fun t => .int .i64 t.v) ∧ Below w.heap.size w w'

set_option maxRecDepth 4000 in
set_option maxHeartbeats 2000000 in
theorem sort_any (a : Option Addr) (rs : List Int) (n cap : Nat) (w : World) (hl : rs.length = n) (hr : n ≤ 4096) (hn : a = none → n = 0 ∧ cap = 0)
    (hc : ∀ x, a = some x → ∀ j u, (rs.map (Value.int .i64))[j]? = some u → w.cell? (x.add j) = some u) :
    Calls Try.prog 34 #[.slice a n cap] w (Sorts rs n w) := by
  obtain ⟨i0, hi0, hz0, hz1, hz2⟩ := info_parts Try.info3
  have HC : Hid (∀ k, k < n → ∃ x, a = some x ∧ x.block < w.heap.size ∧ ∀ W, Below w.heap.size w W → W.cell? (x.add k) = some (.int .i64 (rs[k]?.getD 0))) := by
    intro k hk
    cases a with
    | none => have := (hn rfl).1; omega
    | some x =>
      have h := hc x rfl k (.int .i64 (rs[k]?.getD 0)) (by rw [List.getElem?_map, List.getElem?_eq_getElem (by omega)]; rfl)
      have hb := World.block_lt_of_cell? w _ h
      have hxb : (x.add k).block = x.block := by unfold Addr.add; split <;> rfl
      exact ⟨x, rfl, by omega, fun W hW => (hW.cell hb).trans h⟩
  clear hn hc hl
  go_enter Try.func34, Try.ntmps34
  go_wp2_with fail
  obtain ⟨W1, hW1⟩ : ∃ W1, w.alloc (Obj.cells #[Value.slice none 0 0, Value.int IntKind.i64 0] 27) = W1 := ⟨_, rfl⟩
  obtain ⟨p, hp⟩ : ∃ p, w.heap.size = p := ⟨_, rfl⟩
  have hQ1 := Que.made w 27
  have hB1 : Below p w W1 := by rw [← hW1, ← hp]; exact (Below.refl _ _).alloc (Nat.le_refl _) _
  rw [hp, hW1] at hQ1
  rw [hp, hW1]
  have HP := Lib.hid hp
  have HQ1 := Lib.hid hQ1
  have HB1 := Lib.hid hB1
  rw [hp] at HC
  clear hW1 hp hQ1 hB1
  go_loopw [5, 6, 16] (fun _ _ i wr => ∃ (k : Nat) (H : List Itm), i = .int .i64 k ∧ k ≤ n ∧ Que p H k wr ∧ Hid (Heap H ∧ H.Perm (its rs k)) ∧ Below p w wr) (fun _ _ i _ => n - (intOf i).toNat)
  case atStart => exact ⟨0, [], rfl, Nat.zero_le _, HQ1.out, ⟨fun j _ hj => by simp at hj, List.Perm.refl _⟩, HB1.out⟩
  case round =>
    obtain ⟨k, H, rfl, hk, hQ, hH, hB⟩ := hrel
    have HL : Hid (H.length = k) := by have := hH.out.2.length_eq; rw [its_length] at this; exact this
    have HQ := Lib.hid hQ
    have HB := Lib.hid hB
    clear hQ hB
    by_cases hlt : k < n
    · obtain ⟨x, rfl, _, hx⟩ := HC.out k hlt
      have hxk := hx wr HB.out
      obtain ⟨z, hz⟩ : ∃ z, rs[k]?.getD 0 = z := ⟨_, rfl⟩
      have HZ := Lib.hid hz
      rw [hz] at hxk
      clear hx hz
      go_wp2_with fail
      refine (put_any p H k k z wr HQ.out hH.out.1 (by rw [HL.out]; omega) (by omega)).mono ?_
      rintro e w1 ⟨rfl, hR, hB1⟩
      have HB1 := Lib.hid hB1
      clear hB1
      go_wp2_with fail
      go_roundw
      case rel =>
        obtain ⟨H', hQ', hH', hP'⟩ := hR.out
        refine ⟨k + 1, H', by go_num, by omega, hQ', ⟨hH', ?_⟩, HB.out.trans HB1.out⟩
        rw [its_succ, HZ.out]
        exact hP'.trans (hH.out.2.append_right _)
      case measure => simp [intOf]; omega
    · obtain rfl : k = n := by omega
      obtain ⟨g, c, hg⟩ : ∃ g c, p < wr.heap.size ∧ (1 ≤ k → p < g ∧ g < wr.heap.size ∧ wr.cell? ⟨p, 0, none⟩ = some (.slice (some ⟨g, 0, none⟩) H.length c)) := by
        by_cases hk0 : 1 ≤ k
        · obtain ⟨g, c, h0, _, h1, h2, _⟩ := HQ.out.open (by rw [HL.out]; exact hk0)
          exact ⟨g, c, HQ.out.sz, fun _ => ⟨h1, h2, h0⟩⟩
        · exact ⟨0, 0, HQ.out.sz, fun h => absurd h hk0⟩
      have HG := Lib.hid hg
      obtain ⟨B, hBs⟩ : ∃ B, wr.heap.size = B := ⟨_, rfl⟩
      rw [hBs] at HG
      have HBS := Lib.hid (Nat.le_of_eq hBs.symm)
      clear hg hBs
      go_wp2_with fail
      go_loopw [7, 8, 9, 10] (fun v _ _ _ wx => ∃ (j : Nat) (O J : List Itm), j + J.length = k ∧ Que p J k wx ∧ Hid (Heap J ∧ (O ++ J).Perm (its rs k) ∧ O.Pairwise Le ∧ (∀ x ∈ O, ∀ y ∈ J, Le x y) ∧ O.length = j) ∧
        Hid (1 ≤ k → wx.cell? ⟨p, 0, none⟩ = some (.slice (some ⟨g, 0, none⟩) J.length c)) ∧ wx.ownsRow B 3 1 v j (O.map fun t => .int .i64 t.v) ∧ B ≤ wx.heap.size ∧ Below p w wx) (fun v _ _ _ _ => k - lenOf v)
      case atStart => exact ⟨0, [], H, by rw [HL.out]; omega, HQ.out, ⟨hH.out.1, hH.out.2, List.Pairwise.nil, (by simp), rfl⟩, fun h => (HG.out.2 h).2.2, World.ownsRow_nil _ _ _ _, HBS.out, HB.out⟩
      case round =>
        obtain ⟨j, O, J, hj, hQ2, hJ, hc, hO, hB3, hB2⟩ := hrel
        have HQ2 := Lib.hid hQ2
        have HB2 := Lib.hid hB2
        have HO := Lib.hid hO
        clear hQ2 hB2 hO
        by_cases hlt : 1 ≤ J.length
        · have hk1 : 1 ≤ k := by omega
          obtain ⟨hpg, hgB, _⟩ := HG.out.2 hk1
          have hcx := hc hk1
          have HCX := Lib.hid hcx
          obtain ⟨X, hX⟩ : ∃ X, at' J 0 = X := ⟨_, rfl⟩
          have hqn := qlen_any p J k wr HQ2.out
          have htk := take_any p J k wr HQ2.out hJ.out.1 hlt (by omega)
          unfold Taken at htk
          rw [hX] at htk
          obtain ⟨m, hm⟩ : ∃ m, J.length = m := ⟨_, rfl⟩
          rw [hm] at hqn hcx hlt
          have HM := Lib.hid hm
          have HX := Lib.hid hX
          have HQN := Lib.hid hqn
          have HTK := Lib.hid htk
          clear hqn htk hm hX hc hcx
          go_wp2_with fail
          refine HQN.out.mono ?_
          rintro e _ ⟨rfl, rfl⟩
          go_wp2_with fail
          refine HTK.out.mono ?_
          rintro e w2 ⟨rfl, J', hQ', hH', hP', g', c', hpg', hc1, hc2, hfr⟩
          rw [HCX.out] at hc1
          injection hc1 with hc1
          injection hc1 with e1 _ e3
          injection e1 with e1
          injection e1 with e1
          subst e1 e3
          have hO2 := owns_fr HO.out hfr (by omega) hgB
          have hs2 := hfr.size
          have HFR := Lib.hid (HB2.out.trans (hfr.below (by omega) (by omega)))
          have HQ' := Lib.hid hQ'
          have HH' := Lib.hid (And.intro hH' hP')
          have HC2 := Lib.hid hc2
          have hjk : j < k := by have := HM.out; omega
          clear hQ' hH' hP' hfr hc2
          go_wp2_with (at_builtin; refine wpList_append_own _ rfl _ _ 22 rfl B 3 i0 (.int .i64 0) 1 8 Try.underlying22 hi0 hz0 hz1 hz2 rfl (by decide) _ j _ rfl (hO2.alloc _) ⟨w2.heap.size, 0, none⟩ 1 1 [.int .i64 X.v] rfl rfl (new_one _ _ _) (one_ok rfl) (by unfold maxLen; omega) (by omega) (by simp; omega) ?_)
          intro v' w3 hO3 hg3 _
          have hb3 : Below B w2 w3 := ((Below.refl B w2).alloc (by omega) _).grown hg3 (by simp; omega) (fun q hq => (hO2.lt q hq).1)
          have HB3' := Lib.hid hb3
          have HO3 := Lib.hid hO3
          clear hg3 hO2 hb3 hO3
          go_wp2_with fail
          go_roundw
          case rel =>
            have hl' : J'.length + 1 = J.length := by have := HH'.out.2.length_eq; simpa using this
            refine ⟨j + 1, O ++ [X], J', by have := HM.out; omega, HQ'.out.keep HC2.out HB3'.out (by omega) hgB, ⟨HH'.out.1, ?_, ?_, ?_, ?_⟩, fun _ => ?_, ?_, ?_, ?_⟩
            · rw [List.append_assoc]
              exact (HH'.out.2.append_left O).trans hJ.out.2.1
            · rw [List.pairwise_append]
              refine ⟨hJ.out.2.2.1, by simp, ?_⟩
              intro x hx y hy
              rw [List.mem_singleton] at hy
              subst hy
              exact hJ.out.2.2.2.1 x hx y (HH'.out.2.mem_iff.1 (by simp))
            · intro x hx y hy
              have hyJ : y ∈ J := HH'.out.2.mem_iff.1 (by simp [hy])
              rcases List.mem_append.1 hx with hx | hx
              · exact hJ.out.2.2.2.1 x hx y hyJ
              · rw [List.mem_singleton] at hx
                subst hx
                rw [← HX.out]
                exact hJ.out.1.least_mem y hyJ
            · rw [List.length_append, hJ.out.2.2.2.2]; rfl
            · exact (HB3'.out.cell (p := ⟨p, 0, none⟩) (by show p < B; omega)).trans HC2.out
            · rw [List.map_append]; exact HO3.out
            · have := HB3'.out.size; omega
            · exact HFR.out.trans (HB3'.out.mono (by omega))
          case measure =>
            obtain ⟨_, _, e1, _, _, _⟩ := owns_source HO.out
            obtain ⟨_, _, e2, _, _, _⟩ := owns_source HO3.out
            rw [e1, e2]
            show k - (j + 1) < k - j
            omega
        · obtain rfl : J = [] := List.eq_nil_of_length_eq_zero (by omega)
          have hqn := qlen_any p [] k wr HQ2.out
          rw [List.length_nil] at hqn
          have HQN := Lib.hid hqn
          simp only [List.length_nil, Nat.add_zero] at hj
          subst hj
          clear hqn
          go_wp2_with fail
          refine HQN.out.mono ?_
          rintro e _ ⟨rfl, rfl⟩
          go_wp2_with fail
          go_ret2
          refine ⟨_, O, rfl, ⟨hJ.out.2.2.1, by have := hJ.out.2.1; rwa [List.append_nil] at this⟩, ?_, ?_⟩
          · rw [HP.out]
            exact owns_mono HO.out (by have := HG.out.1; omega)
          · rw [HP.out]; exact HB2.out
end Go.Proofs.Ytfeibjokifidmaa
