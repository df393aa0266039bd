/- mesh.Cells of cells of three or four corners, the way by name. -/
import Derived.Test.YtaiflkjchbpphaaPc
namespace Go.Proofs.Ytaiflkjchbpphaa.P
open Go.RowKit

theorem nbr_symm {nc : Nat} {z : Nat → Nat} {K : Nat → Nat → Nat} {N : Nat → Nat → Int} (h : Nbr nc z K N) (h4 : ∀ i, i < nc → z i ≤ 4) {a b : Nat} (ha : a < nc) (hb : b < nc) (hA : NA N a b) : NA N b a := by
  obtain ⟨k, hk, hN⟩ := hA
  by_cases hkz : k < z a
  · rcases h.no a k ha hkz with h1 | ⟨i', j', h1, hi', hj', h2, h3⟩
    · omega
    · obtain rfl : i' = b := by omega
      exact ⟨j', by have := h4 i' hi'; omega, h.yes i' j' a k hb hj' ha hkz h3.symm h2.symm⟩
  · have := h.out a k (by omega); omega
theorem nbr_case {nc : Nat} {z : Nat → Nat} {K : Nat → Nat → Nat} {N : Nat → Nat → Int} (h : Nbr nc z K N) (a k : Nat) (ha : a < nc) : N a k = -1 ∨ ∃ b : Nat, N a k = (b : Int) ∧ b < nc := by
  by_cases hkz : k < z a
  · rcases h.no a k ha hkz with h1 | ⟨i', _, h1, h2, _⟩
    · exact .inl h1
    · exact .inr ⟨i', h1, h2⟩
  · exact .inl (h.out a k (by omega))

/-- The neighbours, in memory. -/
structure Tab (gx nc : Nat) (z r cp : Nat → Nat) (N : Nat → Nat → Int) (w : World) : Prop where
  row : ∀ c, c < nc → w.cell? ⟨gx, c, none⟩ = some (.slice (some ⟨r c, 0, none⟩) (z c) (cp c))
  num : ∀ c j, c < nc → j < z c → w.cell? ⟨r c, j, none⟩ = some (.int .i64 (N c j))
  gl : gx < w.heap.size
  rl : ∀ c, c < nc → r c < w.heap.size
theorem Tab.on {gx nc : Nat} {z r cp : Nat → Nat} {N : Nat → Nat → Int} {w w' : World} (h : Tab gx nc z r cp N w) (hb : Below w.heap.size w w') : Tab gx nc z r cp N w' :=
  ⟨fun c hc => (hb.cell (p := ⟨gx, c, none⟩) h.gl).trans (h.row c hc), fun c j hc hj => (hb.cell (p := ⟨r c, j, none⟩) (h.rl c hc)).trans (h.num c j hc hj), Nat.lt_of_lt_of_le h.gl hb.size, fun c hc => Nat.lt_of_lt_of_le (h.rl c hc) hb.size⟩
theorem Tab.of {gx cx nc B : Nat} {z r cp : Nat → Nat} {N : Nat → Nat → Int} {w : World} (h : w.ownsRow B 22 1 (.slice (some ⟨gx, 0, none⟩) nc cx) nc (rowsOf z r cp nc)) (k : ∀ c, c < nc → w.ownsRow B 3 1 (.slice (some ⟨r c, 0, none⟩) (z c) (cp c)) (z c) (nums4 N c (z c))) : Tab gx nc z r cp N w := by
  obtain ⟨_, h2, _, _, h5, _⟩ := owns_at h
  refine ⟨fun c hc => by rw [h5 c (by omega), rowsOf_get _ _ _ _ _ hc], fun c j hc hj => ?_, h2, fun c hc => (owns_at (k c hc)).2.1⟩
  obtain ⟨_, _, _, _, k5, _⟩ := owns_at (k c hc)
  rw [k5 j (by omega), nums4_get _ _ _ _ hj]

theorem Qv.fill {n : Nat} {N : Nat → Nat → Int} {g : Nat} {O : List Int} {x m : Nat} {R : List Nat} (h : Qv n N g O (x :: R) m) (hm : m = 3 ∨ m = 4) (hN : ∀ j, m ≤ j → N x j = -1) : Qv n N g O (x :: R) 4 := by
  rcases hm with rfl | rfl
  · exact h.skip (fun b _ hb => by rw [hN 3 (Nat.le_refl _)] at hb; omega)
  · exact h

/-- The least of the neighbours that are nearer. -/
def Best (nc : Nat) (N : Nat → Nat → Int) (F : Nat → Int) (a c : Nat) : Prop := NA N a c ∧ c < nc ∧ F c + 1 = F a ∧ ∀ c', NA N a c' → F c' + 1 = F a → c ≤ c'
/-- The way to b. -/
inductive Way (nc : Nat) (N : Nat → Nat → Int) (F : Nat → Int) (b : Nat) : Nat → List Nat → Prop
  | stop : Way nc N F b b [b]
  | step (a c : Nat) (l : List Nat) (hab : a ≠ b) (hc : Best nc N F a c) (h : Way nc N F b c l) : Way nc N F b a (a :: l)
theorem Best.uniq {nc : Nat} {N N' : Nat → Nat → Int} {F F' : Nat → Int} {a c c' : Nat} (h : Best nc N F a c) (h' : Best nc N' F' a c') (hN : ∀ j, N a j = N' a j) (hF : ∀ i, i < nc → F i = F' i) (ha : a < nc) : c = c' := by
  obtain ⟨h1, h2, h3, h4⟩ := h
  obtain ⟨k1, k2, k3, k4⟩ := h'
  have e : ∀ x, NA N a x ↔ NA N' a x := fun x => by unfold NA; simp only [hN]
  have a1 := h4 c' ((e _).2 k1) (by rw [hF c' k2, hF a ha]; exact k3)
  have a2 := k4 c ((e _).1 h1) (by rw [← hF c h2, ← hF a ha]; exact h3)
  omega
theorem Way.uniq {nc : Nat} {N N' : Nat → Nat → Int} {F F' : Nat → Int} {b a : Nat} {l l' : List Nat} (h : Way nc N F b a l) (h' : Way nc N' F' b a l') (hN : ∀ i j, i < nc → N i j = N' i j) (hF : ∀ i, i < nc → F i = F' i) (ha : a < nc) : l = l' := by
  induction h generalizing l' with
  | stop =>
    cases h' with
    | stop => rfl
    | step _ c l hab => exact absurd rfl hab
  | step a c l hab hc h ih =>
    cases h' with
    | stop => exact absurd rfl hab
    | step _ c' l' _ hc' h' =>
      obtain rfl := hc.uniq hc' (fun j => hN a j ha) hF ha
      rw [ih h' hc.2.1]
/-- The numbers of a way in memory. -/
def WayAt (w : World) (g : Nat) (l : List Nat) : Prop := ∀ (k t : Nat), l[k]? = some t → w.cell? ⟨g, k, none⟩ = some (.int .i64 (t : Int))
def ints (l : List Nat) : List Value := l.map fun (t : Nat) => Value.int .i64 (t : Int)

/-- What Cells says. -/
def Celled (nc : Nat) (z : Nat → Nat) (K : Nat → Nat → Nat) (a b : Nat) (w : World) (e : Ending) (w' : World) : Prop :=
  ∃ (N : Nat → Nat → Int) (F : Nat → Int), Nbr nc z K N ∧ Bfs nc (fun _ => True) (NA N) b F ∧ ((F a < 0 ∧ e = .returned (.tuple #[.slice none 0 0, .int .i64 4])) ∨ (∃ (d g cap : Nat) (l : List Nat), F a = (d : Int) ∧ e = .returned (.tuple #[.slice (some ⟨g, 0, none⟩) (d + 1) cap, .int .i64 0]) ∧ l.length = d + 1 ∧ Way nc N F b a l ∧ WayAt w' g l ∧ g < w'.heap.size ∧ w.heap.size ≤ g)) ∧ Below w.heap.size w w'

set_option maxRecDepth 8000 in
set_option maxHeartbeats 8000000 in
theorem cells_any (pp np pcap cc nc ccap a b : Nat) (X Y : Nat → Int) (z qc q : Nat → Nat) (K : Nat → Nat → Nat) (w : World) (h : Msh pp np cc nc X Y z qc q K w) (hgood : Good np nc X Y z K) (ha : a < nc) (hb : b < nc) :
    Calls Try.prog 9 #[.agg #[.slice (some ⟨pp, 0, none⟩) np pcap, .slice (some ⟨cc, 0, none⟩) nc ccap], .int .i64 a, .int .i64 b] w (Celled nc z K a b w) := by
  obtain ⟨i0, hi0, hz0, hz1, hz2⟩ := info_parts Try.info3'
  have hncn := hgood.hnc
  have hz34 := Lib.hid h.z3
  have hnext := fun w' (hb : Below w.heap.size w w') => next_any pp np pcap cc nc ccap X Y z qc q K w' (h.on hb) hgood
  clear h hgood
  obtain ⟨mn, hmn⟩ : ∃ mn : Int, (if (b : Int) < (a : Int) then (b : Int) else (a : Int)) = mn := ⟨_, rfl⟩
  obtain ⟨mx, hmx⟩ : ∃ mx : Int, (if (b : Int) > (a : Int) then (b : Int) else (a : Int)) = mx := ⟨_, rfl⟩
  have hmn0 : ¬ mn < 0 := by rw [← hmn]; split <;> omega
  have hmx0 : ¬ (nc : Int) ≤ mx := by rw [← hmx]; split <;> omega
  have hmin : ∀ W : World, (Builtin.min_ #[3, 3] 3 #[.int .i64 (a : Int), .int .i64 (b : Int)]).run Try.prog W = .ok (.int .i64 mn) W := fun W => by rw [run_min_int2, hmn]
  have hmax : ∀ W : World, (Builtin.max_ #[3, 3] 3 #[.int .i64 (a : Int), .int .i64 (b : Int)]).run Try.prog W = .ok (.int .i64 mx) W := fun W => by rw [run_max_int2, hmx]
  clear hmn hmx
  go_enter Try.func9, Try.ntmps9
  go_wp2_with fail
  obtain ⟨V, hV⟩ : ∃ V, w.alloc (Obj.cells #[.slice (some ⟨pp, 0, none⟩) np pcap, .slice (some ⟨cc, 0, none⟩) nc ccap] 28) = V := ⟨_, rfl⟩
  have hVb := Lib.hid (show Below w.heap.size w V from hV ▸ Below.al (Below.refl _ _) _)
  have hVs : w.heap.size < V.heap.size := by rw [← hV]; simp
  have v1 : V.cell? ⟨w.heap.size, 1, none⟩ = some (.slice (some ⟨cc, 0, none⟩) nc ccap) := by rw [← hV]; simp [go_sem]
  rw [hV]
  clear hV
  refine (hnext _ hVb.out).mono ?_
  rintro e w1 ⟨v, r, cp, N, rfl, hN, hown1, hown2, hbl⟩
  obtain ⟨gx, cx, rfl, hgx, _⟩ := owns_open hown1 (by omega)
  have HT := Lib.hid (Tab.of hown1 hown2)
  have HN := Lib.hid hN
  have HB1 := Lib.hid (hVb.out.trans (hbl.mono hVb.out.size))
  have u1 := (hbl.cell (p := ⟨w.heap.size, 1, none⟩) hVs).trans v1
  have hws : w.heap.size < w1.heap.size := Nat.lt_of_lt_of_le hVs hbl.size
  obtain ⟨S1, hS1⟩ : ∃ S, w1.heap.size = S := ⟨_, rfl⟩
  clear hown1 hown2 hbl hN hnext v1
  go_wp2_with fail
  have hVn : Below S1 w1 (w1.alloc (Obj.cells #[Value.int IntKind.i64 (-1)] 3)) := hS1 ▸ Below.al (Below.refl _ _) _
  refine (repeat_any S1 nc _ (by rw [← hS1]; simp [go_sem]) (by rw [← hS1]; simp) (by omega) hncn).mono ?_
  rintro e w2 ⟨rfl, hown, hbl⟩
  have hV2s : (w1.alloc (Obj.cells #[Value.int IntKind.i64 (-1)] 3)).heap.size = S1 + 1 := by rw [← hS1]; simp
  have hB2 := Lib.hid (hVn.trans (hbl.mono (by rw [hV2s]; omega)))
  rw [hV2s] at hown
  simp only [hV2s]
  obtain ⟨o, ho⟩ : ∃ o, S1 + 1 = o := ⟨_, rfl⟩
  rw [ho] at hown
  simp only [ho]
  obtain ⟨_, hos, _, _, hcl, hfr⟩ := owns_at hown
  have hcb := hcl b (by omega)
  rw [List.getElem?_replicate, if_pos hb] at hcb
  have hfb := hfr b
  have HIR : Hid (IRow w2 o (List.replicate nc (-1))) := ⟨fun k hk => by
    simp only [List.length_replicate] at hk
    rw [hcl k (by omega), List.getElem?_replicate, if_pos hk, List.getElem?_replicate, if_pos hk]; rfl, fun k _ => hfr k⟩
  clear hVn hown hbl hV2s hcl hfr u1 hmin hmax hmn0 hmx0
  go_wp2_with fail
  obtain ⟨B, hB⟩ : ∃ B, w2.heap.size = B := ⟨_, rfl⟩
  have hss : (w2.setCell ⟨o, b, none⟩ (.int .i64 0)).heap.size = B := by rw [← hB]; simp [World.setCell]
  obtain ⟨V3, hV3⟩ : ∃ V, (w2.setCell ⟨o, b, none⟩ (.int .i64 0)).alloc (Obj.cells #[Value.int IntKind.i64 b] 3) = V := ⟨_, rfl⟩
  have hoB : o < B := by rw [← hB]; exact hos
  have hS1o : S1 ≤ o := by omega
  have hVs3 : V3.heap.size = B + 1 := by rw [← hV3, ← hss]; simp
  have hi3 : IRow V3 o ((List.replicate nc (-1)).set b 0) := by
    rw [← hV3]
    exact (HIR.out.set b 0).below (Below.al (Below.refl _ _) _) (by rw [hss]; exact hoB)
  have ht3 : Tod B B 0 1 [b] V3 := by
    refine ⟨Nat.le_refl _, by omega, by simp, fun j t ht => ?_, fun j hj => ?_⟩
    · match j, ht with
      | 0, ht =>
        simp at ht
        subst ht
        rw [← hV3, ← hss]; simp [go_sem]
    · obtain rfl : j = 0 := by omega
      rw [← hV3, ← hss]
      simp [go_sem]
  have hb3 : Below S1 w1 V3 := by
    rw [← hV3]
    exact (hB2.out.setCell (p := ⟨o, b, none⟩) hS1o _).alloc (by rw [hss]; omega) _
  have H3 := Lib.hid (And.intro hi3 (And.intro ht3 hb3))
  simp only [hB]
  rw [hV3]
  clear hV3 hss hi3 ht3 hb3 HIR hcb hfb hB2
  go_loopg [11] (nc + 2) (fun k v11 wx => ∃ (ad : Option Addr) (n cap : Nat) (T : List Nat) (O : List Int), v11 = .slice ad n cap ∧ T.length = n ∧ k ≤ nc + 2 ∧ Hid ((0 < n → ∃ g off, ad = some ⟨g, off, none⟩ ∧ Tod B g off cap T wx) ∧ Qv nc N b O T 0 ∧ IRow wx o O ∧ Below S1 w1 wx ∧ B ≤ wx.heap.size ∧ und O + n + 1 ≤ k))
  case atStart => exact ⟨_, _, _, [b], _, rfl, rfl, Nat.le_refl _, fun _ => ⟨_, _, rfl, H3.out.2.1⟩, Qv.begin hb, H3.out.1, H3.out.2.2, by omega, by have := und_le ((List.replicate nc (-1)).set b 0); simp at this; omega⟩
  case round =>
    obtain ⟨ad, n, cap, T, O, rfl, hTn, hgk, hR⟩ := hrel
    have HR := Lib.hid hR
    clear hR
    have hOl := HR.out.out.2.1.len
    by_cases hn0 : n = 0
    · subst hn0
      obtain rfl := List.eq_nil_of_length_eq_zero hTn
      have HBF := Lib.hid (HR.out.out.2.1.bfs)
      have ca := HR.out.out.2.2.1.1 a (by omega)
      obtain ⟨fa, hfa⟩ : ∃ f, O[a]?.getD 0 = f := ⟨_, rfl⟩
      rw [hfa] at ca
      have HFA : Hid (gt O a = fa) := hfa
      have hos2 : o < wr.heap.size := by have := HR.out.out.2.2.2.2.1; omega
      have HBW : Hid (Below w.heap.size w wr) := HB1.out.trans (HR.out.out.2.2.2.1.mono (by omega))
      clear hfa
      by_cases hf0 : fa < 0
      · go_wp2_with fail
        exact bodyPost_ret (v := .tuple #[.slice none 0 0, .int .i64 4]) (by simp [results, Try.results9, go_sem]) rfl ⟨N, gt O, HN.out, HBF.out, .inl ⟨by rw [HFA.out]; exact hf0, rfl⟩, HBW.out⟩
      · have hqb : fa ≤ nc ∧ 0 ≤ fa := by
          have h1 := HR.out.out.2.1.bnd a ha
          rw [HFA.out] at h1
          omega
        obtain ⟨D, hD⟩ : ∃ D : Nat, fa = (D : Int) := ⟨fa.toNat, by omega⟩
        subst hD
        go_wp2_with fail
        obtain ⟨Bw, hBw⟩ : ∃ B, wr.heap.size = B := ⟨_, rfl⟩
        obtain ⟨W0, hW0⟩ : ∃ W, wr.alloc (Obj.cells #[Value.int IntKind.i64 a] 3) = W := ⟨_, rfl⟩
        have hown0 : W0.ownsRow Bw 3 1 (.slice (some ⟨Bw, 0, none⟩) 1 1) 1 [.int .i64 a] := by
          rw [← hW0, ← hBw]
          exact ⟨rfl, .inr ⟨wr.heap.size, 1, #[.int .i64 a], rfl, Nat.le_refl _, heap_alloc_new wr _, Nat.le_refl _, by unfold maxLen; omega, rfl, rfl⟩⟩
        have HO0 := Lib.hid (And.intro hown0 (show Below Bw wr W0 by rw [← hW0, ← hBw]; exact Below.al (Below.refl _ _) _))
        have HIR := Lib.hid HR.out.out.2.2.1
        have HTw : Hid (Tab gx nc z r cp N wr) := HT.out.on (hS1 ▸ HR.out.out.2.2.2.1)
        have hoBw : o < Bw := by omega
        simp only [hBw]
        rw [hW0]
        obtain ⟨Wr, rfl⟩ : ∃ W, W = wr := ⟨wr, rfl⟩
        have HBW2 : Hid (Below w.heap.size w Wr) := HBW.out
        have hwBw : w.heap.size ≤ Bw := by have := HBW.out.size; omega
        clear hW0 hown0 HR HBW ca
        go_loopg [14, 15] (nc + 2) (fun k v14 v15 wx => ∃ (t d m : Nat), v15 = .int .i64 t ∧ t < nc ∧ k ≤ nc + 2 ∧ d + m = D ∧ d + 1 ≤ k ∧ Hid (gt O t = (d : Int) ∧ Below Bw Wr wx ∧ ∃ pre : List Nat, pre.length = m ∧ (∀ l, Way nc N (gt O) b t l → Way nc N (gt O) b a (pre ++ l)) ∧ wx.ownsRow Bw 3 1 v14 (m + 1) (ints (pre ++ [t]))))
        case atStart => exact ⟨a, D, 0, rfl, ha, Nat.le_refl _, rfl, by omega, HFA.out, HO0.out.2, [], rfl, fun l hl => hl, HO0.out.1⟩
        case round =>
          obtain ⟨t, d, m, rfl, ht, hgk2, hdm, hdk, hR⟩ := hrel
          have HR := Lib.hid hR
          clear hR
          by_cases htb : t = b
          · have e1 : ((t : Int) != (b : Int)) = false := by simp [htb]
            have htb' := Lib.hid htb
            have hd0 : d = 0 := by
              have h1 := HR.out.out.1
              have h2 := HBF.out.goal trivial
              rw [htb, h2] at h1
              omega
            clear htb
            go_wp2_with fail
            obtain ⟨pre, hpre, hway, hxs⟩ := HR.out.out.2.2
            obtain ⟨g9, cap9, rfl, hg91, hg92, _, _, _, hcl9, _⟩ := owns_open hxs (by omega)
            have hmD : m = D := by omega
            subst hmD
            have hW9 : Way nc N (gt O) b a (pre ++ [t]) := hway _ (by rw [htb'.out]; exact .stop)
            have hat9 : WayAt wr g9 (pre ++ [t]) := fun k u hk => by
              have hkl : k < m + 1 := by
                rcases Nat.lt_or_ge k (pre ++ [t]).length with h1 | h1
                · simpa [hpre] using h1
                · rw [List.getElem?_eq_none h1] at hk; cases hk
              rw [hcl9 k (by omega)]
              unfold ints
              rw [List.getElem?_map, hk]
              rfl
            exact bodyPost_ret (v := .tuple #[.slice (some ⟨g9, 0, none⟩) (m + 1) cap9, .int .i64 0]) (by simp [results, Try.results9, go_sem]) rfl ⟨N, gt O, HN.out, HBF.out, .inr ⟨m, g9, cap9, pre ++ [t], HFA.out, rfl, by simp [hpre], hW9, hat9, hg92, by omega⟩, HBW2.out.trans (HR.out.out.2.1.mono (by omega))⟩
          · have e1 : ((t : Int) != (b : Int)) = true := by simp; omega
            have ht2 : ¬ (nc : Int) ≤ (t : Int) := by omega
            have tr := (HR.out.out.2.1.cell (p := ⟨gx, t, none⟩) (by have := HTw.out.gl; simp only []; omega)).trans (HTw.out.row t ht)
            obtain ⟨zt, hzt⟩ : ∃ k, z t = k := ⟨_, rfl⟩
            have HZ := Lib.hid hzt
            have hz3 := hz34.out t ht
            have HTB := Lib.hid htb
            rw [hzt] at tr hz3
            obtain ⟨hzt3, hzt4⟩ := hz3
            clear hzt
            have hsz := HR.out.out.2.1.size
            have hgl : gx < wr.heap.size := by have := HTw.out.gl; omega
            have hfar : Hid (∃ p, p < nc ∧ NA N t p ∧ gt O p + 1 = gt O t) := by
              obtain ⟨_, h1 | ⟨p, hp, hA, h1, h2⟩⟩ := HBF.out.done t ht (by rw [HR.out.out.1]; omega)
              · exact absurd h1.2 htb
              · exact ⟨p, hp, nbr_symm HN.out (fun i hi => (hz34.out i hi).2) hp ht hA, h2⟩
            have hir := Lib.hid (HIR.out.below HR.out.out.2.1 hoBw)
            have HTt := Lib.hid (show Tab gx nc z r cp N wr from HTw.out.on (hBw ▸ HR.out.out.2.1))
            have hd1 : 1 ≤ d := by
              obtain ⟨p, hp, _, h2⟩ := hfar.out
              have h3 := HBF.out.val p hp
              have h1 := HR.out.out.1
              rcases Nat.eq_zero_or_pos d with h0 | h0
              · subst h0
                have h5 := (HBF.out.done t ht (by rw [h1]; omega)).2
                rcases h5 with ⟨_, h6⟩ | ⟨p', _, _, h7, h8⟩
                · exact absurd h6 htb
                · omega
              · exact h0
            have ot := hir.out.1 t (by omega)
            have hgt : gt O t = (d : Int) := HR.out.out.1
            have hgt' := hgt
            unfold gt at hgt'
            rw [hgt'] at ot
            have HGT := Lib.hid hgt
            clear hgt hgt' htb
            have hos3 : o < wr.heap.size := by omega
            go_wp2_with fail
            obtain ⟨Wt, rfl⟩ : ∃ W, W = wr := ⟨wr, rfl⟩
            obtain ⟨Bt, hBt⟩ : ∃ B, Wt.heap.size = B := ⟨_, rfl⟩
            go_loopw [16, 105] (fun v16 v105 wx => ∃ (j : Nat) (bs : Int), v105 = .int .i64 j ∧ j ≤ zt ∧ v16 = .int .i64 bs ∧ Hid (Below Bt Wt wx ∧ ((bs = -1 ∧ ∀ k, k < j → ∀ c : Nat, N t k = (c : Int) → gt O c + 1 ≠ gt O t) ∨ ∃ c : Nat, bs = (c : Int) ∧ c < nc ∧ gt O c + 1 = gt O t ∧ NA N t c ∧ ∀ k, k < j → ∀ c' : Nat, N t k = (c' : Int) → gt O c' + 1 = gt O t → c ≤ c'))) (fun _ v105 _ => zt - (intOf v105).toNat)
            case atStart => exact ⟨0, -1, rfl, by omega, rfl, Below.refl _ _, .inl ⟨rfl, fun k hk => by omega⟩⟩
            case round =>
              obtain ⟨j, bs, rfl, hj, rfl, hB⟩ := hrel
              have HBs := Lib.hid hB
              clear hB
              have hws := HBs.out.out.1.size
              by_cases hj0 : j = zt
              · have j1 : ¬ (j : Int) < zt := by omega
                have hkz : ∀ k (p : Nat), N t k = (p : Int) → k < j := fun k p hN => by
                  rcases Nat.lt_or_ge k (z t) with h | h
                  · rw [HZ.out] at h; omega
                  · have := HN.out.out t k h; omega
                obtain ⟨c, rfl, hc, hgc⟩ : ∃ c : Nat, bs = (c : Int) ∧ c < nc ∧ Best nc N (gt O) t c := by
                  rcases HBs.out.out.2 with ⟨_, h1⟩ | ⟨c, h1, h2, h3, h4, h5⟩
                  · obtain ⟨p, hp, ⟨k, hk, hN⟩, h2⟩ := hfar.out
                    exact absurd h2 (h1 k (hkz k p hN) p hN)
                  · exact ⟨c, h1, h2, h4, h2, h3, fun c' ⟨k, hk, hN⟩ h6 => h5 k (hkz k c' hN) c' hN h6⟩
                clear hj0 hkz
                obtain ⟨pre, hpre, hway, hxs⟩ := HR.out.out.2.2
                have HX := Lib.hid (owns_below hxs HBs.out.out.1 (Nat.le_of_eq hBt))
                have HGC := Lib.hid hgc
                have HPW := Lib.hid (And.intro hpre hway)
                clear hxs hgc hpre hway
                go_wp2_with (at_builtin; refine wpList_append_own _ rfl _ _ 22 rfl Bw 3 i0 (.int .i64 0) 1 8 Try.underlying22 hi0 hz0 hz1 hz2 rfl (by decide) _ (m + 1) _ rfl (HX.out.alloc _) ⟨wr.heap.size, 0, none⟩ 1 1 [.int .i64 c] rfl rfl (new_one _ _ _) (one_ok rfl) (by unfold maxLen; omega) (by omega) (by simp; omega) ?_)
                intro v' w' own' hgr _
                have HN2 : Hid (Hid (gt O c = ((d - 1 : Nat) : Int) ∧ Below Bw Wr w' ∧ ∃ pre : List Nat, pre.length = m + 1 ∧ (∀ l, Way nc N (gt O) b c l → Way nc N (gt O) b a (pre ++ l)) ∧ w'.ownsRow Bw 3 1 v' (m + 1 + 1) (ints (pre ++ [c])))) := by
                  refine ⟨?_, ?_, pre ++ [t], by simp [HPW.out.1], fun l hl => ?_, ?_⟩
                  · have h1 := HGC.out.2.2.1
                    have h2 := HGT.out
                    omega
                  · exact ((HR.out.out.2.1.trans (HBs.out.out.1.mono (by omega))).alloc (by omega) _).grown hgr (by simp; omega) (fun k hk => (HX.out.lt k hk).1)
                  · rw [List.append_assoc]
                    exact HPW.out.2 _ (.step t c l HTB.out HGC.out hl)
                  · have e9 : ints (pre ++ [t] ++ [c]) = ints (pre ++ [t]) ++ [.int .i64 (c : Int)] := by simp [ints]
                    rw [e9]; exact own'
                clear own' hgr
                go_wp2_with fail
                go_roundg (gk - 1)
                case measure => omega
                case rel => exact ⟨c, d - 1, m + 1, rfl, hc, by omega, by omega, by omega, HN2.out.out⟩
              · have hjz : j < zt := by omega
                have hj4 : j < 4 := by omega
                have j1 : (j : Int) < zt := by omega
                have tn := (HBs.out.out.1.cell (p := ⟨r t, j, none⟩) (by rw [← hBt]; exact HTt.out.rl t ht)).trans (HTt.out.num t j ht (by rw [HZ.out]; exact hjz))
                have rl : r t < wr.heap.size := by have := HTt.out.rl t ht; omega
                have ot' := (HBs.out.out.1.cell (p := ⟨o, t, none⟩) (by simp only []; omega)).trans ot
                have hos4 : o < wr.heap.size := by omega
                clear hj0
                rcases nbr_case HN.out t j ht with hneg | ⟨c, hc, hcn⟩
                · have hHn := Lib.hid hneg
                  rw [hneg] at tn
                  clear hneg
                  go_wp2_with fail
                  refine region_grow (by kernel_rfl) (by kernel_rfl) ?_
                  repeat (go_big_quiet_step ((fail)))
                  refine wpQuiet_nil ?_
                  intro _ hw'
                  obtain ⟨k9, m9, rfl⟩ := hw'
                  have hbe := Lib.hid (HBs.out.out.1.trans ((below_ext wr k9 m9).mono (by omega)))
                  go_wp2_with fail
                  go_roundw
                  case rel => exact ⟨j + 1, bs, rfl, by omega, rfl, hbe.out, HBs.out.out.2.imp (fun h => ⟨h.1, fun k hk c' hc' => by
                    by_cases hkj : k < j
                    · exact h.2 k hkj c' hc'
                    · obtain rfl : k = j := by omega
                      rw [hHn.out] at hc'; omega⟩) (fun ⟨c9, q1, q2, q3, q4, q5⟩ => ⟨c9, q1, q2, q3, q4, fun k hk c' hc' hg' => by
                    by_cases hkj : k < j
                    · exact q5 k hkj c' hc' hg'
                    · obtain rfl : k = j := by omega
                      rw [hHn.out] at hc'; omega⟩)⟩
                  case measure => simp [intOf] <;> omega
                · have hHc := Lib.hid hc
                  rw [hc] at tn
                  have oc := (HBs.out.out.1.cell (p := ⟨o, c, none⟩) (by simp only []; omega)).trans (hir.out.1 c (by omega))
                  obtain ⟨fc, hfc⟩ : ∃ f, O[c]?.getD 0 = f := ⟨_, rfl⟩
                  rw [hfc] at oc
                  have HFC : Hid (gt O c = fc) := hfc
                  have c0 : ¬ (c : Int) < 0 := by omega
                  have c1 : 0 ≤ (c : Int) := by omega
                  have c2 : (c : Int) < nc := by omega
                  clear hfc hc
                  by_cases hf0 : fc = (d : Int) - 1
                  · have e2 : (fc == (d : Int) - 1) = true := by simp [hf0]
                    have hgc := Lib.hid (show gt O c + 1 = gt O t by rw [HFC.out, HGT.out]; omega)
                    by_cases hbs : bs < 0
                    · have e3 : decide (bs < 0) = true := by simp [hbs]
                      have hnew : Hid (∃ c' : Nat, (c : Int) = (c' : Int) ∧ c' < nc ∧ gt O c' + 1 = gt O t ∧ NA N t c' ∧ ∀ k, k < j + 1 → ∀ c'' : Nat, N t k = (c'' : Int) → gt O c'' + 1 = gt O t → c' ≤ c'') := by
                        refine ⟨c, rfl, hcn, hgc.out, ⟨j, hj4, hHc.out⟩, fun k hk c'' hc'' hg'' => ?_⟩
                        rcases HBs.out.out.2 with ⟨_, h1⟩ | ⟨c9, q1, _⟩
                        · by_cases hkj : k < j
                          · exact absurd hg'' (h1 k hkj c'' hc'')
                          · obtain rfl : k = j := by omega
                            rw [hHc.out] at hc''; omega
                        · omega
                      clear hbs
                      go_wp2_with fail
                      refine region_grow (by kernel_rfl) (by kernel_rfl) ?_
                      repeat (go_big_quiet_step ((fail)))
                      refine wpQuiet_nil ?_
                      intro _ hw'
                      obtain ⟨k9, m9, rfl⟩ := hw'
                      have hbe := Lib.hid (HBs.out.out.1.trans ((below_ext wr k9 m9).mono (by omega)))
                      go_wp2_with fail
                      go_roundw
                      case rel => exact ⟨j + 1, (c : Int), rfl, by omega, rfl, hbe.out, .inr hnew.out⟩
                      case measure => simp [intOf] <;> omega
                    · have e3 : decide (bs < 0) = false := by simp; omega
                      by_cases hcb : (c : Int) < bs
                      · have e4 : decide ((c : Int) < bs) = true := by simp [hcb]
                        have hnew : Hid (∃ c' : Nat, (c : Int) = (c' : Int) ∧ c' < nc ∧ gt O c' + 1 = gt O t ∧ NA N t c' ∧ ∀ k, k < j + 1 → ∀ c'' : Nat, N t k = (c'' : Int) → gt O c'' + 1 = gt O t → c' ≤ c'') := by
                          refine ⟨c, rfl, hcn, hgc.out, ⟨j, hj4, hHc.out⟩, fun k hk c'' hc'' hg'' => ?_⟩
                          rcases HBs.out.out.2 with ⟨q1, _⟩ | ⟨c9, q1, q2, q3, q4, q5⟩
                          · omega
                          · by_cases hkj : k < j
                            · have := q5 k hkj c'' hc'' hg''; omega
                            · obtain rfl : k = j := by omega
                              rw [hHc.out] at hc''; omega
                        clear hbs hcb
                        go_wp2_with fail
                        refine region_grow (by kernel_rfl) (by kernel_rfl) ?_
                        repeat (go_big_quiet_step ((fail)))
                        refine wpQuiet_nil ?_
                        intro _ hw'
                        obtain ⟨k9, m9, rfl⟩ := hw'
                        have hbe := Lib.hid (HBs.out.out.1.trans ((below_ext wr k9 m9).mono (by omega)))
                        go_wp2_with fail
                        go_roundw
                        case rel => exact ⟨j + 1, (c : Int), rfl, by omega, rfl, hbe.out, .inr hnew.out⟩
                        case measure => simp [intOf] <;> omega
                      · have e4 : decide ((c : Int) < bs) = false := by simp; omega
                        have hst := Lib.hid (show ∃ c' : Nat, bs = (c' : Int) ∧ c' < nc ∧ gt O c' + 1 = gt O t ∧ NA N t c' ∧ ∀ k, k < j + 1 → ∀ c'' : Nat, N t k = (c'' : Int) → gt O c'' + 1 = gt O t → c' ≤ c'' by
                          rcases HBs.out.out.2 with ⟨h1, _⟩ | ⟨c9, q1, q2, q3, q4, q5⟩
                          · omega
                          · refine ⟨c9, q1, q2, q3, q4, fun k hk c'' hc'' hg'' => ?_⟩
                            by_cases hkj : k < j
                            · exact q5 k hkj c'' hc'' hg''
                            · obtain rfl : k = j := by omega
                              rw [hHc.out] at hc''; omega)
                        clear hbs hcb
                        go_wp2_with fail
                        refine region_grow (by kernel_rfl) (by kernel_rfl) ?_
                        repeat (go_big_quiet_step ((fail)))
                        refine wpQuiet_nil ?_
                        intro _ hw'
                        obtain ⟨k9, m9, rfl⟩ := hw'
                        have hbe := Lib.hid (HBs.out.out.1.trans ((below_ext wr k9 m9).mono (by omega)))
                        go_wp2_with fail
                        go_roundw
                        case rel => exact ⟨j + 1, bs, rfl, by omega, rfl, hbe.out, .inr hst.out⟩
                        case measure => simp [intOf] <;> omega
                  · have e2 : (fc == (d : Int) - 1) = false := by simp [hf0]
                    have hne := Lib.hid (show gt O c + 1 ≠ gt O t by rw [HFC.out, HGT.out]; omega)
                    clear hf0
                    go_wp2_with fail
                    refine region_grow (by kernel_rfl) (by kernel_rfl) ?_
                    repeat (go_big_quiet_step ((fail)))
                    refine wpQuiet_nil ?_
                    intro _ hw'
                    obtain ⟨k9, m9, rfl⟩ := hw'
                    have hbe := Lib.hid (HBs.out.out.1.trans ((below_ext wr k9 m9).mono (by omega)))
                    go_wp2_with fail
                    go_roundw
                    case rel => exact ⟨j + 1, bs, rfl, by omega, rfl, hbe.out, HBs.out.out.2.imp (fun h => ⟨h.1, fun k hk c' hc' => by
                      by_cases hkj : k < j
                      · exact h.2 k hkj c' hc'
                      · obtain rfl : k = j := by omega
                        rw [hHc.out] at hc'
                        obtain rfl : c' = c := by omega
                        exact hne.out⟩) (fun ⟨c9, q1, q2, q3, q4, q5⟩ => ⟨c9, q1, q2, q3, q4, fun k hk c' hc' hg' => by
                      by_cases hkj : k < j
                      · exact q5 k hkj c' hc' hg'
                      · obtain rfl : k = j := by omega
                        rw [hHc.out] at hc'
                        obtain rfl : c' = c := by omega
                        exact absurd hg' hne.out⟩)⟩
                    case measure => simp [intOf] <;> omega
    · obtain ⟨x, R, rfl⟩ : ∃ x R, T = x :: R := by
        cases T with
        | nil => simp at hTn; omega
        | cons x R => exact ⟨x, R, rfl⟩
      obtain ⟨g, off, rfl, hT⟩ := HR.out.out.1 (by omega)
      have hT' := Lib.hid hT
      have t0 := hT.at_ 0 x rfl
      rw [Nat.add_zero] at t0
      have hgl := hT.gl
      obtain ⟨hxn, hx0⟩ := HR.out.out.2.1.tin x (by simp)
      have HTw : Hid (Tab gx nc z r cp N wr) := HT.out.on (hS1 ▸ HR.out.out.2.2.2.1)
      have tr := HTw.out.row x hxn
      obtain ⟨zt, hzt⟩ : ∃ k, z x = k := ⟨_, rfl⟩
      have HZ := Lib.hid hzt
      have hz3 := hz34.out x hxn
      rw [hzt] at tr hz3
      obtain ⟨hzt3, hzt4⟩ := hz3
      clear hzt
      have tgl := HTw.out.gl
      have hn1 : (0 : Int) < n := by omega
      have hxi : ¬ (nc : Int) ≤ (x : Int) := by omega
      clear hT
      go_wp2_with fail
      have hle := hT'.out.le
      simp only [List.length_cons] at hTn hle
      go_loopw [11, 61] (fun v11 v61 wx => ∃ (j g off n cap : Nat) (R : List Nat) (O : List Int), v61 = .int .i64 j ∧ j ≤ zt ∧ v11 = .slice (some ⟨g, off, none⟩) n cap ∧ R.length + 1 = n ∧ n ≤ cap ∧ Hid (Tod B g off cap (x :: R) wx ∧ Qv nc N b O (x :: R) j ∧ IRow wx o O ∧ Below S1 w1 wx ∧ B ≤ wx.heap.size ∧ und O + n + 1 ≤ gk)) (fun _ v61 _ => zt - (intOf v61).toNat)
      case atStart => exact ⟨0, g, off, n, cap, R, O, rfl, by omega, rfl, hTn, by omega, hT'.out, HR.out.out.2.1, HR.out.out.2.2.1, HR.out.out.2.2.2.1, HR.out.out.2.2.2.2.1, HR.out.out.2.2.2.2.2⟩
      case round =>
        clear hT' HR hle hTn
        obtain ⟨j, g, off, n, cap, R, O, rfl, hj, rfl, hTn, hle, hS⟩ := hrel
        have HS := Lib.hid hS
        clear hS
        have hgl := HS.out.out.1.gl
        have t0 := HS.out.out.1.at_ 0 x rfl
        rw [Nat.add_zero] at t0
        have HTw : Hid (Tab gx nc z r cp N wr) := HT.out.on (hS1 ▸ HS.out.out.2.2.2.1)
        by_cases hj0 : j = zt
        · have j1 : ¬ (j : Int) < zt := by omega
          have HPP := Lib.hid ((Qv.fill HS.out.out.2.1 (by omega) (fun k hk => HN.out.out x k (by rw [HZ.out]; omega))).pop)
          clear hj0
          have hgk1 : und O + n + 1 ≤ gk := HS.out.out.2.2.2.2.2
          go_wp2_with fail
          · go_roundg (gk - 1)
            case measure => omega
            case rel => exact ⟨_, n - 1, _, R, O, rfl, by omega, by omega, fun h => by omega, HPP.out, HS.out.out.2.2.1, HS.out.out.2.2.2.1, HS.out.out.2.2.2.2.1, by omega⟩
          · go_roundg (gk - 1)
            case measure => omega
            case rel => exact ⟨_, n - 1, _, R, O, rfl, by omega, by omega, fun _ => ⟨_, _, rfl, HS.out.out.1.tail⟩, HPP.out, HS.out.out.2.2.1, HS.out.out.2.2.2.1, HS.out.out.2.2.2.2.1, by omega⟩
        · have hjz : j < zt := by omega
          have hj4 : j < 4 := by omega
          have j1 : (j : Int) < zt := by omega
          have tn := HTw.out.num x j hxn (by rw [HZ.out]; exact hjz)
          have rl := HTw.out.rl x hxn
          have hOl := HS.out.out.2.1.len
          have hos2 : o < wr.heap.size := by have := HS.out.out.2.2.2.2.1; omega
          clear hj0
          rcases nbr_case HN.out x j hxn with hneg | ⟨c, hc, hcn⟩
          · have hHn := Lib.hid hneg
            rw [hneg] at tn
            clear hneg
            go_wp2_with fail
            go_roundw
            case rel => exact ⟨j + 1, g, off, n, cap, R, O, rfl, by omega, rfl, hTn, hle, HS.out.out.1, HS.out.out.2.1.skip (fun d hd h => by rw [hHn.out] at h; omega), HS.out.out.2.2⟩
            case measure => simp [intOf] <;> omega
          · have hHc := Lib.hid hc
            rw [hc] at tn
            have oc := HS.out.out.2.2.1.1 c (by omega)
            have ofr := HS.out.out.2.2.1.2 c (by omega)
            obtain ⟨fc, hfc⟩ : ∃ f, O[c]?.getD 0 = f := ⟨_, rfl⟩
            rw [hfc] at oc
            have HFC : Hid (gt O c = fc) := hfc
            have c0 : ¬ (c : Int) < 0 := by omega
            have c1 : 0 ≤ (c : Int) := by omega
            have c2 : (c : Int) < nc := by omega
            clear hfc hc
            by_cases hf0 : fc < 0
            · have ox := HS.out.out.2.2.1.1 x (by omega)
              obtain ⟨fx, hfx⟩ : ∃ f, O[x]?.getD 0 = f := ⟨_, rfl⟩
              rw [hfx] at ox
              have HFX : Hid (gt O x = fx) := hfx
              have hxb : 0 ≤ fx ∧ fx ≤ 100 := by
                have h1 := (HS.out.out.2.1.tin x (by simp)).2
                have h2 := HS.out.out.2.1.bnd x hxn
                have h3 : gt O x = fx := hfx
                omega
              have hn1000 : n ≤ 1000 := by have := HS.out.out.2.2.2.2.2; omega
              clear hfx
              have hss : (wr.setCell ⟨o, c, none⟩ (.int .i64 (fx + 1))).heap.size = wr.heap.size := by simp [World.setCell]
              have HTd : Hid (Tod B g off cap (x :: R) ((wr.setCell ⟨o, c, none⟩ (.int .i64 (fx + 1))).alloc (Obj.cells #[.int .i64 (c : Int)] 3))) := (HS.out.out.1.put o c hoB _).below (Below.al (Below.refl _ _) _)
              have hBs : B ≤ wr.heap.size := HS.out.out.2.2.2.2.1
              go_wp2_with (at_builtin; refine wpList_todo _ rfl _ _ rfl B g off cap n (x :: R) rfl (by simpa using hTn) HTd.out (by simp [hss]; omega) ⟨wr.heap.size, 0, none⟩ c rfl (by simp [go_sem]) hn1000 ?_)
              intro g' off' cap' w' hT' hbl
              have HN2 : Hid (Hid (Tod B g' off' cap' (x :: (R ++ [c])) w' ∧ Qv nc N b (O.set c (fx + 1)) (x :: (R ++ [c])) (j + 1) ∧ IRow w' o (O.set c (fx + 1)) ∧ Below S1 w1 w' ∧ B ≤ w'.heap.size ∧ und (O.set c (fx + 1)) + (n + 1) + 1 ≤ gk)) := by
                have hp := HS.out.out.2.1.push hj4 hcn hHc.out (by rw [HFC.out]; exact hf0)
                rw [HFX.out] at hp
                have hu := und_set O c (fx + 1) (by omega) (by rw [HFC.out]; exact hf0) (by omega)
                have hgk1 := HS.out.out.2.2.2.2.2
                have hbb : Below S1 w1 ((wr.setCell ⟨o, c, none⟩ (.int .i64 (fx + 1))).alloc (Obj.cells #[.int .i64 (c : Int)] 3)) := (HS.out.out.2.2.2.1.setCell (p := ⟨o, c, none⟩) hS1o _).alloc (by rw [hss]; omega) _
                have hsz := hbl.size
                simp only [World.size_alloc, hss] at hsz
                exact ⟨hT', hp, ((HS.out.out.2.2.1.set c (fx + 1)).below (Below.al (Below.refl _ _) _) (by rw [hss]; omega)).below hbl hoB, hbb.trans (hbl.mono (by omega)), by omega, by omega⟩
              have hle2 := hT'.le
              simp only [List.length_cons, List.length_append, List.length_nil] at hle2
              clear hT' hbl HTd
              go_wp2_with fail
              go_roundw
              case rel => exact ⟨j + 1, g', off', n + 1, cap', R ++ [c], O.set c (fx + 1), rfl, by omega, rfl, by simp; omega, by omega, HN2.out.out⟩
              case measure => simp [intOf] <;> omega
            · have hf1 : 0 ≤ fc := by omega
              go_wp2_with fail
              go_roundw
              case rel => exact ⟨j + 1, g, off, n, cap, R, O, rfl, by omega, rfl, hTn, hle, HS.out.out.1, HS.out.out.2.1.skip (fun d hd h => by
                rw [hHc.out] at h
                obtain rfl : d = c := by omega
                rw [HFC.out]; exact hf1), HS.out.out.2.2⟩
              case measure => simp [intOf] <;> omega
end Go.Proofs.Ytaiflkjchbpphaa.P
