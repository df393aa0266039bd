/- tourref5.Mesh. -/
import Derived.Test.YtaiflkjchbpphaaPB
namespace Go.Proofs.Ytaiflkjchbpphaa.P
open Go.RowKit

theorem gb_of (c : Nat) (a b : Nat) (hc : c ≤ 1000) (ha : a < 3) (hb : b < 100) : Gb c (IntKind.i64.wrap (IntKind.i64.wrap (IntKind.i64.wrap (IntKind.i64.wrap (IntKind.i64.wrap (8 * (c : Int)) + (a : Int)) - 1) * 65536) + (b : Int))) := by
  have wr : ∀ z : Int, -9223372036854775808 ≤ z → z ≤ 9223372036854775807 → IntKind.i64.wrap z = z := fun z h1 h2 => IntWalk.i64_in _ (by omega)
  rw [wr (8 * (c : Int)) (by omega) (by omega), wr (8 * (c : Int) + (a : Int)) (by omega) (by omega), wr (8 * (c : Int) + (a : Int) - 1) (by omega) (by omega), wr ((8 * (c : Int) + (a : Int) - 1) * 65536) (by omega) (by omega), wr ((8 * (c : Int) + (a : Int) - 1) * 65536 + (b : Int)) (by omega) (by omega)]
  unfold Gb
  omega

theorem new_twoS (W : World) (S : Nat) (hS : W.heap.size = S) (u v : Value) (t : TypeId) : ∀ j x, [u, v][j]? = some x → (W.alloc (.cells #[u, v] t)).cell? ((⟨S, 0, none⟩ : Addr).add j) = some x := hS ▸ new_two W u v t
theorem new_oneS (W : World) (S : Nat) (hS : W.heap.size = S) (u : Value) (t : TypeId) : ∀ j x, [u][j]? = some x → (W.alloc (.cells #[u] t)).cell? ((⟨S, 0, none⟩ : Addr).add j) = some x := hS ▸ new_one W u t
theorem own_slice {w : World} {B n s : Nat} {e : TypeId} {v : Value} {xs : List Value} (h : w.ownsRow B e s v n xs) : ∃ ao cap, v = .slice ao n cap := by
  rcases h.2 with ⟨rfl, rfl⟩ | ⟨g, cap, _, rfl, _⟩
  · exact ⟨_, _, rfl⟩
  · exact ⟨_, _, rfl⟩

set_option maxRecDepth 8000 in
set_option maxHeartbeats 8000000 in
theorem mesh_any (ao : Option Addr) (ns : List Int) (cap : Nat) (w : World) (hn : ao = none → ns.length = 0) (hsrc : ∀ x, ao = some x → ∀ (j : Nat) (v : Int), ns[j]? = some v → w.cell? (x.add j) = some (.int .i64 v)) (hsb : ∀ x, ao = some x → 0 < ns.length → x.block < w.heap.size)
    (hbd : ∀ v ∈ ns, -9223372036854775808 ≤ v ∧ v ≤ 9223372036854775807) (hl : ns.length ≤ 17592186044416) :
    Calls Try.prog 6 #[.slice ao ns.length cap] w fun e w' => ∃ W H L rs kd vp vc, e = .returned (.agg #[vp, vc]) ∧ Made w W H L rs kd vp vc w' := by
  obtain ⟨i0, hi0, hz0, hz1, hz2⟩ := info_parts Try.info24
  obtain ⟨i5, hi5, hu0, hu1, hu2⟩ := info_parts Try.info22
  have hfrom := fun w' (hb : Below w.heap.size w w') => from_any ao ns cap w' hn (fun x hx j v hv => by
      rw [hb.cell (p := x.add j) (by
        rw [add_block]
        refine hsb x hx ?_
        rcases Nat.eq_zero_or_pos ns.length with e | e
        · rw [List.getElem?_eq_none (by omega)] at hv; cases hv
        · exact e)]
      exact hsrc x hx j v hv) (fun x hx h0 => Nat.lt_of_lt_of_le (hsb x hx h0) hb.size) hbd hl
  clear hsrc hsb hbd hl hn
  go_enter Try.func6, Try.ntmps6
  go_wp2_with fail
  obtain ⟨r, hr⟩ : ∃ r, w.heap.size = r := ⟨_, rfl⟩
  obtain ⟨V, hV⟩ : ∃ V, w.alloc (Obj.cells #[Value.slice none 0 0, Value.slice none 0 0] 28) = V := ⟨_, rfl⟩
  obtain ⟨p, hp⟩ : ∃ p, V.heap.size = p := ⟨_, rfl⟩
  have hpr : r < p := by rw [← hp, ← hV, ← hr]; simp
  have hVb : Below r w V := by rw [← hV, ← hr]; exact Below.al (Below.refl _ _) _
  have v0 : V.cell? ⟨r, 0, none⟩ = some (.slice none 0 0) := by rw [← hV, ← hr]; simp [go_sem]
  have v1 : V.cell? ⟨r, 1, none⟩ = some (.slice none 0 0) := by rw [← hV, ← hr]; simp [go_sem]
  have vf : ∀ j, V.frozen? ⟨r, j, none⟩ = false := fun j => by rw [← hV, ← hr]; simp [go_sem]
  have HV := Lib.hid (And.intro v0 (And.intro v1 (And.intro vf hVb)))
  have hf1 := hfrom V (hr ▸ hVb)
  try simp only [hr]
  try rw [hV]
  clear hV hVb v0 v1 vf hfrom
  refine hf1.mono ?_
  rintro e w1 ⟨rfl, hS1, hb1⟩
  simp only [hp] at hS1 hb1 ⊢
  have H1 := Lib.hid (And.intro hS1 hb1)
  clear hf1 hS1 hb1
  go_wp2_with fail
  refine (n_lit p p ao ns cap 0 3 3 (by rfl) w1 H1.out.1 (by omega) (by omega)).mono ?_
  rintro e w2 ⟨nw, rfl, hnw, ⟨i2, hS2⟩, hg2⟩
  have H2 := Lib.hid (show Src p p ao ns cap i2 w2 ∧ Below p V w2 from ⟨hS2, H1.out.2.grown hg2 (hp ▸ H1.out.2.size) (fun k hk => by injection hk with hk; omega)⟩)
  clear hS2 hg2 H1
  go_wp2_with fail
  refine (n_lit p p ao ns cap i2 3 3 (by rfl) w2 H2.out.1 (by omega) (by omega)).mono ?_
  rintro e w3 ⟨nh, rfl, hnh, ⟨i3, hS3⟩, hg3⟩
  have H3 := Lib.hid (show Src p p ao ns cap i3 w3 ∧ Below p V w3 from ⟨hS3, H2.out.2.grown hg3 (hp ▸ H2.out.2.size) (fun k hk => by injection hk with hk; omega)⟩)
  clear hS3 hg3 H2
  go_wp2_with fail
  obtain ⟨W, hW⟩ : ∃ W : Nat, nw + 1 = W := ⟨_, rfl⟩
  obtain ⟨Hh, hH⟩ : ∃ H : Nat, nh + 1 = H := ⟨_, rfl⟩
  have eW : (1 : Int) + (nw : Int) = (W : Int) := by omega
  have eH : (1 : Int) + (nh : Int) = (Hh : Int) := by omega
  obtain ⟨q, hq⟩ : ∃ q, w3.heap.size = q := ⟨_, rfl⟩
  obtain ⟨W4, hW4⟩ : ∃ W4, w3.alloc (Obj.cells #[Value.slice none 0 0, Value.slice none 0 0] 28) = W4 := ⟨_, rfl⟩
  have hpq : p < q := by have := H3.out.1.pl; omega
  have HG : Hid (Ast p q ao ns cap V W [] 0 (.slice none 0 0) W4) := by
    rw [← hW4]
    exact ⟨⟨_, H3.out.1.on (Below.al (Below.refl _ _) _) (by omega)⟩, by rw [← hq]; simp [go_sem], by rw [← hq]; simp [go_sem], by rw [← hq]; simp [go_sem], by rw [← hq]; simp [go_sem], World.ownsRow_nil _ _ _ _, rfl, fun i P hi => by simp at hi, H3.out.2.alloc (by omega) _, by simp; omega, hpq⟩
  try simp only [eW, eH, hq]
  try rw [hW4]
  clear hW4 eW eH H3
  have hW3 : W ≤ 3 := by omega
  have hH3 : Hh ≤ 3 := by omega
  have hW1 : 1 ≤ W := by omega
  have hH1 : 1 ≤ Hh := by omega
  clear hW hH hnw hnh hq
  go_loopw [25] (fun v25 wx => ∃ y : Nat, v25 = .int .i64 y ∧ y ≤ Hh + 1 ∧ Hid (∃ L v, Ast p q ao ns cap V W L (y * (W + 1)) v wx)) (fun v25 _ => Hh + 1 - (intOf v25).toNat)
  case atStart => exact ⟨0, rfl, Nat.zero_le _, [], _, by rw [Nat.zero_mul]; exact HG.out⟩
  case round =>
    obtain ⟨y, rfl, hy, hR⟩ := hrel
    by_cases h0 : y = Hh + 1
    · have y1 : ¬ (y : Int) < (Hh : Int) + 1 := by omega
      obtain ⟨L, vp, hA⟩ := hR.out
      rw [h0] at hA
      have HL := Lib.hid hA.len
      have HGD := Lib.hid hA.grd
      have HB0 := Lib.hid hA.cells
      clear hA hR h0 HG
      go_wp2_with fail
      go_loopw [62] (fun v62 wx => ∃ y : Nat, v62 = .int .i64 y ∧ y ≤ Hh ∧ Hid (∃ vc rs kd, Bst p q ao ns cap V L vp vc rs wx ∧ rs.map Prod.snd = floorOf W (y * W) kd)) (fun v62 _ => Hh - (intOf v62).toNat)
      case atStart => exact ⟨0, rfl, Nat.zero_le _, _, _, fun _ => 0, HB0.out, by rw [Nat.zero_mul]; rfl⟩
      case round =>
        clear HB0 y1 hy
        obtain ⟨y, rfl, hy, hR⟩ := hrel
        by_cases h0 : y = Hh
        · have y1 : ¬ (y : Int) < (Hh : Int) := by omega
          obtain ⟨vc, rs, kd, hB, hfl⟩ := hR.out
          obtain ⟨av, capv, rfl⟩ := own_slice hB.pts
          obtain ⟨ac, capc, rfl⟩ := own_slice hB.own
          have q0 := hB.q0
          have q1 := hB.q1
          have qs := hB.qs
          have HB2 := Lib.hid hB
          have HFL := Lib.hid hfl
          have r0 := (hB.bel.cell (p := ⟨r, 0, none⟩) hpr).trans HV.out.1
          have r1 := (hB.bel.cell (p := ⟨r, 1, none⟩) hpr).trans HV.out.2.1
          have rf0 := (hB.bel.frozen (p := ⟨r, 0, none⟩) hpr).trans (HV.out.2.2.1 0)
          have rf1 := (hB.bel.frozen (p := ⟨r, 1, none⟩) hpr).trans (HV.out.2.2.1 1)
          have hrs : r < wr.heap.size := by omega
          have HY := Lib.hid h0
          clear hB hfl hR h0
          go_wp2_with fail
          obtain ⟨X, hX⟩ : ∃ X, (wr.setCell ⟨r, 0, none⟩ (.slice av L.length capv)).setCell ⟨r, 1, none⟩ (.slice ac rs.length capc) = X := ⟨_, rfl⟩
          have hne : ∀ (Y : World) (i j : Nat) (y : Value), i ≠ j → (Y.setCell ⟨r, i, none⟩ y).cell? ⟨r, j, none⟩ = Y.cell? ⟨r, j, none⟩ := fun Y i j y h => World.cell?_setCell_other _ _ _ _ (fun e => h (congrArg Addr.off e))
          have x1 : X.cell? ⟨r, 1, none⟩ = some (.slice ac rs.length capc) := by
            rw [← hX]
            exact World.cell?_setCell_same _ _ _ ((hne _ 0 1 _ (by omega)).trans r1)
          have x0 : X.cell? ⟨r, 0, none⟩ = some (.slice av L.length capv) := by
            rw [← hX, hne _ 1 0 _ (by omega)]
            exact World.cell?_setCell_same _ _ _ r0
          have hbX : Below r w X := by
            rw [← hX]
            exact (((HV.out.2.2.2.trans (HB2.out.bel.mono (by omega)))).setCell (p := ⟨r, 0, none⟩) (Nat.le_refl r) _).setCell (p := ⟨r, 1, none⟩) (Nat.le_refl r) _
          have hm : Made w W Hh L rs kd (.slice av L.length capv) (.slice ac rs.length capc) X := by
            rw [← hX] at hbX ⊢
            refine ⟨hW1, hW3, hH1, hH3, HL.out, HGD.out, by rw [← HY.out]; exact HFL.out, ?_, ?_, ?_, by rw [hr]; exact hbX⟩
            · rw [hr]
              exact owns_mono (ownsRow_setCell_below (ownsRow_setCell_below HB2.out.pts (by simp only []; omega) _) (by simp only []; omega) _) (by omega)
            · rw [hr]
              exact owns_mono (ownsRow_setCell_below (ownsRow_setCell_below HB2.out.own (by simp only []; omega) _) (by simp only []; omega) _) (by omega)
            · intro a ha
              obtain ⟨a1, a2⟩ := HB2.out.row a ha
              exact ⟨by rw [heap_set _ _ _ _ _ (by omega), heap_set _ _ _ _ _ (by omega)]; exact a1, by omega⟩
          rw [hX]
          clear hX
          refine bodyPost_ret (v := .agg #[.slice av L.length capv, .slice ac rs.length capc]) (by simp [results, Try.results6, go_sem, x0, x1]) rfl ?_
          exact ⟨W, Hh, L, rs, kd, _, _, rfl, hm⟩
        · have hyl : y < Hh := by omega
          have y1 : (y : Int) < (Hh : Int) := by omega
          clear h0
          go_wp2_with fail
          go_loopw [66] (fun v66 wx => ∃ x : Nat, v66 = .int .i64 x ∧ x ≤ W ∧ Hid (∃ vc rs kd, Bst p q ao ns cap V L vp vc rs wx ∧ rs.map Prod.snd = floorOf W (y * W + x) kd)) (fun v66 _ => W - (intOf v66).toNat)
          case atStart => exact ⟨0, rfl, Nat.zero_le _, hR.out⟩
          case round =>
            clear hR
            obtain ⟨x, rfl, hx, hS⟩ := hrel
            by_cases h0 : x = W
            · have x1 : ¬ (x : Int) < (W : Int) := by omega
              have HX := Lib.hid h0
              clear h0
              go_wp2_with fail
              go_roundw
              case rel => exact ⟨y + 1, rfl, by omega, by have := hS.out; rw [HX.out] at this; rw [Nat.succ_mul]; exact this⟩
              case measure => simp [intOf] <;> omega
            · have hxl : x < W := by omega
              have x1 : (x : Int) < (W : Int) := by omega
              obtain ⟨vc, rs, kd, hB, hfl⟩ := hS.out
              obtain ⟨A, hA⟩ : ∃ A, y * (W + 1) + x = A := ⟨_, rfl⟩
              have HA := Lib.hid (show (y * W + x) / W * (W + 1) + (y * W + x) % W = A by
                rw [Nat.mul_comm y W, Nat.mul_add_div (by omega), Nat.div_eq_of_lt hxl, Nat.mul_add_mod, Nat.mod_eq_of_lt hxl]; exact hA)
              have hA100 : A ≤ 100 := by
                have : y * (W + 1) ≤ 3 * 4 := Nat.mul_le_mul (by omega) (by omega)
                omega
              have eA : (y : Int) * ((W : Int) + 1) = (A : Int) - (x : Int) := by
                have : ((y * (W + 1) + x : Nat) : Int) = (A : Int) := by rw [hA]
                push_cast at this
                omega
              have hxA : x ≤ A := by omega
              have hrs20 : rs.length ≤ 100 := by
                have e := congrArg List.length hfl
                rw [List.length_map] at e
                have := floorOf_len W (y * W + x) kd
                have : y * W ≤ 3 * 3 := Nat.mul_le_mul (by omega) (by omega)
                omega
              have HB := Lib.hid hB
              have HFL := Lib.hid hfl
              clear hB hfl hS h0 hA
              obtain ⟨i6, HS6⟩ := HB.out.src
              go_wp2_with fail
              refine (n_lit p p ao ns cap i6 4 4 (by rfl) wr HS6 (by omega) (by omega)).mono ?_
              rintro e w5 ⟨nk, rfl, hnk, hs5, hg5⟩
              have HC := Lib.hid (HB.out.turn hp hg5 hs5)
              have hq1 := HC.out.q1
              have hqf := HC.out.f1
              have hqs := HC.out.qs
              clear HS6 hs5 hg5 HB i6
              have hk4 : nk = 0 ∨ nk = 1 ∨ nk = 2 ∨ nk = 3 := by omega
              clear hnk
              rcases hk4 with rfl | rfl | rfl | rfl
              · go_wp2_with fail
                go_roundw
                case rel => exact ⟨x + 1, rfl, by omega, Lib.hid (HC.out.skip HFL.out)⟩
                case measure => simp [intOf] <;> omega
              · go_wp2_with (at_builtin; refine wpList_append_lies _ rfl _ _ 26 rfl (q + 1) 22 i5 (.slice none 0 0) 1 24 Try.underlying26 hi5 hu0 hu1 hu2 rfl (by decide) _ rs.length _ rfl (((HC.out.own.alloc _).alloc _).alloc _) ⟨w5.heap.size + 1 + 1, 0, none⟩ 2 2 [.slice (some ⟨w5.heap.size, 0, none⟩) 3 3, .slice (some ⟨w5.heap.size + 1, 0, none⟩) 3 3] rfl rfl (new_twoS _ _ (by simp) _ _ _) (two_ok rfl rfl) (by decide) (by unfold maxLen; omega) (by omega) (by simp; omega) _ rfl ?_)
                intro gg cap9 w9 hO9 hg9 hat9 hlt9
                have hb9 : Below (q + 1) w5 w9 := ((((Below.refl (q + 1) w5).alloc hqs _).alloc (by simp; omega) _).alloc (by simp; omega) _).grown hg9 (by simp; omega) (fun k hk => (HC.out.own.lt k hk).1)
                have hr1 := (hb9.cell (p := ⟨q, 1, none⟩) (Nat.lt_succ_self q)).trans hq1
                have hrf := (hb9.frozen (p := ⟨q, 1, none⟩) (Nat.lt_succ_self q)).trans hqf
                have hrs := Nat.lt_of_lt_of_le hqs hb9.size
                have HN := Lib.hid (HC.out.two HFL.out HA.out (t := 1) (c1 := [A, A + 1, A + W + 2]) (c2 := [A, A + W + 2, A + W + 1]) rfl rfl rfl (by simp [rowObj]) (by simp [rowObj]) hg9 hO9)
                clear hO9 hg9 hat9 hb9 hq1 hqf hqs
                go_wp2_with fail
                go_roundw
                case rel => exact ⟨x + 1, rfl, by omega, HN⟩
                case measure => simp [intOf] <;> omega
              · go_wp2_with (at_builtin; refine wpList_append_lies _ rfl _ _ 26 rfl (q + 1) 22 i5 (.slice none 0 0) 1 24 Try.underlying26 hi5 hu0 hu1 hu2 rfl (by decide) _ rs.length _ rfl (((HC.out.own.alloc _).alloc _).alloc _) ⟨w5.heap.size + 1 + 1, 0, none⟩ 2 2 [.slice (some ⟨w5.heap.size, 0, none⟩) 3 3, .slice (some ⟨w5.heap.size + 1, 0, none⟩) 3 3] rfl rfl (new_twoS _ _ (by simp) _ _ _) (two_ok rfl rfl) (by decide) (by unfold maxLen; omega) (by omega) (by simp; omega) _ rfl ?_)
                intro gg cap9 w9 hO9 hg9 hat9 hlt9
                have hb9 : Below (q + 1) w5 w9 := ((((Below.refl (q + 1) w5).alloc hqs _).alloc (by simp; omega) _).alloc (by simp; omega) _).grown hg9 (by simp; omega) (fun k hk => (HC.out.own.lt k hk).1)
                have hr1 := (hb9.cell (p := ⟨q, 1, none⟩) (Nat.lt_succ_self q)).trans hq1
                have hrf := (hb9.frozen (p := ⟨q, 1, none⟩) (Nat.lt_succ_self q)).trans hqf
                have hrs := Nat.lt_of_lt_of_le hqs hb9.size
                have HN := Lib.hid (HC.out.two HFL.out HA.out (t := 2) (c1 := [A + 1, A + W + 2, A + W + 1]) (c2 := [A, A + 1, A + W + 1]) rfl rfl rfl (by simp [rowObj]) (by simp [rowObj]) hg9 hO9)
                clear hO9 hg9 hat9 hb9 hq1 hqf hqs
                go_wp2_with fail
                go_roundw
                case rel => exact ⟨x + 1, rfl, by omega, HN⟩
                case measure => simp [intOf] <;> omega
              · go_wp2_with (at_builtin; refine wpList_append_lies _ rfl _ _ 26 rfl (q + 1) 22 i5 (.slice none 0 0) 1 24 Try.underlying26 hi5 hu0 hu1 hu2 rfl (by decide) _ rs.length _ rfl ((HC.out.own.alloc _).alloc _) ⟨w5.heap.size + 1, 0, none⟩ 1 1 [.slice (some ⟨w5.heap.size, 0, none⟩) 4 4] rfl rfl (new_oneS _ _ (by simp) _ _) (one_ok rfl) (by decide) (by unfold maxLen; omega) (by omega) (by simp; omega) _ rfl ?_)
                intro gg cap9 w9 hO9 hg9 hat9 hlt9
                have hb9 : Below (q + 1) w5 w9 := (((Below.refl (q + 1) w5).alloc hqs _).alloc (by simp; omega) _).grown hg9 (by simp; omega) (fun k hk => (HC.out.own.lt k hk).1)
                have hr1 := (hb9.cell (p := ⟨q, 1, none⟩) (Nat.lt_succ_self q)).trans hq1
                have hrf := (hb9.frozen (p := ⟨q, 1, none⟩) (Nat.lt_succ_self q)).trans hqf
                have hrs := Nat.lt_of_lt_of_le hqs hb9.size
                have HN := Lib.hid (HC.out.one HFL.out HA.out (t := 3) (c1 := [A, A + 1, A + W + 2, A + W + 1]) rfl rfl (by simp [rowObj]) hg9 hO9)
                clear hO9 hg9 hat9 hb9 hq1 hqf hqs
                go_wp2_with fail
                go_roundw
                case rel => exact ⟨x + 1, rfl, by omega, HN⟩
                case measure => simp [intOf] <;> omega
    · have hyl : y < Hh + 1 := by omega
      have y1 : (y : Int) < (Hh : Int) + 1 := by omega
      clear h0
      go_wp2_with fail
      go_loopw [30] (fun v30 wx => ∃ x : Nat, v30 = .int .i64 x ∧ x ≤ W + 1 ∧ Hid (∃ L v, Ast p q ao ns cap V W L (y * (W + 1) + x) v wx)) (fun v30 _ => W + 1 - (intOf v30).toNat)
      case atStart => exact ⟨0, rfl, Nat.zero_le _, hR.out⟩
      case round =>
        obtain ⟨x, rfl, hx, hS⟩ := hrel
        by_cases h0 : x = W + 1
        · have x1 : ¬ (x : Int) < (W : Int) + 1 := by omega
          have HX := Lib.hid h0
          clear h0
          go_wp2_with fail
          go_roundw
          case rel => exact ⟨y + 1, rfl, by omega, by have := hS.out; rw [HX.out] at this; rw [Nat.succ_mul]; exact this⟩
          case measure => simp [intOf] <;> omega
        · have hxl : x < W + 1 := by omega
          have x1 : (x : Int) < (W : Int) + 1 := by omega
          obtain ⟨L, vp, hA⟩ := hS.out
          have hk : Hid ((y * (W + 1) + x) % (W + 1) = x ∧ (y * (W + 1) + x) / (W + 1) = y) := ⟨by rw [Nat.mul_comm, Nat.mul_add_mod]; exact Nat.mod_eq_of_lt hxl, by rw [Nat.mul_comm, Nat.mul_add_div (by omega), Nat.div_eq_of_lt hxl]; rfl⟩
          obtain ⟨k, hkk⟩ : ∃ k, y * (W + 1) + x = k := ⟨_, rfl⟩
          rw [hkk] at hA hk
          have HKK := Lib.hid hkk
          have hk100 : k ≤ 1000 := by
            have : y * (W + 1) ≤ 4 * 4 := Nat.mul_le_mul (by omega) (by omega)
            omega
          have HA := Lib.hid hA.drew
          have hq0 := HA.out.q0
          have hqf := HA.out.f0
          have hqs := HA.out.qs
          clear hS hA hkk h0
          go_upto_region 10 with fail
          obtain ⟨i5, HS⟩ := HA.out.src
          have hn3 := fun i W (h : Src p p ao ns cap i W) => n_lit p p ao ns cap i 3 3 (by rfl) W h (by omega) (by omega)
          have hn100 := fun i W (h : Src p p ao ns cap i W) => n_lit p p ao ns cap i 100 100 (by rfl) W h (by omega) (by omega)
          go_region_law (first
            | (go_simp; go_at_call 20; (first | (with_reducible refine (hn3 _ _ HS).mono ?_) | (with_reducible refine (hn100 _ _ HS).mono ?_)); rintro e w5 ⟨rr, rfl, hrr, hs5, hg5⟩; have HA := Lib.hid (HA.out.turn hp hg5 hs5); have hq0 := HA.out.q0; have hqf := HA.out.f0; have hqs := HA.out.qs; obtain ⟨i5, HS⟩ := hs5; clear hg5)
            | (refine step_append_lies _ (by rfl) _ _ 25 (by rfl) (q + 1) 24 i0 (.agg #[.int .i64 0, .int .i64 0]) 2 16 Try.underlying25 hi0 hz0 hz1 hz2 rfl (by decide) _ k _ (by rfl) (HA.out.own.alloc _) ⟨w5.heap.size, 0, none⟩ 1 1 [_, _] (by rfl) (by rfl) (new_two w5 _ _ _) (two_ok rfl rfl) (by omega) (by unfold maxLen; omega) (by omega) (by have := HA.out.qs; simp; omega) _ rfl ?_; intro gg cap9 w9 hO9 hg9 hat9 hlt9; have hb9 : Below (q + 1) w5 w9 := ((Below.refl (q + 1) w5).alloc HA.out.qs _).grown hg9 (by have := HA.out.qs; simp; omega) (fun k hk => (HA.out.own.lt k hk).1); have hq0 := (hb9.cell (p := ⟨q, 0, none⟩) (Nat.lt_succ_self q)).trans HA.out.q0; have hqf := (hb9.frozen (p := ⟨q, 0, none⟩) (Nat.lt_succ_self q)).trans HA.out.f0; have hqs := Nat.lt_of_lt_of_le HA.out.qs hb9.size))
          all_goals
            go_wp2_with fail
            go_roundw
            case rel => exact ⟨x + 1, rfl, by omega, Lib.hid ⟨_, _, (by have := HA.out.add (by rw [hk.out.1]; exact gb_of x _ _ (by omega) (by assumption) (by assumption)) (by rw [hk.out.2]; exact gb_of y _ _ (by omega) (by assumption) (by assumption)) hg9 hO9; have e : y * (W + 1) + (x + 1) = k + 1 := (by have := HKK.out; omega); rw [e]; exact this)⟩⟩
            case measure => simp [intOf] <;> omega
end Go.Proofs.Ytaiflkjchbpphaa.P
