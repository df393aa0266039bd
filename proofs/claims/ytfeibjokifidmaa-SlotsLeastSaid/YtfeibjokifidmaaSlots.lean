/- Slots in memory; New, Alive, Gens, List. -/
import Derived.Test.YtfeibjokifidmaaLen
import Derived.Test.YtfeibjokifidmaaBox
import Derived.Test.YtfeibjokifidmaaSlotsP
import Derived.Deep.DeepCutAuto
import Derived.Deep.RegionHeld3
import Derived.Deep.AppendLies
import Derived.Deep.DrawnRows
namespace Go.Proofs.Ytfeibjokifidmaa.Z
open Go.RowKit Go.Shelf Go.Proofs.Ytfeibjokifidmaa.M
variable {bz : Nat}

attribute [local go_sem] Oper.semAt_some

/-- The numbers of a row. -/
def ints (G : List Nat) : List Value := G.map fun g => .int .i64 ((g : Nat) : Int)
theorem ints_length (G : List Nat) : (ints G).length = G.length := by simp [ints]
theorem ints_at {G : List Nat} {j : Nat} (h : j < G.length) : (ints G)[j]? = some (.int .i64 ((G[j]?.getD 0 : Nat) : Int)) := by
  unfold ints
  rw [List.getElem?_map, List.getElem?_eq_getElem h]
  rfl

/-- Slots, as they lie in block p. -/
structure SlotsAt (w : World) (p bz : Nat) (G : List Nat) (U F : Sets) : Prop where
  gens : ∃ gv, w.cell? ⟨p, 0, none⟩ = some gv ∧ w.ownsRow bz 3 1 gv G.length (ints G)
  used : ∃ uv, w.cell? ⟨p, 1, none⟩ = some uv ∧ SetAt w uv U
  free : ∃ fv, w.cell? ⟨p, 2, none⟩ = some fv ∧ SetAt w fv F
  fz : ∀ j, w.frozen? ⟨p, j, none⟩ = false
  sz : p < w.heap.size
  ne : ∀ gv, w.cell? ⟨p, 0, none⟩ = some gv → gv.ownBlock ≠ some p
theorem SlotsAt.keep {w w' : World} {p : Nat} {G : List Nat} {U F : Sets} (h : SlotsAt w p bz G U F) (hb : Below w.heap.size w w') : SlotsAt w' p bz G U F := by
  obtain ⟨gv, h1, h2⟩ := h.gens
  obtain ⟨uv, h3, h4⟩ := h.used
  obtain ⟨fv, h5, h6⟩ := h.free
  exact ⟨⟨gv, (hb.cell (p := ⟨p, 0, none⟩) h.sz).trans h1, owns_below h2 hb (Nat.le_refl _)⟩, ⟨uv, (hb.cell (p := ⟨p, 1, none⟩) h.sz).trans h3, h4.keep hb⟩, ⟨fv, (hb.cell (p := ⟨p, 2, none⟩) h.sz).trans h5, h6.keep hb⟩,
    fun j => (hb.frozen (p := ⟨p, j, none⟩) h.sz).trans (h.fz j), by have := hb.size; have := h.sz; omega, fun v hv => h.ne v ((hb.cell (p := ⟨p, 0, none⟩) h.sz).symm.trans hv)⟩

theorem new_any (w : World) : Calls Try.prog 38 #[] w fun e w' => e = .returned (.pointer (some ⟨w.heap.size, 0, none⟩)) ∧ SlotsAt w' w.heap.size (w.heap.size + 1) [] none' none' ∧ Below w.heap.size w w' := by
  go_enter Try.func38, Try.ntmps38
  go_wp2_with fail
  go_ret
  refine ⟨rfl, ⟨⟨.slice none 0 0, by simp [go_sem], World.ownsRow_nil _ _ _ _⟩, ⟨.slice none 0 0, by simp [go_sem], set_nil _⟩, ⟨.slice none 0 0, by simp [go_sem], set_nil _⟩, fun j => by simp [go_sem], by simp, fun v hv => by simp [go_sem] at hv; subst hv; simp [Value.ownBlock]⟩, (Below.refl _ _).alloc (Nat.le_refl _) _⟩

set_option maxRecDepth 8000 in
theorem gens_any (p : Nat) (G : List Nat) (U F : Sets) (w : World) (h : SlotsAt w p bz G U F) (hn : G.length ≤ 256) :
    Calls Try.prog 44 #[.pointer (some ⟨p, 0, none⟩)] w fun e w' => (∃ ad c, e = .returned (.slice ad G.length c)) ∧ Below w.heap.size w w' := by
  obtain ⟨i0, hi0, hz0, hz1, hz2⟩ := info_parts Try.info3
  obtain ⟨gv, hc, ho⟩ := h.gens
  obtain ⟨ao, cap, rfl, hnn, hcells, hl⟩ := owns_source ho
  obtain ⟨n, hnG⟩ : ∃ n, G.length = n := ⟨_, rfl⟩
  rw [hnG] at hn hc hnn ⊢
  have HN := Lib.hid hnn
  have HC := Lib.hid hcells
  have HL : Hid ((ints G).length = n * 1) := by show _ = _; rw [ints_length]; omega
  clear hnn hcells hl h hnG ho
  go_enter Try.func44, Try.ntmps44
  go_wp2_with (at_builtin; refine wpList_append_copy _ rfl _ _ 22 rfl 3 i0 (.int .i64 0) 1 8 Try.underlying22 hi0 hz0 hz1 hz2 rfl (by decide) ao n cap (ints G) rfl rfl HL.out HN.out HC.out (by intro u hu; unfold ints at hu; obtain ⟨x, _, rfl⟩ := List.mem_map.1 hu; rfl) (by unfold maxLen; omega) (by omega) ?_)
  intro v w1 hown hg
  have hB : Below w.heap.size w w1 := (Below.refl _ _).grown hg (Nat.le_refl _) (fun k hk => by cases hk)
  obtain ⟨vo, vc, rfl, _, _, _⟩ := owns_source hown
  go_wp2_with fail
  go_ret
  exact ⟨⟨vo, vc, rfl⟩, hB⟩

/-- Where the numbers of the slots lie. -/
theorem SlotsAt.genAt {w : World} {p : Nat} {G : List Nat} {U F : Sets} (h : SlotsAt w p bz G U F) {i : Nat} (hi : i < G.length) :
    ∃ g c, w.cell? ⟨p, 0, none⟩ = some (.slice (some ⟨g, 0, none⟩) G.length c) ∧ p ≠ g ∧ g < w.heap.size ∧ w.cell? ⟨g, i, none⟩ = some (.int .i64 ((G[i]?.getD 0 : Nat) : Int)) ∧ w.frozen? ⟨g, i, none⟩ = false := by
  obtain ⟨gv, h1, h2⟩ := h.gens
  obtain ⟨g, c, rfl, _, hg, _, _, _, hcl, hf⟩ := owns_open h2 (by omega)
  exact ⟨g, c, h1, fun e => h.ne _ h1 (by rw [e]; rfl), hg, by rw [hcl i (by omega)]; exact ints_at hi, hf i⟩

set_option maxRecDepth 8000 in
theorem alive_any (p : Nat) (G : List Nat) (U F : Sets) (w : World) (h : SlotsAt w p bz G U F) (hI : Inv G U F) (N g : Nat) (hN : N < 4096) :
    Calls Try.prog 43 #[.pointer (some ⟨p, 0, none⟩), .agg #[.int .i64 N, .int .i64 g]] w fun e w' => e = .returned (.bool (has U N && (G[N]?.getD 0 == g))) ∧ Below w.heap.size w w' := by
  obtain ⟨uv, hu, hsu⟩ := h.used
  obtain ⟨ad, nu, cu, rfl⟩ : ∃ ad n c, uv = .slice ad n c := by obtain ⟨l, ad, c, h1, _⟩ := hsu; exact ⟨ad, l.length, c, h1⟩
  have hHas := Lib.hid fun (W : World) (hW : Below w.heap.size w W) => has_any _ U N W (hsu.keep hW) (by omega)
  have hps := h.sz
  obtain ⟨b, hb⟩ : ∃ b, has U N = b := ⟨_, rfl⟩
  cases b with
  | false =>
    rw [hb] at hHas ⊢
    clear h hI hsu
    go_enter Try.func43, Try.ntmps43
    go_wp2_with fail
    refine region_grow (by kernel_rfl) (by kernel_rfl) ?_
    repeat (go_big_quiet_step ((intro _; go_at_call 28; exact grow_same (hHas.out _ (((Below.refl _ _).alloc (Nat.le_refl _) _).trans ((below_ext _ _ _).mono (by simp)))))))
    refine wpQuiet_nil ?_
    intro _ hw'
    obtain ⟨kk, mm, rfl⟩ := hw'
    go_wp2_with fail
    go_ret
    exact ⟨rfl, ((Below.refl _ _).alloc (Nat.le_refl _) _).trans ((below_ext _ _ _).mono (by simp))⟩
  | true =>
    have hNl := hI.u N hb
    obtain ⟨gb, c, hc0, hpg, hgs, hgi, _⟩ := h.genAt hNl
    rw [hb] at hHas ⊢
    obtain ⟨n, hn⟩ : ∃ n, G.length = n := ⟨_, rfl⟩
    obtain ⟨q, hq⟩ : ∃ q, G[N]?.getD 0 = q := ⟨_, rfl⟩
    rw [hn] at hc0 hNl
    rw [hq] at hgi ⊢
    have iN0 : (0 : Int) ≤ (N : Int) := Int.natCast_nonneg _
    have iN1 : (N : Int) < (n : Int) := by omega
    have hqg : ((q : Int) == (g : Int)) = (q == g) := by
      by_cases e : q = g
      · subst e; simp
      · have : ¬ (q : Int) = (g : Int) := by omega
        rw [show ((q : Int) == (g : Int)) = false from beq_eq_false_iff_ne.2 this, show (q == g) = false from beq_eq_false_iff_ne.2 e]
    obtain ⟨r, hr⟩ : ∃ r, (q == g) = r := ⟨_, rfl⟩
    rw [hr] at hqg ⊢
    clear h hI hsu hb hn hq hr
    go_enter Try.func43, Try.ntmps43
    go_wp2_with fail
    refine region_grow (by kernel_rfl) (by kernel_rfl) ?_
    repeat (go_big_quiet_step ((intro _; go_at_call 28; exact grow_same (hHas.out _ (((Below.refl _ _).alloc (Nat.le_refl _) _).trans ((below_ext _ _ _).mono (by simp)))))))
    refine wpQuiet_nil ?_
    intro _ hw'
    obtain ⟨kk, mm, rfl⟩ := hw'
    go_wp2_with fail
    go_ret
    exact ⟨rfl, ((Below.refl _ _).alloc (Nat.le_refl _) _).trans ((below_ext _ _ _).mono (by simp))⟩
end Go.Proofs.Ytfeibjokifidmaa.Z
