/- quat.Turn. -/
import Derived.Test.YtdnepccjgclgiaaQof
import Derived.Test.YtdnepccjgclgiaaQnew
namespace Go.Proofs.Ytdnepccjgclgiaa
open Go.RowKit

def qmw (a b c d x y z v : Int) : Int := qsum [fmul a x, - fmul b y, - fmul c z, - fmul d v]
def qmx (a b c d x y z v : Int) : Int := qsum [fmul a y, fmul b x, fmul c v, - fmul d z]
def qmy (a b c d x y z v : Int) : Int := qsum [fmul a z, - fmul b v, fmul c x, fmul d y]
def qmz (a b c d x y z v : Int) : Int := qsum [fmul a v, fmul b z, - fmul c y, fmul d x]
theorem qmul_any (a b c d x y z v : Int) (w : World) :
    Calls Try.prog 55 #[.agg #[.int .i64 a, .int .i64 b, .int .i64 c, .int .i64 d], .agg #[.int .i64 x, .int .i64 y, .int .i64 z, .int .i64 v]] w fun e w' => e = .returned (.agg #[.int .i64 (qmw a b c d x y z v), .int .i64 (qmx a b c d x y z v), .int .i64 (qmy a b c d x y z v), .int .i64 (qmz a b c d x y z v)]) ∧ Below w.heap.size w w' := mul_any a b c d x y z v w

/-- quat.Turn. -/
def qt (f : Int → Int → Int → Int → Int → Int → Int → Int → Int) (a b c d x y z : Int) : Int :=
  f (qmw a b c d 0 x y z) (qmx a b c d 0 x y z) (qmy a b c d 0 x y z) (qmz a b c d 0 x y z) (clamp a) (-clamp b) (-clamp c) (-clamp d)

set_option maxRecDepth 8000 in
theorem qturn_any (a b c d x y z : Int) (w : World) :
    Calls Try.prog 59 #[.agg #[.int .i64 a, .int .i64 b, .int .i64 c, .int .i64 d], .agg #[.int .i64 x, .int .i64 y, .int .i64 z]] w fun e w' => e = .returned (.agg #[.int .i64 (qt qmx a b c d x y z), .int .i64 (qt qmy a b c d x y z), .int .i64 (qt qmz a b c d x y z)]) ∧ Below w.heap.size w w' := by
  go_enter Try.func59, Try.ntmps59
  go_wp2_with fail
  apply region_flow0 13 [5] [12] (fun _ => undef) (fun _ => Fresh (w.heap.size + 3))
  case hm => kernel_rfl
  case hB => kernel_rfl
  case hw' =>
    intro k
    simp (decide := true) only [List.take_succ_cons, List.take_zero, maskFrom, if_true, if_false]
    repeat (go_big_quiet_step ((first | (intro _; go_at_call 55; exact grow_of2 (qmul_any _ _ _ _ _ _ _ _ _)) | (intro _; go_at_call 56; exact grow_of2 (qback_any _ _ _ _ _)))))
    exact wpQuiet_nil rfl
  case hsp =>
    intro i hi
    simp only [List.mem_cons, List.not_mem_nil, or_false] at hi
    rcases hi with rfl
    intro o d ho hd f k m hG
    obtain rfl := Option.some.inj (show some _ = some o from ho)
    obtain rfl := Option.some.inj (show some _ = some d from hd)
    exact flow_new (by decide) (by simp [go_sem])
  case hG => intro t v k m k' m' h; exact h.ext k' m'
  case ht =>
    intro f k m hf _
    obtain ⟨g5, e5, h1, h2, h3, h4⟩ := hf 5 (by decide)
    have c0 := h3 0 (by omega)
    have c1 := h3 1 (by omega)
    have c2 := h3 2 (by omega)
    have c3 := h3 3 (by omega)
    have f0 := h4 0
    have f1 := h4 1
    have f2 := h4 2
    have f3 := h4 3
    simp (decide := true) only [List.drop_succ_cons, List.drop_zero, ghosted, List.foldl_cons, List.foldl_nil, e5]
    clear h3 h4 hf e5
    go_wp2
    exact bodyPost_ret (v := .agg #[.int .i64 (qt qmx a b c d x y z), .int .i64 (qt qmy a b c d x y z), .int .i64 (qt qmz a b c d x y z)]) (by simp [results, Try.results59, go_sem, qt]) rfl ⟨rfl, by
      repeat (refine Below.setCell ?_ (by simp; omega) _)
      repeat (first | exact Below.refl _ _ | apply Below.drew | apply Below.al | apply Below.ex)⟩
end Go.Proofs.Ytdnepccjgclgiaa
