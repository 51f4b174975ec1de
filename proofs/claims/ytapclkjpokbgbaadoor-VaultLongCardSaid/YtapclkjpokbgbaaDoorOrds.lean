/- A region that draws its order, order by order. Of any program. -/
import Derived.Test.YtapclkjpokbgbaaDoorDraw
set_option linter.unusedSimpArgs false
set_option linter.unusedVariables false
namespace Go.Proofs.YtapclkjpokbgbaaDoor
open Go Go.RowKit

theorem wpOps_list {P : Program} {ops : Array Oper} {Q : Exit → Act → World → Prop} : ∀ l : List Nat, wpOps P ops Q l = wpList P ops Q (l.filterMap (ops[·]?)) := by
  intro l
  induction l with
  | nil => funext a w; simp [wpOps, wpList]
  | cons i l ih =>
    funext a w
    cases h : ops[i]? with
    | none => simp only [wpOps, h, List.filterMap_cons, ih]
    | some o => simp only [wpOps, h, List.filterMap_cons, wpList, ih]

theorem wp_region_orders {P : Program} {ops : Array Oper} {Q : Exit → Act → World → Prop} {a : Act} {w : World} {id : Nat} (L : List (List Nat)) (hm : P.follows .mixedOrders = true) (hL : orders .any ops ops.size (Array.replicate ops.size false) = L)
    (h : ∀ l ∈ L, wpList P ops Q (l.filterMap (ops[·]?)) a w.drew) : (Code.region id ops true).wp P Q a w := by
  subst hL
  refine wp_region_draw fun t => ?_
  have hl : Region.schedule (P.follows .mixedOrders) ops t ∈ orders .any ops ops.size (Array.replicate ops.size false) := by
    simp only [Region.schedule, hm, Bool.true_or, if_true]
    exact go_mem_orders .any ops _ _ _
  rw [wpOps_list]
  exact h _ hl
end Go.Proofs.YtapclkjpokbgbaaDoor
