import Derived.Test.YtllmddkakimloaaAbDraw5
namespace Go.Ab
set_option linter.all false
open Go Go.RowKit
variable {P : Program} {a : Act} {w : World} {n : Nat} {Mo : Cells} {m : Mp} {s : Sa} {p : Name} {sv : List Act} {ops : Array Oper}

theorem listed_none : Listed ops (Array.replicate ops.size false) (· ∈ ([] : List Nat)) := by
  refine ⟨by simp, fun j hj => ?_⟩
  simp [hj]
/-- **A region that draws its order**, by a plan: which operations only look, and which come alone. -/
theorem TC_draw {id : Nat} {Q : Ex → Sa → Prop} (plan : List Seg) (hm : P.follows .mixedOrders = true) (hp : planOK ops [] plan = true) (h : evPlan P p ops plan s (Q .norm)) : TC P p (.region id ops true) s Q := fun Mo m a sv w n hR => by
  have hb : Below w.heap.size w { w with drawn := w.drawn + 1 } := ⟨rfl, rfl, rfl, Nat.le_refl _, fun _ _ => rfl⟩
  have hlen := (planOK_fresh hp).2.2
  simp only [List.length_nil, Nat.zero_add] at hlen
  refine wpIn_region_any hm ?_
  rw [← hlen]
  rw [show Array.replicate (flat plan).length false = Array.replicate ops.size false by rw [hlen]]
  refine plan_sound plan [] _ m s a _ hp (fun j hj => by cases hj) listed_none (hR.below hb) ?_ h
  intro m' s' a' w' hk hR' hs hr hd
  exact ⟨.norm, m', s', rfl, hk, hR', (Step.of_below hb).trans hs, hr, by rw [hd]; exact .refl⟩
end Go.Ab
