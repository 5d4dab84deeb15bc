
/-
  A region that draws its order, in which two or three operations that write may come up.
-/
import Derived.Test.YtcpofhjoblgmgaaDoorStage
namespace Go.Proofs.YtcpofhjoblgmgaaDoor
open Go.RowKit

section
variable {P : Program} {ops : Array Oper} {Q : Exit → Act → World → Prop} {md : Region.Mode} {S : World → Prop} {N : List Nat}
/-- what is to be shown of one that comes up -/
def UpN (P : Program) (ops : Array Oper) (Q : Exit → Act → World → Prop) (md : Region.Mode) (S : World → Prop) (N : List Nat) (fuel : Nat) (listed : Array Bool) (a : Act) (w : World) (i : Nat) (o : Oper) : Prop :=
  ∀ K' : Act → World → Prop, Shut (∀ a w, (N.contains i = false → S w) → wpAnyN P md ops Q S N fuel (listed.setIfInBounds i true) a w → K' a w) → if Region.wanted o (yielded ops a.tmps) = true then Oper.wp P o a w K' Q else K' (a.put o.dst undef) w
theorem wpAnyN_2 {i j : Nat} {o o' : Oper} {fuel : Nat} {listed : Array Bool} {a : Act} {w : World} (ho : ops[i]? = some o) (ho' : ops[j]? = some o') (hr : Region.ready md ops listed = [i, j])
    (h : UpN P ops Q md S N fuel listed a w i o) (h' : UpN P ops Q md S N fuel listed a w j o') : wpAnyN P md ops Q S N (fuel + 1) listed a w := by
  refine ⟨fun h0 => (by rw [h0] at hr; cases hr), fun k hk => ?_⟩
  rw [hr] at hk
  rcases List.mem_cons.1 hk with rfl | hk
  · exact wpOp_step ho (fun K' hK => h K' (fun a w hS hW => hK a w ⟨hS, hW⟩))
  · obtain rfl : k = j := by simpa using hk
    exact wpOp_step ho' (fun K' hK => h' K' (fun a w hS hW => hK a w ⟨hS, hW⟩))
theorem wpAnyN_3 {i j l : Nat} {o o' o'' : Oper} {fuel : Nat} {listed : Array Bool} {a : Act} {w : World} (ho : ops[i]? = some o) (ho' : ops[j]? = some o') (ho'' : ops[l]? = some o'') (hr : Region.ready md ops listed = [i, j, l])
    (h : UpN P ops Q md S N fuel listed a w i o) (h' : UpN P ops Q md S N fuel listed a w j o') (h'' : UpN P ops Q md S N fuel listed a w l o'') : wpAnyN P md ops Q S N (fuel + 1) listed a w := by
  refine ⟨fun h0 => (by rw [h0] at hr; cases hr), fun k hk => ?_⟩
  rw [hr] at hk
  rcases List.mem_cons.1 hk with rfl | hk
  · exact wpOp_step ho (fun K' hK => h K' (fun a w hS hW => hK a w ⟨hS, hW⟩))
  · rcases List.mem_cons.1 hk with rfl | hk
    · exact wpOp_step ho' (fun K' hK => h' K' (fun a w hS hW => hK a w ⟨hS, hW⟩))
    · obtain rfl : k = l := by simpa using hk
      exact wpOp_step ho'' (fun K' hK => h'' K' (fun a w hS hW => hK a w ⟨hS, hW⟩))
end
end Go.Proofs.YtcpofhjoblgmgaaDoor
