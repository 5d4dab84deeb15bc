/-
  Values that refer to memory: what holds of such a value stays where memory only grows.
-/
import Derived.Test.YtkknhpailohjcaaFoldI
namespace Go.Proofs.Ytkknhpailohjcaa
open Go.RowKit

def encV (v : Value) : List Value := [v]
/-- 'Rep w v y': in the world w the slice v holds y; E is the element type of the rows that such values lie in -/
structure RepOk {β : Type} (E : TypeId) (Rep : World → Value → β → Prop) : Prop where
  next : ∀ {w w' : World} {v : Value} {y : β}, Rep w v y → Below w.heap.size w w' → Rep w' v y
  grown : ∀ {w w' : World} {v : Value} {y : β} {g : Nat} {cs : Array Value}, Rep w v y → Blk w g E cs → w.grownBy w' (some g) → Rep w' v y
  sl : ∀ {w : World} {v : Value} {y : β}, Rep w v y → ∃ p n c, v = .slice p n c
theorem RepOk.one {β : Type} {E : TypeId} {Rep : World → Value → β → Prop} (RO : RepOk E Rep) {w : World} {v : Value} {y : β} (h : Rep w v y) : v.oneCell' = true := by
  obtain ⟨p, n, c, rfl⟩ := RO.sl h; rfl
theorem RepOk.next' {β : Type} {E : TypeId} {Rep : World → Value → β → Prop} (RO : RepOk E Rep) {w w' : World} {v : Value} {y : β} (h : Rep w v y) (hb : Below w.heap.size w w') : Rep w' v y := RO.next h hb
/-- a list of such values -/
def Reps {β : Type} (d : β) (Rep : World → Value → β → Prop) (w : World) (vs : List Value) (ys : List β) : Prop := vs.length = ys.length ∧ ∀ i v, vs[i]? = some v → Rep w v (ys.getD i d)
def RetRep {β : Type} (Rep : World → Value → β → Prop) (y : β) (w0 : World) (e : Ending) (w' : World) : Prop := ∃ v, e = .returned v ∧ Rep w' v y ∧ Below w0.heap.size w0 w'
def RetReps {β : Type} (d : β) (E : TypeId) (Rep : World → Value → β → Prop) (ys : List β) (w0 : World) (e : Ending) (w' : World) : Prop :=
  ∃ A c vs, e = .returned (.slice A ys.length c) ∧ w'.ownsRow w0.heap.size E 1 (.slice A ys.length c) ys.length (vs.flatMap encV) ∧ Reps d Rep w' vs ys ∧ Below w0.heap.size w0 w'
section
variable {β : Type} {d : β} {E : TypeId} {Rep : World → Value → β → Prop} {w w' : World} {vs : List Value} {ys : List β}
theorem Reps.next (h : Reps d Rep w vs ys) (RO : RepOk E Rep) (hb : Below w.heap.size w w') : Reps d Rep w' vs ys := ⟨h.1, fun i v hv => RO.next (h.2 i v hv) hb⟩
theorem Reps.at_ (h : Reps d Rep w vs ys) (u : Value) {i : Nat} (hi : i < vs.length) : Rep w (vs.getD i u) (ys.getD i d) := by
  refine h.2 i _ ?_
  rw [List.getD_eq_getElem?_getD, List.getElem?_eq_getElem hi]; rfl
theorem rep_row (RO : RepOk E Rep) {base n c : Nat} {A : Option Addr} {xs : List Value} {v : Value} {y : β} (hO : w.ownsRow base E 1 (.slice A n c) n xs) (h : Rep w v y) (o : Obj) (hg : (w.alloc o).grownBy w' (Value.slice A n c).ownBlock) : Rep w' v y := by
  have h1 : Rep (w.alloc o) v y := RO.next h ((Below.refl _ _).alloc (Nat.le_refl _) o)
  have hO1 := hO.alloc o
  rcases hO1.2 with ⟨hn, _⟩ | ⟨g, cap, cur, hv, _, hh, _⟩
  · rw [hn] at hg
    exact RO.next h1 ⟨hg.os, hg.tape, hg.output, hg.size, fun k hk => hg.block k hk (by simp [Value.ownBlock])⟩
  · rw [hv] at hg
    exact RO.grown h1 (show Blk (w.alloc o) g E cur from hh) hg
theorem Reps.push (h : Reps d Rep w vs ys) (RO : RepOk E Rep) {base n c : Nat} {A : Option Addr} {xs : List Value} {v : Value} {y : β} (hO : w.ownsRow base E 1 (.slice A n c) n xs) (hv : Rep w v y) (o : Obj) (hg : (w.alloc o).grownBy w' (Value.slice A n c).ownBlock) :
    Reps d Rep w' (vs ++ [v]) (ys ++ [y]) := by
  refine ⟨by simp [h.1], fun i u hu => ?_⟩
  by_cases hi : i < vs.length
  · rw [List.getElem?_append_left hi] at hu
    rw [List.getD_eq_getElem?_getD, List.getElem?_append_left (by rw [← h.1]; exact hi), ← List.getD_eq_getElem?_getD]
    exact rep_row RO hO (h.2 i u hu) o hg
  · have hi2 : i = vs.length := by
      have := (List.getElem?_eq_some_iff.1 hu).1
      simp at this; omega
    subst hi2
    rw [List.getElem?_append_right (by omega)] at hu
    obtain rfl : v = u := by simpa using hu
    rw [List.getD_eq_getElem?_getD, List.getElem?_append_right (by rw [h.1]; omega), h.1]
    simpa using rep_row RO hO hv o hg
end
/-- a new slice of numbers -/
def RepI (w : World) (v : Value) (y : List Int) : Prop := ∃ g c cs, v = .slice (some ⟨g, 0, none⟩) y.length c ∧ Blk w g 2 cs ∧ ∀ j, j < y.length → cs[j]? = some (.int .i64 (y.getD j 0))
theorem RepI.rd {w : World} {A : Option Addr} {n c : Nat} {y : List Int} (h : RepI w (.slice A n c) y) : n = y.length ∧ Rd w w.heap.size A n 1 intE y := by
  obtain ⟨g, c', cs, e, hB, hc⟩ := h
  injection e with e1 e2 e3
  subst e1 e2 e3
  refine ⟨rfl, rfl, fun _ => ⟨g, 0, rfl, hB.lt, fun k x hx j v hv => ?_⟩⟩
  have hk : k < y.length := (List.getElem?_eq_some_iff.1 hx).1
  match j with
  | 0 =>
    obtain rfl : v = .int .i64 x := by simpa [intE] using hv.symm
    have := hc k hk
    rw [List.getD_eq_getElem?_getD, hx] at this
    rw [hB.cell]
    simpa using this
  | j + 1 => simp [intE] at hv
theorem RepI.of_own {w : World} {base c : Nat} {A : Option Addr} {y : List Int} (hy : 0 < y.length) (h : w.ownsRow base 2 1 (.slice A y.length c) y.length (y.flatMap intE)) : RepI w (.slice A y.length c) y := by
  rcases h.2 with ⟨_, h0⟩ | ⟨g, cap, cur, hv, _, hh, _⟩
  · omega
  · injection hv with e1 _ e3
    subst e1 e3
    refine ⟨g, _, cur, rfl, hh, fun j hj => ?_⟩
    have h1 := h.cellAt j (by omega)
    have hB : Blk w g 2 cur := hh
    rw [hB.cell j] at h1
    rw [h1]
    have hx : y[j]? = some (y[j]'hj) := List.getElem?_eq_getElem _
    have h2 := flat_at (enc := intE) (sz := 1) y (fun _ _ => rfl) j _ hx 0 (by omega)
    rw [Nat.mul_one, Nat.add_zero] at h2
    rw [h2, List.getD_eq_getElem?_getD, hx]; rfl
theorem repI_ok {E : TypeId} (hE : E ≠ 2) : RepOk E RepI := by
  refine ⟨fun {w w' v y} h hb => ?_, fun {w w' v y g cs} h hB hg => ?_, fun {w v y} h => ?_⟩
  · obtain ⟨g, c, cs, e, hB, hc⟩ := h
    exact ⟨g, c, cs, e, hB.next hb, hc⟩
  · obtain ⟨g', c, cs', e, hB', hc⟩ := h
    refine ⟨g', c, cs', e, hB'.grown hg (fun e => ?_), hc⟩
    injection e with e
    subst e
    unfold Blk at hB hB'
    rw [hB] at hB'
    injection hB' with q
    injection q with _ q
    exact hE q
  · obtain ⟨g, c, cs, e, _⟩ := h
    exact ⟨_, _, _, e⟩
end Go.Proofs.Ytkknhpailohjcaa
