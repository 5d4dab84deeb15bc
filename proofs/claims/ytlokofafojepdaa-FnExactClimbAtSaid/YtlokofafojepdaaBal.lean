/-
  Is a word balanced: in the program and in the reference.
-/
import Derived.Test.YtlokofafojepdaaClimbT
import Derived.Test.YtlokofafojepdaaMake
import Derived.Test.YtlokofafojepdaaFoldT
namespace Go.Proofs.Ytlokofafojepdaa
open Go.RowKit

def balW (a b : Nat) : List Int := (([0, 0, 0, 0] : List Int).set a 1).set b (-1)
theorem balW_ok (a b : Nat) : WsOk (balW a b) := by
  unfold WsOk balW
  refine ⟨by simp, fun z hz => ?_⟩
  rcases List.mem_or_eq_of_mem_set hz with h | rfl
  · rcases List.mem_or_eq_of_mem_set h with h | rfl
    · simp at h; omega
    · omega
  · omega
theorem balW_arr (a b : Nat) : ((#[Value.int .i64 0, .int .i64 0, .int .i64 0, .int .i64 0] : Array Value).setIfInBounds a (.int .i64 1)).setIfInBounds b (.int .i64 (-1)) = ((balW a b).map (Value.int .i64)).toArray := by
  apply Array.ext'
  simp [balW, List.map_set]
/-- four numbers in a block of their own -/
theorem rd_blk {w : World} {g : Nat} {t : TypeId} {ws : List Int} {n : Nat} (h : Blk w g t (ws.map (Value.int .i64)).toArray) (hn : ws.length = n) : Rd w w.heap.size (some ⟨g, 0, none⟩) n 1 intE ws := by
  refine ⟨hn, fun _ => ⟨g, 0, rfl, h.lt, fun k x hx j v hv => ?_⟩⟩
  have hj : j = 0 := by have := (List.getElem?_eq_some_iff.1 hv).1; simp [intE] at this; exact this
  subst hj
  rw [h.cell]
  obtain rfl : Value.int .i64 x = v := by simpa [intE] using hv
  simp [hx]
def balV (rs : List Fac) (o s : ByteArray) : Value :=
  if (gOk rs).isSome = false then .tuple #[.bool false, .int .i64 1] else if letT o = false then .tuple #[.bool false, .int .i64 1] else if letT s = false then .tuple #[.bool false, .int .i64 1]
  else if o = s then .tuple #[.bool false, .int .i64 2] else .tuple #[.bool (decide ((climT (balW (letN o) (letN s)) rs).l = 0) && decide ((climT (balW (letN o) (letN s)) rs).t = 0)), .int .i64 0]
theorem balV_form (rs : List Fac) (o s : ByteArray) : ∃ b k, balV rs o s = .tuple #[.bool b, .int .i64 k] := by
  unfold balV
  split
  · exact ⟨_, _, rfl⟩
  split
  · exact ⟨_, _, rfl⟩
  split
  · exact ⟨_, _, rfl⟩
  split
  · exact ⟨_, _, rfl⟩
  · exact ⟨_, _, rfl⟩
theorem balV1 {rs : List Fac} {o s : ByteArray} (h : (gOk rs).isSome = false) : balV rs o s = .tuple #[.bool false, .int .i64 1] := by unfold balV; rw [if_pos h]
theorem balV2 {rs : List Fac} {o s : ByteArray} (h : (gOk rs).isSome = true) (h2 : letT o = false) : balV rs o s = .tuple #[.bool false, .int .i64 1] := by unfold balV; rw [if_neg (by rw [h]; decide), if_pos h2]
theorem balV3 {rs : List Fac} {o s : ByteArray} (h : (gOk rs).isSome = true) (h2 : letT o = true) (h3 : letT s = false) : balV rs o s = .tuple #[.bool false, .int .i64 1] := by unfold balV; rw [if_neg (by rw [h]; decide), if_neg (by rw [h2]; decide), if_pos h3]
theorem balV4 {rs : List Fac} {o : ByteArray} (h : (gOk rs).isSome = true) (h2 : letT o = true) : balV rs o o = .tuple #[.bool false, .int .i64 2] := by unfold balV; rw [if_neg (by rw [h]; decide), if_neg (by rw [h2]; decide), if_neg (by rw [h2]; decide), if_pos rfl]
theorem balV5 {rs : List Fac} {o s : ByteArray} (h : (gOk rs).isSome = true) (h2 : letT o = true) (h3 : letT s = true) (hne : o ≠ s) : balV rs o s = .tuple #[.bool (decide ((climT (balW (letN o) (letN s)) rs).l = 0) && decide ((climT (balW (letN o) (letN s)) rs).t = 0)), .int .i64 0] := by
  unfold balV; rw [if_neg (by rw [h]; decide), if_neg (by rw [h2]; decide), if_neg (by rw [h3]; decide), if_neg hne]
theorem clim_low (ws : List Int) {rs : List Fac} (hwf : WF rs) : (climT ws rs).l ≤ 0 := by
  unfold climT
  split
  · exact Int.le_refl _
  · refine full_ind Cl.nil (climF ws) climG hwf (fun _ x => x.l ≤ 0) (fun k r _ _ => ?_) (fun k r a b _ _ _ _ _ _ ha _ => ?_) _ (by omega)
    · show min 0 _ ≤ 0
      omega
    · show min a.l _ ≤ 0
      omega

theorem top_climT (ws : List Int) (rs : List Fac) : (foldAll Cl.nil (climF ws) climG Cl.nil rs).getD ((foldAll Cl.nil (climF ws) climG Cl.nil rs).length - 1) Cl.nil = climT ws rs := foldAll_top _ _ _ _ rs
end Go.Proofs.Ytlokofafojepdaa
