/-
  Heights behind the first letters: the model.
-/
import Derived.Test.YtlokofafojepdaaClimbO
import Derived.Test.YtlokofafojepdaaRankS
namespace Go.Proofs.Ytlokofafojepdaa
open Go.RowKit

def clV (ws : List Int) (rs : List Fac) (k : Nat) : Int := ((clim ws rs).getD k Cl.nil).t
theorem clim_cnt (ws : List Int) {rs : List Fac} (hwf : WF rs) : ∀ k, k < rs.length → clV ws rs k = ws.getD 0 0 * rkV rs 0 k + ws.getD 1 0 * rkV rs 1 k + ws.getD 2 0 * rkV rs 2 k + ws.getD 3 0 * rkV rs 3 k := by
  intro k
  induction k using Nat.strongRecOn with
  | ind k ih =>
    intro hk
    have hx : rs[k]? = some (rs[k]'hk) := List.getElem?_eq_getElem _
    generalize rs[k]'hk = x at *
    rcases hwf k x hx with ⟨h0, ha0, ha1, hb0, hb1⟩ | ⟨c, hc, hl, _⟩
    · have e1 : (clim ws rs).getD k Cl.nil = climG ((clim ws rs).getD x.a.toNat Cl.nil) ((clim ws rs).getD x.b.toNat Cl.nil) x := full_pair Cl.nil (climF ws) climG hwf hx h0
      have e2 : (cnts rs).getD k Q4.nil = cntG ((cnts rs).getD x.a.toNat Q4.nil) ((cnts rs).getD x.b.toNat Q4.nil) x := full_pair Q4.nil cntF cntG hwf hx h0
      have i1 := ih x.a.toNat (by omega) (by omega)
      have i2 := ih x.b.toNat (by omega) (by omega)
      unfold clV rkV at *
      rw [e1, e2, cntG_at, cntG_at, cntG_at, cntG_at]
      show ((clim ws rs).getD x.a.toNat Cl.nil).t + ((clim ws rs).getD x.b.toNat Cl.nil).t = _
      rw [i1, i2]
      simp only [Int.mul_add]
      omega
    · have h0 : x.l.size ≠ 0 := by rw [hl]; show (1 : Nat) ≠ 0; omega
      have e1 := full_let Cl.nil (climF ws) climG hx h0
      have e2 := full_let Q4.nil cntF cntG hx h0
      unfold clV rkV
      show ((full Cl.nil (climF ws) climG rs).getD k Cl.nil).t = ws.getD 0 0 * ((full Q4.nil cntF cntG rs).getD k Q4.nil).at_ 0 + ws.getD 1 0 * ((full Q4.nil cntF cntG rs).getD k Q4.nil).at_ 1 + ws.getD 2 0 * ((full Q4.nil cntF cntG rs).getD k Q4.nil).at_ 2 + ws.getD 3 0 * ((full Q4.nil cntF cntG rs).getD k Q4.nil).at_ 3
      have hl4 : letN x.l < 4 := letN_lt (by rw [hl]; exact hc)
      rw [e1, e2, cntF_at _ (by omega), cntF_at _ (by omega), cntF_at _ (by omega), cntF_at _ (by omega)]
      show ws.getD (letN x.l) 0 = _
      rcases (show letN x.l = 0 ∨ letN x.l = 1 ∨ letN x.l = 2 ∨ letN x.l = 3 by omega) with h | h | h | h <;> rw [h] <;> simp
theorem rk_lin {ls : List Int} {rs : List Fac} (hls : gLens rs [] = some ls) (v v0 v1 v2 v3 : Nat → Int) (a0 a1 a2 a3 : Int) (h : ∀ k, k < rs.length → v k = a0 * v0 k + a1 * v1 k + a2 * v2 k + a3 * v3 k) : ∀ (f r : Nat) (m : Int), r < rs.length →
    rk v ls rs f r m = a0 * rk v0 ls rs f r m + a1 * rk v1 ls rs f r m + a2 * rk v2 ls rs f r m + a3 * rk v3 ls rs f r m
  | 0, _, _, _ => by simp [rk]
  | f + 1, r, m, hr => by
    simp only [rk]
    by_cases h0 : m ≤ 0
    · simp only [if_pos h0]; simp
    simp only [if_neg h0]
    by_cases h1 : ls.getD r 0 ≤ m
    · simp only [if_pos h1]; exact h r hr
    simp only [if_neg h1]
    have hx : rs[r]? = some (rs[r]'hr) := List.getElem?_eq_getElem _
    simp only [hx]
    generalize rs[r]'hr = x at *
    have hab : x.a.toNat < rs.length ∧ x.b.toNat < rs.length := by
      rcases wf_of hls r x hx with ⟨_, h4, h5, h6, h7⟩ | ⟨_, _, _, h5, h6⟩
      · omega
      · rw [h5, h6]; show 0 < _ ∧ 0 < _; omega
    rw [rk_lin hls v v0 v1 v2 v3 a0 a1 a2 a3 h f x.a.toNat m hab.1, rk_lin hls v v0 v1 v2 v3 a0 a1 a2 a3 h f x.b.toNat _ hab.2]
    simp only [Int.mul_add]
    omega
theorem rkT_clim (ws : List Int) {ls : List Int} {rs : List Fac} (hls : gLens rs [] = some ls) (m : Int) :
    rkT (clV ws rs) ls rs m = ws.getD 0 0 * rkT (rkV rs 0) ls rs m + ws.getD 1 0 * rkT (rkV rs 1) ls rs m + ws.getD 2 0 * rkT (rkV rs 2) ls rs m + ws.getD 3 0 * rkT (rkV rs 3) ls rs m := by
  unfold rkT
  by_cases h0 : rs.length = 0
  · simp only [if_pos h0]; simp
  simp only [if_neg h0]
  exact rk_lin hls _ _ _ _ _ _ _ _ _ (clim_cnt ws (wf_of hls)) _ _ _ (by omega)
theorem clV_bound {ws : List Int} {rs : List Fac} {ls : List Int} (hls : gLens rs [] = some ls) (hws : WsOk ws) : ∀ k, k < rs.length → -(9 * ls.getD k 0) ≤ clV ws rs k ∧ clV ws rs k ≤ 9 * ls.getD k 0 := fun k hk => by
  obtain ⟨h1, h2, _⟩ := clim_bound hls hws hk
  unfold clV
  exact ⟨h1, h2⟩
def claV (rs : List Fac) (ws : List Int) (m : Int) : Value :=
  if wsC rs ws = 0 then (if inB m 0 (lastI ((gLens rs []).getD [])) = false then tup2 0 2 else tup2 (rkT (clV ws rs) ((gLens rs []).getD []) rs m) 0) else tup2 0 (wsC rs ws)
theorem claV_form (rs : List Fac) (ws : List Int) (m : Int) : ∃ b k, claV rs ws m = .tuple #[.int .i64 b, .int .i64 k] := by
  unfold claV
  split
  · split
    · exact ⟨_, _, rfl⟩
    · exact ⟨_, _, rfl⟩
  · exact ⟨_, _, rfl⟩
theorem claV1 {rs : List Fac} {ws : List Int} {m : Int} (h : wsC rs ws ≠ 0) : claV rs ws m = tup2 0 (wsC rs ws) := by unfold claV; rw [if_neg h]
theorem claV2 {rs : List Fac} {ws ls : List Int} {m : Int} (hls : gLens rs [] = some ls) (h : wsC rs ws = 0) (h3 : inB m 0 (lastI ls) = false) : claV rs ws m = tup2 0 2 := by
  unfold claV; rw [if_pos h, hls, if_pos (show inB m 0 (lastI ((some ls).getD [])) = false from h3)]
theorem claV3 {rs : List Fac} {ws ls : List Int} {m : Int} (hls : gLens rs [] = some ls) (h : wsC rs ws = 0) (h3 : inB m 0 (lastI ls) = true) : claV rs ws m = tup2 (rkT (clV ws rs) ls rs m) 0 := by
  have : ¬ inB m 0 (lastI (Option.getD (some ls) [])) = false := by show ¬ inB m 0 (lastI ls) = false; rw [h3]; decide
  unfold claV; rw [if_pos h, hls, if_neg this]; rfl
end Go.Proofs.Ytlokofafojepdaa
