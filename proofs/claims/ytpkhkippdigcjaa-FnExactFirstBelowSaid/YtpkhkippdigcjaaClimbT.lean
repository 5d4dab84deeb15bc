/-
  The climb of a word: in the reference.
-/
import Derived.Test.YtpkhkippdigcjaaClimbS
import Derived.Deep.RegionWith
namespace Go.Proofs.Ytpkhkippdigcjaa
open Go.RowKit

/-- the climb of the last rule -/
def climT (ws : List Int) (rs : List Fac) : Cl := if rs.length = 0 then Cl.nil else (clim ws rs).getD (rs.length - 1) Cl.nil
set_option maxHeartbeats 1000000 in
set_option maxRecDepth 100000 in
theorem l05Climb_any (gb : Nat) (A : Option Addr) (n c : Nat) (rs : List Fac) (D : Option Addr) (d : Nat) (ws : List Int) (ls : List Int) (w : World) (hg : gb < w.heap.size) (hc : w.cell? ⟨gb, 0, none⟩ = some (.slice A n c)) (hn : n ≤ 1048576) (hr : Rd w w.heap.size A n 3 Fac.cells rs)
    (hls : gLens rs [] = some ls) (hws : WsOk ws) (hd : Rd w w.heap.size D 4 1 intE ws) :
    Calls Try.prog 47 #[.pointer (some ⟨gb, 0, none⟩), .slice D 4 d] w (Ret (Cl.v (climT ws rs)) w) := by
  have hl := Lib.hid hr.len
  have HR := Lib.hid hr; clear hr
  have HD := Lib.hid hd; clear hd
  by_cases h0 : n = 0
  · have e := Lib.hid (show climT ws rs = Cl.nil by unfold climT; rw [if_pos (by rw [hl.out]; exact h0)])
    have e0 : ((n : Int) == 0) = true := by simp [h0]
    clear h0
    go_enter Try.func47, Try.ntmps47
    go_wp2_with fail
    rw [e.out]
    refine bodyPost_ret (v := Cl.v Cl.nil) (by simp [results, Try.results47, go_sem, Cl.nil]) rfl ⟨rfl, by (repeat first | exact Below.refl _ _ | assumption | refine Below.drew ?_ | refine Below.alloc ?_ (by first | exact Nat.le_refl _ | (simp; done) | omega | (simp; omega)) _ | refine Below.setCell ?_ (by first | exact Nat.le_refl _ | (simp; done) | omega | (simp; omega)) _)⟩
  · have e0 : ((n : Int) == 0) = false := by simp [h0]
    have hlen := Lib.hid (full_len Cl.nil (climF ws) climG (rs := rs))
    have e := Lib.hid (show climT ws rs = (clim ws rs).getD (n - 1) Cl.nil by unfold climT; rw [if_neg (by rw [hl.out]; exact h0), hl.out])
    have h1 : 0 < n := by omega
    have h1' : (0 : Int) ≤ (n : Int) - 1 := by omega
    clear h0
    go_enter Try.func47, Try.ntmps47
    go_wp2_with fail
    refine named fun w3 H3 => ?_
    have hb3 : Below w.heap.size w w3 := by rw [H3.out]; (repeat first | exact Below.refl _ _ | assumption | refine Below.drew ?_ | refine Below.alloc ?_ (by first | exact Nat.le_refl _ | (simp; done) | omega | (simp; omega)) _ | refine Below.setCell ?_ (by first | exact Nat.le_refl _ | (simp; done) | omega | (simp; omega)) _)
    have B3 : Blk w3 w.heap.size 43 #[.int .i64 0, .int .i64 0, .int .i64 0] := by rw [H3.out]; exact Blk.new _ _ _
    have cg3 := (hb3.cell (p := ⟨gb, 0, none⟩) hg).trans hc
    have lg3 : gb < w3.heap.size := by have := hb3.size; omega
    have B3' := Lib.hid B3; clear B3 H3
    have HR3 := Lib.hid (show Rd w3.drew w3.drew.heap.size A n 3 Fac.cells rs from HR.out.next hb3.drew)
    have HD3 := Lib.hid (show Rd w3.drew w3.drew.heap.size D 4 1 intE ws from HD.out.next hb3.drew)
    have hn1 : n - 1 < n := by omega
    have hq1 : (n : Int) - 1 < n := by omega
    have hq2 : ((n : Int) - 1).toNat = n - 1 := by omega
    have hq3 : IntKind.i64.wrap ((n : Int) - 1) = (n : Int) - 1 := IntWalk.i64_in _ (by omega)
    go_region_with
      (go_at_call 71
       refine (l05Climbs_any gb A n c rs D d ws ls w3.drew lg3 cg3 hn HR3.out hls hws HD3.out).mono ?_
       rintro e2 w4 ⟨A4, c4, rfl, own4, hb4⟩
       have hb4' : Below w3.heap.size w3 w4 := (Below.refl _ _).drew.trans hb4
       rw [hlen.out, hl.out] at own4
       rw [hlen.out, hl.out]
       obtain ⟨g, cap, hv, hg0, hg1⟩ := own4.form h1
       obtain rfl : A4 = some ⟨g, 0, none⟩ := by injection hv
       have v0 : w4.cell? ⟨g, (n - 1) * 3, none⟩ = some (.int .i64 (climT ws rs).t) := by rw [e.out]; simpa [encCl] using own_at (enc := encCl) (sz := 3) (fun y _ => lenCl y) own4 (hlen.out.trans hl.out) Cl.nil (n - 1) hn1 0 (by decide)
       have v1 : w4.cell? ⟨g, (n - 1) * 3 + 1, none⟩ = some (.int .i64 (climT ws rs).l) := by rw [e.out]; simpa [encCl] using own_at (enc := encCl) (sz := 3) (fun y _ => lenCl y) own4 (hlen.out.trans hl.out) Cl.nil (n - 1) hn1 1 (by decide)
       have v2 : w4.cell? ⟨g, (n - 1) * 3 + 2, none⟩ = some (.int .i64 (climT ws rs).h) := by rw [e.out]; simpa [encCl] using own_at (enc := encCl) (sz := 3) (fun y _ => lenCl y) own4 (hlen.out.trans hl.out) Cl.nil (n - 1) hn1 2 (by decide)
       have B4 := B3'.out.next hb4'
       obtain ⟨q0, q1, q2⟩ := B4.three
       have f4 := B4.frozen
       have l4 := B4.lt
       have cg4 := (hb4'.cell (p := ⟨gb, 0, none⟩) lg3).trans cg3
       have Hb4 := Lib.hid hb4'
       clear own4 hv B4 hb4 hb4')
    all_goals
      clear hq2 hq3
      go_wp2_with fail
      have hb34 := hb3.trans (Hb4.out.mono hb3.size)
      refine bodyPost_ret (v := Cl.v (climT ws rs)) (by simp [results, Try.results47, go_sem, q0, q1, q2]) rfl ⟨rfl, ?_⟩
      exact ((hb34.setCell (Nat.le_refl _) _).setCell (Nat.le_refl _) _).setCell (Nat.le_refl _) _
end Go.Proofs.Ytpkhkippdigcjaa
