/-
  The code of a grammar, a plain word and a modulus.
-/
import Derived.Test.YtkknhpailohjcaaPlace
namespace Go.Proofs.Ytkknhpailohjcaa
open Go.RowKit

def modC (rs : List Fac) (p : ByteArray) (m : Int) : Int := if (gOk rs).isSome = false then 1 else if okW p = false then 1 else if inB m 1 1000000000 = false then 2 else 0
theorem l05Mod_any (gb : Nat) (A : Option Addr) (n c : Nat) (rs : List Fac) (p : ByteArray) (m : Int) (w : World) (hg : gb < w.heap.size) (hc : w.cell? ⟨gb, 0, none⟩ = some (.slice A n c)) (hn : n ≤ 1048576) (hr : Rd w w.heap.size A n 3 Fac.cells rs)
    (hok : ∀ f ∈ rs, f.l.size ≤ maxLen) (hp : p.size ≤ maxLen) : Calls Try.prog 48 #[.pointer (some ⟨gb, 0, none⟩), .string p, .int .i64 m] w (Ret (.int .i64 (modC rs p m)) w) := by
  have HR := Lib.hid hr; clear hr
  have HO := Lib.hid hok; clear hok
  rcases hgk : (gOk rs).isSome with _ | _
  · have Hg := Lib.hid hgk; clear hgk
    have e := Lib.hid (show modC rs p m = 1 by unfold modC; rw [if_pos Hg.out])
    go_enter Try.func48, Try.ntmps48
    go_wp2_with fail
    refine (l02Ok_any gb A n c rs _ hg hc (by omega) HR.out HO.out false Hg.out).mono ?_
    rintro e1 w1 ⟨rfl, hb1⟩
    go_wp2_with fail
    go_ret
    exact ⟨ret_int e.out.symm, hb1⟩
  have Hg := Lib.hid hgk; clear hgk
  rcases h2 : okW p with _ | _
  · have H2 := Lib.hid h2; clear h2
    have e := Lib.hid (show modC rs p m = 1 by unfold modC; rw [if_neg (by rw [Hg.out]; decide), if_pos H2.out])
    go_enter Try.func48, Try.ntmps48
    go_wp2_with fail
    refine (l02Ok_any gb A n c rs _ hg hc (by omega) HR.out HO.out true Hg.out).mono ?_
    rintro e1 w1 ⟨rfl, hb1⟩
    go_wp2_with fail
    refine (specOk_any p false _ hp H2.out).mono ?_
    rintro e1 w2 ⟨rfl, hb2⟩
    go_wp2_with fail
    go_ret
    exact ⟨ret_int e.out.symm, hb1.trans (hb2.mono hb1.size)⟩
  have H2 := Lib.hid h2; clear h2
  rcases h3 : inB m 1 1000000000 with _ | _
  all_goals
    have H3 := Lib.hid h3; clear h3
    have e := Lib.hid (show modC rs p m = if inB m 1 1000000000 = false then 2 else 0 by unfold modC; rw [if_neg (by rw [Hg.out]; decide), if_neg (by rw [H2.out]; decide)])
    rw [H3.out] at e
    go_enter Try.func48, Try.ntmps48
    go_wp2_with fail
    refine (l02Ok_any gb A n c rs _ hg hc (by omega) HR.out HO.out true Hg.out).mono ?_
    rintro e1 w1 ⟨rfl, hb1⟩
    go_wp2_with fail
    refine (specOk_any p true _ hp H2.out).mono ?_
    rintro e1 w2 ⟨rfl, hb2⟩
    go_wp2_with fail
    refine (specIn_any m 1 1000000000 _ _ H3.out).mono ?_
    rintro e1 w3 ⟨rfl, hb3⟩
    go_wp2_with fail
    go_ret
    exact ⟨ret_int e.out.symm, hb1.trans ((hb2.trans (hb3.mono hb2.size)).mono hb1.size)⟩
end Go.Proofs.Ytkknhpailohjcaa
