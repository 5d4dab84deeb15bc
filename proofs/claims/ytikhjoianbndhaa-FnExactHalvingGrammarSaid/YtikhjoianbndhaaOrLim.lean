/-
  A grammar, if it is valid: in the program and in the reference.
-/
import Derived.Test.YtikhjoianbndhaaTrim
namespace Go.Proofs.Ytikhjoianbndhaa
open Go.RowKit

/-- a grammar if it is valid, or the word that there is too much -/
def orLim (A : Option Addr) (n c : Nat) (b : Bool) : Value := bif b then .tuple #[.agg #[.slice A n c], .int .i64 0] else .tuple #[.agg #[.slice none 0 0], .int .i64 3]
def limF (rs : List Fac) : List Fac := if (gOk rs).isSome then rs else []
def limC (rs : List Fac) : Int := if (gOk rs).isSome then 0 else 3
theorem orLim_ret {w0 w w' : World} {A : Option Addr} {n c : Nat} {rs : List Fac} (hl : rs.length = n) (ho : w.ownsRow w0.heap.size 44 3 (.slice A n c) n (rs.flatMap Fac.cells)) (h0 : Below w0.heap.size w0 w) (hb : Below w.heap.size w w') :
    RetGC w0 (limF rs) (limC rs) (.returned (orLim A n c (gOk rs).isSome)) w' := by
  have h1 := h0.trans (hb.mono h0.size)
  unfold limF limC orLim
  rcases (gOk rs).isSome with _ | _
  · exact ⟨none, 0, rfl, World.ownsRow_nil _ _ _ _, h1⟩
  · exact ⟨A, c, by simp [hl], by simpa [hl] using own_next ho hb, h1⟩
theorem tuple2_ret {a b : Value} (h : a = b) : Ending.returned a = .returned b := by rw [h]
set_option maxHeartbeats 1000000 in
theorem orLimit_any (A : Option Addr) (n c : Nat) (rs : List Fac) (w : World) (hn : n ≤ 100000000) (hr : Rd w w.heap.size A n 3 Fac.cells rs) (hok : ∀ f ∈ rs, f.l.size ≤ maxLen) :
    Calls Try.prog 41 #[.agg #[.slice A n c]] w (Ret (orLim A n c (gOk rs).isSome) w) := by
  have HR := Lib.hid hr; clear hr
  have HO := Lib.hid hok; clear hok
  obtain ⟨b, hb⟩ : ∃ b, (gOk rs).isSome = b := ⟨_, rfl⟩
  rw [hb]
  have Hb := Lib.hid hb; clear hb
  have hT := Lib.hid (show orLim A n c b = bif b then .tuple #[.agg #[.slice A n c], .int .i64 0] else .tuple #[.agg #[.slice none 0 0], .int .i64 3] from rfl)
  generalize orLim A n c b = T at *
  go_enter Try.func41, Try.ntmps41
  go_wp2_with fail
  refine namedC fun w3 H3 => ?_
  have hb3 : Below w.heap.size w w3 := by rw [H3.out]; (repeat first | exact Below.refl _ _ | assumption | refine Below.drew ?_ | refine Below.alloc ?_ (by first | exact Nat.le_refl _ | (simp; done) | omega | (simp; omega)) _ | refine Below.setCell ?_ (by first | exact Nat.le_refl _ | (simp; done) | omega | (simp; omega)) _)
  have BG := Lib.hid (show Blk w3 w.heap.size 24 #[.slice A n c] by rw [H3.out]; exact (Blk.new _ _ _).alloc _)
  have BC := Lib.hid (show Blk w3 (w.heap.size + 1) 24 #[.slice none 0 0] by rw [H3.out]; simpa using Blk.new (w.alloc (.cells #[.slice A n c] 24)) 24 #[.slice none 0 0])
  clear H3
  refine (validG_any A n c rs w3 hn (HR.out.next hb3) HO.out b Hb.out).mono ?_
  rintro e1 w4 ⟨rfl, hb4⟩
  have b4 := hb3.trans (hb4.mono hb3.size)
  have BC4 := BC.out.next hb4
  have BG4 := BG.out.next hb4
  have d4 := BC4.cell 0
  have f4 := BC4.frozen
  have l4 := BC4.lt
  have g4 := BG4.cell 0
  cases b
  · have B5 := BC4.set_ 0 (.slice none 0 0)
    have x5 : (w4.setCell ⟨w.heap.size + 1, 0, none⟩ (.slice none 0 0)).cell? ⟨w.heap.size + 1, 0, none⟩ = some (.slice none 0 0) := by rw [B5.cell 0]; rfl
    have b5 := b4.setCell (p := ⟨w.heap.size + 1, 0, none⟩) (by simp) (.slice none 0 0)
    clear B5 BC4 BG4
    go_wp2_with fail
    exact bodyPost_ret (v := .tuple #[.agg #[.slice none 0 0], .int .i64 3]) (by simp [results, Try.results41, go_sem, x5]) rfl ⟨by rw [hT.out]; rfl, b5⟩
  · have B5 := BC4.set_ 0 (.slice A n c)
    have x5 : (w4.setCell ⟨w.heap.size + 1, 0, none⟩ (.slice A n c)).cell? ⟨w.heap.size + 1, 0, none⟩ = some (.slice A n c) := by rw [B5.cell 0]; rfl
    have b5 := b4.setCell (p := ⟨w.heap.size + 1, 0, none⟩) (by simp) (.slice A n c)
    clear B5 BC4 BG4
    go_wp2_with fail
    exact bodyPost_ret (v := .tuple #[.agg #[.slice A n c], .int .i64 0]) (by simp [results, Try.results41, go_sem, x5]) rfl ⟨by rw [hT.out]; rfl, b5⟩
theorem orLimit_yes (A : Option Addr) (n c : Nat) (rs : List Fac) (w : World) (hn : n ≤ 100000000) (hr : Rd w w.heap.size A n 3 Fac.cells rs) (hok : ∀ f ∈ rs, f.l.size ≤ maxLen) (h : (gOk rs).isSome = true) :
    Calls Try.prog 41 #[.agg #[.slice A n c]] w (Ret (.tuple #[.agg #[.slice A n c], .int .i64 0]) w) := by
  have := orLimit_any A n c rs w hn hr hok
  rw [h] at this; exact this
theorem orLimit_no (A : Option Addr) (n c : Nat) (rs : List Fac) (w : World) (hn : n ≤ 100000000) (hr : Rd w w.heap.size A n 3 Fac.cells rs) (hok : ∀ f ∈ rs, f.l.size ≤ maxLen) (h : (gOk rs).isSome = false) :
    Calls Try.prog 41 #[.agg #[.slice A n c]] w (Ret (.tuple #[.agg #[.slice none 0 0], .int .i64 3]) w) := by
  have := orLimit_any A n c rs w hn hr hok
  rw [h] at this; exact this
end Go.Proofs.Ytikhjoianbndhaa
