/-
  The reader of choices: what it hands back lies within bounds.
-/
import Derived.Test.YtjgihaflkajbcaaLet
import Derived.Test.YtjgihaflkajbcaaFrame
import Derived.Laws.BitsLemmas
import Derived.Laws.Bits64
namespace Go.Proofs.Ytjgihaflkajbcaa
open Go.RowKit

def byteE (b : UInt8) : List Value := [.int .u8 (b.toNat : Int)]
def U64 (z : Int) : Prop := 0 ≤ z ∧ z < 18446744073709551616
/-- block g is a reader that has read at most K bytes -/
def Src (w : World) (g K : Nat) : Prop := ∃ (A : Option Addr) (n c k : Nat) (bs : List UInt8) (z : Int), k ≤ K ∧ n ≤ 4096 ∧ U64 z ∧ Blk w g 81 #[.slice A n c, .int .i64 k, .int .u64 z] ∧ Rd w g A n 1 byteE bs
/-- what a draw below m leaves -/
def Draw (w : World) (g K : Nat) (m : Int) (e : Ending) (w' : World) : Prop := ∃ v : Int, e = .returned (.int .i64 v) ∧ 0 ≤ v ∧ v < m ∧ Src w' g K ∧ w.grownBy w' (some g)
theorem Rd.byte {w : World} {B n : Nat} {A : Option Addr} {xs : List UInt8} {k : Nat} (h : Rd w B A n 1 byteE xs) (hk : k < n) :
    ∃ b o x, A = some ⟨b, o, none⟩ ∧ b < B ∧ xs[k]? = some x ∧ w.cell? ⟨b, o + k, none⟩ = some (.int .u8 (x.toNat : Int)) := by
  obtain ⟨b, o, hA, hb, x, hx, hc⟩ := h.at_ hk
  exact ⟨b, o, x, hA, hb, hx, by simpa using hc 0 _ rfl⟩
theorem Src.keep {w w' : World} {g K : Nat} (h : Src w g K) (hb : w'.heap[g]? = w.heap[g]?) (hr : ∀ p : Addr, p.block < g → w'.cell? p = w.cell? p) : Src w' g K := by
  obtain ⟨A, n, c, k, bs, z, h1, h2, h3, h4, h5⟩ := h
  exact ⟨A, n, c, k, bs, z, h1, h2, h3, hb.trans h4, h5.keep hr⟩

theorem wraps_63 (n : Int) (h₀ : 0 ≤ n) (h₁ : n < 2 ^ 63) : IntKind.u64.wrap n = n := by rw [IntKind.wrap_u64]; omega
theorem and_255 (z : Int) (h0 : 0 ≤ z) (h1 : z < 18446744073709551616) : 0 ≤ wrap64 (bits .and .u64 (z / 1099511627776) 255) ∧ wrap64 (bits .and .u64 (z / 1099511627776) 255) < 256 := by
  have h := bits_mask .u64 63 (by decide) wraps_63 8 (by decide) (z / 1099511627776) (by omega) (by omega)
  have e : ((2 : Int) ^ 8 - 1) = 255 := by decide
  have e2 : ((2 : Int) ^ 8) = 256 := by decide
  rw [e, e2] at h
  rw [h, IntWalk.wrap64_in _ (by omega)]
  omega
theorem u64_of (z : Int) : U64 (IntKind.u64.wrap z) := by
  unfold U64; rw [IntKind.wrap_u64]; omega
set_option maxHeartbeats 1000000 in
theorem next_any (g K : Nat) (w : World) (h : Src w g K) (hK : K ≤ 1000000000) :
    Calls Try.prog 62 #[.pointer (some ⟨g, 0, none⟩)] w (Draw w g (K + 1) 256) := by
  obtain ⟨A, n, c, k, bs, z, hk, hn, hz, hB, hr⟩ := h
  have hg := hB.lt
  obtain ⟨c0, c1, c2⟩ := hB.three
  have hup := upc w.heap.size w
  by_cases hlt : k < n
  · obtain ⟨b, o, x, rfl, hb, gx, cx⟩ := hr.byte hlt
    have hxx : (x.toNat : Int) < 256 := by have := x.toNat_lt; omega
    have i1 : (0 : Int) ≤ k := by omega
    have i2 : (k : Int) < n := by omega
    have i3 : (k : Int) + 1 ≤ n := by omega
    go_enter Try.func62, Try.ntmps62
    go_wp2_with fail
    refine wp_region_up w.heap.size (by kernel_rfl) (by kernel_rfl) ?_
    repeat (go_big_quiet_step (fail))
    refine wpQuiet_nil ?_
    intro w2 hup_w2
    have hb2 := up_of hup_w2
    have hB2 := hB.next hb2
    have hg2 := hB2.lt
    have hbb2 : b < w2.heap.size := by omega
    obtain ⟨d0, d1, d2⟩ := hB2.three
    have hu2 := upc w2.heap.size w2
    have cx2 := (hb2.cell (p := ⟨b, o + k, none⟩) (by show b < _; omega)).trans cx
    go_wp2_with fail
    refine wp_region_up w2.heap.size (by kernel_rfl) (by kernel_rfl) ?_
    repeat (go_big_quiet_step (fail))
    refine wpQuiet_nil ?_
    intro w3 hup_w3
    have hb3 := up_of hup_w3
    have hB3 := hB2.next hb3
    have hg3 := hB3.lt
    obtain ⟨e0, e1, e2⟩ := hB3.three
    have f3 := hB3.frozen
    go_wp2_with fail
    refine named fun w4 H4 => ?_
    obtain ⟨z', hz', hB4⟩ : ∃ z', U64 z' ∧ Blk w4 g 81 #[.slice (some ⟨b, o, none⟩) n c, .int .i64 ((k + 1 : Nat) : Int), .int .u64 z'] := by
      rw [H4.out]; exact ⟨_, u64_of _, (hB3.set_ 1 _).set_ 2 _⟩
    have hg4 := hB4.lt
    obtain ⟨x0, x1, x2⟩ := hB4.three
    have hu4 := upc w4.heap.size w4
    have hz0 := hz'.1; have hz1 := hz'.2
    clear hu2 hup
    refine wp_region_up w4.heap.size (by kernel_rfl) (by kernel_rfl) ?_
    repeat (go_big_quiet_step (fail))
    refine wpQuiet_nil ?_
    intro w5 hup_w5
    have hb5 := up_of hup_w5
    go_wp2_with fail
    go_ret
    refine ⟨_, rfl, by omega, hxx, ⟨_, n, c, k + 1, bs, z', by omega, hn, hz', hB4.next hb5, ?_⟩, ?_⟩
    · have g4 : w3.grownBy w4 (some g) := by rw [H4.out]; exact gb_setCell (gb_set _ _ _ _) _ _
      exact ((((hr.keep fun p hp => hb2.cell (by omega)).keep fun p hp => hb3.cell (by omega)).grown (by omega) g4 (fun k e => by injection e; omega)).keep fun p hp => hb5.cell (by omega))
    · have g4 : w3.grownBy w4 (some g) := by rw [H4.out]; exact gb_setCell (gb_set _ _ _ _) _ _
      exact gb_next (gb_trans (gb_next (gb_below hb2) hb3) g4) hb5
  · have i2 : (n : Int) ≤ k := by omega
    go_enter Try.func62, Try.ntmps62
    go_wp2_with fail
    refine wp_region_up w.heap.size (by kernel_rfl) (by kernel_rfl) ?_
    repeat (go_big_quiet_step (fail))
    refine wpQuiet_nil ?_
    intro w3 hup_w3
    have hb3 := up_of hup_w3
    have hB3 := hB.next hb3
    have hg3 := hB3.lt
    obtain ⟨e0, e1, e2⟩ := hB3.three
    have f3 := hB3.frozen
    go_wp2_with fail
    refine named fun w4 H4 => ?_
    obtain ⟨z', hz', hB4⟩ : ∃ z', U64 z' ∧ Blk w4 g 81 #[.slice A n c, .int .i64 ((k + 1 : Nat) : Int), .int .u64 z'] := by
      rw [H4.out]; exact ⟨_, u64_of _, (hB3.set_ 1 _).set_ 2 _⟩
    have hg4 := hB4.lt
    obtain ⟨x0, x1, x2⟩ := hB4.three
    have hu4 := upc w4.heap.size w4
    have hz0 := hz'.1; have hz1 := hz'.2
    clear hup
    refine wp_region_up w4.heap.size (by kernel_rfl) (by kernel_rfl) ?_
    repeat (go_big_quiet_step (fail))
    refine wpQuiet_nil ?_
    intro w5 hup_w5
    have hb5 := up_of hup_w5
    have hB5 := hB4.next hb5
    obtain ⟨y0, y1, y2⟩ := hB5.three
    go_wp2_with fail
    go_ret
    have hand := and_255 z' hz0 hz1
    have g4 : w3.grownBy w4 (some g) := by rw [H4.out]; exact gb_setCell (gb_set _ _ _ _) _ _
    exact ⟨_, rfl, hand.1, hand.2, ⟨_, n, c, k + 1, bs, z', by omega, hn, hz', hB5,
      (((hr.keep fun p hp => hb3.cell (by omega)).grown (by omega) g4 (fun k e => by injection e; omega)).keep fun p hp => hb5.cell (by omega))⟩, gb_next (gb_trans (gb_below hb3) g4) hb5⟩
theorem Src.mono {w : World} {g K K' : Nat} (h : Src w g K) (hK : K ≤ K') : Src w g K' := by
  obtain ⟨A, n, c, k, bs, z, h1, h2⟩ := h
  exact ⟨A, n, c, k, bs, z, by omega, h2⟩
theorem Src.next {w w' : World} {g K : Nat} (h : Src w g K) (hb : Below w.heap.size w w') : Src w' g K := by
  obtain ⟨A, n, c, k, bs, z, h1, h2, h3, h4, h5⟩ := h
  have := h4.lt
  exact ⟨A, n, c, k, bs, z, h1, h2, h3, h4.next hb, h5.keep fun p hp => hb.cell (by omega)⟩
theorem Src.lt {w : World} {g K : Nat} (h : Src w g K) : g < w.heap.size := by
  obtain ⟨A, n, c, k, bs, z, h1, h2, h3, h4, h5⟩ := h
  exact h4.lt
/-- a write to another block that lies behind -/
theorem Src.grown {w w' : World} {g K : Nat} {r : Option Nat} (h : Src w g K) (hg : w.grownBy w' r) (hr : ∀ k, r = some k → g < k) : Src w' g K := by
  obtain ⟨A, n, c, k, bs, z, h1, h2, h3, h4, h5⟩ := h
  have := h4.lt
  exact ⟨A, n, c, k, bs, z, h1, h2, h3, h4.grown hg (fun e => by have := hr _ e.symm; omega), h5.grown (by omega) hg (fun k e => by have := hr _ e; omega)⟩

set_option maxHeartbeats 400000 in
theorem pick_any (g K : Nat) (n m : Int) (w : World) (h : Src w g K) (hK : K ≤ 100000000) (hn : n ≤ m) (hm : 1 ≤ m) :
    Calls Try.prog 53 #[.pointer (some ⟨g, 0, none⟩), .int .i64 n] w (Draw w g (K + 2) m) := by
  by_cases h1 : n ≤ 1
  · go_enter Try.func53, Try.ntmps53
    go_wp2_with fail
    go_ret
    exact ⟨0, rfl, by omega, by omega, h.mono (by omega), World.grownBy.refl _ _⟩
  by_cases h2 : n ≤ 200
  · go_enter Try.func53, Try.ntmps53
    go_wp2_with fail
    refine (next_any g K _ h (by omega)).mono ?_
    rintro e w1 ⟨v, rfl, v0, v1, s1, g1⟩
    go_wp2_with fail
    go_ret
    exact ⟨_, rfl, Int.emod_nonneg _ (by omega), by have := Int.emod_lt_of_pos v (show 0 < n by omega); omega, s1.mono (by omega), g1⟩
  · go_enter Try.func53, Try.ntmps53
    go_wp2_with fail
    refine (next_any g K _ h (by omega)).mono ?_
    rintro e w1 ⟨v, rfl, v0, v1, s1, g1⟩
    go_wp2_with fail
    refine (next_any g (K + 1) _ s1 (by omega)).mono ?_
    rintro e w2 ⟨v', rfl, v0', v1', s2, g2⟩
    go_wp2_with fail
    go_ret
    exact ⟨_, rfl, Int.emod_nonneg _ (by omega), by have := Int.emod_lt_of_pos (v * 256 + v') (show 0 < n by omega); omega, s2, gb_trans g1 g2⟩
def DrawB (w : World) (g K : Nat) (e : Ending) (w' : World) : Prop := ∃ b : Bool, e = .returned (.bool b) ∧ Src w' g K ∧ w.grownBy w' (some g)
theorem one_any (g K : Nat) (n : Int) (w : World) (h : Src w g K) (hK : K ≤ 100000000) (hn : n ≤ 1000) :
    Calls Try.prog 54 #[.pointer (some ⟨g, 0, none⟩), .int .i64 n] w (DrawB w g (K + 2)) := by
  go_enter Try.func54, Try.ntmps54
  go_wp2_with fail
  refine (pick_any g K n 1000 _ h hK hn (by omega)).mono ?_
  rintro e w1 ⟨v, rfl, v0, v1, s1, g1⟩
  go_wp2_with fail
  go_ret
  exact ⟨_, rfl, s1, g1⟩
end Go.Proofs.Ytjgihaflkajbcaa
