/-
  Texts of this claim, merged: FlM Src Drawn WdT WdW RunS P6Word Lett2 PlainM TrimM MapM TrimV RuleP RuleK.
-/
import Derived.Test.YtfanphhlagjkdaaP2
import Derived.Laws.BitsLemmas
import Derived.Laws.Bits64
import Derived.Deep.RegionLaw
import Derived.Maps.OwnOps


/-
  Letters, pairs of letters and runs of a word: what the law counts.
-/
namespace Go.Proofs.Ytfanphhlagjkdaa

theorem runsL_let (u : List Nat) (h : ∀ x ∈ u, x < 4) : ∀ r ∈ runsL u, r.1 < 4 := by
  revert h
  refine snoc_ind (P := fun u => (∀ x ∈ u, x < 4) → ∀ r ∈ runsL u, r.1 < 4) ?_ ?_ u
  · intro _ r hr; simp [runsL] at hr
  · intro u k ih h r hr
    have hk := h k (by simp)
    have hi := ih (fun x hx => h x (by simp [hx]))
    rw [runsL_snoc] at hr
    unfold rStep at hr
    split at hr
    · rename_i q hq
      split at hr
      · rcases List.mem_append.1 hr with h1 | h1
        · exact hi r ((List.dropLast_sublist _).subset h1)
        · simp at h1; subst h1; exact hk
      · rcases List.mem_append.1 hr with h1 | h1
        · exact hi r h1
        · simp at h1; subst h1; exact hk
    · simp at hr; subst hr; exact hk
theorem runsL_le (u : List Nat) : (runsL u).length ≤ u.length := by
  refine snoc_ind (P := fun u => (runsL u).length ≤ u.length) ?_ ?_ u
  · simp [runsL]
  · intro u k ih
    rw [runsL_snoc]
    unfold rStep
    split
    · split
      · simp only [List.length_append, List.length_dropLast, List.length_singleton]; omega
      · simp only [List.length_append, List.length_singleton]; omega
    · simp
def four (f : Nat → Int) : List Int := (List.range 4).map f
theorem four_eq (f : Nat → Int) : four f = [f 0, f 1, f 2, f 3] := rfl
theorem four_len (f : Nat → Int) : (four f).length = 4 := rfl
theorem four_at (f : Nat → Int) {l : Nat} (h : l < 4) : (four f).getD l 0 = f l := by
  unfold four
  rw [List.getD_eq_getElem?_getD, List.getElem?_map, List.getElem?_range h]; rfl
theorem four_set (f g : Nat → Int) {l : Nat} (h : l < 4) (v : Int) (hv : g l = v) (hg : ∀ j, j < 4 → j ≠ l → g j = f j) : (four f).set l v = four g := by
  rw [four_eq, four_eq]
  rcases (show l = 0 ∨ l = 1 ∨ l = 2 ∨ l = 3 by omega) with rfl | rfl | rfl | rfl
  · rw [← hg 1 (by omega) (by omega), ← hg 2 (by omega) (by omega), ← hg 3 (by omega) (by omega), ← hv]; rfl
  · rw [← hg 0 (by omega) (by omega), ← hg 2 (by omega) (by omega), ← hg 3 (by omega) (by omega), ← hv]; rfl
  · rw [← hg 0 (by omega) (by omega), ← hg 1 (by omega) (by omega), ← hg 3 (by omega) (by omega), ← hv]; rfl
  · rw [← hg 0 (by omega) (by omega), ← hg 1 (by omega) (by omega), ← hg 2 (by omega) (by omega), ← hv]; rfl
theorem four_congr {f g : Nat → Int} (h : ∀ j, j < 4 → f j = g j) : four f = four g := by
  rw [four_eq, four_eq, h 0 (by omega), h 1 (by omega), h 2 (by omega), h 3 (by omega)]
/-- the longest runs among the first i ones -/
def dueL (u : List Nat) (i : Nat) : List Int := four fun l => mx l ((runsL u).take i)
theorem dueL_0 (u : List Nat) : dueL u 0 = List.replicate 4 0 := rfl
theorem dueL_step (u : List Nat) {i l : Nat} {c : Int} (h : (runsL u)[i]? = some (l, c)) (hl : l < 4) : (mx l ((runsL u).take i) < c → (dueL u i).set l c = dueL u (i + 1)) ∧ (¬ mx l ((runsL u).take i) < c → dueL u i = dueL u (i + 1)) := by
  have e : (runsL u).take (i + 1) = (runsL u).take i ++ [(l, c)] := by rw [List.take_add_one, h]; rfl
  refine ⟨fun q => ?_, fun q => ?_⟩
  · unfold dueL
    refine four_set _ _ hl c ?_ (fun j _ hj => ?_)
    · rw [e, mx_snoc, if_pos rfl]
      simp only; omega
    · rw [e, mx_snoc, if_neg (fun z => hj z.symm)]
  · unfold dueL
    refine four_congr (fun j _ => ?_)
    rw [e, mx_snoc]
    split
    · rename_i z
      simp only at z ⊢
      subst z; omega
    · rfl
theorem dueL_all {rs : List Fac} (hwf : WF rs) : dueL (wdN rs) (runsL (wdN rs)).length = lrTop rs := by
  rw [lrTop_word hwf]
  unfold dueL
  rw [List.take_length]
  exact four_congr (fun l _ => ((lr_runs l (wdN rs)).1).symm)
theorem adj_le (k l : Nat) : ∀ u : List Nat, 0 ≤ adj k l u ∧ adj k l u ≤ (u.length : Int)
  | [] => ⟨Int.le_refl 0, Int.le_refl 0⟩
  | x :: r => by
    have h := adj_le k l r
    unfold adj
    simp only [List.length_cons]
    split <;> omega
/-- a row of pairs over the first i + 1 letters -/
def rowL (u : List Nat) (k i : Nat) : List Int := four fun l => adj k l (u.take (i + 1))
theorem rowL_0 (u : List Nat) (k : Nat) : rowL u k 0 = List.replicate 4 0 := by
  have e : ∀ l, adj k l (u.take 1) = 0 := fun l => by
    rcases u with _ | ⟨x, t⟩
    · rfl
    · simp [adj]
  unfold rowL
  rw [four_eq, Nat.zero_add, e, e, e, e]; rfl
theorem adj_take (k l : Nat) (u : List Nat) {i : Nat} (hi : i + 1 < u.length) : adj k l (u.take (i + 1 + 1)) = adj k l (u.take (i + 1)) + if u.getD i 0 = k ∧ u.getD (i + 1) 0 = l then 1 else 0 := by
  have e1 : u.take (i + 1 + 1) = u.take (i + 1) ++ [u.getD (i + 1) 0] := by
    rw [List.take_succ_eq_append_getElem hi, List.getD_eq_getElem?_getD, List.getElem?_eq_getElem hi]; rfl
  have e2 : u.take (i + 1) = u.take i ++ [u.getD i 0] := by
    rw [List.take_succ_eq_append_getElem (by omega), List.getD_eq_getElem?_getD, List.getElem?_eq_getElem (by omega)]; rfl
  rw [e1, adj_app k l _ _ (by rw [e2]; simp), e2, List.getLast?_concat]
  simp [adj]
theorem rowL_step (u : List Nat) {k i l : Nat} (hi : i + 1 < u.length) (hl : l < 4) (hx : u.getD (i + 1) 0 = l) : (u.getD i 0 = k → (rowL u k i).set l ((rowL u k i).getD l 0 + 1) = rowL u k (i + 1)) ∧ (¬ u.getD i 0 = k → rowL u k i = rowL u k (i + 1)) := by
  refine ⟨fun q => ?_, fun q => ?_⟩
  · unfold rowL
    rw [four_at _ hl]
    refine four_set _ _ hl _ ?_ (fun j _ hj => ?_)
    · rw [adj_take k l u hi, if_pos ⟨q, hx⟩]
    · rw [adj_take k j u hi, if_neg (fun z => hj (z.2.symm.trans hx)), Int.add_zero]
  · unfold rowL
    exact four_congr (fun j _ => by rw [adj_take k j u hi, if_neg (fun z => q z.1), Int.add_zero])
theorem rowL_all {rs : List Fac} (hwf : WF rs) (hg : (gOk rs).isSome = true) {k : Nat} (hk : k < 4) {i : Nat} (hi : (wdN rs).length ≤ i + 1) : rowL (wdN rs) k i = (pairL rs).getD k [] := by
  unfold rowL
  rw [List.take_of_length_le hi, (pairL2 hg).1, List.getD_eq_getElem?_getD, List.getElem?_map, List.getElem?_eq_getElem (by rw [pcT_len]; exact hk)]
  have h := fun l (hl : l < 4) => pc_word hwf hk hl
  rw [List.getD_eq_getElem?_getD, List.getElem?_eq_getElem (by rw [pcT_len]; exact hk)] at h
  rw [four_eq, ← h 0 (by omega), ← h 1 (by omega), ← h 2 (by omega), ← h 3 (by omega)]
  rfl
end Go.Proofs.Ytfanphhlagjkdaa


/-
  The reader of choices: what it hands back lies within bounds.
-/
namespace Go.Proofs.Ytfanphhlagjkdaa
open Go.RowKit

def byteE (b : UInt8) : List Value := [.int .u8 (b.toNat : Int)]
def U64 (z : Int) : Prop := 0 ≤ z ∧ z < 18446744073709551616
/-- block g is a reader that has read at most K bytes -/
def Src (w : World) (g K : Nat) : Prop := ∃ (A : Option Addr) (n c k : Nat) (bs : List UInt8) (z : Int), k ≤ K ∧ n ≤ 4096 ∧ U64 z ∧ Blk w g 97 #[.slice A n c, .int .i64 k, .int .u64 z] ∧ Rd w g A n 1 byteE bs
/-- what a draw below m leaves -/
def Draw (w : World) (g K : Nat) (m : Int) (e : Ending) (w' : World) : Prop := ∃ v : Int, e = .returned (.int .i64 v) ∧ 0 ≤ v ∧ v < m ∧ Src w' g K ∧ w.grownBy w' (some g)
theorem Rd.byte {w : World} {B n : Nat} {A : Option Addr} {xs : List UInt8} {k : Nat} (h : Rd w B A n 1 byteE xs) (hk : k < n) :
    ∃ b o x, A = some ⟨b, o, none⟩ ∧ b < B ∧ xs[k]? = some x ∧ w.cell? ⟨b, o + k, none⟩ = some (.int .u8 (x.toNat : Int)) := by
  obtain ⟨b, o, hA, hb, x, hx, hc⟩ := h.at_ hk
  exact ⟨b, o, x, hA, hb, hx, by simpa using hc 0 _ rfl⟩
theorem Src.keep {w w' : World} {g K : Nat} (h : Src w g K) (hb : w'.heap[g]? = w.heap[g]?) (hr : ∀ p : Addr, p.block < g → w'.cell? p = w.cell? p) : Src w' g K := by
  obtain ⟨A, n, c, k, bs, z, h1, h2, h3, h4, h5⟩ := h
  exact ⟨A, n, c, k, bs, z, h1, h2, h3, hb.trans h4, h5.keep hr⟩

theorem wraps_63 (n : Int) (h₀ : 0 ≤ n) (h₁ : n < 2 ^ 63) : IntKind.u64.wrap n = n := by rw [IntKind.wrap_u64]; omega
theorem and_255 (z : Int) (h0 : 0 ≤ z) (h1 : z < 18446744073709551616) : 0 ≤ wrap64 (bits .and .u64 (z / 1099511627776) 255) ∧ wrap64 (bits .and .u64 (z / 1099511627776) 255) < 256 := by
  have h := bits_mask .u64 63 (by decide) wraps_63 8 (by decide) (z / 1099511627776) (by omega) (by omega)
  have e : ((2 : Int) ^ 8 - 1) = 255 := by decide
  have e2 : ((2 : Int) ^ 8) = 256 := by decide
  rw [e, e2] at h
  rw [h, IntWalk.wrap64_in _ (by omega)]
  omega
theorem u64_of (z : Int) : U64 (IntKind.u64.wrap z) := by
  unfold U64; rw [IntKind.wrap_u64]; omega
set_option maxHeartbeats 1000000 in
theorem next_any (g K : Nat) (w : World) (h : Src w g K) (hK : K ≤ 1000000000) :
    Calls Try.prog 77 #[.pointer (some ⟨g, 0, none⟩)] w (Draw w g (K + 1) 256) := by
  obtain ⟨A, n, c, k, bs, z, hk, hn, hz, hB, hr⟩ := h
  have hg := hB.lt
  obtain ⟨c0, c1, c2⟩ := hB.three
  have hup := upc w.heap.size w
  by_cases hlt : k < n
  · obtain ⟨b, o, x, rfl, hb, gx, cx⟩ := hr.byte hlt
    have hxx : (x.toNat : Int) < 256 := by have := x.toNat_lt; omega
    have i1 : (0 : Int) ≤ k := by omega
    have i2 : (k : Int) < n := by omega
    have i3 : (k : Int) + 1 ≤ n := by omega
    go_enter Try.func77, Try.ntmps77
    go_wp2_with fail
    refine wp_region_up w.heap.size (by kernel_rfl) (by kernel_rfl) ?_
    repeat (go_big_quiet_step (fail))
    refine wpQuiet_nil ?_
    intro w2 hup_w2
    have hb2 := up_of hup_w2
    have hB2 := hB.next hb2
    have hg2 := hB2.lt
    have hbb2 : b < w2.heap.size := by omega
    obtain ⟨d0, d1, d2⟩ := hB2.three
    have hu2 := upc w2.heap.size w2
    have cx2 := (hb2.cell (p := ⟨b, o + k, none⟩) (by show b < _; omega)).trans cx
    go_wp2_with fail
    refine wp_region_up w2.heap.size (by kernel_rfl) (by kernel_rfl) ?_
    repeat (go_big_quiet_step (fail))
    refine wpQuiet_nil ?_
    intro w3 hup_w3
    have hb3 := up_of hup_w3
    have hB3 := hB2.next hb3
    have hg3 := hB3.lt
    obtain ⟨e0, e1, e2⟩ := hB3.three
    have f3 := hB3.frozen
    go_wp2_with fail
    refine named fun w4 H4 => ?_
    obtain ⟨z', hz', hB4⟩ : ∃ z', U64 z' ∧ Blk w4 g 97 #[.slice (some ⟨b, o, none⟩) n c, .int .i64 ((k + 1 : Nat) : Int), .int .u64 z'] := by
      rw [H4.out]; exact ⟨_, u64_of _, (hB3.set_ 1 _).set_ 2 _⟩
    have hg4 := hB4.lt
    obtain ⟨x0, x1, x2⟩ := hB4.three
    have hu4 := upc w4.heap.size w4
    have hz0 := hz'.1; have hz1 := hz'.2
    clear hu2 hup
    refine wp_region_up w4.heap.size (by kernel_rfl) (by kernel_rfl) ?_
    repeat (go_big_quiet_step (fail))
    refine wpQuiet_nil ?_
    intro w5 hup_w5
    have hb5 := up_of hup_w5
    go_wp2_with fail
    go_ret
    refine ⟨_, rfl, by omega, hxx, ⟨_, n, c, k + 1, bs, z', by omega, hn, hz', hB4.next hb5, ?_⟩, ?_⟩
    · have g4 : w3.grownBy w4 (some g) := by rw [H4.out]; exact gb_setCell (gb_set _ _ _ _) _ _
      exact ((((hr.keep fun p hp => hb2.cell (by omega)).keep fun p hp => hb3.cell (by omega)).grown (by omega) g4 (fun k e => by injection e; omega)).keep fun p hp => hb5.cell (by omega))
    · have g4 : w3.grownBy w4 (some g) := by rw [H4.out]; exact gb_setCell (gb_set _ _ _ _) _ _
      exact gb_next (gb_trans (gb_next (gb_below hb2) hb3) g4) hb5
  · have i2 : (n : Int) ≤ k := by omega
    go_enter Try.func77, Try.ntmps77
    go_wp2_with fail
    refine wp_region_up w.heap.size (by kernel_rfl) (by kernel_rfl) ?_
    repeat (go_big_quiet_step (fail))
    refine wpQuiet_nil ?_
    intro w3 hup_w3
    have hb3 := up_of hup_w3
    have hB3 := hB.next hb3
    have hg3 := hB3.lt
    obtain ⟨e0, e1, e2⟩ := hB3.three
    have f3 := hB3.frozen
    go_wp2_with fail
    refine named fun w4 H4 => ?_
    obtain ⟨z', hz', hB4⟩ : ∃ z', U64 z' ∧ Blk w4 g 97 #[.slice A n c, .int .i64 ((k + 1 : Nat) : Int), .int .u64 z'] := by
      rw [H4.out]; exact ⟨_, u64_of _, (hB3.set_ 1 _).set_ 2 _⟩
    have hg4 := hB4.lt
    obtain ⟨x0, x1, x2⟩ := hB4.three
    have hu4 := upc w4.heap.size w4
    have hz0 := hz'.1; have hz1 := hz'.2
    clear hup
    refine wp_region_up w4.heap.size (by kernel_rfl) (by kernel_rfl) ?_
    repeat (go_big_quiet_step (fail))
    refine wpQuiet_nil ?_
    intro w5 hup_w5
    have hb5 := up_of hup_w5
    have hB5 := hB4.next hb5
    obtain ⟨y0, y1, y2⟩ := hB5.three
    go_wp2_with fail
    go_ret
    have hand := and_255 z' hz0 hz1
    have g4 : w3.grownBy w4 (some g) := by rw [H4.out]; exact gb_setCell (gb_set _ _ _ _) _ _
    exact ⟨_, rfl, hand.1, hand.2, ⟨_, n, c, k + 1, bs, z', by omega, hn, hz', hB5,
      (((hr.keep fun p hp => hb3.cell (by omega)).grown (by omega) g4 (fun k e => by injection e; omega)).keep fun p hp => hb5.cell (by omega))⟩, gb_next (gb_trans (gb_below hb3) g4) hb5⟩
theorem Src.mono {w : World} {g K K' : Nat} (h : Src w g K) (hK : K ≤ K') : Src w g K' := by
  obtain ⟨A, n, c, k, bs, z, h1, h2⟩ := h
  exact ⟨A, n, c, k, bs, z, by omega, h2⟩
theorem Src.next {w w' : World} {g K : Nat} (h : Src w g K) (hb : Below w.heap.size w w') : Src w' g K := by
  obtain ⟨A, n, c, k, bs, z, h1, h2, h3, h4, h5⟩ := h
  have := h4.lt
  exact ⟨A, n, c, k, bs, z, h1, h2, h3, h4.next hb, h5.keep fun p hp => hb.cell (by omega)⟩
theorem Src.lt {w : World} {g K : Nat} (h : Src w g K) : g < w.heap.size := by
  obtain ⟨A, n, c, k, bs, z, h1, h2, h3, h4, h5⟩ := h
  exact h4.lt
/-- a write to another block that lies behind -/
theorem Src.grown {w w' : World} {g K : Nat} {r : Option Nat} (h : Src w g K) (hg : w.grownBy w' r) (hr : ∀ k, r = some k → g < k) : Src w' g K := by
  obtain ⟨A, n, c, k, bs, z, h1, h2, h3, h4, h5⟩ := h
  have := h4.lt
  exact ⟨A, n, c, k, bs, z, h1, h2, h3, h4.grown hg (fun e => by have := hr _ e.symm; omega), h5.grown (by omega) hg (fun k e => by have := hr _ e; omega)⟩

set_option maxHeartbeats 400000 in
theorem pick_any (g K : Nat) (n m : Int) (w : World) (h : Src w g K) (hK : K ≤ 100000000) (hn : n ≤ m) (hm : 1 ≤ m) :
    Calls Try.prog 54 #[.pointer (some ⟨g, 0, none⟩), .int .i64 n] w (Draw w g (K + 2) m) := by
  by_cases h1 : n ≤ 1
  · go_enter Try.func54, Try.ntmps54
    go_wp2_with fail
    go_ret
    exact ⟨0, rfl, by omega, by omega, h.mono (by omega), World.grownBy.refl _ _⟩
  by_cases h2 : n ≤ 200
  · go_enter Try.func54, Try.ntmps54
    go_wp2_with fail
    refine (next_any g K _ h (by omega)).mono ?_
    rintro e w1 ⟨v, rfl, v0, v1, s1, g1⟩
    go_wp2_with fail
    go_ret
    exact ⟨_, rfl, Int.emod_nonneg _ (by omega), by have := Int.emod_lt_of_pos v (show 0 < n by omega); omega, s1.mono (by omega), g1⟩
  · go_enter Try.func54, Try.ntmps54
    go_wp2_with fail
    refine (next_any g K _ h (by omega)).mono ?_
    rintro e w1 ⟨v, rfl, v0, v1, s1, g1⟩
    go_wp2_with fail
    refine (next_any g (K + 1) _ s1 (by omega)).mono ?_
    rintro e w2 ⟨v', rfl, v0', v1', s2, g2⟩
    go_wp2_with fail
    go_ret
    exact ⟨_, rfl, Int.emod_nonneg _ (by omega), by have := Int.emod_lt_of_pos (v * 256 + v') (show 0 < n by omega); omega, s2, gb_trans g1 g2⟩
def DrawB (w : World) (g K : Nat) (e : Ending) (w' : World) : Prop := ∃ b : Bool, e = .returned (.bool b) ∧ Src w' g K ∧ w.grownBy w' (some g)
theorem one_any (g K : Nat) (n : Int) (w : World) (h : Src w g K) (hK : K ≤ 100000000) (hn : n ≤ 1000) :
    Calls Try.prog 55 #[.pointer (some ⟨g, 0, none⟩), .int .i64 n] w (DrawB w g (K + 2)) := by
  go_enter Try.func55, Try.ntmps55
  go_wp2_with fail
  refine (pick_any g K n 1000 _ h hK hn (by omega)).mono ?_
  rintro e w1 ⟨v, rfl, v0, v1, s1, g1⟩
  go_wp2_with fail
  go_ret
  exact ⟨_, rfl, s1, g1⟩
end Go.Proofs.Ytfanphhlagjkdaa


/-
  The draw of a plain word: its letters are right, and it is not too long.
-/
namespace Go.Proofs.Ytfanphhlagjkdaa
open Go.RowKit

theorem elem_byte : Elem Try.prog 22 5 1 1 := Elem.mk' (z := .int .u8 0) Try.underlying22 (by kernel_rfl) rfl
/-- what the draw of a word leaves -/
def StrDraw (w : World) (g K : Nat) (most : Int) (e : Ending) (w' : World) : Prop :=
  ∃ s : ByteArray, e = .returned (.string s) ∧ (s.size : Int) ≤ most ∧ s.data.toList.all letB = true ∧ Src w' g K ∧ w.grownBy w' (some g)
theorem byteE_of {v : Int} (h0 : 0 ≤ v) (h1 : v < 4) : #[Value.int .u8 (97 + v)].toList = byteE (UInt8.ofNat (97 + v.toNat)) ∧ letB (UInt8.ofNat (97 + v.toNat)) = true := by
  obtain ⟨j, rfl⟩ := Int.eq_ofNat_of_zero_le h0
  have e : (UInt8.ofNat (97 + j)).toNat = 97 + j := by rw [UInt8.toNat_ofNat']; omega
  constructor
  · simp only [byteE, Int.toNat_natCast, e]; simp
  · simp only [letB, Int.toNat_natCast, e]; simp; omega

theorem conv_own {w : World} {base n c : Nat} {A : Option Addr} {bs : List UInt8} (h : w.ownsRow base 5 1 (.slice A n c) n (bs.flatMap byteE)) (hl : bs.length = n) :
    (convert 22 9 (.slice A n c)).run Try.prog w = .ok (.string ⟨bs.toArray⟩) w := by
  subst hl
  cases A with
  | some a =>
    refine run_convert_bytes_back (P := Try.prog) w _ _ 5 a c bs Try.underlying22 Try.underlying5 Try.underlying9 fun j hj => ?_
    obtain ⟨g, cap, hv, _, _⟩ := h.form (by omega)
    obtain rfl := Option.some.inj (show some a = some ⟨g, 0, none⟩ from by injection hv)
    have := h.cells (g := g) rfl j _ (by
      have := flat_at (enc := byteE) (sz := 1) bs (fun _ _ => rfl) j _ (List.getElem?_eq_getElem hj) 0 (by omega)
      rw [Nat.mul_one, Nat.add_zero] at this
      rw [this]; rfl)
    simpa using this
  | none =>
    rcases h.2 with ⟨h1, h2⟩ | ⟨g, cap, cur, hv, _⟩
    · obtain rfl : bs = [] := List.eq_nil_of_length_eq_zero (by omega)
      rw [run_convert_bytes_string w _ _ 5 none _ c Try.underlying22 Try.underlying5 Try.underlying9]
      simp [Conv.bytesToString, go_sem]
      rfl
    · cases hv
theorem ext_let {s : ByteArray} (h : s.data.toList.all letB = true) (i j : Nat) : (s.extract i j).data.toList.all letB = true := by
  rw [ByteArray.data_extract, Array.toList_extract]
  rw [List.all_eq_true] at *
  intro x hx
  exact h x (List.mem_of_mem_drop (List.mem_of_mem_take hx))
end Go.Proofs.Ytfanphhlagjkdaa


/-
  The letters of a grammar's word, in the reference.
-/
namespace Go.Proofs.Ytfanphhlagjkdaa
open Go.RowKit

def lt8 (u : List Nat) (i : Nat) : Value := .int .u8 ((97 + u.getD i 0 : Nat) : Int)
theorem wds_get_pair {rs : List Fac} (hwf : WF rs) {k : Nat} {r : Fac} (h : rs[k]? = some r) (h0 : r.l.size = 0) : (wds rs).getD k [] = (wds rs).getD r.a.toNat [] ++ (wds rs).getD r.b.toNat [] := full_pair [] wdF wdG hwf h h0
theorem wds_get_let {rs : List Fac} {k : Nat} {r : Fac} (h : rs[k]? = some r) {c : UInt8} (hl : r.l = ⟨#[c]⟩) : (wds rs).getD k [] = [c.toNat - 97] := by
  have := full_let [] wdF wdG h (by rw [hl]; show (1 : Nat) ≠ 0; omega)
  rw [hl] at this
  exact this
set_option maxHeartbeats 2000000 in
set_option maxRecDepth 100000 in
theorem l02Letter_any (gb : Nat) (A : Option Addr) (n c : Nat) (rs : List Fac) (B : Option Addr) (m d : Nat) (ls : List Int) (i : Nat) (w : World) (hg : gb < w.heap.size) (hc : w.cell? ⟨gb, 0, none⟩ = some (.slice A n c)) (hn4 : n ≤ 400)
    (hr : Rd w w.heap.size A n 3 Fac.cells rs) (hl : Rd w w.heap.size B m 1 intE ls) (hls : gLens rs [] = some ls) (hi : i < (wdN rs).length) (hi4 : i ≤ 1000000000000000) :
    Calls Try.prog 67 #[.pointer (some ⟨gb, 0, none⟩), .slice B m d, .int .i64 i] w (Ret (lt8 (wdN rs) i) w) := by
  have hwf := Lib.hid (wf_of hls)
  have HN := Lib.hid hr.len
  have hne : rs ≠ [] := by intro e; rw [e] at hi; simp [wdN] at hi
  have hn0 : 0 < n := by rw [← HN.out]; exact List.length_pos_iff.2 hne
  have hml := gLens_len rs [] ls hls
  simp only [List.length_nil, Nat.zero_add] at hml
  have HM := Lib.hid (show m = n by rw [← hl.len, hml, HN.out])
  have HI := Lib.hid hi
  have HS := Lib.hid (show ((wds rs).getD (n - 1) [])[i]? = (wdN rs)[i]? by unfold wdN; rw [if_neg hne, HN.out])
  have HL := Lib.hid hl
  have HR := Lib.hid hr
  have HLs := Lib.hid hls
  obtain ⟨q, hq⟩ : ∃ q, n - 1 = q := ⟨_, rfl⟩
  have hqn : q < n := by omega
  have um : IntKind.i64.wrap ((n : Int) - 1) = (q : Int) := by rw [IntWalk.i64_in _ (by omega)]; omega
  rw [hq] at HS
  clear hr hl hls hi hml hq
  go_enter Try.func67, Try.ntmps67
  go_wp2_with fail
  clear um
  go_loop [2, 7] (fun i_ at_ => ∃ (a j : Nat), at_ = .int .i64 a ∧ i_ = .int .i64 j ∧ a < n ∧ j ≤ i ∧ Hid (((wds rs).getD a [])[j]? = (wdN rs)[i]?)) (fun _ at_ => (intOf at_).toNat)
  case atStart => exact ⟨q, i, rfl, rfl, hqn, Nat.le_refl _, HS⟩
  case round =>
    obtain ⟨a, j, rfl, rfl, ha, hj, H⟩ := hrel
    clear HS
    obtain ⟨b, o, x, rfl, hB, gx, c0, c1, c2⟩ := HR.out.fac ha
    have Gx := Lib.hid gx
    have i0 : (0 : Int) ≤ (a : Int) := by omega
    have i1 : (a : Int) < (n : Int) := by omega
    have hjl : j < ((wds rs).getD a []).length := by
      have h1 := H.out
      rw [List.getElem?_eq_getElem HI.out] at h1
      exact (List.getElem?_eq_some_iff.1 h1).1
    have HJ := Lib.hid hjl
    clear gx hjl
    rcases hwf.out a x Gx.out with ⟨h0, ha0, ha1, hb0, hb1⟩ | ⟨cc, hcc, hxl, hxa, hxb⟩
    · have e0 := size0 h0
      obtain ⟨l, hle⟩ : ∃ l : Nat, x.a = l := ⟨x.a.toNat, by omega⟩
      obtain ⟨r, hre⟩ : ∃ r : Nat, x.b = r := ⟨x.b.toNat, by omega⟩
      have hw := wds_get_pair hwf.out Gx.out h0
      rw [hle, hre, Int.toNat_natCast, Int.toNat_natCast] at hw
      have HW := Lib.hid hw
      rw [hle] at c1 ha1
      rw [hre] at c2 hb1
      obtain ⟨b', o', y, rfl, hB', gy, d0⟩ := (show Rd w w.heap.size B m 1 (fun s => [.int .i64 s]) ls from HL.out).int (show l < m by rw [HM.out]; omega)
      have hy : y = (((wds rs).getD l []).length : Int) := by
        have := lens_word HLs.out (k := l) (by have := HN.out; omega)
        rw [List.getD_eq_getElem?_getD, gy] at this
        exact this
      have Hy := Lib.hid hy
      obtain ⟨L, hL⟩ : ∃ L, ((wds rs).getD l []).length = L := ⟨_, rfl⟩
      rw [hL] at hy
      have HLl := Lib.hid hL
      subst hy
      have l0 : (0 : Int) ≤ (l : Int) := by omega
      have l1 : (l : Int) < (m : Int) := by have := HM.out; omega
      clear hw hle hre ha0 hb0 gy hL h0
      by_cases hjL : j < L
      · have c3 : (j : Int) < (L : Int) := by omega
        go_wp2_with fail
        go_round
        case rel => exact ⟨l, j, rfl, rfl, by omega, hj, Lib.hid (by rw [← H.out, HW.out, List.getElem?_append_left (by rw [HLl.out]; exact hjL)])⟩
        case measure => simp [intOf]; omega
      · have c3 : ¬ (j : Int) < (L : Int) := by omega
        have um : IntKind.i64.wrap ((j : Int) - (L : Int)) = ((j - L : Nat) : Int) := by rw [IntWalk.i64_in _ (by omega)]; omega
        go_wp2_with fail
        go_round
        case rel => exact ⟨r, j - L, rfl, by go_num, by omega, by omega, Lib.hid (by rw [← H.out, HW.out, List.getElem?_append_right (by rw [HLl.out]; omega), HLl.out])⟩
        case measure => simp [intOf]; omega
    · have hw := wds_get_let Gx.out hxl
      have hj0 : j = 0 := by
        have := HJ.out
        rw [hw] at this
        simp at this; exact this
      have hlet := letB_num hcc
      have hv : (97 + (wdN rs).getD i 0 : Nat) = cc.toNat := by
        have h1 := H.out
        rw [hw, hj0] at h1
        rw [List.getD_eq_getElem?_getD, ← h1]
        simp; omega
      have HV := Lib.hid (show lt8 (wdN rs) i = .int .u8 (cc.toNat : Int) by unfold lt8; rw [hv])
      obtain ⟨xl, xa, xb⟩ := x
      simp only at hxl hxa hxb c0 c1 c2
      subst hxl hxa hxb
      have e1 := size1 (s := ⟨#[cc]⟩) (show (1 : Nat) ≠ 0 by omega)
      have e2 := size1' (s := ⟨#[cc]⟩) (show (1 : Nat) ≠ 0 by omega)
      clear hw hv hcc hlet
      go_wp2_with fail
      go_ret
      rw [HV.out]
      exact ⟨rfl, Below.refl _ _⟩
end Go.Proofs.Ytfanphhlagjkdaa


/-
  A grammar unpacked, in the reference.
-/
namespace Go.Proofs.Ytfanphhlagjkdaa
open Go.RowKit

/-- letters as bytes -/
theorem byteE_let (u : List Nat) (i : Nat) (h : ∀ x ∈ u, x < 4) : [lt8 u i] = byteE (UInt8.ofNat (97 + u.getD i 0)) := by
  have hb : u.getD i 0 < 4 := by
    rw [List.getD_eq_getElem?_getD]
    cases e : u[i]? with
    | none => simp
    | some x => exact h x (List.mem_of_getElem? e)
  have e : (UInt8.ofNat (97 + u.getD i 0)).toNat = 97 + u.getD i 0 := by rw [UInt8.toNat_ofNat']; omega
  unfold lt8 byteE
  rw [e]
theorem txB_snoc (u : List Nat) {i : Nat} (hi : i < u.length) : txB (u.take i) ++ [UInt8.ofNat (97 + u.getD i 0)] = txB (u.take (i + 1)) := by
  rw [List.take_succ_eq_append_getElem hi]
  unfold txB
  rw [List.map_append, List.getD_eq_getElem?_getD, List.getElem?_eq_getElem hi]; rfl
theorem txB_len (u : List Nat) : (txB u).length = u.length := by simp [txB]
/-- a text's letter -/
theorem tx_at (u : List Nat) (hu : ∀ x ∈ u, x < 4) (i : Nat) (hi : i < (tx u).size) : (tx u)[i].toNat = 97 + u.getD i 0 ∧ u.getD i 0 < 4 := by
  have hl : i < u.length := by rw [← tx_size]; exact hi
  have hb : u.getD i 0 < 4 := by
    rw [List.getD_eq_getElem?_getD, List.getElem?_eq_getElem hl]
    exact hu _ (List.getElem_mem hl)
  refine ⟨?_, hb⟩
  have h1 := at_byte (tx u) i hi
  rw [tx_toList, txB, List.getElem?_map, List.getElem?_eq_getElem hl] at h1
  injection h1 with h1
  rw [← h1, List.getD_eq_getElem?_getD, List.getElem?_eq_getElem hl, UInt8.toNat_ofNat']
  rw [List.getD_eq_getElem?_getD, List.getElem?_eq_getElem hl] at hb
  simp only [Option.getD_some] at hb ⊢
  omega
set_option maxHeartbeats 2000000 in
set_option maxRecDepth 100000 in
/-- the whole word -/
theorem l02Unpack_any (gb : Nat) (A : Option Addr) (n c : Nat) (rs : List Fac) (ls : List Int) (w : World) (hg : gb < w.heap.size) (hc : w.cell? ⟨gb, 0, none⟩ = some (.slice A n c)) (hr : Rd w w.heap.size A n 3 Fac.cells rs)
    (hok : ∀ f ∈ rs, f.l.size ≤ maxLen) (hls : gOk rs = some ls) (hlen : (wdN rs).length ≤ 1048576) :
    Calls Try.prog 39 #[.pointer (some ⟨gb, 0, none⟩), .int .i64 0, .int .i64 ((wdN rs).length : Nat)] w (Ret (.string (tx (wdN rs))) w) := by
  have HN := Lib.hid hr.len
  have hn4 : n ≤ 400 := by have := (gOk_lens hls).2.1; have := HN.out; omega
  have HL := Lib.hid (l02Lengths_any gb A n c rs w hg hc (by omega) hr hok)
  have HLT := Lib.hid (fun (B : Option Addr) (d : Nat) (i : Nat) (w' : World) (hb : Below w.heap.size w w') (h : Rd w' w'.heap.size B ls.length 1 intE ls) (hi : i < (wdN rs).length) =>
    l02Letter_any gb A n c rs B ls.length d ls i w' (by have := hb.size; omega) ((hb.cell (p := ⟨gb, 0, none⟩) hg).trans hc) hn4 (hr.next hb) h (gOk_lens hls).1 hi (by omega))
  have HW := Lib.hid (wdN_let (wf_of (gOk_lens hls).1))
  have HLs := Lib.hid hls
  clear hr hok hls hg hc
  generalize wdN rs = u at *
  obtain ⟨L, hL⟩ : ∃ L, u.length = L := ⟨_, rfl⟩
  have HU := Lib.hid hL
  rw [hL] at hlen ⊢
  clear hL
  go_enter Try.func39, Try.ntmps39
  go_wp2_with fail
  refine HL.out.mono ?_
  rintro e w1 ⟨hb1, ⟨ls', A', c', hgl, rfl, own1⟩ | ⟨hgl, _⟩⟩
  · obtain rfl : ls = ls' := by have := HLs.out.symm.trans hgl; injection this
    have O1 := Lib.hid (own1.alloc (.cells #[] 5))
    have W1 := Lib.hid (World.ownsRow_made (base := w.heap.size) (e := 5) (size := 1) w1 #[] 0 (by have := hb1.size; omega) (by unfold maxLen; omega) rfl)
    have B1 := Lib.hid (show Below w.heap.size w (w1.alloc (.cells #[] 5)) from hb1.alloc hb1.size _)
    clear hgl own1 hb1
    go_wp2_with fail
    go_loopw [9, 10] (fun o_ k_ w' => ∃ (k : Nat) (A2 : Option Addr) (c2 : Nat), k_ = .int .i64 k ∧ o_ = .slice A2 k c2 ∧ k ≤ L ∧ Hid (w'.ownsRow w.heap.size 5 1 (.slice A2 k c2) k ((txB (u.take k)).flatMap byteE)) ∧
        Hid (w'.ownsRow w.heap.size 2 1 (.slice A' ls.length c') ls.length (ls.flatMap intE)) ∧ Hid (Below w.heap.size w w')) (fun _ k_ _ => L - (intOf k_).toNat)
    case atStart => exact ⟨0, _, 0, rfl, rfl, by omega, Lib.hid (by simpa [txB] using W1.out), O1, B1⟩
    case round =>
      obtain ⟨k, A2, c2, rfl, rfl, hk, hown, hlr, hbb⟩ := hrel
      clear W1 O1 B1
      by_cases hlt : k < L
      · have hku : k < u.length := by rw [HU.out]; exact hlt
        have hlet := Lib.hid (show [.int .u8 (((97 + u.getD k 0 : Nat)) : Int)] = byteE (UInt8.ofNat (97 + u.getD k 0)) from byteE_let u k HW.out)
        have hsn := Lib.hid (txB_snoc u hku)
        have hkl := Lib.hid (show (txB (u.take k)).length = k by rw [txB_len, List.length_take]; omega)
        have RL := Lib.hid (Rd.of_own (enc := intE) (fun _ _ => rfl) rfl hlr.out)
        have C := Lib.hid (show Calls _ _ _ _ (Ret (.int .u8 (((97 + u.getD k 0 : Nat)) : Int)) wr) from HLT.out A' c' k wr hbb.out RL.out hku)
        generalize hz : 97 + u.getD k 0 = z at *
        clear hz
        generalize UInt8.ofNat z = b8 at *
        have i1 : (k : Int) < (L : Int) := by omega
        clear hku
        go_wp2_with fail
        refine C.out.mono ?_
        rintro e w3 ⟨rfl, hb3⟩
        have O3 := Lib.hid ((own_next hown.out hb3).alloc (.cells #[.int .u8 (z : Int)] 5))
        have L3 := Lib.hid ((own_next hlr.out hb3).alloc (.cells #[.int .u8 (z : Int)] 5))
        have B3 := Lib.hid (hbb.out.trans (hb3.mono hbb.out.size))
        have B3' := Lib.hid (show Below w.heap.size w (w3.alloc (.cells #[.int .u8 (z : Int)] 5)) from B3.out.alloc B3.out.size _)
        clear hb3
        go_wp2_with
          (at_builtin
           refine wpList_push (w0 := w) rfl _ _ _ rfl w.heap.size 5 1 1 elem_byte byteE A2 k c2 (txB (u.take k)) rfl O3.out w3.heap.size b8 #[.int .u8 (z : Int)] 5 (0, 0) rfl (heap_alloc_new _ _) hlet.out rfl (by simp [byteE, Value.oneCell']) (by omega) (by omega) (by unfold maxLen; omega) rfl B3'.out ?_
           intro A9 c9 w9 own9 hg9 hat9 hb9
           have O9 := Lib.hid own9
           have L9 := Lib.hid (L3.out.kept hg9 (own_ne L3.out O3.out (by decide)))
           have B9 := Lib.hid hb9
           clear own9 hg9 hat9 hb9)
        go_roundw
        case rel => exact ⟨k + 1, A9, c9, by go_num, rfl, by omega, Lib.hid (by rw [← hsn.out]; exact O9.out), L9, B9⟩
        case measure => simp [intOf]; omega
      · obtain rfl : k = L := by omega
        have ht : u.take k = u := List.take_of_length_le (by rw [HU.out]; omega)
        have ho := hown.out
        rw [ht] at ho
        have hcv := conv_own ho (by rw [txB_len, HU.out])
        have HT := Lib.hid (show tx u = ⟨(txB u).toArray⟩ from rfl)
        clear ho ht
        go_wp2_with fail
        go_ret
        rw [HT.out]
        exact ⟨rfl, hbb.out⟩
  · rw [HLs.out] at hgl; cases hgl
section
variable (A : Option Addr) (n c : Nat) (rs : List Fac) (ls : List Int) (w : World) (hr : Rd w w.heap.size A n 3 Fac.cells rs) (hok : ∀ f ∈ rs, f.l.size ≤ maxLen) (hls : gOk rs = some ls)
include hr hok hls
set_option maxHeartbeats 1000000 in
/-- a short word -/
theorem unpackWord_any (hlen : (wdN rs).length ≤ 2000) : Calls Try.prog 14 #[.agg #[.slice A n c]] w (Ret (.tuple #[.string (tx (wdN rs)), .int .i64 0]) w) := by
  have HN := Lib.hid hr.len
  have hn4 : n ≤ 400 := by have := (gOk_lens hls).2.1; have := HN.out; omega
  have hb0 : Below w.heap.size w (w.alloc (.cells #[.slice A n c] 26)) := by (repeat first | exact Below.refl _ _ | assumption | refine Below.drew ?_ | refine Below.alloc ?_ (by first | exact Nat.le_refl _ | (simp; done) | omega | (simp; omega)) _ | refine Below.setCell ?_ (by first | exact Nat.le_refl _ | (simp; done) | omega | (simp; omega)) _)
  have B0 := Lib.hid (Blk.new w 26 #[.slice A n c])
  have hlw := Lib.hid (last_word (gOk_lens hls).1)
  have OK := Lib.hid (fun W (hb : Below w.heap.size w W) (hB : Blk W w.heap.size 26 #[.slice A n c]) => l02Ok_any w.heap.size A n c rs W hB.lt (hB.cell 0) (by omega) (hr.next hb) hok true (by rw [hls]; rfl))
  have LE := Lib.hid (fun W (hb : Below w.heap.size w W) (hB : Blk W w.heap.size 26 #[.slice A n c]) => l02Length_any w.heap.size A n c rs W hB.lt (hB.cell 0) (by omega) (hr.next hb) hok ls (gOk_lens hls).1)
  have UN := Lib.hid (fun W (hb : Below w.heap.size w W) (hB : Blk W w.heap.size 26 #[.slice A n c]) => l02Unpack_any w.heap.size A n c rs ls W hB.lt (hB.cell 0) (hr.next hb) hok hls (by omega))
  rw [hlw.out] at LE
  clear hr hok hls hlw
  generalize wdN rs = u at *
  generalize u.length = L at *
  go_enter Try.func14, Try.ntmps14
  go_wp2_with fail
  refine (OK.out _ hb0 B0.out).mono ?_
  rintro e w1 ⟨rfl, hb1⟩
  have b1 := Lib.hid (hb0.trans (hb1.mono (by simp)))
  have B1 := Lib.hid (B0.out.next hb1)
  go_wp2_with fail
  refine (LE.out _ b1.out B1.out).mono ?_
  rintro e w2 ⟨rfl, hb2⟩
  have b2 := Lib.hid (b1.out.trans (hb2.mono b1.out.size))
  have B2 := Lib.hid (B1.out.next hb2)
  have hL : ¬ (2000 : Int) < (L : Int) := by omega
  clear hb1 hb2 hb0
  go_wp2_with fail
  refine (UN.out _ b2.out B2.out).mono ?_
  rintro e w3 ⟨rfl, hb3⟩
  have b3 := Lib.hid (b2.out.trans (hb3.mono b2.out.size))
  clear hb3
  go_wp2_with fail
  go_ret2
  exact ⟨rfl, b3.out⟩
set_option maxHeartbeats 1000000 in
theorem unpacked_any (hlen : (wdN rs).length ≤ 2000) : Calls Try.prog 8 #[.agg #[.slice A n c]] w (Ret (.string (tx (wdN rs))) w) := by
  have hb0 : Below w.heap.size w (w.alloc (.cells #[.slice A n c] 26)) := by (repeat first | exact Below.refl _ _ | assumption | refine Below.drew ?_ | refine Below.alloc ?_ (by first | exact Nat.le_refl _ | (simp; done) | omega | (simp; omega)) _ | refine Below.setCell ?_ (by first | exact Nat.le_refl _ | (simp; done) | omega | (simp; omega)) _)
  have B0 := Lib.hid (Blk.new w 26 #[.slice A n c])
  have UN := Lib.hid (fun W (hb : Below w.heap.size w W) => unpackWord_any A n c rs ls W (hr.next hb) hok hls hlen)
  have c0 := B0.out.cell 0
  have l0 := B0.out.lt
  clear hr hok hls
  generalize wdN rs = u at *
  go_enter Try.func8, Try.ntmps8
  go_wp2_with fail
  refine (UN.out _ hb0).mono ?_
  rintro e w1 ⟨rfl, hb1⟩
  have b1 := Lib.hid (hb0.trans (hb1.mono (by simp)))
  clear hb1
  go_wp2_with fail
  go_ret
  exact ⟨rfl, b1.out⟩
end
end Go.Proofs.Ytfanphhlagjkdaa


/-
  The runs of a word, in the reference.
-/
namespace Go.Proofs.Ytfanphhlagjkdaa
open Go.RowKit

def encR (r : Nat × Int) : List Value := [.string (tx [r.1]), .int .i64 r.2]
theorem lenR (r : Nat × Int) : (encR r).length = 2 := rfl
theorem tx_sub (u : List Nat) {i : Nat} (hi : i < u.length) : (tx u).extract i (i + 1) = tx [u.getD i 0] := by
  apply ByteArray.ext
  apply Array.ext'
  rw [ByteArray.data_extract, Array.toList_extract]
  show ((txB u).drop i).take (i + 1 - i) = txB [u.getD i 0]
  unfold txB
  rw [← List.map_drop, List.drop_eq_getElem_cons hi, Nat.add_sub_cancel_left, List.getD_eq_getElem?_getD, List.getElem?_eq_getElem hi]
  rfl
theorem encR_set (t : List (Nat × Int)) (y : Nat) (c d : Int) : ((t ++ [(y, c)]).flatMap encR).set (t.length * 2 + 1) (.int .i64 d) = (t ++ [(y, d)]).flatMap encR := by
  have hl : (t.flatMap encR).length = t.length * 2 := flat_len t (fun r _ => lenR r)
  rw [List.flatMap_append, List.flatMap_append, List.set_append_right _ _ (by rw [hl]; omega), hl]
  simp [encR]
theorem elemR : Elem Try.prog 46 50 2 24 := Elem.mk' (z := .agg #[.string .empty, .int .i64 0]) Try.underlying46 (by kernel_rfl) rfl
set_option maxHeartbeats 4000000 in
set_option maxRecDepth 100000 in
theorem l01Runs_any (u : List Nat) (w : World) (hu : ∀ x ∈ u, x < 4) (hlen : u.length ≤ 2000) : Calls Try.prog 46 #[.string (tx u)] w (RetNew w 50 2 encR (runsL u)) := by
  have Hs := Lib.hid (tx_at u hu)
  have Hsub := Lib.hid (fun (i : Nat) (hi : i < u.length) => tx_sub u hi)
  have HLs := Lib.hid (runsL_last)
  have hsz := tx_size u
  generalize tx u = s at *
  have HU := Lib.hid hsz
  have hs8 : s.size ≤ 2000 := by omega
  have O0 := Lib.hid (World.ownsRow_made (base := w.heap.size) (e := 50) (size := 2) w #[] 0 (Nat.le_refl _) (by unfold maxLen; omega) rfl)
  clear hsz
  go_enter Try.func46, Try.ntmps46
  go_wp2_with fail
  go_loopw [3, 4] (fun o_ i_ w' => ∃ (i n : Nat) (A : Option Addr) (c : Nat), i_ = .int .i64 i ∧ o_ = .slice A n c ∧ i ≤ s.size ∧ n ≤ i ∧ Hid ((runsL (u.take i)).length = n) ∧ Hid (w'.ownsRow w.heap.size 50 2 (.slice A n c) n ((runsL (u.take i)).flatMap encR)) ∧ Hid (Below w.heap.size w w')) (fun _ i_ _ => s.size - (intOf i_).toNat)
  case atStart => exact ⟨0, 0, _, 0, rfl, rfl, by omega, by omega, Lib.hid rfl, Lib.hid (by simpa [runsL] using O0.out), Lib.hid (by (repeat first | exact Below.refl _ _ | assumption | refine Below.drew ?_ | refine Below.alloc ?_ (by first | exact Nat.le_refl _ | (simp; done) | omega | (simp; omega)) _ | refine Below.setCell ?_ (by first | exact Nat.le_refl _ | (simp; done) | omega | (simp; omega)) _))⟩
  case round =>
    obtain ⟨i, n, A, c, rfl, rfl, hi, hni, hnl, hown, hb⟩ := hrel
    clear O0
    by_cases hlt : i < s.size
    · have hlu : i < u.length := by rw [← HU.out]; exact hlt
      obtain ⟨hbi, hki⟩ := Hs.out i hlt
      have Hbi := Lib.hid hbi
      have htk := Lib.hid (show u.take (i + 1) = u.take i ++ [u.getD i 0] by rw [List.take_succ_eq_append_getElem hlu, List.getD_eq_getElem?_getD, List.getElem?_eq_getElem hlu]; rfl)
      have hsub := Lib.hid (Hsub.out i hlu)
      have j0 : (0 : Int) ≤ (i : Int) := by omega
      have j1 : (i : Int) < (s.size : Int) := by omega
      have HB := Lib.hid hb.out
      generalize u.getD i 0 = x at *
      have zk : (n + 1) * 24 ≤ 140737488355328 := by omega
      have zkm : n + 1 ≤ maxLen := by unfold maxLen; omega
      by_cases hi0 : i = 0
      · subst hi0
        obtain rfl : n = 0 := by omega
        have e0 : runsL (u.take 0) = [] := rfl
        have Hst := Lib.hid (show runsL (u.take (0 + 1)) = runsL (u.take 0) ++ [(x, 1)] by rw [htk.out, runsL_snoc, e0]; rfl)
        have hsx : s.extract 0 1 = tx [x] := hsub.out
        have Hsx := Lib.hid (show #[Value.string (s.extract 0 1), .int .i64 1].toList = encR (x, 1) by rw [hsx]; rfl)
        have O1 := Lib.hid ((own_next hown.out (Below.refl _ _).drew).alloc (.cells #[.string (s.extract 0 1), .int .i64 1] 50))
        have B1 := Lib.hid (show Below w.heap.size w (wr.drew.alloc (.cells #[.string (s.extract 0 1), .int .i64 1] 50)) from (hb.out.trans ((Below.refl _ _).drew.mono hb.out.size)).alloc hb.out.size _)
        clear hsx hki hbi
        go_wp2_with fail
        go_region
        all_goals
          go_wp2_with
            (at_builtin
             refine wpList_push (w0 := w) rfl _ _ _ rfl w.heap.size 50 2 24 elemR encR A 0 c (runsL (u.take 0)) rfl O1.out wr.drew.heap.size (x, 1) #[.string (s.extract 0 1), .int .i64 1] 50 (0, 0) rfl (heap_alloc_new _ _) Hsx.out rfl (by simp [encR, Value.oneCell']) (by omega) zk zkm rfl B1.out ?_
             intro A9 c9 w9 own9 hg9 hat9 hb9
             have O9 := Lib.hid own9
             have B9 := Lib.hid hb9
             clear own9 hg9 hat9 hb9)
          go_roundw
          case rel => exact ⟨0 + 1, 0 + 1, A9, c9, by go_num, rfl, by omega, by omega, Lib.hid (by rw [Hst.out, List.length_append, hnl.out]; rfl), Lib.hid (by rw [Hst.out]; exact O9.out), B9⟩
          case measure => simp [intOf]; omega
      · obtain ⟨p, hp⟩ : ∃ p, i - 1 = p := ⟨_, rfl⟩
        have hpi : i = p + 1 := by omega
        have hps : p < s.size := by omega
        obtain ⟨hbp, hyp⟩ := Hs.out p hps
        have htp : u.take i = u.take p ++ [u.getD p 0] := by
          rw [hpi, List.take_succ_eq_append_getElem (by rw [← HU.out]; omega), List.getD_eq_getElem?_getD, List.getElem?_eq_getElem (by rw [← HU.out]; omega)]; rfl
        obtain ⟨t, cc, hr1, hc1, hc2⟩ := HLs.out (u.take p) (u.getD p 0)
        rw [← htp] at hr1 hc2
        have hcc : cc ≤ 2000 := by rw [List.length_take] at hc2; omega
        generalize u.getD p 0 = y at *
        have hnt : n = t.length + 1 := by rw [← hnl.out, hr1, List.length_append]; rfl
        have um : IntKind.i64.wrap ((i : Int) - 1) = (p : Int) := by rw [IntWalk.i64_in _ (by omega)]; omega
        have p0 : (0 : Int) ≤ (p : Int) := by omega
        have p1 : (p : Int) < (s.size : Int) := by omega
        have i0' : (0 : Int) < (i : Int) := by omega
        have i0n : 0 < i := by omega
        have i0d : decide (0 < i) = true := decide_eq_true i0n
        have Hr1 := Lib.hid hr1
        have Htp := Lib.hid htp
        have Hp := Lib.hid hpi
        have hsx : s.extract i (i + 1) = tx [x] := hsub.out
        clear hr1 htp hpi hp hc2
        by_cases hxy : x = y
        · subst hxy
          have heq : s[i].toNat = s[p].toNat := by rw [hbi, hbp]
          have Hst := Lib.hid (show runsL (u.take (i + 1)) = t ++ [(x, cc + 1)] by rw [htk.out, runsL_snoc, Hr1.out, rStep_last, if_pos rfl])
          obtain ⟨g, cap, cur, hv, hg0, hh⟩ : ∃ g cap cur, Value.slice A n c = .slice (some ⟨g, 0, none⟩) n cap ∧ w.heap.size ≤ g ∧ Blk wr g 50 cur := by
            rcases hown.out.2 with ⟨hnil, hz⟩ | ⟨g2, cap2, cur2, hv2, hg2, hh2, _⟩
            · omega
            · exact ⟨g2, cap2, cur2, hv2, hg2, hh2⟩
          obtain rfl : A = some ⟨g, 0, none⟩ := by injection hv
          have hcel := own_at (sz := 2) (enc := encR) (fun r _ => lenR r) hown.out hnl.out default t.length (by omega) 1 (by omega)
          have hgd : (runsL (u.take i)).getD t.length default = (x, cc) := by
            rw [Hr1.out, List.getD_eq_getElem?_getD, List.getElem?_append_right (Nat.le_refl _), Nat.sub_self]; rfl
          rw [hgd] at hcel
          obtain ⟨q, hq⟩ : ∃ q, t.length = q := ⟨_, rfl⟩
          have hcel' : wr.cell? ⟨g, q * 2 + 1, none⟩ = some (.int .i64 cc) := by rw [← hq]; exact hcel
          have HS := hown.out.stored (t.length * 2 + 1) (.int .i64 (cc + 1))
          have hset := HS.1
          rw [Hr1.out, encR_set, hq] at hset
          have Hset := Lib.hid (show ((wr.drew).setCell ⟨g, q * 2 + 1, none⟩ (.int .i64 (cc + 1))).ownsRow w.heap.size 50 2 (.slice (some ⟨g, 0, none⟩) n c) n ((t ++ [(x, cc + 1)]).flatMap encR) from hset)
          have B9 := Lib.hid (show Below w.heap.size w ((wr.drew).setCell ⟨g, q * 2 + 1, none⟩ (.int .i64 (cc + 1))) from (hb.out.trans ((Below.refl _ _).drew.mono hb.out.size)).setCell hg0 _)
          have qc := (hh.drew).cell (q * 2 + 1)
          have qf := (hh.drew).frozen (q * 2 + 1)
          have ql := hh.lt
          have hcd : wr.drew.cell? ⟨g, q * 2 + 1, none⟩ = some (.int .i64 cc) := hcel'
          have Hq := Lib.hid hq
          have un : IntKind.i64.wrap ((n : Int) - 1) = (q : Int) := by rw [IntWalk.i64_in _ (by omega)]; omega
          have uc : IntKind.i64.wrap (cc + 1) = cc + 1 := IntWalk.i64_in _ (by omega)
          have q0 : (0 : Int) ≤ (q : Int) := by omega
          have q1 : (q : Int) < (n : Int) := by omega
          clear hcel hgd hq HS hset hv hsx hbi hbp hki hyp qc hnt hcel'
          go_wp2_with fail
          go_region
          all_goals
            go_wp2_with fail
            go_roundw
            case rel => exact ⟨i + 1, n, _, c, by go_num, rfl, by omega, by omega, Lib.hid (by rw [Hst.out, List.length_append, Hq.out]; have := hnl.out; rw [Hr1.out, List.length_append, Hq.out] at this; exact this), Lib.hid (by rw [Hst.out]; exact Hset.out), B9⟩
            case measure => simp [intOf]; omega
        · have hne : ¬ s[i].toNat = s[p].toNat := by rw [hbi, hbp]; omega
          have hne' : ¬ (s[i].toNat : Int) = (s[p].toNat : Int) := by omega
          have hyx : ¬ y = x := fun e => hxy e.symm
          have Hst := Lib.hid (show runsL (u.take (i + 1)) = runsL (u.take i) ++ [(x, 1)] by rw [htk.out, runsL_snoc, Hr1.out, rStep_last, if_neg hyx])
          have Hsx := Lib.hid (show #[Value.string (s.extract i (i + 1)), .int .i64 1].toList = encR (x, 1) by rw [hsx]; rfl)
          have O1 := Lib.hid ((own_next hown.out (Below.refl _ _).drew).alloc (.cells #[.string (s.extract i (i + 1)), .int .i64 1] 50))
          have B1 := Lib.hid (show Below w.heap.size w (wr.drew.alloc (.cells #[.string (s.extract i (i + 1)), .int .i64 1] 50)) from (hb.out.trans ((Below.refl _ _).drew.mono hb.out.size)).alloc hb.out.size _)
          clear hsx hbi hbp hki hyp hxy hyx hnt
          go_wp2_with fail
          go_region
          all_goals
            go_wp2_with
              (at_builtin
               refine wpList_push (w0 := w) rfl _ _ _ rfl w.heap.size 50 2 24 elemR encR A n c (runsL (u.take i)) rfl O1.out wr.drew.heap.size (x, 1) #[.string (s.extract i (i + 1)), .int .i64 1] 50 (0, 0) rfl (heap_alloc_new _ _) Hsx.out rfl (by simp [encR, Value.oneCell']) (by omega) zk zkm rfl B1.out ?_
               intro A9 c9 w9 own9 hg9 hat9 hb9
               have O9 := Lib.hid own9
               have B9 := Lib.hid hb9
               clear own9 hg9 hat9 hb9)
            go_roundw
            case rel => exact ⟨i + 1, n + 1, A9, c9, by go_num, rfl, by omega, by omega, Lib.hid (by rw [Hst.out, List.length_append, hnl.out]; rfl), Lib.hid (by rw [Hst.out]; exact O9.out), B9⟩
            case measure => simp [intOf]; omega
    · have ht : u.take i = u := List.take_of_length_le (by rw [← HU.out]; omega)
      have ho := hown.out
      have hl := hnl.out
      rw [ht] at ho hl
      have HO := Lib.hid ho
      have HL := Lib.hid hl
      clear ho hl ht hown hnl
      go_wp2_with fail
      go_ret
      rw [← HL.out] at HO ⊢
      exact ⟨A, c, rfl, HO.out, hb.out⟩
end Go.Proofs.Ytfanphhlagjkdaa


/-
  The words that a law draws.
-/
namespace Go.Proofs.Ytfanphhlagjkdaa
open Go.RowKit

/-- a list of bytes, as the walk reads it -/
theorem Rd.bytes {w : World} {B n : Nat} {A : Option Addr} {zs : List Int} (h : Rd w B A n 1 (fun z => [.int .u8 z]) zs) (ok : ∀ z ∈ zs, 0 ≤ z ∧ z < 256) : Rd w B A n 1 byteE (zs.map fun z => UInt8.ofNat z.toNat) := by
  refine ⟨by rw [List.length_map]; exact h.len, fun hn => ?_⟩
  obtain ⟨b, o, hA, hb, hc⟩ := h.2 hn
  refine ⟨b, o, hA, hb, fun k x hx j v hv => ?_⟩
  rw [List.getElem?_map] at hx
  obtain ⟨z, hz, rfl⟩ := Option.map_eq_some_iff.1 hx
  obtain ⟨h0, h1⟩ := ok z (List.mem_of_getElem? hz)
  obtain ⟨m, rfl⟩ := Int.eq_ofNat_of_zero_le h0
  have e : (UInt8.ofNat m).toNat = m := by rw [UInt8.toNat_ofNat']; omega
  have := hc k _ hz j v (by
    rcases j with _ | j
    · simpa [byteE, e] using hv
    · simp [byteE] at hv)
  exact this

theorem f6big_any (A : Option Addr) (n c : Nat) (w : World) (hn : n ≤ maxLen) (b : Bool) (hb : decide (4096 < n) = b) :
    Calls Try.prog 12 #[.slice A n c] w (Ret (.bool b) w) := by
  unfold maxLen at hn
  have e := Lib.hid (show decide ((4096 : Int) < (n : Int)) = b by rw [← hb, decide_eq_decide]; omega)
  clear hb
  go_enter Try.func12, Try.ntmps12
  go_wp2
  go_ret
  exact ⟨ret_bool e.out, Below.refl _ _⟩
def SrcNew (w : World) (e : Ending) (w' : World) : Prop := ∃ g, e = .returned (.pointer (some ⟨g, 0, none⟩)) ∧ w.heap.size ≤ g ∧ Src w' g 0 ∧ Below w.heap.size w w'
theorem l00From_any (A : Option Addr) (n c : Nat) (bs : List UInt8) (w : World) (hn : n ≤ 4096) (hr : Rd w w.heap.size A n 1 byteE bs) :
    Calls Try.prog 23 #[.slice A n c] w (SrcNew w) := by
  go_enter Try.func23, Try.ntmps23
  go_wp2_with fail
  go_ret
  exact ⟨w.heap.size, rfl, Nat.le_refl _, ⟨A, n, c, 0, bs, 0, Nat.le_refl _, hn, ⟨by omega, by omega⟩, Blk.new _ _ _, hr.below (by (repeat first | exact Below.refl _ _ | assumption | refine Below.drew ?_ | refine Below.alloc ?_ (by first | exact Nat.le_refl _ | (simp; done) | omega | (simp; omega)) _ | refine Below.setCell ?_ (by first | exact Nat.le_refl _ | (simp; done) | omega | (simp; omega)) _))⟩, by (repeat first | exact Below.refl _ _ | assumption | refine Below.drew ?_ | refine Below.alloc ?_ (by first | exact Nat.le_refl _ | (simp; done) | omega | (simp; omega)) _ | refine Below.setCell ?_ (by first | exact Nat.le_refl _ | (simp; done) | omega | (simp; omega)) _)⟩
/-- what a drawn word leaves -/
def WordPost (w : World) (most : Int) (e : Ending) (w' : World) : Prop := ∃ s : ByteArray, e = .returned (.string s) ∧ (s.size : Int) ≤ most ∧ s.data.toList.all letB = true ∧ Below w.heap.size w w'
end Go.Proofs.Ytfanphhlagjkdaa


/-
  Lists of numbers beside each other; the runs of a word with a code.
-/
namespace Go.Proofs.Ytfanphhlagjkdaa
open Go.RowKit

set_option maxHeartbeats 1000000 in
/-- two equal lists are told to be equal -/
theorem f6ints_any (A D : Option Addr) (n c d : Nat) (xs : List Int) (w : World) (hn : n ≤ 1048576) (hx : Rd w w.heap.size A n 1 intE xs) (hy : Rd w w.heap.size D n 1 intE xs) :
    Calls Try.prog 19 #[.slice A n c, .slice D n d] w (Ret (.bool true) w) := by
  have HX := Lib.hid hx; clear hx
  have HY := Lib.hid hy; clear hy
  go_enter Try.func19, Try.ntmps19
  go_wp2
  go_loopw [5] (fun i w' => ∃ k : Nat, i = .int .i64 k ∧ k ≤ n ∧ Below w.heap.size w w') (fun i _ => n - (intOf i).toNat)
  case atStart => exact ⟨0, rfl, by omega, Below.refl _ _⟩
  case round =>
    obtain ⟨k, rfl, hk, hb⟩ := hrel
    by_cases hlt : k < n
    · obtain ⟨b, o, x, rfl, hB, gx, c0⟩ := (show Rd wr wr.heap.size A n 1 (fun s => [.int .i64 s]) xs from HX.out.next hb).int hlt
      obtain ⟨b', o', y, rfl, hB', gy, d0⟩ := (show Rd wr wr.heap.size D n 1 (fun s => [.int .i64 s]) xs from HY.out.next hb).int hlt
      obtain rfl : x = y := by rw [gx] at gy; exact Option.some.inj gy
      clear gx gy
      have hup := upc wr.heap.size wr
      have i0 : (0 : Int) ≤ k := by omega
      have i1 : (k : Int) < n := by omega
      go_wp2_with fail
      refine wp_region_up wr.heap.size (by kernel_rfl) (by kernel_rfl) ?_
      repeat (go_big_quiet_step ((fail)))
      refine wpQuiet_nil ?_
      intro w4 hup_w4
      have hb4 := up_of hup_w4
      go_wp2_with fail
      go_roundw
      case rel => exact ⟨k + 1, by go_num, by omega, hb.trans (hb4.mono hb.size)⟩
      case measure => simp [intOf]; omega
    · go_wp2_with fail
      go_ret
      exact ⟨rfl, hb⟩
theorem runsOf_any (u : List Nat) (w : World) (hu : ∀ x ∈ u, x < 4) (hlen : u.length ≤ 2000) : Calls Try.prog 18 #[.string (tx u)] w (RetNewC w 50 2 encR (runsL u) 0) := by
  have C := Lib.hid (fun W => l01Runs_any u W hu hlen)
  have hsz := tx_size u
  have OK := Lib.hid (fun W => specOk_any (tx u) true W (by unfold maxLen; omega) (by rw [okW_all (by omega)]; exact tx_let hu))
  clear hsz
  generalize tx u = s at *
  go_enter Try.func18, Try.ntmps18
  go_wp2_with fail
  refine (OK.out w).mono ?_
  rintro e w1 ⟨rfl, hb1⟩
  go_wp2_with fail
  refine (C.out w1).mono ?_
  rintro e w2 ⟨A, c, rfl, own2, hb2⟩
  have O2 := Lib.hid own2
  have B2 := Lib.hid (hb1.trans (hb2.mono hb1.size))
  have hz := hb1.size
  clear own2 hb2
  go_wp2_with fail
  go_ret2
  exact ⟨A, c, rfl, O2.out.mono hz, B2.out⟩
end Go.Proofs.Ytfanphhlagjkdaa


/-
  The grammar of a plain word: the plain part.
-/
namespace Go.Proofs.Ytfanphhlagjkdaa

/-- the letters that a word has, in order -/
def ksP (w : List UInt8) : List UInt8 := [97, 98, 99, 100].filter (fun c => decide (c ∈ w))
def ruleC (c : UInt8) : Fac := ⟨⟨#[c]⟩, 0, 0⟩
def lettersP (w : List UInt8) : List Fac := (ksP w).map ruleC
/-- the place of a letter's rule -/
def atP (w : List UInt8) (c : UInt8) : Int := (((ksP w).idxOf c : Nat) : Int)
/-- the rules for the letters from the second on -/
def pairsP (w : List UInt8) : List UInt8 → Int → Nat → List Fac
  | [], _, _ => []
  | c :: cs, before, len => ⟨⟨#[]⟩, before, atP w c⟩ :: pairsP w cs (len : Int) (len + 1)
def plainL (w : List UInt8) : List Fac :=
  match w with
  | [] => []
  | c :: cs => lettersP w ++ pairsP w cs (atP w c) (ksP w).length
theorem pairsP_len (w : List UInt8) : ∀ (cs : List UInt8) (b : Int) (n : Nat), (pairsP w cs b n).length = cs.length
  | [], _, _ => rfl
  | _ :: cs, b, n => by simp [pairsP, pairsP_len w cs]
theorem ksP_len (w : List UInt8) : (ksP w).length ≤ 4 := by
  unfold ksP; exact Nat.le_trans (List.length_filter_le _ _) (by simp)
theorem plainL_len (w : List UInt8) : (plainL w).length ≤ w.length + 4 := by
  unfold plainL
  split
  · simp
  · rename_i c cs
    rw [List.length_append, pairsP_len]
    have := ksP_len (c :: cs)
    simp only [lettersP, List.length_map, List.length_cons]; omega
/-- the place of a rule in a list, or -1 -/
def ixR (f : Fac) : List Fac → Int → Int
  | [], _ => -1
  | x :: r, i => if f = x then i else ixR f r (i + 1)
theorem ixR_idx (f : Fac) : ∀ (xs : List Fac) (i : Int), f ∈ xs → ixR f xs i = i + (xs.idxOf f : Nat)
  | [], _, h => by simp at h
  | x :: r, i, h => by
    unfold ixR
    by_cases hx : f = x
    · subst hx; simp
    · have hx' : (x == f) = false := by simp; exact fun e => hx e.symm
      rw [if_neg hx, ixR_idx f r (i + 1) (by simpa [hx] using h), List.idxOf_cons, hx']
      simp; omega
theorem ruleC_inj {a b : UInt8} : ruleC a = ruleC b ↔ a = b := by simp [ruleC]
theorem idx_map (c : UInt8) : ∀ ks : List UInt8, (ks.map ruleC).idxOf (ruleC c) = ks.idxOf c
  | [] => rfl
  | k :: ks => by
    rw [List.map_cons, List.idxOf_cons, List.idxOf_cons, idx_map c ks]
    by_cases h : k = c
    · simp [h]
    · have h1 : (k == c) = false := by simpa using h
      have h2 : (ruleC k == ruleC c) = false := by simpa [ruleC_inj] using h
      rw [h1, h2]
theorem mem_ks {w : List UInt8} {c : UInt8} (hc : c ∈ w) (hl : letB c = true) : c ∈ ksP w := by
  unfold ksP
  rw [List.mem_filter]
  refine ⟨?_, by simpa using hc⟩
  have h : (97 : Int) ≤ c.toNat ∧ (c.toNat : Int) ≤ 100 := by simpa [letB] using hl
  have h4 : c.toNat = 97 ∨ c.toNat = 98 ∨ c.toNat = 99 ∨ c.toNat = 100 := by omega
  simp only [List.mem_cons, List.not_mem_nil, or_false, ← UInt8.toNat_inj]
  exact h4
theorem atP_ix {w : List UInt8} {c : UInt8} (hc : c ∈ w) (hl : letB c = true) : ixR (ruleC c) (lettersP w) 0 = atP w c := by
  have hm : ruleC c ∈ lettersP w := List.mem_map.2 ⟨c, mem_ks hc hl, rfl⟩
  rw [ixR_idx _ _ _ hm]
  unfold lettersP atP
  rw [idx_map]; simp
theorem atP_lt {w : List UInt8} {c : UInt8} (hc : c ∈ w) (hl : letB c = true) : 0 ≤ atP w c ∧ atP w c < ((ksP w).length : Int) := by
  have := List.idxOf_lt_length_of_mem (mem_ks hc hl)
  unfold atP; omega
end Go.Proofs.Ytfanphhlagjkdaa


/-
  A grammar trimmed: the plain part.
-/
namespace Go.Proofs.Ytfanphhlagjkdaa

/-- a rule with the numbers that stand for its parts -/
def trR (same : List Int) (r : Fac) : Fac := if r.l.size = 0 then ⟨⟨#[]⟩, same.getD r.a.toNat 0, same.getD r.b.toNat 0⟩ else r
/-- the rules, told by the first equal ones; the first equal one of each rule -/
def trK : List Fac → List Fac → List Int → List Fac × List Int
  | [], kept, same => (kept, same)
  | r :: rs, kept, same => trK rs (kept ++ [trR same r]) (same ++ [((kept.idxOf (trR same r) : Nat) : Int)])
/-- which rules the last one is made of -/
def useStep (kept : List Fac) (i : Nat) (u : List Bool) : List Bool := if u.getD i false = true ∧ (kept.getD i default).l.size = 0 then (u.set (kept.getD i default).a.toNat true).set (kept.getD i default).b.toNat true else u
def useT (kept : List Fac) : Nat → List Bool → List Bool
  | 0, u => u
  | i + 1, u => useT kept i (useStep kept i u)
def use0 (n : Nat) (same : List Int) : List Bool := (List.replicate n false).set (same.getD (n - 1) 0).toNat true
/-- the rules that are left -/
def outT (used : List Bool) : Nat → List Fac → List Fac → List Int → List Fac
  | _, [], out, _ => out
  | i, r :: ks, out, at_ => if used.getD i false = true then outT used (i + 1) ks (out ++ [trR at_ r]) (at_.set i (out.length : Int)) else outT used (i + 1) ks out at_
def trimL (rs : List Fac) : List Fac :=
  if rs.length = 0 then [] else outT (useT (trK rs [] []).1 rs.length (use0 rs.length (trK rs [] []).2)) 0 (trK rs [] []).1 [] (List.replicate rs.length 0)

/-- what holds of the rules that are told by the first equal ones -/
structure TrI (kept : List Fac) (same : List Int) : Prop where
  len : same.length = kept.length
  s : ∀ j, j < kept.length → 0 ≤ same.getD j 0 ∧ same.getD j 0 ≤ (j : Int)
  k : ∀ (j : Nat) (r : Fac), kept[j]? = some r → (r.l.size = 0 ∧ 0 ≤ r.a ∧ r.a < (j : Int) ∧ 0 ≤ r.b ∧ r.b < (j : Int)) ∨ (∃ c, letB c = true ∧ r.l = ⟨#[c]⟩ ∧ r.a = 0 ∧ r.b = 0)
theorem TrI.nil : TrI [] [] := ⟨rfl, fun j h => absurd h (by simp), fun j r h => by simp at h⟩
theorem TrI.step {rs kept : List Fac} {same : List Int} (h : TrI kept same) (hwf : WF rs) {r : Fac} (hr : rs[kept.length]? = some r) : TrI (kept ++ [trR same r]) (same ++ [((kept.idxOf (trR same r) : Nat) : Int)]) := by
  have hl := h.len
  refine ⟨by simp [hl], fun j hj => ?_, fun j x hx => ?_⟩
  · simp only [List.length_append, List.length_singleton] at hj
    by_cases e : j < kept.length
    · rw [List.getD_eq_getElem?_getD, List.getElem?_append_left (by omega), ← List.getD_eq_getElem?_getD]; exact h.s j e
    · obtain rfl : j = kept.length := by omega
      rw [List.getD_eq_getElem?_getD, List.getElem?_append_right (by omega), hl, Nat.sub_self]
      simp only [List.getElem?_cons_zero, Option.getD_some]
      have := List.idxOf_le_length (a := trR same r) (l := kept)
      omega
  · by_cases e : j < kept.length
    · rw [List.getElem?_append_left e] at hx; exact h.k j x hx
    · have hj2 := (List.getElem?_eq_some_iff.1 hx).1
      simp only [List.length_append, List.length_singleton] at hj2
      obtain rfl : j = kept.length := by omega
      rw [List.getElem?_append_right (Nat.le_refl _), Nat.sub_self] at hx
      obtain rfl : trR same r = x := by simpa using hx
      rcases hwf _ r hr with ⟨h0, a0, a1, b0, b1⟩ | ⟨c, hc, hxl, ha, hb⟩
      · left
        unfold trR
        rw [if_pos h0]
        have s1 := h.s r.a.toNat (by omega)
        have s2 := h.s r.b.toNat (by omega)
        exact ⟨rfl, s1.1, by simp only; omega, s2.1, by simp only; omega⟩
      · right
        have h0 : r.l.size ≠ 0 := by rw [hxl]; show (1 : Nat) ≠ 0; omega
        unfold trR
        rw [if_neg h0]
        exact ⟨c, hc, hxl, ha, hb⟩
/-- the rules told, step by step -/
theorem trK_take (rs : List Fac) {k : Nat} {kept : List Fac} {same : List Int} {r : Fac} (hr : rs[k]? = some r) (H : trK (rs.drop k) kept same = trK rs [] []) : trK (rs.drop (k + 1)) (kept ++ [trR same r]) (same ++ [((kept.idxOf (trR same r) : Nat) : Int)]) = trK rs [] [] := by
  rw [← H, drop_cons hr]; rfl
theorem trK_all {rs : List Fac} {kept : List Fac} {same : List Int} {k : Nat} (hk : rs.length ≤ k) (H : trK (rs.drop k) kept same = trK rs [] []) : (kept, same) = trK rs [] [] := by
  rw [← H, List.drop_of_length_le hk]; rfl
theorem trK_I {rs : List Fac} (hwf : WF rs) : ∀ (k : Nat) (kept : List Fac) (same : List Int), TrI kept same → kept.length = k → k ≤ rs.length → TrI (trK (rs.drop k) kept same).1 (trK (rs.drop k) kept same).2 ∧ (trK (rs.drop k) kept same).1.length = rs.length := by
  intro k
  induction hd : rs.length - k generalizing k with
  | zero =>
    intro kept same h hk hle
    rw [List.drop_of_length_le (by omega)]
    exact ⟨h, by show kept.length = _; omega⟩
  | succ d ih =>
    intro kept same h hk hle
    have hr : rs[k]? = some (rs[k]'(by omega)) := List.getElem?_eq_getElem _
    rw [drop_cons hr]
    exact ih (k + 1) (by omega) _ _ (h.step hwf (by rw [hk]; exact hr)) (by simp [hk]) (by omega)
theorem idxOf_le {α : Type} [DecidableEq α] {x : α} : ∀ {l : List α} {j : Nat}, l[j]? = some x → l.idxOf x ≤ j
  | [], j, h => by simp at h
  | y :: l, 0, h => by
    obtain rfl : y = x := by simpa using h
    simp
  | y :: l, j + 1, h => by
    rw [List.idxOf_cons]
    by_cases e : y = x
    · subst e; simp
    · have := idxOf_le (l := l) (j := j) (x := x) (by simpa using h)
      rw [show (y == x) = false by simpa using e]
      show (bif false then 0 else l.idxOf x + 1) ≤ j + 1
      simp only [cond_false]
      omega
/-- the least number of an equal rule, looked for among those that are first ones -/
theorem first_eq {kept : List Fac} {same : List Int} (hs : ∀ (j : Nat) (x : Fac), kept[j]? = some x → same.getD j 0 = ((kept.idxOf x : Nat) : Int)) {j : Nat} {x : Fac} (hj : kept[j]? = some x) (h0 : ∀ i, i < j → kept[i]? ≠ some x) : same.getD j 0 = (j : Int) := by
  rw [hs j x hj]
  have hlt := (List.getElem?_eq_some_iff.1 hj).1
  have hm : x ∈ kept := List.mem_of_getElem? hj
  have h1 : kept.idxOf x < kept.length := List.idxOf_lt_length_iff.2 hm
  have h2 : kept[kept.idxOf x]? = some x := by rw [List.getElem?_eq_getElem h1, List.getElem_idxOf]
  rcases Nat.lt_trichotomy (kept.idxOf x) j with h | h | h
  · exact absurd h2 (h0 _ h)
  · rw [h]
  · exfalso
    have := idxOf_le hj
    omega
theorem idx_app1 {f y : Fac} {kept : List Fac} (h : f ∈ kept) : (kept ++ [y]).idxOf f = kept.idxOf f := by rw [List.idxOf_append, if_pos h]
theorem idx_app2 (y : Fac) (kept : List Fac) : (kept ++ [y]).idxOf y = kept.idxOf y := by
  rw [List.idxOf_append]
  by_cases h : y ∈ kept
  · rw [if_pos h]
  · rw [if_neg h, List.idxOf_eq_length h]; simp
/-- the map behind a rule that was known -/
theorem map_known {g : Fac → Option Value} {y : Fac} {kept : List Fac} (h : ∀ f, g f = if f ∈ kept then some (.int .i64 ((kept.idxOf f : Nat) : Int)) else none) (hy : y ∈ kept) (f : Fac) : g f = if f ∈ kept ++ [y] then some (.int .i64 (((kept ++ [y]).idxOf f : Nat) : Int)) else none := by
  rw [h f]
  by_cases hf : f ∈ kept
  · rw [if_pos hf, if_pos (List.mem_append_left _ hf), idx_app1 hf]
  · rw [if_neg hf, if_neg (by
      intro e
      rcases List.mem_append.1 e with e | e
      · exact hf e
      · rw [List.mem_singleton.1 e] at hf; exact hf hy)]
/-- and behind one that was not -/
theorem map_new {g : Fac → Option Value} {y : Fac} {kept : List Fac} (h : ∀ f, g f = if f ∈ kept then some (.int .i64 ((kept.idxOf f : Nat) : Int)) else none) (hy : y ∉ kept) (f : Fac) : (if f = y then some (.int .i64 (kept.length : Int)) else g f) = if f ∈ kept ++ [y] then some (.int .i64 (((kept ++ [y]).idxOf f : Nat) : Int)) else none := by
  by_cases hf : f = y
  · subst hf
    rw [if_pos rfl, if_pos (by simp), idx_app2, List.idxOf_eq_length hy]
  · rw [if_neg hf, h f]
    by_cases hk : f ∈ kept
    · rw [if_pos hk, if_pos (List.mem_append_left _ hk), idx_app1 hk]
    · rw [if_neg hk, if_neg (by
        intro e
        rcases List.mem_append.1 e with e | e
        · exact hk e
        · exact hf (List.mem_singleton.1 e))]
end Go.Proofs.Ytfanphhlagjkdaa


/-
  The letters of a grammar replaced: the plain part.
-/
namespace Go.Proofs.Ytfanphhlagjkdaa

/-- a rule with its numbers raised -/
def rsF (by_ : Int) (r : Fac) : Fac := if r.l.size = 0 then ⟨r.l, r.a + by_, r.b + by_⟩ else r
def raiseL (by_ : Int) (rs : List Fac) : List Fac := rs.map (rsF by_)
theorem raiseL_len (b : Int) (rs : List Fac) : (raiseL b rs).length = rs.length := by simp [raiseL]
/-- is a letter a rule? -/
def usedL (rs : List Fac) (u : UInt8) : Bool := rs.any fun r => decide (r.l = ⟨#[u]⟩)
theorem usedL_mem {rs : List Fac} (hwf : WF rs) (u : UInt8) : usedL rs u = decide (ruleC u ∈ rs) := by
  rw [Bool.eq_iff_iff]
  unfold usedL
  simp only [List.any_eq_true, decide_eq_true_eq]
  constructor
  · rintro ⟨r, hr, h⟩
    obtain ⟨k, hk⟩ := List.mem_iff_getElem?.1 hr
    rcases hwf k r hk with ⟨h0, _⟩ | ⟨c, _, hl, ha, hb⟩
    · rw [h] at h0; exact absurd h0 (show ¬ (1 : Nat) = 0 by omega)
    · have : r = ruleC u := by
        cases r; simp only at h ha hb; subst h ha hb; rfl
      rw [← this]; exact hr
  · intro h; exact ⟨_, h, rfl⟩
def lb (k : Nat) : UInt8 := UInt8.ofNat (97 + k)
theorem lb_num {k : Nat} (h : k < 4) : ((lb k).toNat : Int) = 97 + k := by unfold lb; simp; omega
def mlStep (rs : List Fac) (k : Nat) (w : ByteArray) (s : List Fac × List Int) : List Fac × List Int :=
  if w.size ≠ 0 ∧ usedL rs (lb k) = true then (s.1 ++ raiseL s.1.length (plainL w.data.toList), s.2.set k (((s.1.length + (plainL w.data.toList).length : Nat) : Int) - 1)) else s
def mlGo (rs : List Fac) : Nat → List ByteArray → List Fac × List Int → List Fac × List Int
  | _, [], s => s
  | k, w :: ws, s => mlGo rs (k + 1) ws (mlStep rs k w s)
def mrStep (st : List Int) (r : Fac) (s : List Fac × List Int) : List Fac × List Int :=
  if r.l.size = 0 then
    (if s.2.getD r.a.toNat 0 < 0 then (s.1, s.2 ++ [s.2.getD r.b.toNat 0])
     else if s.2.getD r.b.toNat 0 < 0 then (s.1, s.2 ++ [s.2.getD r.a.toNat 0])
     else (s.1 ++ [⟨⟨#[]⟩, s.2.getD r.a.toNat 0, s.2.getD r.b.toNat 0⟩], s.2 ++ [(s.1.length : Int)]))
  else (s.1, s.2 ++ [st.getD (letN r.l) 0])
def mrGo (st : List Int) : List Fac → List Fac × List Int → List Fac × List Int
  | [], s => s
  | r :: rs, s => mrGo st rs (mrStep st r s)
def mapS1 (rs : List Fac) (ws : List ByteArray) : List Fac × List Int := mlGo rs 0 ws ([], [-1, -1, -1, -1])
def mapS2 (rs : List Fac) (ws : List ByteArray) : List Fac × List Int := mrGo (mapS1 rs ws).2 rs ((mapS1 rs ws).1, [])

theorem wf_nil : WF [] := fun k r h => by simp at h
theorem wf_snoc {rs : List Fac} (h : WF rs) {a b : Int} (ha : 0 ≤ a ∧ a < rs.length) (hb : 0 ≤ b ∧ b < rs.length) : WF (rs ++ [⟨⟨#[]⟩, a, b⟩]) := by
  intro k r hr
  by_cases hk : k < rs.length
  · rw [List.getElem?_append_left hk] at hr; exact h k r hr
  · rw [List.getElem?_append_right (by omega)] at hr
    have hk' : k = rs.length := by
      have := (List.getElem?_eq_some_iff.1 hr).1
      simp only [List.length_cons, List.length_nil] at this; omega
    subst hk'
    simp at hr
    subst hr
    exact .inl ⟨rfl, ha.1, ha.2, hb.1, hb.2⟩
theorem wf_take {rs : List Fac} (h : WF rs) (n : Nat) : WF (rs.take n) := fun k r hr => by
  rw [List.getElem?_take] at hr
  split at hr
  · exact h k r hr
  · cases hr
theorem wf_raise {xs ys : List Fac} (hx : WF xs) (hy : WF ys) : WF (xs ++ raiseL xs.length ys) := by
  intro k r hr
  by_cases hk : k < xs.length
  · rw [List.getElem?_append_left hk] at hr; exact hx k r hr
  · rw [List.getElem?_append_right (by omega)] at hr
    unfold raiseL at hr
    rw [List.getElem?_map] at hr
    obtain ⟨y, hy1, rfl⟩ := Option.map_eq_some_iff.1 hr
    rcases hy _ y hy1 with ⟨h0, a0, a1, b0, b1⟩ | ⟨c, hc, hl, ha, hb⟩
    · unfold rsF
      rw [if_pos h0]
      exact .inl ⟨h0, by show 0 ≤ y.a + _; omega, by show y.a + _ < _; omega, by show 0 ≤ y.b + _; omega, by show y.b + _ < _; omega⟩
    · unfold rsF
      rw [if_neg (by rw [hl]; show ¬ (1 : Nat) = 0; omega)]
      exact .inr ⟨c, hc, hl, ha, hb⟩
theorem wf_letters (ks : List UInt8) (h : ∀ c ∈ ks, letB c = true) : WF (ks.map ruleC) := fun k r hr => by
  rw [List.getElem?_map] at hr
  obtain ⟨c, hc, rfl⟩ := Option.map_eq_some_iff.1 hr
  exact .inr ⟨c, h c (List.mem_of_getElem? hc), rfl, rfl, rfl⟩
theorem ks_letB {w : List UInt8} {c : UInt8} (h : c ∈ ksP w) : letB c = true := by
  unfold ksP at h
  have := (List.mem_filter.1 h).1
  simp only [List.mem_cons, List.not_mem_nil, or_false] at this
  rcases this with rfl | rfl | rfl | rfl <;> rfl
theorem wf_pairs (w : List UInt8) : ∀ (cs : List UInt8) (b : Int) (xs : List Fac), WF xs → (∀ c ∈ cs, 0 ≤ atP w c ∧ atP w c < xs.length) → 0 ≤ b → b < xs.length → WF (xs ++ pairsP w cs b xs.length)
  | [], b, xs, h, _, _, _ => by simpa [pairsP] using h
  | c :: cs, b, xs, h, hc, hb0, hb1 => by
    have h1 := hc c (by simp)
    have h2 := wf_snoc h ⟨hb0, hb1⟩ h1
    have h3 := wf_pairs w cs (xs.length : Int) (xs ++ [⟨⟨#[]⟩, b, atP w c⟩]) h2 (fun c' hc' => by have := hc c' (by simp [hc']); simp only [List.length_append, List.length_singleton]; omega) (by omega) (by simp only [List.length_append, List.length_singleton]; omega)
    simp only [List.length_append, List.length_singleton, List.append_assoc] at h3
    exact h3
theorem wf_plain {w : List UInt8} (hl : w.all letB = true) : WF (plainL w) := by
  unfold plainL
  split
  · exact wf_nil
  · rename_i c cs
    have hm : ∀ c' ∈ c :: cs, letB c' = true := by simpa using hl
    have hlen : (lettersP (c :: cs)).length = (ksP (c :: cs)).length := by simp [lettersP]
    rw [← hlen]
    have := atP_lt (w := c :: cs) (c := c) (by simp) (hm c (by simp))
    exact wf_pairs _ cs _ _ (wf_letters _ fun _ h => ks_letB h) (fun c' hc' => by rw [hlen]; exact atP_lt (by simp [hc']) (hm c' (by simp [hc']))) this.1 (by rw [hlen]; exact this.2)
theorem plainL_pos {w : List UInt8} (h : w ≠ []) (hl : w.all letB = true) : 0 < (plainL w).length := by
  unfold plainL
  split
  · exact absurd rfl h
  · rename_i c cs
    have hc : letB c = true := by simp at hl; exact hl.1
    have : 0 < (lettersP (c :: cs)).length := by
      rw [List.length_pos_iff_exists_mem]
      exact ⟨ruleC c, List.mem_map.2 ⟨c, mem_ks (by simp) hc, rfl⟩⟩
    simp only [List.length_append]; omega
/-- what holds of the letters' rules and numbers -/
structure MlI (s : List Fac × List Int) (k : Nat) : Prop where
  wf : WF s.1
  st : s.2.length = 4
  b : ∀ i, i < 4 → -1 ≤ s.2.getD i 0 ∧ s.2.getD i 0 < s.1.length
  n : s.1.length ≤ 2004 * k
theorem okW_let {s : ByteArray} (h : okW s = true) : s.data.toList.all letB = true ∧ s.size ≤ 2000 := by
  unfold okW at h; simpa [and_comm] using h
theorem MlI.step {rs : List Fac} {s : List Fac × List Int} {k : Nat} (h : MlI s k) (hk : k < 4) {w : ByteArray} (hw : okW w = true) : MlI (mlStep rs k w s) (k + 1) := by
  unfold mlStep
  split
  · rename_i hc
    obtain ⟨hl, hsz⟩ := okW_let hw
    have h1 := plainL_len w.data.toList
    have h2 := plainL_pos (w := w.data.toList) (fun e => hc.1 (by rw [← byte_len, e]; rfl)) hl
    rw [byte_len] at h1
    refine ⟨wf_raise h.wf (wf_plain hl), by simpa using h.st, fun i hi => ?_, ?_⟩
    · have := h.b i hi
      simp only [List.length_append, raiseL_len]
      rw [List.getD_eq_getElem?_getD, List.getElem?_set]
      split
      · rw [if_pos (by rw [h.st]; omega)]; simp only [Option.getD_some]; omega
      · rw [← List.getD_eq_getElem?_getD]; omega
    · have := h.n
      simp only [List.length_append, raiseL_len]; omega
  · exact ⟨h.wf, h.st, h.b, by have := h.n; omega⟩
theorem MlI.nil : MlI ([], [-1, -1, -1, -1]) 0 := ⟨wf_nil, rfl, fun i hi => by
  rcases i with _ | _ | _ | _ | i
  · decide
  · decide
  · decide
  · decide
  · omega, by simp⟩
theorem MlI.go {rs : List Fac} : ∀ (ws : List ByteArray) (k : Nat) (s : List Fac × List Int), MlI s k → k + ws.length ≤ 4 → (∀ w ∈ ws, okW w = true) → MlI (mlGo rs k ws s) (k + ws.length)
  | [], _, _, h, _, _ => h
  | w :: ws, k, s, h, hk, hw => by
    simp only [List.length_cons] at hk ⊢
    have := MlI.go (rs := rs) ws (k + 1) (mlStep rs k w s) (h.step (by omega) (hw w (by simp))) (by omega) (fun x hx => hw x (by simp [hx]))
    rw [show k + (ws.length + 1) = k + 1 + ws.length by omega]
    exact this
/-- what holds of the rules that stand for others -/
structure MrI (s : List Fac × List Int) (n k : Nat) : Prop where
  wf : WF s.1
  st : s.2.length = k
  b : ∀ i, i < k → -1 ≤ s.2.getD i 0 ∧ s.2.getD i 0 < s.1.length
  n : s.1.length ≤ n + k
theorem getD_snoc (xs : List Int) (x : Int) (i : Nat) : (xs ++ [x]).getD i 0 = if i < xs.length then xs.getD i 0 else if i = xs.length then x else 0 := by
  rw [List.getD_eq_getElem?_getD]
  split
  · rw [List.getElem?_append_left (by omega), ← List.getD_eq_getElem?_getD]
  · split
    · rename_i h; subst h; simp
    · rw [List.getElem?_eq_none (by simp; omega)]; rfl
theorem MrI.step {st : List Int} {s : List Fac × List Int} {n k : Nat} (h : MrI s n k) (hst : ∀ i, i < 4 → -1 ≤ st.getD i 0 ∧ st.getD i 0 < s.1.length) {r : Fac}
    (hr : (r.l.size = 0 ∧ 0 ≤ r.a ∧ r.a < k ∧ 0 ≤ r.b ∧ r.b < k) ∨ (∃ c, letB c = true ∧ r.l = ⟨#[c]⟩ ∧ r.a = 0 ∧ r.b = 0)) : MrI (mrStep st r s) n (k + 1) ∧ s.1.length ≤ (mrStep st r s).1.length := by
  have snoc : ∀ (out : List Fac) (x : Int), s.1.length ≤ out.length → -1 ≤ x ∧ x < out.length → ∀ i, i < k + 1 → -1 ≤ (s.2 ++ [x]).getD i 0 ∧ (s.2 ++ [x]).getD i 0 < out.length := by
    intro out x hle hx i hi
    rw [getD_snoc, h.st]
    split
    · have := h.b i (by assumption); omega
    · split
      · exact hx
      · omega
  unfold mrStep
  rcases hr with ⟨h0, a0, a1, b0, b1⟩ | ⟨c, hc, hl, ha, hb⟩
  · rw [if_pos h0]
    have hA := h.b r.a.toNat (by omega)
    have hB := h.b r.b.toNat (by omega)
    split
    · exact ⟨⟨h.wf, by simp [h.st], snoc _ _ (Nat.le_refl _) hB, Nat.le_trans h.n (by omega)⟩, Nat.le_refl _⟩
    · split
      · exact ⟨⟨h.wf, by simp [h.st], snoc _ _ (Nat.le_refl _) hA, Nat.le_trans h.n (by omega)⟩, Nat.le_refl _⟩
      · refine ⟨⟨wf_snoc h.wf ⟨by omega, hA.2⟩ ⟨by omega, hB.2⟩, by simp [h.st], snoc _ _ (by simp) (by simp; omega), by have := h.n; simp; omega⟩, by simp⟩
  · rw [if_neg (by rw [hl]; show ¬ (1 : Nat) = 0; omega)]
    have hq : letN r.l < 4 := by rw [hl]; exact letN_lt (s := ⟨#[c]⟩) hc
    exact ⟨⟨h.wf, by simp [h.st], snoc _ _ (Nat.le_refl _) (hst _ hq), Nat.le_trans h.n (by omega)⟩, Nat.le_refl _⟩
theorem mrGo_snoc (st : List Int) : ∀ (rs : List Fac) (r : Fac) (s : List Fac × List Int), mrGo st (rs ++ [r]) s = mrStep st r (mrGo st rs s)
  | [], _, _ => rfl
  | x :: rs, r, s => mrGo_snoc st rs r (mrStep st x s)
theorem take_succ_at {α : Type} {rs : List α} {k : Nat} {r : α} (h : rs[k]? = some r) : rs.take (k + 1) = rs.take k ++ [r] := by
  rw [List.take_add_one, h]; rfl
/-- the rules up to one -/
theorem mapS2_I {rs : List Fac} (hwf : WF rs) {s : List Fac × List Int} {n : Nat} (h : MrI (s.1, []) n 0) (hst : ∀ i, i < 4 → -1 ≤ s.2.getD i 0 ∧ s.2.getD i 0 < s.1.length) :
    ∀ k, k ≤ rs.length → MrI (mrGo s.2 (rs.take k) (s.1, [])) n k ∧ s.1.length ≤ (mrGo s.2 (rs.take k) (s.1, [])).1.length
  | 0, _ => ⟨h, Nat.le_refl _⟩
  | k + 1, hk => by
    have ⟨h1, h2⟩ := mapS2_I hwf h hst k (by omega)
    have hr : rs[k]? = some rs[k] := List.getElem?_eq_getElem (by omega)
    rw [take_succ_at hr, mrGo_snoc]
    have ⟨h3, h4⟩ := h1.step (st := s.2) (fun i hi => by have := hst i hi; omega) (hwf k _ hr)
    exact ⟨h3, by omega⟩
end Go.Proofs.Ytfanphhlagjkdaa


/-
  A grammar trimmed: it is valid where the grammar was, and its word is the grammar's.
-/
namespace Go.Proofs.Ytfanphhlagjkdaa

section
variable {α : Type} (d : α) (F : Nat → α) (G : α → α → Fac → α)
theorem full_snoc (xs : List Fac) (y : Fac) : full d F G (xs ++ [y]) = full d F G xs ++ [fStep d F G (full d F G xs) y] := foldG_snoc d F G xs y []
theorem full_old (xs : List Fac) (y : Fac) {p : Nat} (h : p < xs.length) : (full d F G (xs ++ [y])).getD p d = (full d F G xs).getD p d := by
  rw [full_snoc, List.getD_eq_getElem?_getD, List.getElem?_append_left (by rw [full_len]; exact h), ← List.getD_eq_getElem?_getD]
theorem full_new (xs : List Fac) (y : Fac) : (full d F G (xs ++ [y])).getD xs.length d = fStep d F G (full d F G xs) y := by
  rw [full_snoc, List.getD_eq_getElem?_getD, List.getElem?_append_right (by rw [full_len]; exact Nat.le_refl _), full_len, Nat.sub_self]; rfl
/-- equal rules have equal values -/
theorem full_same {rs : List Fac} (hwf : WF rs) {i j : Nat} {y : Fac} (hi : rs[i]? = some y) (hj : rs[j]? = some y) : (full d F G rs).getD i d = (full d F G rs).getD j d := by
  by_cases h0 : y.l.size = 0
  · rw [full_pair d F G hwf hi h0, full_pair d F G hwf hj h0]
  · rw [full_let d F G hi h0, full_let d F G hj h0]
end

/-- what the first round leaves -/
structure TkI (rs kept : List Fac) (same : List Int) (k : Nat) : Prop where
  lk : kept.length = k
  ls : same.length = k
  r : ∀ (i : Nat) (r : Fac), i < k → rs[i]? = some r → kept[i]? = some (trR same r)
  s : ∀ i, i < k → ∃ s : Nat, same.getD i 0 = (s : Int) ∧ s ≤ i ∧ kept[s]? = kept[i]?
theorem trR_more {same : List Int} (x : Int) {r : Fac} {i : Nat} (hr : (r.l.size = 0 ∧ 0 ≤ r.a ∧ r.a < (i : Int) ∧ 0 ≤ r.b ∧ r.b < (i : Int)) ∨ (∃ c, letB c = true ∧ r.l = ⟨#[c]⟩ ∧ r.a = 0 ∧ r.b = 0)) (hi : i ≤ same.length) : trR (same ++ [x]) r = trR same r := by
  unfold trR
  rcases hr with ⟨h0, a0, a1, b0, b1⟩ | ⟨c, _, hl, _⟩
  · rw [if_pos h0, if_pos h0, getD_snoc, if_pos (by omega), getD_snoc, if_pos (by omega)]
  · rw [if_neg (by rw [hl]; show ¬ (1 : Nat) = 0; omega), if_neg (by rw [hl]; show ¬ (1 : Nat) = 0; omega)]
theorem TkI.step {rs kept : List Fac} {same : List Int} {k : Nat} (h : TkI rs kept same k) (hwf : WF rs) {r : Fac} (hr : rs[k]? = some r) : TkI rs (kept ++ [trR same r]) (same ++ [((kept.idxOf (trR same r) : Nat) : Int)]) (k + 1) := by
  have hlk := h.lk
  have hls := h.ls
  refine ⟨by simp [hlk], by simp [hls], fun i x hi hx => ?_, fun i hi => ?_⟩
  · by_cases e : i < k
    · rw [List.getElem?_append_left (by omega), h.r i x e hx, trR_more _ (hwf i x hx) (by omega)]
    · obtain rfl : i = k := by omega
      obtain rfl : r = x := by rw [hr] at hx; exact Option.some.inj hx
      rw [List.getElem?_append_right (by omega), hlk, Nat.sub_self, trR_more _ (hwf i r hr) (by omega)]; rfl
  · by_cases e : i < k
    · obtain ⟨s, h1, h2, h3⟩ := h.s i e
      refine ⟨s, ?_, h2, ?_⟩
      · rw [getD_snoc, if_pos (by omega)]; exact h1
      · rw [List.getElem?_append_left (by omega), List.getElem?_append_left (by omega)]; exact h3
    · obtain rfl : i = k := by omega
      have hle := List.idxOf_le_length (a := trR same r) (l := kept)
      refine ⟨kept.idxOf (trR same r), ?_, by omega, ?_⟩
      · rw [getD_snoc, if_neg (by omega), if_pos (by omega)]
      · by_cases e2 : kept.idxOf (trR same r) < kept.length
        · rw [List.getElem?_append_left e2, List.getElem?_append_right (by omega), hlk, Nat.sub_self, List.getElem?_eq_getElem e2, List.getElem_idxOf]; rfl
        · rw [show kept.idxOf (trR same r) = i by omega]
theorem trK_tk {rs : List Fac} (hwf : WF rs) : ∀ (n k : Nat) (kept : List Fac) (same : List Int), TkI rs kept same k → k + n = rs.length → TkI rs (trK (rs.drop k) kept same).1 (trK (rs.drop k) kept same).2 rs.length
  | 0, k, kept, same, h, hk => by
    rw [List.drop_of_length_le (by omega)]
    have : k = rs.length := by omega
    rw [← this]; exact h
  | n + 1, k, kept, same, h, hk => by
    have hr : rs[k]? = some (rs[k]'(by omega)) := List.getElem?_eq_getElem _
    rw [drop_cons hr]
    exact trK_tk hwf n (k + 1) _ _ (h.step hwf hr) (by omega)
theorem tk_all {rs : List Fac} (hwf : WF rs) : TkI rs (trK rs [] []).1 (trK rs [] []).2 rs.length ∧ WF (trK rs [] []).1 := by
  refine ⟨trK_tk hwf rs.length 0 [] [] ⟨rfl, rfl, fun i r h => absurd h (by omega), fun i h => absurd h (by omega)⟩ (by omega), ?_⟩
  exact (trK_I hwf 0 [] [] TrI.nil rfl (by omega)).1.k
section
variable {α : Type} (d : α) (F : Nat → α) (G : α → α → Fac → α) (hG : ∀ a b r r', G a b r = G a b r')
include hG
/-- the rules told by the first equal ones have the same values -/
theorem kept_val {rs kept : List Fac} {same : List Int} (hwf : WF rs) (h : TkI rs kept same rs.length) (hwk : WF kept) : ∀ i, i < rs.length → (full d F G kept).getD i d = (full d F G rs).getD i d := by
  intro i
  induction i using Nat.strongRecOn with
  | ind i ih =>
    intro hi
    have hr : rs[i]? = some (rs[i]'hi) := List.getElem?_eq_getElem _
    have hk := h.r i _ hi hr
    have val : ∀ j, j < i → (full d F G kept).getD (same.getD j 0).toNat d = (full d F G rs).getD j d := fun j hj => by
      obtain ⟨s, h1, h2, h3⟩ := h.s j (by omega)
      rw [h1, Int.toNat_natCast, ← ih j hj (by omega)]
      have hj' : kept[j]? = some (kept[j]'(by rw [h.lk]; omega)) := List.getElem?_eq_getElem _
      exact full_same d F G hwk (h3.trans hj') hj'
    rcases hwf i _ hr with ⟨h0, a0, a1, b0, b1⟩ | ⟨c, hc, hl, _⟩
    · unfold trR at hk
      rw [if_pos h0] at hk
      rw [full_pair d F G hwk hk rfl, full_pair d F G hwf hr h0]
      show G ((full d F G kept).getD (same.getD _ 0).toNat d) ((full d F G kept).getD (same.getD _ 0).toNat d) _ = _
      rw [val _ (by omega), val _ (by omega)]
      exact hG _ _ _ _
    · have h0 : (rs[i]'hi).l.size ≠ 0 := by rw [hl]; show (1 : Nat) ≠ 0; omega
      unfold trR at hk
      rw [if_neg h0] at hk
      rw [full_let d F G hk h0, full_let d F G hr h0]
end

/-- which rules are used -/
theorem useStep_len (kept : List Fac) (i : Nat) (u : List Bool) : (useStep kept i u).length = u.length := by unfold useStep; split <;> simp
theorem set_getD {u : List Bool} {i j : Nat} (hi : i < u.length) : (u.set i true).getD j false = if i = j then true else u.getD j false := by
  rw [List.getD_eq_getElem?_getD, List.getElem?_set]
  split
  · rename_i h; subst h; simp [hi]
  · rw [← List.getD_eq_getElem?_getD]
theorem useT_I {kept : List Fac} (hwk : WF kept) : ∀ (k : Nat) (u : List Bool), k ≤ kept.length → u.length = kept.length →
    (useT kept k u).length = kept.length ∧ (∀ j, k ≤ j → (useT kept k u).getD j false = u.getD j false) ∧ (∀ j, u.getD j false = true → (useT kept k u).getD j false = true) ∧
    (∀ (i : Nat) (r : Fac), i < k → kept[i]? = some r → r.l.size = 0 → (useT kept k u).getD i false = true → (useT kept k u).getD r.a.toNat false = true ∧ (useT kept k u).getD r.b.toNat false = true) ∧
    (∀ s, (∀ j, s < j → u.getD j false = false) → ∀ j, s < j → (useT kept k u).getD j false = false)
  | 0, u, _, hl => ⟨hl, fun _ _ => rfl, fun _ h => h, fun i r h => absurd h (by omega), fun s h => h⟩
  | k + 1, u, hk, hl => by
    have hr : kept[k]? = some (kept[k]'(by omega)) := List.getElem?_eq_getElem _
    have hd : kept.getD k default = kept[k]'(by omega) := by rw [List.getD_eq_getElem?_getD, hr]; rfl
    obtain ⟨i1, i2, i3, i4, i5⟩ := useT_I hwk k (useStep kept k u) (by omega) (by rw [useStep_len, hl])
    have hst : ∀ j, (useStep kept k u).getD j false = if (u.getD k false = true ∧ (kept[k]'(by omega)).l.size = 0) ∧ (j = (kept[k]'(by omega)).a.toNat ∨ j = (kept[k]'(by omega)).b.toNat) then true else u.getD j false := by
      intro j
      unfold useStep
      rw [hd]
      by_cases hc : u.getD k false = true ∧ (kept[k]'(by omega)).l.size = 0
      · rw [if_pos hc]
        rcases hwk k _ hr with ⟨_, a0, a1, b0, b1⟩ | ⟨c, _, hl', _⟩
        · rw [set_getD (by simp; omega), set_getD (by omega)]
          by_cases h1 : j = (kept[k]'(by omega)).b.toNat
          · rw [if_pos h1.symm, if_pos ⟨hc, .inr h1⟩]
          · rw [if_neg (fun e => h1 e.symm)]
            by_cases h2 : j = (kept[k]'(by omega)).a.toNat
            · rw [if_pos h2.symm, if_pos ⟨hc, .inl h2⟩]
            · rw [if_neg (fun e => h2 e.symm), if_neg (fun e => by rcases e.2 with e | e; exact h2 e; exact h1 e)]
        · have := hc.2; rw [hl'] at this; exact absurd this (show ¬ (1 : Nat) = 0 by omega)
      · rw [if_neg hc, if_neg (fun e => hc e.1)]
    have hab : (u.getD k false = true ∧ (kept[k]'(by omega)).l.size = 0) → (kept[k]'(by omega)).a.toNat < k ∧ (kept[k]'(by omega)).b.toNat < k := fun hc => by
      rcases hwk k _ hr with ⟨_, a0, a1, b0, b1⟩ | ⟨c, _, hl', _⟩
      · omega
      · have := hc.2; rw [hl'] at this; exact absurd this (show ¬ (1 : Nat) = 0 by omega)
    have keep : ∀ j, k ≤ j → (useStep kept k u).getD j false = u.getD j false := fun j hj => by
      rw [hst j, if_neg]
      rintro ⟨hc, h | h⟩
      · have := (hab hc).1; omega
      · have := (hab hc).2; omega
    refine ⟨i1, fun j hj => (i2 j (by omega)).trans (keep j (by omega)), fun j hj => i3 j (by rw [hst j]; split; rfl; exact hj), fun i r hi hir h0 hu => ?_, fun s hs j hj => ?_⟩
    · by_cases e : i < k
      · exact i4 i r e hir h0 hu
      · obtain rfl : i = k := by omega
        have hxr : kept[i]'(by omega) = r := by rw [hr] at hir; exact Option.some.inj hir
        rw [← hxr] at h0 ⊢
        have h1 : u.getD i false = true := by
          have := hu
          show _
          rw [show useT kept (i + 1) u = useT kept i (useStep kept i u) from rfl, i2 i (Nat.le_refl _), keep i (Nat.le_refl _)] at this
          exact this
        exact ⟨i3 _ (by rw [hst _, if_pos ⟨⟨h1, h0⟩, .inl rfl⟩]), i3 _ (by rw [hst _, if_pos ⟨⟨h1, h0⟩, .inr rfl⟩])⟩
    · refine i5 s (fun j' hj' => ?_) j hj
      rw [hst j']
      split
      · rename_i hc
        exfalso
        have h1 := hab hc.1
        have h2 : ¬ s < k := fun h => by have := hs k h; rw [hc.1.1] at this; cases this
        rcases hc.2 with h | h <;> omega
      · exact hs j' hj'

section
variable {α : Type} (d : α) (F : Nat → α) (G : α → α → Fac → α) (hG : ∀ a b r r', G a b r = G a b r')
/-- the rules that are left, under way -/
structure OutI (kept : List Fac) (used : List Bool) (i : Nat) (out : List Fac) (at_ : List Int) : Prop where
  wf : WF out
  la : at_.length = kept.length
  v : ∀ j, j < i → used.getD j false = true → ∃ p : Nat, at_.getD j 0 = (p : Int) ∧ p < out.length ∧ (full d F G out).getD p d = (full d F G kept).getD j d
  p : ∀ p, p < out.length → ∃ j, j < kept.length ∧ (full d F G out).getD p d = (full d F G kept).getD j d
  z : ∀ s, s < i → used.getD s false = true → (∀ j, s < j → used.getD j false = false) → 0 < out.length ∧ at_.getD s 0 = (out.length : Int) - 1
include hG
theorem outT_I {kept : List Fac} {used : List Bool} (hwk : WF kept) (hu : ∀ (i : Nat) (r : Fac), kept[i]? = some r → r.l.size = 0 → used.getD i false = true → used.getD r.a.toNat false = true ∧ used.getD r.b.toNat false = true) :
    ∀ (n i : Nat) (out : List Fac) (at_ : List Int), i + n = kept.length → OutI d F G kept used i out at_ → ∃ at2, OutI d F G kept used kept.length (outT used i (kept.drop i) out at_) at2
  | 0, i, out, at_, hi, h => by
    rw [List.drop_of_length_le (by omega)]
    have : i = kept.length := by omega
    subst this
    exact ⟨at_, h⟩
  | n + 1, i, out, at_, hi, h => by
    have hr : kept[i]? = some (kept[i]'(by omega)) := List.getElem?_eq_getElem _
    rw [drop_cons hr, outT]
    by_cases hui : used.getD i false = true
    · rw [if_pos hui]
      refine outT_I hwk hu n (i + 1) _ _ (by omega) ?_
      have hval : WF (out ++ [trR at_ (kept[i]'(by omega))]) ∧ fStep d F G (full d F G out) (trR at_ (kept[i]'(by omega))) = (full d F G kept).getD i d := by
        rcases hwk i _ hr with ⟨h0, a0, a1, b0, b1⟩ | ⟨c, hc, hl, ha, hb⟩
        · obtain ⟨ua, ub⟩ := hu i _ hr h0 hui
          obtain ⟨p, p1, p2, p3⟩ := h.v _ (by omega) ua
          obtain ⟨q, q1, q2, q3⟩ := h.v _ (by omega) ub
          have e : trR at_ (kept[i]'(by omega)) = ⟨⟨#[]⟩, (p : Int), (q : Int)⟩ := by unfold trR; rw [if_pos h0, p1, q1]
          rw [e]
          refine ⟨wf_snoc h.wf ⟨by omega, by omega⟩ ⟨by omega, by omega⟩, ?_⟩
          rw [full_pair d F G hwk hr h0, ← p3, ← q3]
          show (if (0 : Nat) = 0 then G ((full d F G out).getD (p : Int).toNat d) ((full d F G out).getD (q : Int).toNat d) _ else _) = _
          rw [if_pos rfl, Int.toNat_natCast, Int.toNat_natCast]
          exact hG _ _ _ _
        · have h0 : (kept[i]'(by omega)).l.size ≠ 0 := by rw [hl]; show (1 : Nat) ≠ 0; omega
          have e : trR at_ (kept[i]'(by omega)) = kept[i]'(by omega) := by unfold trR; rw [if_neg h0]
          rw [e, full_let d F G hr h0]
          refine ⟨fun k r hk => ?_, by unfold fStep; rw [if_neg h0]⟩
          by_cases hlt : k < out.length
          · rw [List.getElem?_append_left hlt] at hk; exact h.wf k r hk
          · rw [List.getElem?_append_right (by omega)] at hk
            have : r = kept[i]'(by omega) := by
              have h2 := (List.getElem?_eq_some_iff.1 hk).1
              simp only [List.length_cons, List.length_nil] at h2
              rw [show k - out.length = 0 by omega] at hk
              exact (Option.some.inj hk).symm
            subst this
            exact .inr ⟨c, hc, hl, ha, hb⟩
      refine ⟨hval.1, by simp [h.la], fun j hj hj2 => ?_, fun p hp => ?_, fun s hs hs2 hs3 => ?_⟩
      · by_cases e : j = i
        · subst e
          refine ⟨out.length, ?_, by simp, ?_⟩
          · rw [List.getD_eq_getElem?_getD, List.getElem?_set_self (by rw [h.la]; omega)]; rfl
          · rw [full_new, hval.2]
        · obtain ⟨p, p1, p2, p3⟩ := h.v j (by omega) hj2
          refine ⟨p, ?_, by simp; omega, ?_⟩
          · rw [List.getD_eq_getElem?_getD, List.getElem?_set_ne (fun e' => e e'.symm), ← List.getD_eq_getElem?_getD]; exact p1
          · rw [full_old d F G _ _ p2]; exact p3
      · simp only [List.length_append, List.length_singleton] at hp
        by_cases e : p < out.length
        · obtain ⟨j, j1, j2⟩ := h.p p e
          exact ⟨j, j1, by rw [full_old d F G _ _ e]; exact j2⟩
        · obtain rfl : p = out.length := by omega
          exact ⟨i, by omega, by rw [full_new, hval.2]⟩
      · by_cases e : s = i
        · subst e
          refine ⟨by simp, ?_⟩
          rw [List.getD_eq_getElem?_getD, List.getElem?_set_self (by rw [h.la]; omega)]
          simp
        · exfalso
          have := hs3 i (by omega)
          rw [hui] at this; cases this
    · rw [if_neg hui]
      refine outT_I hwk hu n (i + 1) _ _ (by omega) ⟨h.wf, h.la, fun j hj hj2 => ?_, h.p, fun s hs hs2 hs3 => ?_⟩
      · by_cases e : j = i
        · subst e; exact absurd hj2 hui
        · exact h.v j (by omega) hj2
      · by_cases e : s = i
        · subst e; exact absurd hs2 hui
        · exact h.z s (by omega) hs2 hs3
/-- the last value, and where each value comes from -/
theorem trim_val {rs : List Fac} (hwf : WF rs) (h0 : 0 < rs.length) : WF (trimL rs) ∧ 0 < (trimL rs).length ∧ (full d F G (trimL rs)).getD ((trimL rs).length - 1) d = (full d F G rs).getD (rs.length - 1) d ∧
    ∀ p, p < (trimL rs).length → ∃ j, j < rs.length ∧ (full d F G (trimL rs)).getD p d = (full d F G rs).getD j d := by
  obtain ⟨hT, hwk⟩ := tk_all hwf
  have hkv := kept_val d F G hG hwf hT hwk
  have htr : trimL rs = outT (useT (trK rs [] []).1 rs.length (use0 rs.length (trK rs [] []).2)) 0 (trK rs [] []).1 [] (List.replicate rs.length 0) := by unfold trimL; rw [if_neg (by omega)]
  rw [htr]
  generalize (trK rs [] []).1 = kept at *
  generalize (trK rs [] []).2 = same at *
  obtain ⟨s, h1, h2, h3⟩ := hT.s (rs.length - 1) (by omega)
  have hlk := hT.lk
  have hu0 : ∀ j, (use0 rs.length same).getD j false = decide (j = s) := fun j => by
    unfold use0
    rw [h1, Int.toNat_natCast, set_getD (by simp; omega)]
    by_cases e : s = j
    · rw [if_pos e]; simp [e]
    · rw [if_neg e, List.getD_eq_getElem?_getD, List.getElem?_replicate]
      have : decide (j = s) = false := by simp; exact fun h => e h.symm
      rw [this]; split <;> rfl
  obtain ⟨u1, u2, u3, u4, u5⟩ := useT_I hwk rs.length (use0 rs.length same) (by omega) (by unfold use0; simp [hlk])
  have hus : (useT kept rs.length (use0 rs.length same)).getD s false = true := u3 s (by rw [hu0]; simp)
  have hul : ∀ j, s < j → (useT kept rs.length (use0 rs.length same)).getD j false = false := u5 s (fun j hj => by rw [hu0]; simp; omega)
  obtain ⟨at2, hO⟩ := outT_I d F G hG hwk (fun i r hi h0 hu => u4 i r (by have := (List.getElem?_eq_some_iff.1 hi).1; omega) hi h0 hu) kept.length 0 [] (List.replicate rs.length 0) (by omega)
    ⟨wf_nil, by simp [hlk], fun j hj => absurd hj (by omega), fun p hp => absurd hp (by simp), fun s hs => absurd hs (by omega)⟩
  rw [List.drop_zero] at hO
  obtain ⟨z1, z2⟩ := hO.z s (by omega) hus hul
  obtain ⟨p, p1, p2, p3⟩ := hO.v s (by omega) hus
  refine ⟨hO.wf, z1, ?_, fun p hp => ?_⟩
  · have : p = (outT (useT kept rs.length (use0 rs.length same)) 0 kept [] (List.replicate rs.length 0)).length - 1 := by omega
    rw [← this, p3, hkv s (by omega), ← hkv (rs.length - 1) (by omega), ← hkv s (by omega)]
    have hj' : kept[rs.length - 1]? = some (kept[rs.length - 1]'(by omega)) := List.getElem?_eq_getElem _
    exact full_same d F G hwk (h3.trans hj') hj'
  · obtain ⟨j, j1, j2⟩ := hO.p p hp
    exact ⟨j, by omega, by rw [j2]; exact hkv j (by omega)⟩
end

/-- a grammar whose lengths are not too great is valid -/
theorem gLens_of {rs : List Fac} (hwf : WF rs) (hb : ∀ k, k < rs.length → (full 0 lenF lenG rs).getD k 0 ≤ 1000000000000000) : ∀ (n k : Nat), k + n = rs.length → (gLens (rs.drop k) (outs 0 lenF lenG rs k)).isSome = true
  | 0, k, hk => by rw [List.drop_of_length_le (by omega)]; rfl
  | n + 1, k, hk => by
    have hr : rs[k]? = some (rs[k]'(by omega)) := List.getElem?_eq_getElem _
    rw [drop_cons hr]
    have hol : (outs 0 lenF lenG rs k).length = k := outs_len 0 lenF lenG rs k (by omega)
    have hst : gStep (outs 0 lenF lenG rs k) (rs[k]'(by omega)) = some (fStep 0 lenF lenG (outs 0 lenF lenG rs k) (rs[k]'(by omega))) := by
      have hv := hb k (by omega)
      rw [full_at 0 lenF lenG hr] at hv
      unfold gStep
      unfold fStep at hv ⊢
      rcases hwf k _ hr with ⟨h0, a0, a1, b0, b1⟩ | ⟨c, hc, hl, ha, hb'⟩
      · rw [if_pos h0] at hv ⊢
        rw [if_pos h0, if_pos ⟨a0, by omega, b0, by omega, hv⟩]; rfl
      · have h0 : (rs[k]'(by omega)).l.size ≠ 0 := by rw [hl]; show (1 : Nat) ≠ 0; omega
        rw [if_neg h0, if_neg h0, if_pos ⟨by rw [hl]; exact hc, ha, hb'⟩]; rfl
    unfold gLens
    rw [hst]
    show (gLens (rs.drop (k + 1)) (outs 0 lenF lenG rs k ++ [fStep 0 lenF lenG (outs 0 lenF lenG rs k) (rs[k]'(by omega))])).isSome = true
    rw [← outs_step 0 lenF lenG hr]
    exact gLens_of hwf hb n (k + 1) (by omega)
/-- a trimmed grammar is valid, if it has not too many rules -/
theorem trim_ok {rs : List Fac} (hwf : WF rs) (hb : ∀ k, k < rs.length → (full 0 lenF lenG rs).getD k 0 ≤ 1000000000000000) (hn : (trimL rs).length ≤ 400) : (gOk (trimL rs)).isSome = true := by
  unfold gOk
  rw [if_neg (by omega)]
  by_cases h0 : rs.length = 0
  · have : trimL rs = [] := by unfold trimL; rw [if_pos h0]
    rw [this]; rfl
  · obtain ⟨h1, h2, _, h4⟩ := trim_val 0 lenF lenG (fun _ _ _ _ => rfl) hwf (by omega)
    have := gLens_of h1 (fun k hk => by obtain ⟨j, j1, j2⟩ := h4 k hk; rw [j2]; exact hb j j1) (trimL rs).length 0 (by omega)
    simpa [outs, foldG] using this
end Go.Proofs.Ytfanphhlagjkdaa


/-
  Lists of rules that a call makes: what is appended, copied.
-/
namespace Go.Proofs.Ytfanphhlagjkdaa
open Go.RowKit

theorem elem_rule : Elem Try.prog 24 65 3 32 := Elem.mk' (z := .agg #[.string .empty, .int .i64 0, .int .i64 0]) Try.underlying24 (by kernel_rfl) rfl
theorem one_fac (f : Fac) : ∀ u ∈ Fac.cells f, u.oneCell' = true := by simp [Fac.cells, Value.oneCell']
/-- what lies behind a list, cell for cell -/
theorem Rd.news {α : Type} {w : World} {B n sz : Nat} {A : Option Addr} {enc : α → List Value} {xs : List α} (h : Rd w B A n sz enc xs) (hl : ∀ x ∈ xs, (enc x).length = sz) (hn : 0 < n) :
    ∃ b o, A = some ⟨b, o, none⟩ ∧ b < B ∧ ∀ j u, (xs.flatMap enc)[j]? = some u → w.cell? ((⟨b, o, none⟩ : Addr).add j) = some u := by
  obtain ⟨b, o, hA, hb, hc⟩ := h.2 hn
  refine ⟨b, o, hA, hb, fun j u hj => ?_⟩
  have hlt := (List.getElem?_eq_some_iff.1 hj).1
  rw [flat_len xs hl] at hlt
  have hsz : 0 < sz := by
    rcases Nat.eq_zero_or_pos sz with h | h
    · subst h; simp at hlt
    · exact h
  have hk : j / sz < xs.length := Nat.div_lt_of_lt_mul (by rw [Nat.mul_comm]; exact hlt)
  have he : j / sz * sz + j % sz = j := by rw [Nat.mul_comm]; exact Nat.div_add_mod j sz
  have hx : xs[j / sz]? = some (xs[j / sz]'hk) := List.getElem?_eq_getElem _
  have h2 := flat_at xs hl _ _ hx (j % sz) (Nat.mod_lt _ hsz)
  rw [he, hj] at h2
  have h3 := hc _ _ hx (j % sz) u h2.symm
  rw [Nat.add_assoc, he] at h3
  simpa [Addr.add_lit] using h3
/-- a row of the call's own, behind a store into a block of another type -/
theorem own_kept' {w : World} {base g : Nat} {e t : TypeId} {sz n : Nat} {v : Value} {xs : List Value} {cs : Array Value} (h : w.ownsRow base e sz v n xs) (hB : Blk w g t cs) (ht : e ≠ t) (u : Value) {i : Nat} : (w.setCell ⟨g, i, none⟩ u).ownsRow base e sz v n xs := by
  refine h.kept (gb_set w g i u) ?_
  cases hv : v.ownBlock with
  | none => exact .inl rfl
  | some k => exact .inr fun e => own_blk_ne h hB ht (by rw [hv]; exact e.symm)
section
variable {α : Type} {P : Program} {w : World} {ops : Array Oper} {o : Oper} {a : Act} {rest : List Oper}
/-- a list appended to a slice of the call's own -/
theorem wpList_app {Q : Exit → Act → World → Prop} (hgd : o.guard = none) (s x : Operand) (t : TypeId) (ho : o.op = .call { callee := .builtin .append, args := #[s, x], argTypes := #[t, t] })
    (base : Nat) (e : TypeId) (sz bytes : Nat) (EI : Elem P t e sz bytes) (enc : α → List Value) (A : Option Addr) (n c : Nat) (xs : List α) (hs : a.eval s = .slice A n c)
    (hown : w.ownsRow base e sz (.slice A n c) n (xs.flatMap enc)) (ad : Addr) (m cc : Nat) (ys : List α) (hx : a.eval x = .slice (some ad) m cc) (hym : ys.length = m) (hm0 : 0 < m) (hnews : ∀ j u, (ys.flatMap enc)[j]? = some u → w.cell? (ad.add j) = some u)
    (hlen : ∀ y ∈ ys, (enc y).length = sz) (hone : ∀ y ∈ ys, ∀ u ∈ enc y, u.oneCell' = true) (hsz : 0 < sz) (hbytes : (n + m) * bytes ≤ 140737488355328) (hm : n + m ≤ maxLen) (hsize : base ≤ w.heap.size)
    (h : ∀ A' c' w', w'.ownsRow base e sz (.slice A' (n + m) c') (n + m) ((xs ++ ys).flatMap enc) → w.grownBy w' (Value.slice A n c).ownBlock →
      ((Value.slice A' (n + m) c').ownBlock = (Value.slice A n c).ownBlock ∨ (Value.slice A' (n + m) c').ownBlock = some w.heap.size) → wpList P ops Q rest (a.put o.dst (.slice A' (n + m) c')) w') : wpList P ops Q (o :: rest) a w := by
  obtain ⟨ht, i, z, hi, hz, h1, h2, hzs⟩ := EI
  refine wpList_plain hgd fun _ hK => ?_
  obtain ⟨v', w', hr, r2, r3, _, r5⟩ := run_append_own_at (P := P) w base t o.type e i z sz bytes ht hi hz h1 h2 hzs hsz _ n _ hown ad m cc (ys.flatMap enc) (by rw [flat_len ys hlen, hym]) hnews
    (fun u hu => by obtain ⟨y, hy, hu⟩ := List.mem_flatMap.1 hu; exact hone y hy u hu) hm hbytes hsize
  obtain ⟨g', cap, rfl, _, _⟩ := r2.form (by omega)
  unfold Oper.wp execOp
  simp only [ho, resolve, invoke, builtin, Sem.run_bind, Sem.run_pure, Result.andThen_ok, List.map_toArray, List.map_cons, List.map_nil, hs, hx, hr]
  exact hK _ _ (h _ _ w' (by rw [List.flatMap_append]; exact r2) r3 r5)
/-- the same, as a step of a region that draws its order -/
theorem step_app {K : Act → World → Prop} {Q : Exit → Act → World → Prop} {E : Prop} (hgd : o.guard = none) (s x : Operand) (t : TypeId) (ho : o.op = .call { callee := .builtin .append, args := #[s, x], argTypes := #[t, t] })
    (base : Nat) (e : TypeId) (sz bytes : Nat) (EI : Elem P t e sz bytes) (enc : α → List Value) (A : Option Addr) (n c : Nat) (xs : List α) (hs : a.eval s = .slice A n c)
    (hown : w.ownsRow base e sz (.slice A n c) n (xs.flatMap enc)) (ad : Addr) (m cc : Nat) (ys : List α) (hx : a.eval x = .slice (some ad) m cc) (hym : ys.length = m) (hm0 : 0 < m) (hnews : ∀ j u, (ys.flatMap enc)[j]? = some u → w.cell? (ad.add j) = some u)
    (hlen : ∀ y ∈ ys, (enc y).length = sz) (hone : ∀ y ∈ ys, ∀ u ∈ enc y, u.oneCell' = true) (hsz : 0 < sz) (hbytes : (n + m) * bytes ≤ 140737488355328) (hm : n + m ≤ maxLen) (hsize : base ≤ w.heap.size)
    (h : ∀ A' c' w', w'.ownsRow base e sz (.slice A' (n + m) c') (n + m) ((xs ++ ys).flatMap enc) → w.grownBy w' (Value.slice A n c).ownBlock → K (a.put o.dst (.slice A' (n + m) c')) w') :
    if Region.wanted o (yielded ops a.tmps) = true then Oper.wp P o a w K Q else E := by
  obtain ⟨ht, i, z, hi, hz, h1, h2, hzs⟩ := EI
  obtain ⟨v', w', hr, r2, r3, _, r5⟩ := run_append_own_at (P := P) w base t o.type e i z sz bytes ht hi hz h1 h2 hzs hsz _ n _ hown ad m cc (ys.flatMap enc) (by rw [flat_len ys hlen, hym]) hnews
    (fun u hu => by obtain ⟨y, hy, hu⟩ := List.mem_flatMap.1 hu; exact hone y hy u hu) hm hbytes hsize
  obtain ⟨g', cap, rfl, _, _⟩ := r2.form (by omega)
  have hw : Region.wanted o (yielded ops a.tmps) = true := by simp [Region.wanted, hgd]
  rw [if_pos hw]
  unfold Oper.wp execOp
  simp only [ho, resolve, invoke, builtin, Sem.run_bind, Sem.run_pure, Result.andThen_ok, List.map_toArray, List.map_cons, List.map_nil, hs, hx, hr]
  exact h _ _ w' (by rw [List.flatMap_append]; exact r2) r3
end
end Go.Proofs.Ytfanphhlagjkdaa


/-
  A map whose keys are rules.
-/
namespace Go.Proofs.Ytfanphhlagjkdaa
open Go.RowKit Go.MapKept

section
variable {α : Type} [DecidableEq α] {P : Program} {w : World} {ops : Array Oper} {rest : List Oper} {o : Oper} {a : Act} {b : Nat} {K : α → Value} {mm : List (α × Value)} {kt t e : TypeId} {z : Value}
/-- a look-up in a map of the call's own, with the word whether there is an entry -/
theorem wpList_lookOk {Q : Exit → Act → World → Prop} (hgd : o.guard = none) (m x : Operand) (ho : o.op = .lookup t m x true) (KO : KeyOk P kt K) (ht : P.underlying t = some (.map kt e)) (hz : (zeroValue e).run P w = .ok z w) (hm : a.eval m = .map (some b)) (y : α) (hx : a.eval x = K y)
    (h : MapIs w b K mm) (hK : wpList P ops Q rest (a.put o.dst (.tuple #[(mget y mm).getD z, .bool (mget y mm).isSome])) w) : wpList P ops Q (o :: rest) a w := by
  refine wpList_plain hgd fun _ hK' => ?_
  unfold Oper.wp execOp
  simp only [ho, hm, hx, Sem.run_bind, h.lookOk KO ht hz y, Result.andThen_ok, Sem.run_pure]
  exact hK' _ _ hK
end
theorem zero_i64 (w : World) : (zeroValue 2).run Try.prog w = .ok (.int .i64 0) w := by kernel_rfl
theorem eql_rule (f g : Fac) (W : World) : (binOp .eql 65 (.agg #[.string f.l, .int .i64 f.a, .int .i64 f.b]) (.agg #[.string g.l, .int .i64 g.a, .int .i64 g.b])).run Try.prog W = .ok (.bool (decide (f = g))) W := by
  rw [eq_fac]
  simp [go_sem, tl_inj]
  try (by_cases h1 : f.l = g.l <;> by_cases h2 : f.a = g.a <;> by_cases h3 : f.b = g.b <;> simp [h1, h2, h3])
theorem equal_rule (f g : Fac) (W : World) : (Op.equal 65 f.val g.val).run Try.prog W = .ok (decide (f = g)) W := by
  have h := eql_rule f g W
  unfold binOp at h
  simp only [Sem.run_bind] at h
  unfold Fac.val
  generalize hr : Sem.run Try.prog (Op.equal 65 (.agg #[.string f.l, .int .i64 f.a, .int .i64 f.b]) (.agg #[.string g.l, .int .i64 g.a, .int .i64 g.b])) W = r at h ⊢
  cases r with
  | ok b w' =>
    simp [Result.andThen] at h
    rw [h.1, h.2]
  | _ => simp [Result.andThen] at h
theorem rule_key : KeyOk Try.prog 65 Fac.val := by
  refine ⟨fun e a w => ?_, fun a m es w he => ?_, fun a w => ?_⟩
  · have hs : ∀ n v, (Instr.checkKey e (n + 1) 9 (.string v)).run Try.prog w = .ok () w := fun n v => run_checkKey Try.underlying9 (by simp [IsKey]) e n
    have hi : ∀ n v, (Instr.checkKey e (n + 1) 2 (.int .i64 v)).run Try.prog w = .ok () w := fun n v => run_checkKey Try.underlying2 (by simp [IsKey]) e n
    unfold Fac.val
    show (Instr.checkKey e (9999 + 1) 65 _).run _ _ = _
    unfold Instr.checkKey
    simp only [Sem.run_bind, run_underlying Try.underlying65]
    have hs' := hs 9998
    have hi' := hi 9998
    simp [go_sem, hs', hi']
  · have ask : ∀ (m : List (Fac × Value)) (es : List MapEntry) (i : Nat), es.map (fun e => (e.key, e.val)) = m.map (fun p => (Fac.val p.1, p.2)) → (Instr.findAsking 65 (Fac.val a) es i).run Try.prog w = .ok (midx a m i) w := by
      intro m
      induction m with
      | nil => intro es i he; cases es with | nil => rfl | cons _ _ => simp at he
      | cons p r ih =>
        intro es i he
        cases es with
        | nil => simp at he
        | cons e es =>
          simp at he
          obtain ⟨⟨h1, h2⟩, h3⟩ := he
          unfold Instr.findAsking
          rw [h1, midx_cons]
          simp only [Sem.run_bind, equal_rule, Result.andThen_ok]
          by_cases hap : a = p.1
          · simp [hap, h2]
          · simp only [hap, decide_false, if_false, Bool.false_eq_true]
            exact ih es (i + 1) h3
    cases es with
    | nil =>
      cases m with
      | nil => simp [Instr.findKey, run_underlying Try.underlying65, Instr.findNow, midx]
      | cons _ _ => simp at he
    | cons e es =>
      have hn : Instr.findNow (TypeDesc.struct #[]) (Fac.val a) (e :: es) 0 = none := by unfold Instr.findNow Instr.sameNow; rfl
      have := ask m (e :: es) 0 he
      simp [Instr.findKey, run_underlying Try.underlying65, Instr.findNow, Instr.sameNow, Fac.val] at this ⊢
      exact this
  · have : Instr.sameBits 10000 a.val a.val = true := by
      show Instr.sameBits (9999 + 1) (.agg _) (.agg _) = true
      unfold Instr.sameBits
      simp [Instr.sameBits, beq_toListBytes, tl_beq]
    simp [Instr.keyThatStays, this]
end Go.Proofs.Ytfanphhlagjkdaa
