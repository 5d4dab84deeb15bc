/-
  Tables of numbers that a call has made: compared, marked, held.
-/
import Derived.Test.YtkknhpailohjcaaMarkI
import Derived.Test.YtkknhpailohjcaaInts
namespace Go.Proofs.Ytkknhpailohjcaa
open Go.RowKit

def encH (m g : Nat) : List Value := [.slice (some ⟨g, 0, none⟩) m m]
/-- a table: its head is a row of the call's own, its rows lie apart -/
structure TabJ (w : World) (base : Nat) (A : Option Addr) (n c m : Nat) (gs : List Nat) (xss : List (List Int)) : Prop where
  o : w.ownsRow base 26 1 (.slice A n c) n (gs.flatMap (encH m))
  lg : gs.length = n
  r : ∀ i g, gs[i]? = some g → w.ownsRow base 2 1 (.slice (some ⟨g, 0, none⟩) m m) m ((xss.getD i []).flatMap intE)
  m : ∀ i, i < n → (xss.getD i []).length = m
  d : ∀ (i j g : Nat), gs[i]? = some g → gs[j]? = some g → i = j
theorem TabJ.next {w w' : World} {base n c m : Nat} {A : Option Addr} {gs : List Nat} {xss : List (List Int)} (h : TabJ w base A n c m gs xss) (hb : Below w.heap.size w w') : TabJ w' base A n c m gs xss :=
  ⟨own_next h.o hb, h.lg, fun i g hg => own_next (h.r i g hg) hb, h.m, h.d⟩
theorem own_low {w1 w w' : World} {b e sz n : Nat} {v : Value} {xs : List Value} {b' : Nat} (h1 : w1.ownsRow b e sz v n xs) (h : w.ownsRow b' e sz v n xs) (hb : Below w1.heap.size w w') : w'.ownsRow b' e sz v n xs := by
  refine ⟨h.1, ?_⟩
  rcases h.2 with hn | ⟨g, cap, cur, rfl, hg, hh, r⟩
  · exact .inl hn
  · exact .inr ⟨g, cap, cur, rfl, hg, (hb.block g (h1.lt g rfl).2).trans hh, r⟩
theorem TabJ.low {w1 w w' : World} {base n c m : Nat} {A : Option Addr} {gs : List Nat} {xss : List (List Int)} (h1 : TabJ w1 base A n c m gs xss) (h : TabJ w base A n c m gs xss) (hb : Below w1.heap.size w w') : TabJ w' base A n c m gs xss :=
  ⟨own_low h1.o h.o hb, h.lg, fun i g hg => own_low (h1.r i g hg) (h.r i g hg) hb, h.m, h.d⟩
/-- what writes a row of another type leaves the table as it is -/
theorem TabJ.kept {w w' : World} {base n c m b2 e2 s2 n2 : Nat} {A : Option Addr} {gs : List Nat} {xss : List (List Int)} {v2 : Value} {xs2 : List Value} (h : TabJ w base A n c m gs xss) (h2 : w.ownsRow b2 e2 s2 v2 n2 xs2) (hg : w.grownBy w' v2.ownBlock) (ht : 26 ≠ e2) (ht2 : 2 ≠ e2) : TabJ w' base A n c m gs xss :=
  ⟨h.o.kept hg (own_ne h.o h2 ht), h.lg, fun i g hg' => (h.r i g hg').kept hg (own_ne (h.r i g hg') h2 ht2), h.m, h.d⟩
theorem TabJ.at_ {w : World} {base n c m : Nat} {A : Option Addr} {gs : List Nat} {xss : List (List Int)} (h : TabJ w base A n c m gs xss) {i : Nat} (hi : i < n) :
    ∃ p g, A = some ⟨p, 0, none⟩ ∧ p < w.heap.size ∧ gs[i]? = some g ∧ w.cell? ⟨p, i, none⟩ = some (.slice (some ⟨g, 0, none⟩) m m) ∧ w.ownsRow base 2 1 (.slice (some ⟨g, 0, none⟩) m m) m ((xss.getD i []).flatMap intE) := by
  obtain ⟨p, cap, hv, hg, hs⟩ := h.o.form (by omega)
  injection hv with hA _ _
  subst hA
  have hlg := h.lg
  have hx : gs[i]? = some (gs[i]'(by omega)) := List.getElem?_eq_getElem _
  refine ⟨p, _, rfl, hs, hx, ?_, h.r i _ hx⟩
  rw [h.o.cellAt i (by omega)]
  have := flat_at (enc := encH m) (sz := 1) gs (fun _ _ => rfl) i _ hx 0 (by omega)
  rw [Nat.mul_one, Nat.add_zero] at this
  rw [this]; rfl
/-- a table with a code -/
def RetTabC (w0 : World) (n m : Nat) (xss : List (List Int)) (code : Int) (e : Ending) (w' : World) : Prop :=
  ∃ A c gs, e = .returned (.tuple #[.slice A n c, .int .i64 code]) ∧ TabJ w' w0.heap.size A n c m gs xss ∧ Below w0.heap.size w0 w'
set_option maxHeartbeats 1000000 in
theorem eqInt64SS_any (b1 b2 : Nat) (A D : Option Addr) (n c d m : Nat) (gs hs : List Nat) (xss : List (List Int)) (w : World) (hn : n ≤ 1000) (hm : m ≤ 1000) (hx : TabJ w b1 A n c m gs xss) (hy : TabJ w b2 D n d m hs xss) :
    Calls Try.prog 20 #[.slice A n c, .slice D n d] w (Ret (.bool true) w) := by
  have HX := Lib.hid hx; clear hx
  have HY := Lib.hid hy; clear hy
  go_enter Try.func20, Try.ntmps20
  go_wp2_with fail
  go_loopw [5] (fun i_ w' => ∃ k : Nat, i_ = .int .i64 k ∧ k ≤ n ∧ Below w.heap.size w w') (fun i_ _ => n - (intOf i_).toNat)
  case atStart => exact ⟨0, rfl, by omega, Below.refl _ _⟩
  case round =>
    obtain ⟨k, rfl, hk, hb⟩ := hrel
    by_cases hlt : k < n
    · have X := HX.out.next hb
      have Y := HY.out.next hb
      have hmk := X.m k hlt
      obtain ⟨p, g, rfl, hp, _, s1, r1⟩ := X.at_ hlt
      obtain ⟨q, h, rfl, hq, _, s2, r2⟩ := Y.at_ hlt
      have R1 := Lib.hid (Rd.of_own (enc := intE) (fun _ _ => rfl) hmk r1)
      have R2 := Lib.hid (Rd.of_own (enc := intE) (fun _ _ => rfl) hmk r2)
      clear X Y r1 r2 hmk
      have hup := upc wr.heap.size wr
      have i0 : (0 : Int) ≤ (k : Int) := by omega
      have i1 : (k : Int) < (n : Int) := by omega
      have hx := Lib.hid (fun (x : Up wr.heap.size wr) => show Calls Try.prog 13 #[.slice (some ⟨g, 0, none⟩) m m, .slice (some ⟨h, 0, none⟩) m m] x.w' (Ret (.bool true) x.w') by
        have := eqInt64S_any (some ⟨g, 0, none⟩) (some ⟨h, 0, none⟩) m m m m (xss.getD k []) (xss.getD k []) x.w' (by unfold maxLen; omega) (by unfold maxLen; omega) (R1.out.next x.h) (R2.out.next x.h)
        rw [decide_eq_true rfl] at this; exact this)
      go_wp2_with fail
      refine wp_region_up wr.heap.size (by kernel_rfl) (by kernel_rfl) ?_
      repeat (go_big_quiet_step ((go_at_call 13; exact Calls.up (Nat.le_refl _) (hx.out _))))
      refine wpQuiet_nil ?_
      intro w2 hup_w2
      have hb2 := up_of hup_w2
      go_wp2
      go_roundw
      case rel => exact ⟨k + 1, by go_num, by omega, hb.trans (hb2.mono hb.size)⟩
      case measure => simp [intOf]; omega
    · go_wp2
      go_ret
      exact ⟨rfl, hb⟩
/-- the marks of a table -/
def marksJ (k m : Nat) (n : Nat) : List (List Int) := (List.range n).map fun j => marksI (k + j * m) m
def marksP (k m n i : Nat) (xss : List (List Int)) : List (List Int) := (List.range n).map fun j => if j < i then marksI (k + j * m) m else xss.getD j []
theorem marksJ_at {k m n i : Nat} (h : i < n) : (marksJ k m n).getD i [] = marksI (k + i * m) m := by
  unfold marksJ; rw [List.getD_eq_getElem?_getD, List.getElem?_map, List.getElem?_range h]; rfl
theorem marksP_at {k m n i j : Nat} {xss : List (List Int)} (h : j < n) : (marksP k m n i xss).getD j [] = if j < i then marksI (k + j * m) m else xss.getD j [] := by
  unfold marksP; rw [List.getD_eq_getElem?_getD, List.getElem?_map, List.getElem?_range h]; rfl
set_option maxHeartbeats 1000000 in
theorem markInt64SS_any (base : Nat) (A : Option Addr) (n c m k : Nat) (gs : List Nat) (xss : List (List Int)) (w : World) (hn : n ≤ 100) (hm : m ≤ 100) (hk : k ≤ 1000) (hbs : base ≤ w.heap.size) (hx : TabJ w base A n c m gs xss) :
    Calls Try.prog 21 #[.slice A n c, .int .i64 (k : Int)] w fun e w' => e = .returned (.int .i64 ((k + n * m : Nat) : Int)) ∧ TabJ w' base A n c m gs (marksJ k m n) ∧ Below base w w' := by
  have HX := Lib.hid hx; clear hx
  go_enter Try.func21, Try.ntmps21
  go_wp2_with fail
  go_loopw [1, 5] (fun k_ i_ w' => ∃ (i q : Nat), i_ = .int .i64 i ∧ k_ = .int .i64 (q : Int) ∧ i ≤ n ∧ Hid (q = k + i * m) ∧ q ≤ 11000 ∧ Hid (TabJ w' base A n c m gs (marksP k m n i xss)) ∧ Below base w w') (fun _ i_ _ => n - (intOf i_).toNat)
  case atStart =>
    refine ⟨0, k, rfl, rfl, by omega, Lib.hid (by omega), by omega, Lib.hid ⟨HX.out.o, HX.out.lg, fun i g hg => ?_, fun i hi => ?_, HX.out.d⟩, Below.refl _ _⟩
    · rw [marksP_at (by rw [← HX.out.lg]; exact (List.getElem?_eq_some_iff.1 hg).1), if_neg (by omega)]; exact HX.out.r i g hg
    · rw [marksP_at hi, if_neg (by omega)]; exact HX.out.m i hi
  case round =>
    obtain ⟨i, q, rfl, rfl, hi, hq, hq2, hT, hb⟩ := hrel
    have hsz := hb.size
    by_cases hlt : i < n
    · obtain ⟨p, g, rfl, hp, gg, s1, r1⟩ := hT.out.at_ hlt
      have Gg := Lib.hid gg; clear gg
      have R1 := Lib.hid r1; clear r1
      have hq3 := Lib.hid (show q + m = k + (i + 1) * m by rw [hq.out, Nat.succ_mul]; omega)
      have hq4 : q + m ≤ 11000 := by
        rw [hq3.out]
        have : (i + 1) * m ≤ 100 * 100 := Nat.mul_le_mul (by omega) hm
        omega
      go_wp2_with fail
      refine (markInt64S_any (some ⟨g, 0, none⟩) m m base _ q wr (by omega) (by omega) R1.out).mono ?_
      rintro e w1 ⟨rfl, own1, hg1⟩
      have hbn : base ≤ g := (R1.out.lt g rfl).1
      have G1 := Lib.hid hg1
      have hb1 := Lib.hid (hb.grown hg1 (Nat.le_trans hbs hsz) (fun k hk => by have hk2 : g = k := (by simpa [Value.ownBlock] using hk); rw [← hk2]; exact hbn))
      have T1 := Lib.hid (show TabJ w1 base (some ⟨p, 0, none⟩) n c m gs (marksP k m n (i + 1) xss) from
        ⟨hT.out.o.kept hg1 (own_ne hT.out.o R1.out (by decide)), hT.out.lg, fun j g' hj => by
          have hjn : j < n := by rw [← hT.out.lg]; exact (List.getElem?_eq_some_iff.1 hj).1
          rw [marksP_at hjn]
          by_cases e : j = i
          · subst e
            obtain rfl : g = g' := Option.some.inj (Gg.out.symm.trans hj)
            rw [if_pos (by omega), ← hq.out]; exact own1
          · have h2 := hT.out.r j g' hj
            rw [marksP_at hjn] at h2
            have h3 := h2.kept hg1 (.inr fun e2 => e (hT.out.d j i g (by
              have e3 : g' = g := by simpa [Value.ownBlock] using e2
              rw [← e3]; exact hj) Gg.out))
            by_cases hji : j < i
            · rw [if_pos hji] at h3; rw [if_pos (by omega)]; exact h3
            · rw [if_neg hji] at h3; rw [if_neg (by omega)]; exact h3,
        fun j hj => by
          rw [marksP_at hj]
          have h2 := hT.out.m j hj
          rw [marksP_at hj] at h2
          by_cases e : j = i
          · rw [if_pos (by omega)]; exact marksI_len _ _
          · by_cases hji : j < i
            · rw [if_pos hji] at h2; rw [if_pos (by omega)]; exact h2
            · rw [if_neg hji] at h2; rw [if_neg (by omega)]; exact h2, hT.out.d⟩)
      clear own1 hg1
      go_wp2_with fail
      go_roundw
      case rel => exact ⟨i + 1, q + m, by go_num, by go_num, by omega, hq3, hq4, T1, hb1.out⟩
      case measure => simp [intOf]; omega
    · obtain rfl : i = n := by omega
      go_wp2
      go_ret
      refine ⟨ret_int (by rw [hq.out]), ⟨hT.out.o, hT.out.lg, fun j g hj => ?_, fun j hj => by rw [marksJ_at hj]; exact marksI_len _ _, hT.out.d⟩, hb⟩
      have hjn : j < i := by rw [← hT.out.lg]; exact (List.getElem?_eq_some_iff.1 hj).1
      have h2 := hT.out.r j g hj
      rw [marksP_at hjn, if_pos hjn] at h2
      rw [marksJ_at hjn]; exact h2
set_option maxHeartbeats 1000000 in
theorem heldInt64SS_any (base : Nat) (A : Option Addr) (n c m k : Nat) (gs : List Nat) (w : World) (hn : n ≤ 100) (hm : m ≤ 100) (hk : k ≤ 1000) (hx : TabJ w base A n c m gs (marksJ k m n)) :
    Calls Try.prog 22 #[.slice A n c, .int .i64 (k : Int)] w (Ret (.int .i64 ((k + n * m : Nat) : Int)) w) := by
  have HX := Lib.hid hx; clear hx
  go_enter Try.func22, Try.ntmps22
  go_wp2_with fail
  go_loopw [1, 5] (fun k_ i_ w' => ∃ (i q : Nat), i_ = .int .i64 i ∧ k_ = .int .i64 (q : Int) ∧ i ≤ n ∧ Hid (q = k + i * m) ∧ q ≤ 11000 ∧ Below w.heap.size w w') (fun _ i_ _ => n - (intOf i_).toNat)
  case atStart => exact ⟨0, k, rfl, rfl, by omega, Lib.hid (by omega), by omega, Below.refl _ _⟩
  case round =>
    obtain ⟨i, q, rfl, rfl, hi, hq, hq2, hb⟩ := hrel
    by_cases hlt : i < n
    · have X := HX.out.next hb
      have hmk := X.m i hlt
      obtain ⟨p, g, rfl, hp, gg, s1, r1⟩ := X.at_ hlt
      rw [marksJ_at hlt, ← hq.out] at r1
      have R1 := Lib.hid (Rd.of_own (enc := intE) (fun _ _ => rfl) (marksI_len m q) r1)
      clear r1 gg X hmk
      have hq3 := Lib.hid (show q + m = k + (i + 1) * m by rw [hq.out, Nat.succ_mul]; omega)
      have hq4 : q + m ≤ 11000 := by
        rw [hq3.out]
        have : (i + 1) * m ≤ 100 * 100 := Nat.mul_le_mul (by omega) hm
        omega
      go_wp2_with fail
      refine (heldInt64S_any (some ⟨g, 0, none⟩) m m q wr (by omega) (by omega) R1.out).mono ?_
      rintro e w1 ⟨rfl, hb1⟩
      go_wp2_with fail
      go_roundw
      case rel => exact ⟨i + 1, q + m, by go_num, by go_num, by omega, hq3, hq4, hb.trans (hb1.mono hb.size)⟩
      case measure => simp [intOf]; omega
    · obtain rfl : i = n := by omega
      go_wp2
      go_ret
      exact ⟨ret_int (by rw [hq.out]), hb⟩
end Go.Proofs.Ytkknhpailohjcaa
