/-
  Weights: lists of numbers copied and compared, whether they are weights, and the codes of a grammar with weights.
-/
import Derived.Test.YtlokofafojepdaaBal
import Derived.Test.YtlokofafojepdaaIdxR
namespace Go.Proofs.Ytlokofafojepdaa
open Go.RowKit

/-- are four numbers weights -/
def wsB (ws : List Int) : Bool := decide (ws.length = 4) && ws.all fun z => inB z (-9) 9
theorem wsB_ok {ws : List Int} (h : wsB ws = true) : WsOk ws := by
  simp only [wsB, Bool.and_eq_true, decide_eq_true_eq, List.all_eq_true] at h
  exact ⟨h.1, fun z hz => by have := h.2 z hz; simpa [inB] using this⟩
def wsC (rs : List Fac) (ws : List Int) : Int := if (gOk rs).isSome = false then 1 else if wsB ws = false then 2 else 0
theorem fill1 {α : Type} {enc : α → List Value} {cs : Array Value} {n k : Nat} {xs : List α} {x : α} {v : Value} (hs : cs.size = n * 1) (hk : k < n) (hx : xs[k]? = some x) (he : enc x = [v])
    (hc : ∀ i y, i < k → xs[i]? = some y → ∀ j, j < 1 → cs[i * 1 + j]? = (enc y)[j]?) :
    (cs.setIfInBounds k v).size = n * 1 ∧ ∀ i y, i < k + 1 → xs[i]? = some y → ∀ j, j < 1 → (cs.setIfInBounds k v)[i * 1 + j]? = (enc y)[j]? := by
  refine ⟨by simpa using hs, fun i y hi hy j hj => ?_⟩
  obtain rfl : j = 0 := by omega
  by_cases h : i = k
  · subst h
    obtain rfl : x = y := by rw [hx] at hy; exact Option.some.inj hy
    rw [he]
    have : i < cs.size := by omega
    simp [this]
  · rw [← hc i y (by omega) hy 0 hj]
    rw [Array.getElem?_setIfInBounds_ne (by omega)]

set_option maxHeartbeats 400000 in
theorem toInt64S_any (A : Option Addr) (n c : Nat) (zs : List Int) (w : World) (hn : n ≤ 1048576)
    (hr : Rd w w.heap.size A n 1 intE zs) :
    Calls Try.prog 14 #[.slice A n c] w (RetNew w 2 1 intE zs) := by
  obtain ⟨i0, hi, hz0, hz1, hz2⟩ := info_parts info_i64
  have hl := Lib.hid hr.len
  have hmk := fun W => run_make_rowN (P := Try.prog) 25 2 i0 _ Try.underlying25 hi hz0 .i64 .i64 n n (Nat.le_refl _) (by rw [hz2]; omega) (by omega) W
  rw [hz1] at hmk
  go_enter Try.func14, Try.ntmps14
  go_wp2
  go_loopw [4] (fun i w' => ∃ (k : Nat) (cs : Array Value), i = .int .i64 k ∧ k ≤ n ∧ Below w.heap.size w w' ∧ Hid (Blk w' w.heap.size 2 cs) ∧ Hid (cs.size = n * 1) ∧
      Hid (∀ i y, i < k → zs[i]? = some y → ∀ j, j < 1 → cs[i * 1 + j]? = (intE y)[j]?)) (fun i _ => n - (intOf i).toNat)
  case atStart => exact ⟨0, _, rfl, by omega, (Below.refl _ _).alloc (Nat.le_refl _) _, Lib.hid (Blk.new _ _ _), Lib.hid ((size_madeCells _ _).trans (Nat.mul_one n).symm), Lib.hid (fun i y h => absurd h (by omega))⟩
  case round =>
    obtain ⟨k, cs, rfl, hk, hb, hB, hs, hc⟩ := hrel
    by_cases hlt : k < n
    · obtain ⟨b, o, x, rfl, hB', gx, c0⟩ := (show Rd wr w.heap.size A n 1 (fun s => [.int .i64 s]) zs from hr.below hb).int hlt
      have Gx := Lib.hid gx; clear gx
      have hsz := hB.out.lt
      have s0 := (hB.out.cell k).trans (Array.getElem?_eq_getElem (by have := hs.out; omega))
      have f0 := hB.out.frozen
      go_wp2
      go_roundw
      case rel =>
        obtain ⟨q1, q2⟩ := fill1 (v := .int .i64 x) hs.out hlt Gx.out rfl hc.out
        exact ⟨k + 1, _, by go_num, by omega, hb.setCell (Nat.le_refl _) _, Lib.hid (hB.out.set_ _ _), Lib.hid q1, Lib.hid q2⟩
      case measure => simp [intOf]; omega
    · go_wp2
      go_ret
      refine ⟨some ⟨w.heap.size, 0, none⟩, n, ret_slice hl.out.symm, ?_, hb⟩
      rw [hl.out]
      exact own_of_blk hB.out (Nat.le_refl _) hs.out hl.out (by unfold maxLen; omega) (fun _ _ => rfl) (fun i y hy j hj => hc.out i y (by have := (List.getElem?_eq_some_iff.1 hy).1; rw [hl.out] at this; omega) hy j hj)
def eqInts : List Int → List Int → Bool
  | x :: r, y :: s => decide (x = y) && eqInts r s
  | _, _ => true
theorem eqInts_eq : ∀ (a b : List Int), a.length = b.length → eqInts a b = decide (a = b)
  | [], [], _ => rfl
  | x :: r, y :: s, h => by
    rw [eqInts, eqInts_eq r s (by simpa using h)]
    by_cases h1 : x = y <;> by_cases h2 : r = s <;> simp [h1, h2]
set_option maxHeartbeats 400000 in
theorem eqInt64S_any (A D : Option Addr) (n c m d : Nat) (xs ys : List Int) (w : World) (hn : n ≤ maxLen) (hm : m ≤ maxLen)
    (hx : Rd w w.heap.size A n 1 intE xs) (hy : Rd w w.heap.size D m 1 intE ys) :
    Calls Try.prog 17 #[.slice A n c, .slice D m d] w (Ret (.bool (decide (xs = ys))) w) := by
  have hl := Lib.hid hx.len
  have hl' := Lib.hid hy.len
  unfold maxLen at hn hm
  by_cases h : n = m
  · obtain rfl := h
    have HR := Lib.hid (show eqInts (xs.drop 0) (ys.drop 0) = decide (xs = ys) from eqInts_eq _ _ (by rw [List.drop_zero, List.drop_zero, hl.out, hl'.out]))
    go_enter Try.func17, Try.ntmps17
    go_wp2
    go_loopw [5] (fun i w' => ∃ k : Nat, i = .int .i64 k ∧ k ≤ n ∧ Below w.heap.size w w' ∧ Hid (eqInts (xs.drop k) (ys.drop k) = decide (xs = ys))) (fun i _ => n - (intOf i).toNat)
    case atStart => exact ⟨0, rfl, by omega, Below.refl _ _, HR⟩
    case round =>
      obtain ⟨k, rfl, hk, hb, H⟩ := hrel
      by_cases hlt : k < n
      · obtain ⟨b, o, x, rfl, hB, gx, c0⟩ := (show Rd wr wr.heap.size A n 1 (fun s => [.int .i64 s]) xs from hx.next hb).int hlt
        obtain ⟨b', o', y, rfl, hB', gy, d0⟩ := (show Rd wr wr.heap.size D n 1 (fun s => [.int .i64 s]) ys from hy.next hb).int hlt
        have H' := Lib.hid (show (decide (x = y) && eqInts (xs.drop (k + 1)) (ys.drop (k + 1))) = decide (xs = ys) by
          rw [← H.out, drop_cons gx, drop_cons gy]; rfl)
        clear gx gy H hx hy HR
        have hup := upc wr.heap.size wr
        have i0 : (0 : Int) ≤ (k : Int) := by omega
        have i1 : (k : Int) < (n : Int) := by omega
        by_cases he : x = y
        · have he' := Lib.hid (show decide (x = y) = true by simpa using he)
          subst he
          go_wp2_with fail
          refine wp_region_up wr.heap.size (by kernel_rfl) (by kernel_rfl) ?_
          repeat (go_big_quiet_step (fail))
          refine wpQuiet_nil ?_
          intro w2 hup_w2
          have hb2 := up_of hup_w2
          go_wp2
          go_roundw
          case rel => exact ⟨k + 1, by go_num, by omega, hb.trans (hb2.mono hb.size), Lib.hid (by rw [← H'.out]; simp)⟩
          case measure => simp [intOf]; omega
        · have he' := Lib.hid (show decide (x = y) = false by simpa using he)
          go_wp2_with fail
          refine wp_region_up wr.heap.size (by kernel_rfl) (by kernel_rfl) ?_
          repeat (go_big_quiet_step (fail))
          refine wpQuiet_nil ?_
          intro w2 hup_w2
          have hb2 := up_of hup_w2
          go_wp2
          go_ret
          exact ⟨ret_bool (by rw [← H'.out, he'.out, Bool.false_and]), hb.trans (hb2.mono hb.size)⟩
      · go_wp2
        go_ret
        exact ⟨ret_bool (by rw [← H.out, List.drop_of_length_le (by rw [hl.out]; omega)]; rfl), hb⟩
  · have e := Lib.hid (show decide (xs = ys) = false by simp; rintro rfl; exact h (hl.out.symm.trans hl'.out))
    go_enter Try.func17, Try.ntmps17
    go_wp2
    go_ret
    exact ⟨ret_bool e.out.symm, Below.refl _ _⟩
set_option maxHeartbeats 1000000 in
theorem indexInt_any (fp : Nat) (ep : EnterOk fp) (cp : Array Value) (p : Int → Bool) (A : Option Addr) (n c : Nat) (zs : List Int) (w : World) (hn : n ≤ 1048576) (hr : Rd w w.heap.size A n 1 intE zs)
    (hP : ∀ (k : Nat) (x : Int), zs[k]? = some x → ∀ w', Below w.heap.size w w' → Calls Try.prog fp (#[.int .i64 x] ++ cp) w' (Ret (.bool (p x)) w')) :
    Calls Try.prog 127 #[.slice A n c, .func (.func fp) #[] cp] w (Ret (.int .i64 (findI p zs 0)) w) := by
  have hl := Lib.hid hr.len
  have HP := Lib.hid hP; clear hP
  unfold EnterOk at ep
  go_enter Try.func127, Try.ntmps127
  go_wp2_with fail
  go_loopw [8] (fun i_ w' => ∃ k : Nat, i_ = .int .i64 k ∧ k ≤ n ∧ Below w.heap.size w w' ∧ Hid (findI p (zs.drop k) k = findI p zs 0)) (fun i_ _ => n - (intOf i_).toNat)
  case atStart => exact ⟨0, rfl, by omega, Below.refl _ _, Lib.hid rfl⟩
  case round =>
    obtain ⟨k, rfl, hk, hb, H⟩ := hrel
    by_cases hlt : k < n
    · obtain ⟨b, o, x, rfl, hB, gx, c0⟩ := (show Rd wr wr.heap.size A n 1 (fun s => [.int .i64 s]) zs from hr.next hb).int hlt
      have H' := Lib.hid (show (if p x = true then (k : Int) else findI p (zs.drop (k + 1)) (k + 1)) = findI p zs 0 by rw [← H.out, drop_cons gx]; rfl)
      have hc := HP.out k x gx wr hb
      clear gx H
      rcases hp : p x with _ | _
      all_goals
        rw [hp] at hc
        have Hp := Lib.hid hp; clear hp
        have Hc := Lib.hid hc; clear hc
        go_wp2_with fail
        refine Hc.out.mono ?_
        rintro e w1 ⟨rfl, hb1⟩
        go_wp2_with fail
        first
          | (go_ret
             exact ⟨ret_int (by rw [← H'.out, Hp.out]; rfl), hb.trans (hb1.mono hb.size)⟩)
          | (go_roundw
             case rel => exact ⟨k + 1, by go_num, by omega, hb.trans (hb1.mono hb.size), Lib.hid (by rw [← H'.out, Hp.out]; rfl)⟩
             case measure => simp [intOf]; omega)
    · go_wp2_with fail
      go_ret
      exact ⟨ret_int (by rw [← H.out, List.drop_of_length_le (by rw [hl.out]; omega)]; rfl), hb⟩
theorem containsInt_any (fp : Nat) (ep : EnterOk fp) (cp : Array Value) (p : Int → Bool) (A : Option Addr) (n c : Nat) (zs : List Int) (w : World) (hn : n ≤ 1048576) (hr : Rd w w.heap.size A n 1 intE zs)
    (hP : ∀ (k : Nat) (x : Int), zs[k]? = some x → ∀ w', Below w.heap.size w w' → Calls Try.prog fp (#[.int .i64 x] ++ cp) w' (Ret (.bool (p x)) w')) :
    Calls Try.prog 116 #[.slice A n c, .func (.func fp) #[] cp] w (Ret (.bool (zs.any p)) w) := by
  have e := Lib.hid (findI_any p zs 0 (by omega))
  have Hc := Lib.hid (indexInt_any fp ep cp p A n c zs w hn hr hP)
  clear hP hr
  go_enter Try.func116, Try.ntmps116
  go_wp2_with fail
  refine Hc.out.mono ?_
  rintro e1 w1 ⟨rfl, hb1⟩
  go_wp2_with fail
  go_ret
  exact ⟨ret_bool e.out, hb1⟩
theorem areW1_any (z : Int) (w : World) : Calls Try.prog 117 #[.int .i64 z] w (Ret (.bool (!inB z (-9) 9)) w) := by
  have hc := fun W => within_any z (-9) 9 (inB z (-9) 9) W rfl
  generalize inB z (-9) 9 = b at *
  go_enter Try.func117, Try.ntmps117
  go_wp2_with fail
  refine (hc _).mono ?_
  rintro e w1 ⟨rfl, hb1⟩
  go_wp2_with fail
  go_ret
  exact ⟨rfl, hb1⟩
theorem all_any {α : Type} (p : α → Bool) (xs : List α) : (!(xs.any fun x => !p x)) = xs.all p := by
  induction xs with
  | nil => rfl
  | cons x r ih => simp [← ih]
theorem areWeights_any (A : Option Addr) (n c : Nat) (zs : List Int) (w : World) (hn : n ≤ 1048576) (hr : Rd w w.heap.size A n 1 intE zs) :
    Calls Try.prog 86 #[.slice A n c] w (Ret (.bool (wsB zs)) w) := by
  have hl := hr.len
  by_cases h : n = 4
  · have e := Lib.hid (show wsB zs = !(zs.any fun z => !inB z (-9) 9) by rw [all_any]; unfold wsB; rw [hl]; simp [h])
    have e0 : ((n : Int) == 4) = true := by simp [h]
    have HR := Lib.hid hr
    clear hl hr h
    go_enter Try.func86, Try.ntmps86
    go_wp2_with fail
    refine (containsInt_any 117 (enterOk Try.func117 (by kernel_rfl) (by kernel_rfl)) #[] (fun z => !inB z (-9) 9) A n c zs _ hn HR.out (fun k x _ w' _ => areW1_any x w')).mono ?_
    rintro e w1 ⟨rfl, hb1⟩
    go_wp2_with fail
    go_ret
    exact ⟨ret_bool e.out.symm, hb1⟩
  · have e := Lib.hid (show wsB zs = false by unfold wsB; rw [hl]; simp [h])
    have e0 : ((n : Int) == 4) = false := by simp; omega
    clear hl hr h
    go_enter Try.func86, Try.ntmps86
    go_wp2_with fail
    go_ret
    exact ⟨ret_bool e.out.symm, Below.refl _ _⟩
def allW : List Int → Bool → Bool
  | [], b => b
  | x :: r, b => if b = true then allW r (inB x (-9) 9) else b
theorem allW_eq : ∀ (zs : List Int) (b : Bool), allW zs b = (b && zs.all fun z => inB z (-9) 9)
  | [], b => by simp [allW]
  | x :: r, b => by
    unfold allW
    rcases b with _ | _
    · simp
    · rw [if_pos rfl, allW_eq r]; simp
set_option maxHeartbeats 1000000 in
theorem l05Weights_any (gb : Nat) (A : Option Addr) (n c : Nat) (rs : List Fac) (D : Option Addr) (m d : Nat) (zs : List Int) (w : World) (hg : gb < w.heap.size) (hc : w.cell? ⟨gb, 0, none⟩ = some (.slice A n c)) (hn : n ≤ 1048576) (hr : Rd w w.heap.size A n 3 Fac.cells rs)
    (hok : ∀ f ∈ rs, f.l.size ≤ maxLen) (hm : m ≤ 1048576) (hd : Rd w w.heap.size D m 1 intE zs) :
    Calls Try.prog 37 #[.pointer (some ⟨gb, 0, none⟩), .slice D m d] w (Ret (.int .i64 (wsC rs zs)) w) := by
  have hl := Lib.hid hd.len
  have HR := Lib.hid hr; clear hr
  have HD := Lib.hid hd; clear hd
  have HO := Lib.hid hok; clear hok
  rcases hgk : (gOk rs).isSome with _ | _
  · have Hg := Lib.hid hgk; clear hgk
    have e := Lib.hid (show wsC rs zs = 1 by unfold wsC; rw [if_pos Hg.out])
    go_enter Try.func37, Try.ntmps37
    go_wp2_with fail
    refine (l02Ok_any gb A n c rs _ hg hc (by omega) HR.out HO.out false Hg.out).mono ?_
    rintro e1 w1 ⟨rfl, hb1⟩
    go_wp2_with fail
    go_ret
    exact ⟨ret_int e.out.symm, hb1⟩
  · have Hg := Lib.hid hgk; clear hgk
    have e := Lib.hid (show wsC rs zs = if wsB zs = false then 2 else 0 by unfold wsC; rw [if_neg (by rw [Hg.out]; decide)])
    have ha : ∃ b0 : Bool, decide (m = 4) = b0 ∧ ((m : Int) == 4) = b0 := by
      by_cases h : m = 4
      · exact ⟨true, by simp [h], by simp [h]⟩
      · exact ⟨false, by simp [h], by simp; omega⟩
    obtain ⟨b0, h0, e0⟩ := ha
    have e2 := Lib.hid (show wsB zs = allW (zs.drop 0) b0 by rw [allW_eq, ← h0]; unfold wsB; rw [hl.out]; rfl)
    clear h0
    go_enter Try.func37, Try.ntmps37
    go_wp2_with fail
    refine (l02Ok_any gb A n c rs _ hg hc (by omega) HR.out HO.out true Hg.out).mono ?_
    rintro e1 w1 ⟨rfl, hb1⟩
    go_wp2_with fail
    go_loopw [5, 6] (fun ok_ i_ w' => ∃ (k : Nat) (b : Bool), i_ = .int .i64 k ∧ ok_ = .bool b ∧ k ≤ m ∧ Below w.heap.size w w' ∧ Hid (wsB zs = allW (zs.drop k) b)) (fun _ i_ _ => m - (intOf i_).toNat)
    case atStart => exact ⟨0, b0, rfl, rfl, by omega, hb1, e2⟩
    case round =>
      obtain ⟨k, b, rfl, rfl, hk, hb, H⟩ := hrel
      by_cases hlt : k < m
      · obtain ⟨p, o, x, rfl, hB, gx, c0⟩ := (show Rd wr wr.heap.size D m 1 (fun s => [.int .i64 s]) zs from HD.out.next hb).int hlt
        have H' := Lib.hid (show wsB zs = if b = true then allW (zs.drop (k + 1)) (inB x (-9) 9) else b by rw [H.out, drop_cons gx]; rfl)
        clear gx H
        rcases b with _ | _
        · have e5 := Lib.hid (show (if wsB zs = false then (2 : Int) else 0) = 2 by rw [H'.out]; rfl)
          go_wp2_with fail
          go_ret
          exact ⟨ret_int (by rw [e.out, e5.out]), hb⟩
        · rcases hx : inB x (-9) 9 with _ | _
          all_goals
            have Hx := Lib.hid hx; clear hx
            go_wp2_with fail
            refine (specIn_any x (-9) 9 _ _ Hx.out).mono ?_
            rintro e1 w2 ⟨rfl, hb2⟩
            go_wp2_with fail
            go_roundw
            case rel => exact ⟨k + 1, _, by go_num, rfl, by omega, hb.trans (hb2.mono hb.size), Lib.hid (by rw [H'.out, if_pos trivial, Hx.out])⟩
            case measure => simp [intOf]; omega
      · have e3 := Lib.hid (show wsB zs = b by rw [H.out, List.drop_of_length_le (by rw [hl.out]; omega)]; rfl)
        clear H
        rcases b with _ | _
        all_goals
          have e4 := Lib.hid (congrArg (fun t => if t = false then (2 : Int) else 0) e3.out)
          go_wp2_with fail
          go_ret
          exact ⟨ret_int (by rw [e.out]; exact e4.out.symm), hb⟩
set_option maxHeartbeats 1000000 in
theorem climbCode_any (A : Option Addr) (n c : Nat) (rs : List Fac) (D : Option Addr) (m d : Nat) (zs : List Int) (w : World) (hn : n ≤ 1048576) (hr : Rd w w.heap.size A n 3 Fac.cells rs)
    (hok : ∀ f ∈ rs, f.l.size ≤ maxLen) (hm : m ≤ 1048576) (hd : Rd w w.heap.size D m 1 intE zs) :
    Calls Try.prog 44 #[.agg #[.slice A n c], .slice D m d] w (Ret (.int .i64 (wsC rs zs)) w) := by
  have hb0 : Below w.heap.size w (w.alloc (.cells #[.slice A n c] 31)) := by (repeat first | exact Below.refl _ _ | assumption | refine Below.drew ?_ | refine Below.alloc ?_ (by first | exact Nat.le_refl _ | (simp; done) | omega | (simp; omega)) _ | refine Below.setCell ?_ (by first | exact Nat.le_refl _ | (simp; done) | omega | (simp; omega)) _)
  have HR := Lib.hid (hr.next hb0); clear hr
  have HD := Lib.hid (hd.next hb0); clear hd
  have HO := Lib.hid hok; clear hok
  rcases hgk : (gOk rs).isSome with _ | _
  · have Hg := Lib.hid hgk; clear hgk
    have e := Lib.hid (show wsC rs zs = 1 by unfold wsC; rw [if_pos Hg.out])
    go_enter Try.func44, Try.ntmps44
    go_wp2_with fail
    refine (validG_any A n c rs _ (by omega) HR.out HO.out false Hg.out).mono ?_
    rintro e1 w1 ⟨rfl, hb1⟩
    go_wp2_with fail
    go_ret
    exact ⟨ret_int e.out.symm, hb0.trans (hb1.mono hb0.size)⟩
  · have Hg := Lib.hid hgk; clear hgk
    have e := Lib.hid (show wsC rs zs = if wsB zs = false then 2 else 0 by unfold wsC; rw [if_neg (by rw [Hg.out]; decide)])
    go_enter Try.func44, Try.ntmps44
    go_wp2_with fail
    refine (validG_any A n c rs _ (by omega) HR.out HO.out true Hg.out).mono ?_
    rintro e1 w1 ⟨rfl, hb1⟩
    have b1 := hb0.trans (hb1.mono hb0.size)
    go_wp2_with fail
    refine (areWeights_any D m d zs _ hm (HD.out.next hb1)).mono ?_
    rintro e1 w2 ⟨rfl, hb2⟩
    have b2 := b1.trans (hb2.mono b1.size)
    rcases hz : wsB zs with _ | _
    all_goals
      have Hz := Lib.hid hz; clear hz
      go_wp2_with fail
      go_ret
      exact ⟨ret_int (by rw [e.out, Hz.out]; rfl), b2⟩
end Go.Proofs.Ytlokofafojepdaa
