
/-
  Tables of rows of any length: compared, marked, held (numbers).
-/
import Derived.Test.YtcpofhjoblgmgaaDoorRag
import Derived.Test.YtcpofhjoblgmgaaDoorInts
import Derived.Test.YtcpofhjoblgmgaaDoorMarkI
import Derived.Deep.DeepCutAuto
namespace Go.Proofs.YtcpofhjoblgmgaaDoor
open Go.RowKit

theorem dec_cons {α : Type} [DecidableEq α] (x y : α) (xs ys : List α) : (decide (x = y) && decide (xs = ys)) = decide (x :: xs = y :: ys) := by
  by_cases h : x = y <;> by_cases h2 : xs = ys <;> simp [h, h2]
/-- all but some rows is as it was -/
structure RowsFr (w w' : World) (hs : List RowH) : Prop where
  os : w'.os = w.os
  tape : w'.tape = w.tape
  output : w'.output = w.output
  size : w.heap.size ≤ w'.heap.size
  block : ∀ b, b < w.heap.size → (∀ (i : Nat) (q : RowH), hs[i]? = some q → (Value.slice q.A q.n q.c).ownBlock ≠ some b) → w'.heap[b]? = w.heap[b]?
theorem RowsFr.refl (w : World) (hs : List RowH) : RowsFr w w hs := ⟨rfl, rfl, rfl, Nat.le_refl _, fun _ _ _ => rfl⟩
theorem RowsFr.next {w w1 w2 : World} {hs : List RowH} (h : RowsFr w w1 hs) (hb : Below w1.heap.size w1 w2) : RowsFr w w2 hs :=
  ⟨hb.os.trans h.os, hb.tape.trans h.tape, hb.output.trans h.output, Nat.le_trans h.size hb.size, fun b hb1 hn => (hb.block b (Nat.lt_of_lt_of_le hb1 h.size)).trans (h.block b hb1 hn)⟩
theorem RowsFr.row {w w1 w2 : World} {hs : List RowH} {i : Nat} {q : RowH} (h : RowsFr w w1 hs) (hi : hs[i]? = some q) (hg : w1.grownBy w2 (Value.slice q.A q.n q.c).ownBlock) : RowsFr w w2 hs :=
  ⟨hg.os.trans h.os, hg.tape.trans h.tape, hg.output.trans h.output, Nat.le_trans h.size hg.size, fun b hb1 hn => (hg.block b (Nat.lt_of_lt_of_le hb1 h.size) (fun e => hn i q hi e.symm)).trans (h.block b hb1 hn)⟩
theorem RowsFr.below {w w' : World} {hs : List RowH} {base : Nat} (h : RowsFr w w' hs) (hb : base ≤ w.heap.size) (hr : ∀ (i : Nat) (q : RowH) (b : Nat), hs[i]? = some q → (Value.slice q.A q.n q.c).ownBlock = some b → base ≤ b) : Below base w w' :=
  ⟨h.os, h.tape, h.output, h.size, fun b hlt => h.block b (Nat.lt_of_lt_of_le hlt hb) (fun i q hi e => by have := hr i q b hi e; omega)⟩
theorem RowsFr.own {w w' : World} {hs : List RowH} {base e sz n : Nat} {v : Value} {xs : List Value} (h : RowsFr w w' hs) (ho : w.ownsRow base e sz v n xs) (hne : ∀ (i : Nat) (q : RowH) (b : Nat), hs[i]? = some q → (Value.slice q.A q.n q.c).ownBlock = some b → v.ownBlock ≠ some b) : w'.ownsRow base e sz v n xs := by
  refine ⟨ho.1, ?_⟩
  rcases ho.2 with hn | ⟨g, cap, cur, rfl, hg, hh, r⟩
  · exact .inl hn
  · exact .inr ⟨g, cap, cur, rfl, hg, (h.block g (ho.lt g rfl).2 (fun i q hi e => hne i q g hi e rfl)).trans hh, r⟩
theorem RowsFr.blk {w w' : World} {hs : List RowH} {g : Nat} {t : TypeId} {cs : Array Value} (h : RowsFr w w' hs) (hB : Blk w g t cs) (hne : ∀ (i : Nat) (q : RowH) (b : Nat), hs[i]? = some q → (Value.slice q.A q.n q.c).ownBlock = some b → g ≠ b) : Blk w' g t cs :=
  (h.block g hB.lt (fun i q hi e => hne i q g hi e rfl)).trans hB
section
variable {α : Type} {EH E : TypeId} {w w' : World} {base n c : Nat} {A : Option Addr} {enc : α → List Value} {hs : List RowH} {xss : List (List α)}
theorem TabR.ge (h : TabR EH E enc w base A n c hs xss) : ∀ (i : Nat) (q : RowH) (b : Nat), hs[i]? = some q → (Value.slice q.A q.n q.c).ownBlock = some b → base ≤ b ∧ b < w.heap.size := fun i q b hq hb => by
  have hx : xss[i]? = some (xss[i]'(by rw [h.lx, ← h.lg]; exact (List.getElem?_eq_some_iff.1 hq).1)) := List.getElem?_eq_getElem _
  exact (h.r i q _ hq hx).2.lt b hb
/-- a row is written anew -/
theorem TabR.put {i : Nat} {q : RowH} {y : List α} (hE : EH ≠ E) (h : TabR EH E enc w base A n c hs xss) (hi : hs[i]? = some q) (hy : w'.ownsRow base E 1 (.slice q.A q.n q.c) q.n (y.flatMap enc)) (hl : y.length = q.n) (hg : w.grownBy w' (Value.slice q.A q.n q.c).ownBlock) :
    TabR EH E enc w' base A n c hs (xss.set i y) := by
  have hil := (List.getElem?_eq_some_iff.1 hi).1
  have hxi : xss[i]? = some (xss[i]'(by rw [h.lx, ← h.lg]; exact hil)) := List.getElem?_eq_getElem _
  have hq := h.r i q _ hi hxi
  refine ⟨h.o.kept hg (own_ne h.o hq.2 hE), h.lg, by rw [List.length_set, h.lx], fun j p x hj hx => ?_, h.d⟩
  by_cases hij : i = j
  · subst hij
    obtain rfl : q = p := Option.some.inj (hi.symm.trans hj)
    rw [List.getElem?_set_self (by rw [h.lx, ← h.lg]; exact hil)] at hx
    injection hx with hx
    subst hx
    exact ⟨hl, hy⟩
  · rw [List.getElem?_set_ne hij] at hx
    have hp := h.r j p x hj hx
    refine ⟨hp.1, hp.2.kept hg ?_⟩
    cases hv : (Value.slice p.A p.n p.c).ownBlock with
    | none => exact .inl rfl
    | some b => exact .inr fun e => hij (h.d i j q p b hi hj e.symm hv)
theorem TabR.at_ (h : TabR EH E enc w base A n c hs xss) {i : Nat} (hi : i < n) : ∃ p q x, A = some ⟨p, 0, none⟩ ∧ p < w.heap.size ∧ hs[i]? = some q ∧ xss[i]? = some x ∧ w.cell? ⟨p, i, none⟩ = some (.slice q.A q.n q.c) ∧ x.length = q.n ∧ w.ownsRow base E 1 (.slice q.A q.n q.c) q.n (x.flatMap enc) := by
  obtain ⟨p, cap, hv, hg, hs'⟩ := h.o.form (by omega)
  injection hv with hA _ _
  subst hA
  have hq : hs[i]? = some (hs[i]'(by rw [h.lg]; exact hi)) := List.getElem?_eq_getElem _
  have hx : xss[i]? = some (xss[i]'(by rw [h.lx]; exact hi)) := List.getElem?_eq_getElem _
  refine ⟨p, _, _, rfl, hs', hq, hx, ?_, h.r i _ _ hq hx⟩
  rw [h.o.cellAt i (by omega)]
  have := flat_at (enc := encR) (sz := 1) hs (fun _ _ => rfl) i _ hq 0 (by omega)
  rw [Nat.mul_one, Nat.add_zero] at this
  rw [this]; rfl
end
/-- how much is in a table -/
def sumL {α : Type} : List (List α) → Nat
  | [] => 0
  | x :: r => x.length + sumL r
theorem sumL_take {α : Type} : ∀ (l : List (List α)) (i : Nat) (x : List α), l[i]? = some x → sumL (l.take (i + 1)) = sumL (l.take i) + x.length
  | [], i, x, h => by simp at h
  | y :: r, 0, x, h => by
    have h : y = x := by simpa using h
    subst h; simp [sumL]
  | y :: r, i + 1, x, h => by
    have := sumL_take r i x (by simpa using h)
    simp only [List.take_succ_cons, sumL]
    omega
theorem sumL_le {α : Type} : ∀ (l : List (List α)) (i : Nat), sumL (l.take i) ≤ sumL l
  | [], i => by simp [sumL]
  | y :: r, 0 => by simp [sumL]
  | y :: r, i + 1 => by
    have := sumL_le r i
    simp only [List.take_succ_cons, sumL]
    omega
theorem sumL_mem {α : Type} : ∀ (l : List (List α)) (x : List α), x ∈ l → x.length ≤ sumL l
  | y :: r, x, h => by
    rcases List.mem_cons.1 h with rfl | h
    · simp [sumL]
    · have := sumL_mem r x h
      simp only [sumL]; omega
def mksI (k : Nat) : List (List Int) → List (List Int)
  | [] => []
  | x :: r => marksI k x.length :: mksI (k + x.length) r
theorem mksI_len : ∀ (l : List (List Int)) (k : Nat), (mksI k l).length = l.length
  | [], _ => rfl
  | x :: r, k => by simp [mksI, mksI_len r]
theorem mksI_at : ∀ (l : List (List Int)) (k i : Nat) (x : List Int), l[i]? = some x → (mksI k l)[i]? = some (marksI (k + sumL (l.take i)) x.length)
  | [], _, i, x, h => by simp at h
  | y :: r, k, 0, x, h => by
    have h : y = x := by simpa using h
    subst h; simp [mksI, sumL]
  | y :: r, k, i + 1, x, h => by
    have := mksI_at r (k + y.length) i x (by simpa using h)
    simp only [mksI, List.getElem?_cons_succ, this, List.take_succ_cons, sumL]
    congr 2; omega
/-- the rows ahead of i are marked -/
def mkdI (k : Nat) (l : List (List Int)) (i : Nat) : List (List Int) := (mksI k l).take i ++ l.drop i
theorem mkdI_len (k : Nat) (l : List (List Int)) {i : Nat} (h : i ≤ l.length) : (mkdI k l i).length = l.length := by
  unfold mkdI
  rw [List.length_append, List.length_take, List.length_drop, mksI_len]; omega
theorem mkdI_at (k : Nat) (l : List (List Int)) {i : Nat} (h : i < l.length) : (mkdI k l i)[i]? = l[i]? := by
  unfold mkdI
  rw [List.getElem?_append_right (by rw [List.length_take, mksI_len]; omega), List.length_take, mksI_len, Nat.min_eq_left (by omega), Nat.sub_self, List.getElem?_drop, Nat.add_zero]
theorem mkdI_next (k : Nat) (l : List (List Int)) {i : Nat} {x : List Int} (h : l[i]? = some x) : (mkdI k l i).set i (marksI (k + sumL (l.take i)) x.length) = mkdI k l (i + 1) := by
  have hi := (List.getElem?_eq_some_iff.1 h).1
  unfold mkdI
  rw [List.set_append_right _ _ (by rw [List.length_take, mksI_len]; omega), List.length_take, mksI_len, Nat.min_eq_left (by omega), Nat.sub_self, drop_cons h, List.set_cons_zero, List.take_add_one, mksI_at l k i x h]
  simp
theorem mkdI_end (k : Nat) (l : List (List Int)) : mkdI k l l.length = mksI k l := by
  unfold mkdI
  rw [List.drop_length, List.append_nil, List.take_of_length_le (by rw [mksI_len]; exact Nat.le_refl _)]
set_option maxHeartbeats 1000000 in
theorem eqTI_any (A D : Option Addr) (n c m d : Nat) (hs gs : List RowH) (xss yss : List (List Int)) (w : World) (hn : n ≤ 1048576) (hm : m ≤ 1048576) (hx : RdT w w.heap.size A n intE hs xss) (hy : RdT w w.heap.size D m intE gs yss) (hxz : ∀ x ∈ xss, x.length ≤ 1048576) (hyz : ∀ x ∈ yss, x.length ≤ 1048576) :
    Calls Tryd.prog 18 #[.slice A n c, .slice D m d] w (Ret (.bool (decide (xss = yss))) w) := by
  have HX := Lib.hid hx
  have HY := Lib.hid hy
  have HXz := Lib.hid hxz
  have HYz := Lib.hid hyz
  have lx := hx.len
  have ly := hy.len
  clear hx hy hxz hyz
  by_cases hnm : n = m
  · subst hnm
    have Hl := Lib.hid (show xss.length = n ∧ yss.length = n from ⟨lx, ly⟩)
    have H0 := Lib.hid (show decide (xss.drop 0 = yss.drop 0) = decide (xss = yss) from rfl)
    generalize decide (xss = yss) = b at *
    clear lx ly
    go_enter Tryd.func18, Tryd.ntmps18
    go_wp2_with fail
    go_loopw [5] (fun i_ w' => ∃ k : Nat, i_ = .int .i64 k ∧ k ≤ n ∧ Hid (Below w.heap.size w w') ∧ Hid (decide (xss.drop k = yss.drop k) = b)) (fun i_ _ => n - (intOf i_).toNat)
    case atStart => exact ⟨0, rfl, by omega, Lib.hid (Below.refl _ _), H0⟩
    case round =>
      obtain ⟨k, rfl, hk, hb, H⟩ := hrel
      clear H0
      by_cases hlt : k < n
      · obtain ⟨p, o, q, x, rfl, hB, gq, gx, c0, rx⟩ := (HX.out.next hb.out).at_ hlt
        obtain ⟨p', o', q', y, rfl, hB', gq', gy, c0', ry⟩ := (HY.out.next hb.out).at_ hlt
        have hq := rx.len
        have hq' := ry.len
        have zx := HXz.out x (List.mem_of_getElem? gx)
        have zy := HYz.out y (List.mem_of_getElem? gy)
        have H' : (decide (x = y) && decide (xss.drop (k + 1) = yss.drop (k + 1))) = b := by
          rw [← H.out, drop_cons gx, drop_cons gy]
          exact dec_cons _ _ _ _
        have CQ := Lib.hid (fun W (h : Below wr.heap.size wr W) => eqInt64S_any q.A q'.A q.n q.c q'.n q'.c x y W (by unfold maxLen; omega) (by unfold maxLen; omega) (rx.next h) (ry.next h))
        have hup := upc wr.heap.size wr
        have i0 : (0 : Int) ≤ (k : Int) := by omega
        have i1 : (k : Int) < (n : Int) := by omega
        generalize decide (x = y) = bxy at *
        have H2 := Lib.hid H'
        clear H' H gx gy gq gq' rx ry
        cases bxy
        · go_upto_region 6 with fail
          refine wp_region_up wr.heap.size (by kernel_rfl) (by kernel_rfl) ?_
          repeat (go_big_quiet_step ((go_at_call 17; with_reducible exact Calls.upR (Nat.le_refl _) (CQ.out _ (Up.h _)))))
          refine wpQuiet_nil ?_
          intro w2 hup_w2
          have hb2 := up_of hup_w2
          go_wp2_with fail
          go_ret
          exact ⟨ret_bool (by rw [← H2.out]; rfl), hb.out.trans (hb2.mono hb.out.size)⟩
        · go_upto_region 6 with fail
          refine wp_region_up wr.heap.size (by kernel_rfl) (by kernel_rfl) ?_
          repeat (go_big_quiet_step ((go_at_call 17; with_reducible exact Calls.upR (Nat.le_refl _) (CQ.out _ (Up.h _)))))
          refine wpQuiet_nil ?_
          intro w2 hup_w2
          have hb2 := up_of hup_w2
          go_wp2_with fail
          go_roundw
          case rel => exact ⟨k + 1, by go_num, by omega, Lib.hid (hb.out.trans (hb2.mono hb.out.size)), Lib.hid (by rw [← H2.out]; rfl)⟩
          case measure => simp [intOf]; omega
      · have hT := Lib.hid (show true = b by
          rw [← H.out, List.drop_of_length_le (by have := Hl.out.1; omega), List.drop_of_length_le (by have := Hl.out.2; omega)]; rfl)
        have i1 : ¬ (k : Int) < (n : Int) := by omega
        go_wp2_with fail
        go_ret
        exact ⟨ret_bool hT.out, hb.out⟩
  · have hf : decide (xss = yss) = false := decide_eq_false (fun e => hnm (by rw [← lx, ← ly, e]))
    rw [hf]
    have e0 : ¬ (n : Int) = (m : Int) := by omega
    clear lx ly
    go_enter Tryd.func18, Tryd.ntmps18
    go_wp2_with fail
    go_ret
    exact ⟨rfl, Below.refl _ _⟩
set_option maxHeartbeats 1000000 in
theorem markTI_any (base : Nat) (A : Option Addr) (n c k : Nat) (hs : List RowH) (xss : List (List Int)) (w : World) (hn : n ≤ 1048576) (hk : k + sumL xss ≤ 1048576) (hx : TabR 22 2 intE w base A n c hs xss) :
    Calls Tryd.prog 20 #[.slice A n c, .int .i64 (k : Int)] w fun e w' => e = .returned (.int .i64 ((k + sumL xss : Nat) : Int)) ∧ TabR 22 2 intE w' base A n c hs (mksI k xss) ∧ RowsFr w w' hs := by
  have lx := Lib.hid hx.lx
  have P0 := Lib.hid (show TabR 22 2 intE w base A n c hs (mkdI k xss 0) from hx)
  clear hx
  go_enter Tryd.func20, Tryd.ntmps20
  go_wp2_with fail
  go_loopw [1, 5] (fun k_ i_ w' => ∃ i : Nat, i_ = .int .i64 i ∧ k_ = .int .i64 ((k + sumL (xss.take i) : Nat) : Int) ∧ i ≤ n ∧ Hid (TabR 22 2 intE w' base A n c hs (mkdI k xss i)) ∧ Hid (RowsFr w w' hs)) (fun _ i_ _ => n - (intOf i_).toNat)
  case atStart => exact ⟨0, rfl, rfl, by omega, P0, Lib.hid (RowsFr.refl _ _)⟩
  case round =>
    obtain ⟨i, rfl, rfl, hi, HP, HF⟩ := hrel
    clear P0
    by_cases hlt : i < n
    · obtain ⟨p, q, x', rfl, hB, gq, gx', c0, hq, ro⟩ := HP.out.at_ hlt
      have gx : xss[i]? = some x' := by rw [mkdI_at k xss (by rw [lx.out]; exact hlt)] at gx'; exact gx'
      have hsm := sumL_take xss i x' gx
      have hle := sumL_le xss (i + 1)
      have HN := Lib.hid (mkdI_next k xss gx)
      have MK := Lib.hid (markInt64S_any q.A q.n q.c base (x'.flatMap intE) (k + sumL (xss.take i)) wr (by omega) (by omega) ro)
      have HS := Lib.hid hsm
      have hql : q.n = x'.length := hq.symm
      have HQ := Lib.hid hq
      obtain ⟨K, hK⟩ : ∃ K, k + sumL (xss.take i) = K := ⟨_, rfl⟩
      rw [hK] at HN MK
      have HK := Lib.hid hK
      have i0 : (0 : Int) ≤ (i : Int) := by omega
      have i1 : (i : Int) < (n : Int) := by omega
      rw [hK]
      clear gx gx' hsm hle hK hql hq
      go_wp2_with fail
      refine MK.out.mono ?_
      rintro e w2 ⟨rfl, own2, hg2⟩
      have P2 := Lib.hid (HP.out.put (by decide) gq own2 (by rw [marksI_len]) hg2)
      have F2 := Lib.hid (HF.out.row gq hg2)
      clear own2 hg2
      go_wp2_with fail
      go_roundw
      case rel => exact ⟨i + 1, by go_num, by have := HS.out; have := HK.out; have := HQ.out; congr 2; omega, by omega, Lib.hid (by rw [← HN.out, HQ.out]; exact P2.out), F2⟩
      case measure => simp [intOf]; omega
    · obtain rfl : i = n := by omega
      have i1 : ¬ (i : Int) < (i : Int) := by omega
      have ht : xss.take i = xss := List.take_of_length_le (by rw [lx.out]; exact Nat.le_refl _)
      rw [ht]
      have HE := Lib.hid (show mkdI k xss i = mksI k xss by rw [← lx.out]; exact mkdI_end k xss)
      go_wp2_with fail
      go_ret
      exact ⟨rfl, by rw [← HE.out]; exact HP.out, HF.out⟩
set_option maxHeartbeats 1000000 in
theorem heldTI_any (A : Option Addr) (n c k : Nat) (hs : List RowH) (xss : List (List Int)) (w : World) (hn : n ≤ 1048576) (hk : k + sumL xss ≤ 1048576) (hl : xss.length = n) (hx : RdT w w.heap.size A n intE hs (mksI k xss)) :
    Calls Tryd.prog 22 #[.slice A n c, .int .i64 (k : Int)] w (Ret (.int .i64 ((k + sumL xss : Nat) : Int)) w) := by
  have HX := Lib.hid hx
  have lx := Lib.hid hl
  clear hx hl
  go_enter Tryd.func22, Tryd.ntmps22
  go_wp2_with fail
  go_loopw [1, 5] (fun k_ i_ w' => ∃ i : Nat, i_ = .int .i64 i ∧ k_ = .int .i64 ((k + sumL (xss.take i) : Nat) : Int) ∧ i ≤ n ∧ Hid (Below w.heap.size w w')) (fun _ i_ _ => n - (intOf i_).toNat)
  case atStart => exact ⟨0, rfl, rfl, by omega, Lib.hid (Below.refl _ _)⟩
  case round =>
    obtain ⟨i, rfl, rfl, hi, hb⟩ := hrel
    by_cases hlt : i < n
    · obtain ⟨p, o, q, x', rfl, hB, gq, gx', c0, rx⟩ := (HX.out.next hb.out).at_ hlt
      obtain ⟨x, gx⟩ : ∃ x, xss[i]? = some x := ⟨_, List.getElem?_eq_getElem (by rw [lx.out]; exact hlt)⟩
      have gm := mksI_at xss k i x gx
      obtain rfl : x' = marksI (k + sumL (xss.take i)) x.length := Option.some.inj (gx'.symm.trans gm)
      have hsm := sumL_take xss i x gx
      have hle := sumL_le xss (i + 1)
      have hqn := rx.len
      rw [marksI_len] at hqn
      have rx2 : Rd wr wr.heap.size q.A q.n 1 intE (marksI (k + sumL (xss.take i)) q.n) := by rw [← hqn]; rw [← hqn] at rx; exact rx
      have HD := Lib.hid (heldInt64S_any q.A q.n q.c (k + sumL (xss.take i)) wr (by omega) (by omega) rx2)
      have HS := Lib.hid hsm
      have HQ := Lib.hid hqn
      obtain ⟨K, hK⟩ : ∃ K, k + sumL (xss.take i) = K := ⟨_, rfl⟩
      rw [hK] at HD
      have HK := Lib.hid hK
      have i0 : (0 : Int) ≤ (i : Int) := by omega
      have i1 : (i : Int) < (n : Int) := by omega
      have z0 : ¬ ((K : Int) + (q.n : Int) < 0) := by omega
      rw [hK]
      clear gx gx' gm hsm hle hK rx rx2 hqn
      go_wp2_with fail
      refine HD.out.mono ?_
      rintro e w2 ⟨rfl, hb2⟩
      go_wp2_with fail
      go_roundw
      case rel => exact ⟨i + 1, by go_num, by have := HS.out; have := HK.out; have := HQ.out; congr 1; omega, by omega, Lib.hid (hb.out.trans (hb2.mono hb.out.size))⟩
      case measure => simp [intOf]; omega
    · obtain rfl : i = n := by omega
      have i1 : ¬ (i : Int) < (i : Int) := by omega
      have ht : xss.take i = xss := List.take_of_length_le (by rw [lx.out]; exact Nat.le_refl _)
      rw [ht]
      go_wp2_with fail
      go_ret
      exact ⟨rfl, hb.out⟩
end Go.Proofs.YtcpofhjoblgmgaaDoor
