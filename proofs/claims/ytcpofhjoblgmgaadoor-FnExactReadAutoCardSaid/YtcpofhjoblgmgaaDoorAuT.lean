
/-
  The text of an automaton, in the program.
-/
import Derived.Test.YtcpofhjoblgmgaaDoorAuI
import Derived.Test.YtcpofhjoblgmgaaDoorAuV
import Derived.Test.YtcpofhjoblgmgaaDoorStage2
namespace Go.Proofs.YtcpofhjoblgmgaaDoor
open Go.RowKit

/-- bytes as a text -/
def bt (l : List UInt8) : ByteArray := ⟨l.toArray⟩
theorem bt_app (a b : List UInt8) : bt a ++ bt b = bt (a ++ b) := by
  apply ByteArray.ext
  rw [ByteArray.data_append]
  show a.toArray ++ b.toArray = (a ++ b).toArray
  simp
theorem bt_size (a : List UInt8) : (bt a).size = a.length := by show a.toArray.size = _; rw [List.size_toArray]
theorem bt_data (s : ByteArray) : bt s.data.toList = s := by
  unfold bt
  rw [Array.toArray_toList]
theorem wrdS_bt : ∀ (l : List Int) (w : List UInt8), wrdS (bt w) l = bt (lineW w l ++ [10])
  | [], w => by
    show bt w ++ bt [10] = _
    rw [bt_app]; unfold lineW nuT; simp
  | n :: r, w => by
    show wrdS (bt w ++ (bt [32] ++ bt (Lib.decDigits n.toNat))) r = _
    rw [bt_app, bt_app, wrdS_bt r]
    congr 1
    unfold lineW nuT
    simp
def autS (a : AuM) : ByteArray := bt (auT a)
theorem auto_le {l : List Int} (w : List UInt8) (hl : ∀ z ∈ l, 0 ≤ z ∧ z < 1000) : (lineW w l).length ≤ w.length + 4 * l.length := by
  have h : ∀ l : List Int, (∀ z ∈ l, 0 ≤ z ∧ z < 1000) → (nuT l).length ≤ 4 * l.length := by
    intro l
    induction l with
    | nil => intro _; simp [nuT]
    | cons n r ih =>
      intro hl
      have h1 := ih fun z hz => hl z (List.mem_cons_of_mem _ hz)
      have h2 := hl n List.mem_cons_self
      have h3 := dec_len 2 n.toNat (by omega)
      unfold nuT at h1 ⊢
      rw [List.flatMap_cons]
      simp only [List.length_append, List.length_cons] at *
      omega
  have := h l hl
  unfold lineW
  rw [List.length_append]; omega
/-- the rows from one on, as lines -/
def stT (nx : List (List Int)) : List UInt8 := nx.flatMap fun r => lineW stateW r ++ [10]
set_option maxHeartbeats 2000000 in
set_option maxRecDepth 100000 in
theorem autoText_any (S q : Int) (F : Option Addr) (nf cf : Nat) (fin : List Int) (A : Option Addr) (n c : Nat) (hs : List RowH) (nx : List (List Int)) (w : World) (hnf : nf ≤ 1000) (hf : Rd w w.heap.size F nf 1 intE fin)
    (hr : RdT w w.heap.size A n intE hs nx) (hv : auB ⟨S, q, fin, nx⟩ = true) (ht : TabD w) :
    Calls Tryd.prog 16 #[.agg #[.int .i64 S, .int .i64 q, .slice F nf cf, .slice A n c]] w (Ret (.string (autS ⟨S, q, fin, nx⟩)) w) := by
  obtain ⟨⟨s1, s2⟩, ⟨q1, q2⟩, hfi, hnl, hrow⟩ := au_ok hv
  have s1 : 1 ≤ S := s1
  have s2 : S ≤ 24 := s2
  have q1 : 0 ≤ q := q1
  have q2 : q < S := q2
  have hfi : ∀ z ∈ fin, 0 ≤ z ∧ z < S := hfi
  have hnl : (nx.length : Int) = S := hnl
  have hrow : ∀ r ∈ nx, r.length = 4 ∧ ∀ z ∈ r, 0 ≤ z ∧ z < S := hrow
  have hnn := hr.len
  have HF := Lib.hid hf
  have HR := Lib.hid hr
  have HT := Lib.hid (fun W (h : Below w.heap.size w W) => tab_up ht h)
  have HRow := Lib.hid hrow
  have HV := Lib.hid (fun W (h : Below w.heap.size w W) => validAuto_any S q F nf cf fin A n c hs nx W (by omega) (by omega) (HF.out.next h) (HR.out.next h) (fun r hm => by rw [(hrow r hm).1]; omega) true hv)
  have hflen := hf.len
  have hwf := auto_le finsW (l := fin) (fun z hz => by have := hfi z hz; omega)
  have hwa := auto_le autoW (l := [S, q]) (fun z hz => by simp only [List.mem_cons, List.not_mem_nil, or_false] at hz; omega)
  have e5 : finsW.length = 6 := rfl
  have e4 : autoW.length = 4 := rfl
  have e2 : ([S, q] : List Int).length = 2 := rfl
  have WF0 := fun W (h : Below w.heap.size w W) => words_any (bt finsW) F nf cf fin W (by omega) (HF.out.next h) (fun z hz => by have := hfi z hz; omega) (by rw [bt_size]; omega) (HT.out W h)
  rw [wrdS_bt] at WF0
  have WA0 := fun W (g : Nat) (h : Below w.heap.size w W) (hB : Blk W g 2 #[.int .i64 S, .int .i64 q]) => words_any (bt autoW) (some ⟨g, 0, none⟩) 2 2 [S, q] W (by omega)
    (show Rd W W.heap.size (some ⟨g, 0, none⟩) 2 1 intE [S, q] from ⟨rfl, fun _ => ⟨g, 0, rfl, hB.lt, fun k x hx j v hv => by
      have hj : j = 0 := by
        have := (List.getElem?_eq_some_iff.1 hv).1
        simp [intE] at this; omega
      subst hj
      have hv2 : Value.int .i64 x = v := by simpa [intE] using hv
      subst hv2
      rw [Nat.zero_add, Nat.mul_one, Nat.add_zero]
      match k, hx with
      | 0, hx => injection hx with hx; subst hx; exact hB.cell 0
      | 1, hx => injection hx with hx; subst hx; exact hB.cell 1⟩⟩) (fun z hz => by simp only [List.mem_cons, List.not_mem_nil, or_false] at hz; omega) (by rw [bt_size]; omega) (HT.out W h)
  rw [wrdS_bt] at WA0
  have WF1 := Lib.hid WF0
  have WA1 := Lib.hid WA0
  have z0 : (bt (lineW autoW [S, q] ++ [10])).size ≤ 13 := by rw [bt_size, List.length_append]; simp only [List.length_singleton]; omega
  have z1 : (bt (lineW finsW fin ++ [10])).size ≤ 4 * nf + 7 := by rw [bt_size, List.length_append]; simp only [List.length_singleton]; omega
  have z2 : ¬ 9223372036854775807 < (bt (lineW autoW [S, q] ++ [10])).size + (bt (lineW finsW fin ++ [10])).size := by omega
  have hE := Lib.hid (show bt (lineW autoW [S, q] ++ [10]) ++ bt (lineW finsW fin ++ [10]) ++ bt (stT nx) = autS ⟨S, q, fin, nx⟩ by rw [bt_app, bt_app]; rfl)
  generalize autS ⟨S, q, fin, nx⟩ = T at *
  generalize bt (lineW autoW [S, q] ++ [10]) = ta at *
  generalize bt (lineW finsW fin ++ [10]) = tf at *
  clear hf hr ht hwf hwa e5 e4 e2 hv hfi hrow WF0 WA0
  have B0 := Lib.hid (Blk.new w 25 #[.int .i64 S, .int .i64 q, .slice F nf cf, .slice A n c])
  have b0 := Lib.hid (show Below w.heap.size w (w.alloc (.cells #[.int .i64 S, .int .i64 q, .slice F nf cf, .slice A n c] 25)) from by (repeat first | exact Below.refl _ _ | assumption | refine Below.drew ?_ | refine Below.alloc ?_ (by first | exact Nat.le_refl _ | (simp; done) | omega | (simp; omega)) _ | refine Below.setCell ?_ (by first | exact Nat.le_refl _ | (simp; done) | omega | (simp; omega)) _))
  have x0 := B0.out.cell 0
  have x1 := B0.out.cell 1
  have x2 := B0.out.cell 2
  have x3 := B0.out.cell 3
  have xl := B0.out.lt
  go_enter Tryd.func16, Tryd.ntmps16
  go_wp2_with fail
  refine (HV.out _ b0.out).mono ?_
  rintro e w2 ⟨rfl, hb2⟩
  have B2 := Lib.hid (B0.out.next hb2)
  have b2 := Lib.hid (b0.out.trans (hb2.mono b0.out.size))
  clear hb2 x0 x1 x2 x3 xl B0 b0
  have HS := Lib.hid (fun W (h : Below w2.heap.size w2 W) => show W.cell? ⟨w.heap.size, 0, none⟩ = some (.int .i64 S) ∧ W.cell? ⟨w.heap.size, 1, none⟩ = some (.int .i64 q) ∧ W.cell? ⟨w.heap.size, 2, none⟩ = some (.slice F nf cf) from
    ⟨(B2.out.next h).cell 0, (B2.out.next h).cell 1, (B2.out.next h).cell 2⟩)
  have WF := Lib.hid (fun W (h : Below w2.heap.size w2 W) => show Calls Tryd.prog 33 #[.string ⟨#[102, 105, 110, 97, 108, 115]⟩, .slice F nf cf] W (Ret (.string tf) W) from WF1.out W (b2.out.trans (h.mono b2.out.size)))
  have WA := Lib.hid (fun W (g : Nat) (h : Below w2.heap.size w2 W) (hB : Blk W g 2 #[.int .i64 S, .int .i64 q]) => show Calls Tryd.prog 33 #[.string ⟨#[97, 117, 116, 111]⟩, .slice (some ⟨g, 0, none⟩) 2 2] W (Ret (.string ta) W) from WA1.out W g (b2.out.trans (h.mono b2.out.size)) hB)
  have xl := B2.out.lt
  obtain ⟨X, hX⟩ : ∃ X, w.heap.size = X := ⟨_, rfl⟩
  rw [hX] at HS xl B2 ⊢
  go_upto_region 3 with fail
  go_cut [3] (fun t_ wx => t_ = .string (ta ++ tf) ∧ Hid (Below w2.heap.size w2 wx))
  case first =>
    refine wp_region_N (fun W => W.cell? ⟨X, 0, none⟩ = some (.int .i64 S) ∧ W.cell? ⟨X, 1, none⟩ = some (.int .i64 q) ∧ W.cell? ⟨X, 2, none⟩ = some (.slice F nf cf)) [] (by kernel_rfl) ?_
    have c0 : Below w2.heap.size w2 w2.drew := (Below.refl _ _).drew
    have hS0 := HS.out _ c0
    generalize w2.drew = wd at *
    refine wpAnyN_take (i := 0) (v := ?_) rfl (by kernel_rfl) (fun _ _ _ h => h) (by rfl) (fun W hW => ?_) hS0 ?_
    rotate_left
    · obtain ⟨z0, z1, z2⟩ := hW
      go_simp
      try with_reducible rfl
    try simp only [List.getElem_toArray, List.getElem_cons_zero, List.getElem_cons_succ, Act.put, List.setIfInBounds_toArray, List.set_cons_zero, List.set_cons_succ]
    refine wpAnyN_take (i := 1) (v := ?_) rfl (by kernel_rfl) (fun _ _ _ h => h) (by rfl) (fun W hW => ?_) hS0 ?_
    rotate_left
    · obtain ⟨z0, z1, z2⟩ := hW
      go_simp
      try with_reducible rfl
    try simp only [List.getElem_toArray, List.getElem_cons_zero, List.getElem_cons_succ, Act.put, List.setIfInBounds_toArray, List.set_cons_zero, List.set_cons_succ]
    refine wpAnyN_take (i := 2) (v := ?_) rfl (by kernel_rfl) (fun _ _ _ h => h) (by rfl) (fun W hW => ?_) hS0 ?_
    rotate_left
    · obtain ⟨z0, z1, z2⟩ := hW
      go_simp
      try with_reducible rfl
    try simp only [List.getElem_toArray, List.getElem_cons_zero, List.getElem_cons_succ, Act.put, List.setIfInBounds_toArray, List.set_cons_zero, List.set_cons_succ]
    refine wpAnyN_take (i := 3) (v := ?_) rfl (by kernel_rfl) (fun _ _ _ h => h) (by rfl) (fun W hW => ?_) hS0 ?_
    rotate_left
    · obtain ⟨z0, z1, z2⟩ := hW
      go_simp
      try with_reducible rfl
    try simp only [List.getElem_toArray, List.getElem_cons_zero, List.getElem_cons_succ, Act.put, List.setIfInBounds_toArray, List.set_cons_zero, List.set_cons_succ]
    refine wpAnyN_take (i := 6) (v := ?_) rfl (by kernel_rfl) (fun _ _ _ h => h) (by rfl) (fun W hW => ?_) hS0 ?_
    rotate_left
    · obtain ⟨z0, z1, z2⟩ := hW
      go_simp
      try with_reducible rfl
    try simp only [List.getElem_toArray, List.getElem_cons_zero, List.getElem_cons_succ, Act.put, List.setIfInBounds_toArray, List.set_cons_zero, List.set_cons_succ]
    refine wpAnyN_take (i := 7) (v := ?_) rfl (by kernel_rfl) (fun _ _ _ h => h) (by rfl) (fun W hW => ?_) hS0 ?_
    rotate_left
    · obtain ⟨z0, z1, z2⟩ := hW
      go_simp
      try with_reducible rfl
    try simp only [List.getElem_toArray, List.getElem_cons_zero, List.getElem_cons_succ, Act.put, List.setIfInBounds_toArray, List.set_cons_zero, List.set_cons_succ]
    clear hS0
    refine wpAnyN_next (i := 4) rfl (by kernel_rfl) (fun Kc hK => ?_)
    go_simp
    have cb1 : Below w2.heap.size w2 (wd.alloc (.cells #[.int .i64 S, .int .i64 q] 2)) := c0.alloc c0.size _
    have BB1 := Lib.hid (Blk.new wd 2 #[.int .i64 S, .int .i64 q])
    obtain ⟨wb1, hwb1⟩ : ∃ x, x = wd.alloc (.cells #[.int .i64 S, .int .i64 q] 2) := ⟨_, rfl⟩
    obtain ⟨gb1, hgb1⟩ : ∃ x, x = wd.heap.size := ⟨_, rfl⟩
    rw [← hwb1] at cb1 BB1
    rw [← hgb1] at BB1
    rw [← hwb1, ← hgb1]
    clear hwb1 hgb1
    refine hK.out _ _ (fun _ => HS.out _ cb1) ?_
    clear hK Kc
    try simp only [List.getElem_toArray, List.getElem_cons_zero, List.getElem_cons_succ, Act.put, List.setIfInBounds_toArray, List.set_cons_zero, List.set_cons_succ]
    refine wpAnyN_next (i := 5) rfl (by kernel_rfl) (fun Kc hK => ?_)
    go_simp
    go_wp2_with (go_at_call 33; refine (WA.out wb1 gb1 cb1 BB1.out).mono ?_; rintro e wa1 ⟨rfl, hba⟩)
    have ca1 : Below w2.heap.size w2 wa1 := cb1.trans (hba.mono cb1.size)
    refine hK.out _ _ (fun _ => HS.out _ ca1) ?_
    clear hK Kc
    try simp only [List.getElem_toArray, List.getElem_cons_zero, List.getElem_cons_succ, Act.put, List.setIfInBounds_toArray, List.set_cons_zero, List.set_cons_succ]
    refine wpAnyN_next (i := 8) rfl (by kernel_rfl) (fun Kc hK => ?_)
    go_simp
    go_wp2_with (go_at_call 33; refine (WF.out wa1 ca1).mono ?_; rintro e wf1 ⟨rfl, hbf⟩)
    have cf1 : Below w2.heap.size w2 wf1 := ca1.trans (hbf.mono ca1.size)
    refine hK.out _ _ (fun _ => HS.out _ cf1) ?_
    clear hK Kc
    try simp only [List.getElem_toArray, List.getElem_cons_zero, List.getElem_cons_succ, Act.put, List.setIfInBounds_toArray, List.set_cons_zero, List.set_cons_succ]
    refine wpAnyN_next (i := 9) rfl (by kernel_rfl) (fun Kc hK => ?_)
    go_simp
    refine hK.out _ _ (fun _ => HS.out _ cf1) ?_
    clear hK Kc
    try simp only [List.getElem_toArray, List.getElem_cons_zero, List.getElem_cons_succ, Act.put, List.setIfInBounds_toArray, List.set_cons_zero, List.set_cons_succ]
    refine wpAnyN_next (i := 10) rfl (by kernel_rfl) (fun Kc hK => ?_)
    go_simp
    refine hK.out _ _ (fun _ => HS.out _ cf1) ?_
    clear hK Kc
    try simp only [List.getElem_toArray, List.getElem_cons_zero, List.getElem_cons_succ, Act.put, List.setIfInBounds_toArray, List.set_cons_zero, List.set_cons_succ]
    refine wpAnyN_done (by kernel_rfl) ?_ _
    go_wp2_with fail
    go_meet
    exact ⟨rfl, Lib.hid cf1⟩
  case rest =>
    obtain ⟨rfl, hc⟩ := hcut
    have y3 := (B2.out.next hc.out).cell 3
    have yl := (B2.out.next hc.out).lt
    have b3 := Lib.hid (b2.out.trans (hc.out.mono b2.out.size))
    have hz3 : (ta ++ tf).size ≤ 5000 := by rw [ByteArray.size_append]; omega
    have zz1 := Lib.hid z0
    have hfl := hflen
    clear WF WA WF1 WA1 HS z0 z1 z2 hflen
    go_wp2_with fail
    go_loopw [3, 22] (fun o_ i_ w' => ∃ (i : Nat) (t : ByteArray), o_ = .string t ∧ i_ = .int .i64 i ∧ i ≤ n ∧ Hid (t ++ bt (stT (nx.drop i)) = T) ∧ t.size ≤ 5000 + 30 * i ∧ Hid (Below w.heap.size w w')) (fun _ i_ _ => n - (intOf i_).toNat)
    case atStart => exact ⟨0, ta ++ tf, rfl, rfl, by omega, hE, by omega, b3⟩
    case round =>
      obtain ⟨i, t, rfl, rfl, hi, HE, hts, hb⟩ := hrel
      by_cases hlt : i < n
      · obtain ⟨b, o, p, r, rfl, hB, gp, gr, c0, rr⟩ := (HR.out.next hb.out).at_ hlt
        have h4 := (HRow.out r (List.mem_of_getElem? gr))
        have hr4 := h4.1
        have hrl := rr.len
        have hsl := auto_le stateW (l := r) (fun z hz => by have := h4.2 z hz; omega)
        have e5 : stateW.length = 5 := rfl
        have WS0 := words_any (bt stateW) p.A p.n p.c r wr (by omega) rr (fun z hz => by have := h4.2 z hz; omega) (by rw [bt_size]; omega) (HT.out wr hb.out)
        rw [wrdS_bt] at WS0
        have WS := Lib.hid (show Calls Tryd.prog 33 #[.string ⟨#[115, 116, 97, 116, 101]⟩, .slice p.A p.n p.c] wr (Ret (.string (bt (lineW stateW r ++ [10]))) wr) from WS0)
        have HE2 := Lib.hid (show (t ++ bt (lineW stateW r ++ [10])) ++ bt (stT (nx.drop (i + 1))) = T by
          rw [← HE.out, drop_cons gr, ByteArray.append_assoc, bt_app]; rfl)
        have hz4 : (bt (lineW stateW r ++ [10])).size ≤ 30 := by rw [bt_size, List.length_append]; simp only [List.length_singleton]; omega
        have hz5 : (t ++ bt (lineW stateW r ++ [10])).size ≤ 5000 + 30 * (i + 1) := by rw [ByteArray.size_append]; omega
        generalize bt (lineW stateW r ++ [10]) = tr at *
        have hz6 : ¬ 9223372036854775807 < t.size + tr.size := by omega
        have i0 : (0 : Int) ≤ (i : Int) := by omega
        have i1 : (i : Int) < (n : Int) := by omega
        clear WS0 HE h4 gr gp
        go_wp2_with fail
        refine WS.out.mono ?_
        rintro e w4 ⟨rfl, hb4⟩
        go_wp2_with fail
        go_roundw
        case rel => exact ⟨i + 1, _, rfl, by go_num, by omega, HE2, hz5, Lib.hid (hb.out.trans (hb4.mono hb.out.size))⟩
        case measure => simp [intOf]; omega
      · have ht : nx.drop i = [] := List.drop_of_length_le (by omega)
        have HT2 := Lib.hid (show t = T by
          rw [← HE.out, ht]
          show t = t ++ bt []
          apply ByteArray.ext
          rw [ByteArray.data_append]
          show _ = t.data ++ (#[] : Array UInt8)
          rw [Array.append_empty])
        have i1 : ¬ (i : Int) < (n : Int) := by omega
        go_wp2_with fail
        go_ret
        exact ⟨by rw [← HT2.out]; rfl, hb.out⟩
end Go.Proofs.YtcpofhjoblgmgaaDoor
