/-
  Texts of this claim, merged: CdV CgO TabH Stage3 TrimI TrimS Trim OrLim MapD MapP CiO Rep.
-/
import Derived.Test.YtmdmgndhapdmgaaGreatP3
import Derived.Deep.RegionHeld3
import Derived.Deep.RegionWith
import Derived.Deep.DeepCutAuto
import Derived.Deep.CutBlock
import Derived.Laws.CopyOwn
import Derived.Test.YtmdmgndhapdmgaaGreatShelf


/-
  Whether a coder is valid, on both sides.
-/
namespace Go.Proofs.YtmdmgndhapdmgaaGreat
open Go.RowKit

def outB (t : ByteArray) : Bool := okW t && decide (t.size ≤ 6)
theorem otRow_eq (r : List ByteArray) : otRow r = (decide (r.length = 4) && r.all outB) := rfl
def outsB (r : List ByteArray) : Bool := r.all outB
def rowsB (ot : List (List ByteArray)) : Bool := ot.all otRow
theorem out_not (t : ByteArray) : (!okW t || decide (6 < (t.size : Int))) = !outB t := by
  unfold outB
  rw [Bool.not_and]
  congr 1
  by_cases h : t.size ≤ 6
  · simp [h]; omega
  · simp [h]; omega
theorem vc11_any (t : ByteArray) (w : World) (ht : t.size ≤ maxLen) :
    Calls Tryz.prog 50 #[.string t] w (Ret (.bool (!outB t)) w) := by
  have hc := Lib.hid (fun W => validWord_any t (okW t) W ht rfl)
  have e := Lib.hid (out_not t)
  have ht' := ht
  unfold maxLen at ht'
  generalize okW t = b at *
  generalize outB t = b0 at *
  rcases b with _ | _
  · go_enter Tryz.func50, Tryz.ntmps50
    go_wp2_with fail
    refine (hc.out _).mono ?_
    rintro e1 w1 ⟨rfl, hb1⟩
    go_wp2_with fail
    go_ret
    exact ⟨ret_bool (by rw [← e.out]; rfl), hb1⟩
  · by_cases h6 : (6 : Int) < (t.size : Int)
    all_goals
      go_enter Tryz.func50, Tryz.ntmps50
      go_wp2_with fail
      refine (hc.out _).mono ?_
      rintro e1 w1 ⟨rfl, hb1⟩
      go_wp2_with fail
      go_ret
      exact ⟨ret_bool (by rw [← e.out]; simp [h6]), hb1⟩
theorem vc1_any (A : Option Addr) (n c : Nat) (r : List ByteArray) (w : World) (hn : n ≤ 1048576) (hs : ∀ t ∈ r, t.size ≤ maxLen) (hr : Rd w w.heap.size A n 1 strEM r) :
    Calls Tryz.prog 48 #[.slice A n c] w (Ret (.bool (!otRow r)) w) := by
  have hl := hr.len
  by_cases h : n = 4
  · subst h
    have e := Lib.hid (show (!otRow r) = (r.any fun z => !outB z) by rw [any_not, otRow_eq, hl]; simp)
    have HC := Lib.hid (containsStr_any 50 (enterOk Tryz.func50 (by kernel_rfl) (by kernel_rfl)) #[] (fun z => !outB z) A 4 c r w hn hr (fun k x hx w' _ => vc11_any x w' (hs x (List.mem_of_getElem? hx))))
    rw [e.out]
    clear hl hr hs
    generalize (r.any fun z => !outB z) = b at *
    go_enter Tryz.func48, Tryz.ntmps48
    go_wp2_with fail
    refine HC.out.mono ?_
    rintro e w1 ⟨rfl, hb1⟩
    go_wp2_with fail
    go_ret
    exact ⟨rfl, hb1⟩
  · have e := Lib.hid (show (!otRow r) = true by rw [otRow_eq, hl]; simp [h])
    have e0 : ¬ (n : Int) = 4 := by omega
    rw [e.out]
    clear hl hr h hs
    go_enter Tryz.func48, Tryz.ntmps48
    go_wp2_with fail
    go_ret
    exact ⟨rfl, Below.refl _ _⟩
set_option maxHeartbeats 1000000 in
set_option maxRecDepth 100000 in
theorem validCoder_any (S q : Int) (N O : Option Addr) (n cn no co : Nat) (nh oh : List RowH) (nx : List (List Int)) (ot : List (List ByteArray)) (w : World) (hn : n ≤ 1048576) (hno : no ≤ 1048576) (hr : RdT w w.heap.size N n intE nh nx) (ho : RdT w w.heap.size O no strEM oh ot)
    (hsz : ∀ r ∈ nx, r.length ≤ 1048576) (hoz : ∀ r ∈ ot, r.length ≤ 1048576 ∧ ∀ t ∈ r, t.size ≤ maxLen) (b : Bool) (hb : cdB S q nx ot = b) :
    Calls Tryz.prog 14 #[.agg #[.int .i64 S, .int .i64 q, .slice N n cn, .slice O no co]] w (Ret (.bool b) w) := by
  subst hb
  have hl := ho.len
  have HR := Lib.hid hr; clear hr
  have HO := Lib.hid ho; clear ho
  have M := Lib.hid (fun W (h : Below w.heap.size w W) => isMachine_any S q N n cn nh nx W hn (HR.out.next h) hsz (mchB S q nx) rfl)
  have C := Lib.hid (fun W (h : Below w.heap.size w W) => containsRowS_any 48 (enterOk Tryz.func48 (by kernel_rfl) (by kernel_rfl)) #[] (fun r => !otRow r) O no co oh ot W hno (HO.out.next h)
    (fun k h x hx _ w' hb' hr' => vc1_any h.A h.n h.c x w' (by rw [← hr'.len]; exact (hoz x (List.mem_of_getElem? hx)).1) (hoz x (List.mem_of_getElem? hx)).2 hr'))
  rw [any_not] at C
  have Hm := Lib.hid (show cdB S q nx ot = (mchB S q nx && decide ((ot.length : Int) = S) && ot.all otRow) from rfl)
  generalize cdB S q nx ot = B at *
  generalize mchB S q nx = b1 at *
  generalize ot.all otRow = b3 at *
  rw [hl] at Hm
  clear hsz hoz hl
  have G := Lib.hid (fun W (h : Below w.heap.size w W) => h)
  rcases b1 with _ | _
  · go_enter Tryz.func14, Tryz.ntmps14
    go_wp2_with fail
    refine (M.out _ (by (repeat first | exact Below.refl _ _ | assumption | refine Below.drew ?_ | refine Below.alloc ?_ (by first | exact Nat.le_refl _ | (simp; done) | omega | (simp; omega)) _ | refine Below.setCell ?_ (by first | exact Nat.le_refl _ | (simp; done) | omega | (simp; omega)) _))).mono ?_
    rintro e w2 ⟨rfl, hb2⟩
    go_wp2_with fail
    go_ret
    exact ⟨ret_bool (by rw [Hm.out]; rfl), (show Below w.heap.size w _ from by (repeat first | exact Below.refl _ _ | assumption | refine Below.drew ?_ | refine Below.alloc ?_ (by first | exact Nat.le_refl _ | (simp; done) | omega | (simp; omega)) _ | refine Below.setCell ?_ (by first | exact Nat.le_refl _ | (simp; done) | omega | (simp; omega)) _)).trans (hb2.mono (by simp))⟩
  by_cases h2 : (no : Int) = S
  · subst h2
    go_enter Tryz.func14, Tryz.ntmps14
    go_wp2_with fail
    refine (M.out _ (by (repeat first | exact Below.refl _ _ | assumption | refine Below.drew ?_ | refine Below.alloc ?_ (by first | exact Nat.le_refl _ | (simp; done) | omega | (simp; omega)) _ | refine Below.setCell ?_ (by first | exact Nat.le_refl _ | (simp; done) | omega | (simp; omega)) _))).mono ?_
    rintro e w2 ⟨rfl, hb2⟩
    have B2 := Lib.hid ((Blk.new w 27 #[.int .i64 (no : Int), .int .i64 q, .slice N n cn, .slice O no co]).next hb2)
    obtain ⟨y0, y1, y2, y3⟩ := B2.out.four
    have yl := B2.out.lt
    have b2 : Below w.heap.size w w2 := (show Below w.heap.size w _ from by (repeat first | exact Below.refl _ _ | assumption | refine Below.drew ?_ | refine Below.alloc ?_ (by first | exact Nat.le_refl _ | (simp; done) | omega | (simp; omega)) _ | refine Below.setCell ?_ (by first | exact Nat.le_refl _ | (simp; done) | omega | (simp; omega)) _)).trans (hb2.mono (by simp))
    go_wp2_with fail
    refine (C.out _ b2).mono ?_
    rintro e w3 ⟨rfl, hb3⟩
    go_wp2_with fail
    go_ret
    exact ⟨ret_bool (by rw [Hm.out]; simp), b2.trans (hb3.mono b2.size)⟩
  · have e0 : ((no : Int) == S) = false := by simp; exact h2
    go_enter Tryz.func14, Tryz.ntmps14
    go_wp2_with fail
    refine (M.out _ (by (repeat first | exact Below.refl _ _ | assumption | refine Below.drew ?_ | refine Below.alloc ?_ (by first | exact Nat.le_refl _ | (simp; done) | omega | (simp; omega)) _ | refine Below.setCell ?_ (by first | exact Nat.le_refl _ | (simp; done) | omega | (simp; omega)) _))).mono ?_
    rintro e w2 ⟨rfl, hb2⟩
    have B2 := Lib.hid ((Blk.new w 27 #[.int .i64 S, .int .i64 q, .slice N n cn, .slice O no co]).next hb2)
    obtain ⟨y0, y1, y2, y3⟩ := B2.out.four
    have yl := B2.out.lt
    have b2 : Below w.heap.size w w2 := (show Below w.heap.size w _ from by (repeat first | exact Below.refl _ _ | assumption | refine Below.drew ?_ | refine Below.alloc ?_ (by first | exact Nat.le_refl _ | (simp; done) | omega | (simp; omega)) _ | refine Below.setCell ?_ (by first | exact Nat.le_refl _ | (simp; done) | omega | (simp; omega)) _)).trans (hb2.mono (by simp))
    go_wp2_with fail
    go_ret
    exact ⟨ret_bool (by rw [Hm.out]; simp [h2]), b2⟩
set_option maxHeartbeats 4000000 in
set_option maxRecDepth 100000 in
theorem l04Coder_any (g : Nat) (S q : Int) (N O : Option Addr) (n cn no co : Nat) (nh oh : List RowH) (nx : List (List Int)) (ot : List (List ByteArray)) (w : World) (hB : Blk w g 27 #[.int .i64 S, .int .i64 q, .slice N n cn, .slice O no co]) (hn : n ≤ 1048576) (hno : no ≤ 1048576) (hr : RdT w w.heap.size N n intE nh nx) (ho : RdT w w.heap.size O no strEM oh ot)
    (hoz : ∀ r ∈ ot, ∀ t ∈ r, t.size ≤ maxLen) (b : Bool) (hb : cdB S q nx ot = b) :
    Calls Tryz.prog 28 #[.pointer (some ⟨g, 0, none⟩)] w (Ret (.bool b) w) := by
  have hl := ho.len
  have HN := Lib.hid hr
  have HO := Lib.hid ho
  have HZ := Lib.hid hoz
  have ew : IntKind.i64.wrap (S - 1) = w1 S := rfl
  have Hb : (((inB S 1 24 && inB q 0 (w1 S)) && (nx.all (rowB (w1 S)) && decide ((nx.length : Int) = S))) && decide ((no : Int) = S) && ot.all otRow) = b := by
    rw [← hb, ← hl]
    show _ = ((((inB S 1 24 && inB q 0 (w1 S)) && decide ((nx.length : Int) = S)) && nx.all (rowB (w1 S))) && decide ((ot.length : Int) = S) && ot.all otRow)
    generalize (inB S 1 24 && inB q 0 (w1 S)) = x1
    generalize nx.all (rowB (w1 S)) = x3
    generalize decide ((nx.length : Int) = S) = x4
    cases x1 <;> cases x3 <;> cases x4 <;> rfl
  have C1 := Lib.hid (fun W => specIn_any S 1 24 (inB S 1 24) W rfl)
  have C2 := Lib.hid (fun W => specIn_any q 0 (w1 S) (inB q 0 (w1 S)) W rfl)
  have C4 := Lib.hid (fun W (h : Below w.heap.size w W) => l04Next_any S N n cn nh nx W hn (HN.out.next h) _ rfl)
  generalize inB S 1 24 = b1 at *
  generalize inB q 0 (w1 S) = b2 at *
  generalize (nx.all (rowB (w1 S)) && decide ((nx.length : Int) = S)) = b4 at *
  generalize w1 S = S1 at *
  have HB := Lib.hid Hb
  have HBK := Lib.hid hB
  obtain ⟨y0, y1, y2, y3⟩ := hB.four
  have yl := hB.lt
  have hup := upc w.heap.size w
  clear hr ho hb Hb hB hoz hl
  cases b1
  case false =>
    go_enter Tryz.func28, Tryz.ntmps28
    go_upto_region 1 with fail
    refine wp_region_up w.heap.size (by kernel_rfl) (by kernel_rfl) ?_
    repeat (go_big_quiet_step ((go_at_call 64; with_reducible exact Calls.upR (Nat.le_refl _) (C1.out _))))
    refine wpQuiet_nil ?_
    intro w3 hup_w3
    have hb3 := up_of hup_w3
    go_wp2_with fail
    go_ret
    exact ⟨ret_bool (by rw [← HB.out]; rfl), hb3⟩
  cases b2
  case false =>
    go_enter Tryz.func28, Tryz.ntmps28
    go_upto_region 1 with fail
    refine wp_region_up w.heap.size (by kernel_rfl) (by kernel_rfl) ?_
    repeat (go_big_quiet_step ((first | (go_at_call 64; with_reducible exact Calls.upR (Nat.le_refl _) (C1.out _)) | (go_at_call 64; with_reducible exact Calls.upR (Nat.le_refl _) (C2.out _)))))
    refine wpQuiet_nil ?_
    intro w3 hup_w3
    have hb3 := up_of hup_w3
    go_wp2_with fail
    go_ret
    exact ⟨ret_bool (by rw [← HB.out]; rfl), hb3⟩
  cases b4
  case false =>
    go_enter Tryz.func28, Tryz.ntmps28
    go_upto_region 1 with fail
    refine wp_region_up w.heap.size (by kernel_rfl) (by kernel_rfl) ?_
    repeat (go_big_quiet_step ((first | (go_at_call 64; with_reducible exact Calls.upR (Nat.le_refl _) (C1.out _)) | (go_at_call 64; with_reducible exact Calls.upR (Nat.le_refl _) (C2.out _)) | (go_at_call 65; with_reducible exact Calls.upR (Nat.le_refl _) (C4.out _ (Up.h _))))))
    refine wpQuiet_nil ?_
    intro w3 hup_w3
    have hb3 := up_of hup_w3
    go_wp2_with fail
    go_ret
    exact ⟨ret_bool (by rw [← HB.out]; rfl), hb3⟩
  by_cases h2 : (no : Int) = S
  case neg =>
    have e0 : ((no : Int) != S) = true := by simp; exact h2
    have e1 : ((no : Int) == S) = false := by simp; exact h2
    go_enter Tryz.func28, Tryz.ntmps28
    go_upto_region 1 with fail
    refine wp_region_up w.heap.size (by kernel_rfl) (by kernel_rfl) ?_
    repeat (go_big_quiet_step ((first | (go_at_call 64; with_reducible exact Calls.upR (Nat.le_refl _) (C1.out _)) | (go_at_call 64; with_reducible exact Calls.upR (Nat.le_refl _) (C2.out _)) | (go_at_call 65; with_reducible exact Calls.upR (Nat.le_refl _) (C4.out _ (Up.h _))))))
    refine wpQuiet_nil ?_
    intro w3 hup_w3
    have hb3 := up_of hup_w3
    go_wp2_with fail
    go_ret
    exact ⟨ret_bool (by rw [← HB.out]; simp [h2]), hb3⟩
  subst h2
  have HB2 := Lib.hid (show rowsB ot = b by rw [← HB.out]; simp [rowsB])
  clear HB
  go_enter Tryz.func28, Tryz.ntmps28
  go_upto_region 1 with fail
  refine wp_region_up w.heap.size (by kernel_rfl) (by kernel_rfl) ?_
  repeat (go_big_quiet_step ((first | (go_at_call 64; with_reducible exact Calls.upR (Nat.le_refl _) (C1.out _)) | (go_at_call 64; with_reducible exact Calls.upR (Nat.le_refl _) (C2.out _)) | (go_at_call 65; with_reducible exact Calls.upR (Nat.le_refl _) (C4.out _ (Up.h _))))))
  refine wpQuiet_nil ?_
  intro w3 hup_w3
  have hb3 := up_of hup_w3
  have b3 := Lib.hid hb3
  clear hb3 C1 C2 C4 y0 y1 y2 y3 yl hup
  go_wp2_with fail
  go_loopw [3] (fun i_ w' => ∃ k : Nat, i_ = .int .i64 k ∧ k ≤ no ∧ Hid (Below w.heap.size w w') ∧ Hid (rowsB (ot.drop k) = b)) (fun i_ _ => no - (intOf i_).toNat)
  case atStart => exact ⟨0, rfl, by omega, b3, HB2⟩
  case round =>
    obtain ⟨k, rfl, hk, hb, H⟩ := hrel
    obtain ⟨y0, y1, y2, y3⟩ := (HBK.out.next hb.out).four
    have yl := (HBK.out.next hb.out).lt
    by_cases hlt : k < no
    · obtain ⟨p, o, q', x, rfl, hB, gq, gx, c0, rx⟩ := (HO.out.next hb.out).at_ hlt
      have hx4 := rx.len
      have hxm := Lib.hid (HZ.out x (List.mem_of_getElem? gx))
      have H' := Lib.hid (show (otRow x && rowsB (ot.drop (k + 1))) = b by rw [← H.out, drop_cons gx]; rfl)
      have RX := Lib.hid rx
      have i0 : (0 : Int) ≤ (k : Int) := by omega
      have i1 : (k : Int) < (no : Int) := by omega
      clear gx gq H rx
      obtain ⟨qA, qn, qc⟩ := q'
      have hx4 : x.length = qn := hx4
      have RX := Lib.hid (show Rd wr wr.heap.size qA qn 1 strEM x from RX.out)
      by_cases h4 : qn = 4
      · subst h4
        have H2 := Lib.hid (show (outsB x && rowsB (ot.drop (k + 1))) = b by
          rw [← H'.out, otRow_eq, hx4]; rfl)
        clear H'
        go_wp2_with fail
        go_loopw [4] (fun i_ w' => ∃ j : Nat, i_ = .int .i64 j ∧ j ≤ 4 ∧ Hid (Below wr.heap.size wr w') ∧ Hid ((outsB (x.drop j) && rowsB (ot.drop (k + 1))) = b)) (fun i_ _ => 4 - (intOf i_).toNat)
        case atStart => exact ⟨0, rfl, by omega, Lib.hid (Below.refl _ _), H2⟩
        case round =>
          obtain ⟨j, rfl, hj, hb2, H3⟩ := hrel
          by_cases hlt2 : j < 4
          · obtain ⟨p2, o2, t, rfl, hB2, gz, c1⟩ := (show Rd _ _ (qA) 4 1 (fun s => [.string s]) x from RX.out.next hb2.out).str hlt2
            have c0' := (hb2.out.cell (p := ⟨p, o + k, none⟩) hB).trans c0
            have hB' : p < _ := Nat.lt_of_lt_of_le hB hb2.out.size
            have H4 := Lib.hid (show ((outB t && outsB (x.drop (j + 1))) && rowsB (ot.drop (k + 1))) = b by rw [← H3.out, drop_cons gz]; rfl)
            have OK := Lib.hid (fun W => specOk_any t (okW t) W (hxm.out t (List.mem_of_getElem? gz)) rfl)
            have e := Lib.hid (out_not t)
            have ht' : t.size ≤ maxLen := hxm.out t (List.mem_of_getElem? gz)
            unfold maxLen at ht'
            have j0 : (0 : Int) ≤ (j : Int) := by omega
            have j1 : (j : Int) < 4 := by omega
            have bb := Lib.hid (hb.out.trans (hb2.out.mono hb.out.size))
            obtain ⟨y0, y1, y2, y3⟩ := (HBK.out.next bb.out).four
            have yl := (HBK.out.next bb.out).lt
            have hup := upc wr.heap.size wr
            generalize okW t = bz at *
            generalize outB t = bo at *
            clear gz H3 c0 hB
            by_cases h6 : (6 : Int) < (t.size : Int)
            · have e1 : bo = false := by have := e.out; simp [h6] at this; exact this
              have H5 := Lib.hid (show false = b by rw [← H4.out, e1]; rfl)
              clear e H4 e1
              go_wp2_with fail
              go_ret
              exact ⟨ret_bool H5.out, bb.out⟩
            · have e1 : bo = bz := by have := e.out; simp [h6] at this; exact this.symm
              subst e1
              clear e
              rcases bo with _ | _
              · have H5 := Lib.hid (show false = b by rw [← H4.out]; rfl)
                clear H4
                go_wp2_with fail
                refine (OK.out _).mono ?_
                rintro e9 w3 ⟨rfl, hb3⟩
                go_wp2_with fail
                go_ret
                exact ⟨ret_bool H5.out, bb.out.trans (hb3.mono bb.out.size)⟩
              · have H5 := Lib.hid (show (outsB (x.drop (j + 1)) && rowsB (ot.drop (k + 1))) = b by rw [← H4.out]; rfl)
                clear H4
                go_wp2_with fail
                refine (OK.out _).mono ?_
                rintro e9 w3 ⟨rfl, hb3⟩
                go_wp2_with fail
                go_roundw
                case rel => exact ⟨j + 1, by go_num, by omega, Lib.hid (hb2.out.trans (hb3.mono hb2.out.size)), H5⟩
                case measure => simp [intOf]; omega
          · have ht : x.drop j = [] := List.drop_of_length_le (by omega)
            have H4 := Lib.hid (show rowsB (ot.drop (k + 1)) = b by rw [← H3.out, ht]; rfl)
            have j1 : ¬ (j : Int) < 4 := by omega
            go_wp2_with fail
            go_roundw
            case rel => exact ⟨k + 1, by go_num, by omega, Lib.hid (hb.out.trans (hb2.out.mono hb.out.size)), H4⟩
            case measure => simp [intOf]; omega
      · have e0 : ¬ (qn : Int) = 4 := by omega
        have e1 : ((qn : Int) == 4) = false := by simp; omega
        have hf : otRow x = false := by rw [otRow_eq, hx4]; simp [h4]
        have H5 := Lib.hid (show false = b by rw [← H'.out, hf]; rfl)
        go_wp2_with fail
        go_ret
        exact ⟨ret_bool H5.out, hb.out⟩
    · have ht : ot.drop k = [] := List.drop_of_length_le (by have := HO.out.len; omega)
      have H5 := Lib.hid (show true = b by rw [← H.out, ht]; rfl)
      have j1 : ¬ (k : Int) < (no : Int) := by omega
      go_wp2_with fail
      go_ret
      exact ⟨ret_bool H5.out, hb.out⟩
end Go.Proofs.YtmdmgndhapdmgaaGreat


/-
  The grammar of a code: the made grammar under way, in the reference.
-/
namespace Go.Proofs.YtmdmgndhapdmgaaGreat
open Go.RowKit

def cgR (S q : Int) (nx : List (List Int)) (ot : List (List ByteArray)) (rs : List Fac) : List Fac × Int :=
  if cdB S q nx ot = true ∧ (gOk rs).isSome = true then cgL nx ot S.toNat q.toNat rs else ([], 1)
structure CmO (w0 W : World) (MB : Nat) (A : Option Addr) (n c : Nat) (out : List Fac) (B : Option Addr) (k d : Nat) (hs : List RowH) (st : List (List Int)) : Prop where
  q : W.ownsRow w0.heap.size 72 3 (.slice A n c) n (out.flatMap Fac.cells)
  m : Blk W MB 85 #[.slice A n c, .slice B k d]
  t : TabR 61 2 intE W w0.heap.size B k d hs st
  e : Below w0.heap.size w0 W
  hm : w0.heap.size ≤ MB
  ln : out.length = n
section
variable {w0 W W' : World} {MB : Nat} {A : Option Addr} {n c : Nat} {out : List Fac} {B : Option Addr} {k d : Nat} {hs : List RowH} {st : List (List Int)}
theorem CmO.next (h : CmO w0 W MB A n c out B k d hs st) (hb : Below W.heap.size W W') : CmO w0 W' MB A n c out B k d hs st :=
  ⟨own_next h.q hb, h.m.next hb, h.t.next hb, h.e.trans (hb.mono h.e.size), h.hm, h.ln⟩
theorem CmO.alloc (h : CmO w0 W MB A n c out B k d hs st) (o : Obj) : CmO w0 (W.alloc o) MB A n c out B k d hs st := h.next ((Below.refl _ _).alloc (Nat.le_refl _) o)
theorem mkf_own {e sz m : Nat} {u : Value} {xs : List Value} {v' : Value} {t : TypeId} {cs : Array Value} (h : MkF W W' MB (.slice A n c) v') (hq : W.ownsRow w0.heap.size 72 3 (.slice A n c) n (out.flatMap Fac.cells)) (hB : Blk W MB t cs)
    (ho : W.ownsRow w0.heap.size e sz u m xs) (h1 : e ≠ 72) (h2 : e ≠ t) : W'.ownsRow w0.heap.size e sz u m xs :=
  h.own ho (fun e => own_blk_ne ho hB h2 e.symm) (fun g hg e => by
    rcases own_ne ho hq h1 with h3 | h3
    · rw [h3] at hg; cases hg
    · exact h3 (by rw [hg, e]))
theorem mkf_tab {v' : Value} {t : TypeId} {cs : Array Value} (h : MkF W W' MB (.slice A n c) v') (hq : W.ownsRow w0.heap.size 72 3 (.slice A n c) n (out.flatMap Fac.cells)) (hB : Blk W MB t cs) (ht : TabR 61 2 intE W w0.heap.size B k d hs st)
    (h1 : 61 ≠ t) (h2 : 2 ≠ t) : TabR 61 2 intE W' w0.heap.size B k d hs st :=
  ⟨mkf_own h hq hB ht.o (by decide) h1, ht.lg, ht.lx, fun i q x hi hx => ⟨(ht.r i q x hi hx).1, mkf_own h hq hB (ht.r i q x hi hx).2 (by decide) h2⟩, ht.d⟩
/-- behind a call of stand or pair -/
theorem CmO.made (h : CmO w0 W MB A n c out B k d hs st) {A' : Option Addr} {c' : Nat} {out' : List Fac} (hB : Blk W' MB 85 #[.slice A' out'.length c', .slice B k d]) (hq : W'.ownsRow w0.heap.size 72 3 (.slice A' out'.length c') out'.length (out'.flatMap Fac.cells))
    (hf : MkF W W' MB (.slice A n c) (.slice A' out'.length c')) : CmO w0 W' MB A' out'.length c' out' B k d hs st :=
  ⟨hq, hB, mkf_tab hf h.q h.m h.t (by decide) (by decide), h.e.trans (hf.below h.hm (fun g hg => own_ge h.q g hg) h.e.size), h.hm, rfl⟩
end
/-- with a list and a rule's box -/
structure CmW (w0 W : World) (MB : Nat) (A : Option Addr) (n c : Nat) (out : List Fac) (B : Option Addr) (k d : Nat) (hs : List RowH) (st : List (List Int)) (X : Nat) (x : Fac) (R : Option Addr) (s cr : Nat) (acc : List Int) : Prop where
  o : CmO w0 W MB A n c out B k d hs st
  x : Blk W X 72 #[.string x.l, .int .i64 x.a, .int .i64 x.b]
  l : W.ownsRow w0.heap.size 2 1 (.slice R s cr) s (acc.flatMap intE)
  f : ∀ (i : Nat) (p : RowH) (g : Nat), hs[i]? = some p → (Value.slice p.A p.n p.c).ownBlock = some g → (Value.slice R s cr).ownBlock ≠ some g
  v : ∀ g, (Value.slice A n c).ownBlock = some g → g ≠ X
  xm : X ≠ MB
section
variable {w0 W W' : World} {MB : Nat} {A : Option Addr} {n c : Nat} {out : List Fac} {B : Option Addr} {k d : Nat} {hs : List RowH} {st : List (List Int)} {X : Nat} {x : Fac} {R : Option Addr} {s cr : Nat} {acc : List Int}
theorem CmW.next (h : CmW w0 W MB A n c out B k d hs st X x R s cr acc) (hb : Below W.heap.size W W') : CmW w0 W' MB A n c out B k d hs st X x R s cr acc :=
  ⟨h.o.next hb, h.x.next hb, own_next h.l hb, h.f, h.v, h.xm⟩
theorem CmW.alloc (h : CmW w0 W MB A n c out B k d hs st X x R s cr acc) (o : Obj) : CmW w0 (W.alloc o) MB A n c out B k d hs st X x R s cr acc := h.next ((Below.refl _ _).alloc (Nat.le_refl _) o)
theorem CmW.made (h : CmW w0 W MB A n c out B k d hs st X x R s cr acc) {A' : Option Addr} {c' : Nat} {out' : List Fac} (hB : Blk W' MB 85 #[.slice A' out'.length c', .slice B k d]) (hq : W'.ownsRow w0.heap.size 72 3 (.slice A' out'.length c') out'.length (out'.flatMap Fac.cells))
    (hf : MkF W W' MB (.slice A n c) (.slice A' out'.length c')) : CmW w0 W' MB A' out'.length c' out' B k d hs st X x R s cr acc :=
  have hv : ∀ g, (Value.slice A' out'.length c').ownBlock = some g → g ≠ X := fun g hg e => by
    rcases hf.row with h1 | h1
    · rw [h1] at hg; exact h.v g hg e
    · have h2 := h1 g hg
      have h3 := h.x.lt
      omega
  ⟨h.o.made hB hq hf, hf.blk h.x h.xm (fun e => h.v X e.symm rfl), mkf_own hf h.o.q h.o.m h.l (by decide) (by decide), h.f, hv, h.xm⟩
theorem CmW.push {R' : Option Addr} {s' cr' : Nat} {acc' : List Int} (h : CmW w0 W MB A n c out B k d hs st X x R s cr acc) (ho : W'.ownsRow w0.heap.size 2 1 (.slice R' s' cr') s' (acc'.flatMap intE)) (hg : W.grownBy W' (Value.slice R s cr).ownBlock)
    (hat : (Value.slice R' s' cr').ownBlock = (Value.slice R s cr).ownBlock ∨ (Value.slice R' s' cr').ownBlock = some W.heap.size) : CmW w0 W' MB A n c out B k d hs st X x R' s' cr' acc' := by
  have h0 := h.o
  refine ⟨⟨h0.q.kept hg (own_ne h0.q h.l (by decide)), h0.m.grown hg (own_blk_ne h.l h0.m (by decide)), h0.t.kept hg (own_ne h0.t.o h.l (by decide)) (fun i p hp => ?_), h0.e.grown hg h0.e.size (own_ge h.l), h0.hm, h0.ln⟩, h.x.grown hg (own_blk_ne h.l h.x (by decide)), ho, fun i p g hp hv => ?_, h.v, h.xm⟩
  · cases hv : (Value.slice p.A p.n p.c).ownBlock with
    | none => exact .inl rfl
    | some g => exact .inr fun e => h.f i p g hp hv e.symm
  · rcases hat with e | e
    · rw [e]; exact h.f i p g hp hv
    · rw [e]; intro q; injection q with q; have := (h0.t.ge i p g hp hv).2; omega
/-- the list told to the places -/
theorem CmW.place {B' : Option Addr} {d' : Nat} (h : CmW w0 W MB A n c out B k d hs st X x R s cr acc) (hl : acc.length = s) (ho : W'.ownsRow w0.heap.size 61 1 (.slice B' (k + 1) d') (k + 1) ((hs ++ [(⟨R, s, cr⟩ : RowH)]).flatMap encR)) (hg : W.grownBy W' (Value.slice B k d).ownBlock) :
    CmO w0 (W'.setCell ⟨MB, 1, none⟩ (.slice B' (k + 1) d')) MB A n c out B' (k + 1) d' (hs ++ [⟨R, s, cr⟩]) (st ++ [acc]) := by
  have h0 := h.o
  have T9 := h0.t.push (q := ⟨R, s, cr⟩) (by decide) h.l hl h.f ho hg
  have M9 := h0.m.grown hg (own_blk_ne h0.t.o h0.m (by decide))
  have Q9 := h0.q.kept hg (own_ne h0.q h0.t.o (by decide))
  have g2 := gb_set W' MB 1 (.slice B' (k + 1) d')
  exact ⟨own_keptR Q9 M9 (by decide) _, M9.set_ 1 _, T9.keptB M9 g2 (by decide) (by decide), (h0.e.grown hg h0.e.size (own_ge h0.t.o)).setCell (by show w0.heap.size ≤ MB; exact h0.hm) _, h0.hm, h0.ln⟩
end
end Go.Proofs.YtmdmgndhapdmgaaGreat


/-
  Tables that are made with nil rows, and rows put in.
-/
namespace Go.Proofs.YtmdmgndhapdmgaaGreat
open Go.RowKit

def nilA (n : Nat) : Array Value := (List.replicate n (Value.slice none 0 0)).toArray
theorem nilA_made (n : Nat) : madeCells (Value.slice none 0 0).cells (n * 1) = nilA n := by
  apply Array.ext
  · simp [size_madeCells, nilA]
  · intro i h1 h2
    simp [madeCells, Value.cells, nilA, Nat.mod_one]
theorem info_sb : (Tryz.prog.info? 70).map (fun i => (i.zero, i.size, i.bytes)) = some (some (.slice none 0 0), 1, 24) := by kernel_rfl
theorem info_si : (Tryz.prog.info? 61).map (fun i => (i.zero, i.size, i.bytes)) = some (some (.slice none 0 0), 1, 24) := by kernel_rfl
theorem makeBB (n : Nat) (W : World) (hn : n ≤ 1048576) : (Instr.makeSlice 69 (.int .i64 (n : Int)) (.int .i64 (n : Int))).run Tryz.prog W = .ok (.slice (some ⟨W.heap.size, 0, none⟩) n n) (W.alloc (.cells (nilA n) 70)) := by
  obtain ⟨i0, hi, hz0, hz1, hz2⟩ := info_parts info_sb
  have hmk := run_make_rowN (P := Tryz.prog) 69 70 i0 _ Tryz.underlying69 hi hz0 .i64 .i64 n n (Nat.le_refl _) (by rw [hz2]; omega) (by omega) W
  rw [hz1, nilA_made] at hmk
  exact hmk
theorem makeII (n : Nat) (W : World) (hn : n ≤ 1048576) : (Instr.makeSlice 24 (.int .i64 (n : Int)) (.int .i64 (n : Int))).run Tryz.prog W = .ok (.slice (some ⟨W.heap.size, 0, none⟩) n n) (W.alloc (.cells (nilA n) 61)) := by
  obtain ⟨i0, hi, hz0, hz1, hz2⟩ := info_parts info_si
  have hmk := run_make_rowN (P := Tryz.prog) 24 61 i0 _ Tryz.underlying24 hi hz0 .i64 .i64 n n (Nat.le_refl _) (by rw [hz2]; omega) (by omega) W
  rw [hz1, nilA_made] at hmk
  exact hmk
def nilH (n : Nat) : List RowH := List.replicate n ⟨none, 0, 0⟩
section
variable {α : Type} {EH E : TypeId} {w : World} {base n c p : Nat} {enc : α → List Value} {hs : List RowH} {xss : List (List α)}
/-- a table as it is made -/
theorem TabR.made (hB : Blk w p EH (nilA n)) (hb : base ≤ p) (hn : n ≤ 1048576) : TabR EH E enc w base (some ⟨p, 0, none⟩) n n (nilH n) (List.replicate n []) := by
  refine ⟨own_of_blk (α := RowH) (enc := encR) (xs := nilH n) (n := n) (sz := 1) hB hb (by simp [nilA]) (by simp [nilH]) (by unfold maxLen; omega) (fun _ _ => rfl) (fun i x hx j hj => ?_), by simp [nilH], by simp, fun i h x hi hx => ?_, fun i j h h' g hi hj h1 h2 => ?_⟩
  · have hk := (List.getElem?_eq_some_iff.1 hx).1
    have hk : i < n := by simpa [nilH] using hk
    obtain rfl : x = ⟨none, 0, 0⟩ := by
      have := hx; unfold nilH at this; rw [List.getElem?_replicate, if_pos hk] at this; exact (Option.some.inj this).symm
    obtain rfl : j = 0 := by omega
    rw [Nat.mul_one, Nat.add_zero]
    unfold nilA
    simp [List.getElem?_replicate, hk, encR]
  · have hk := (List.getElem?_eq_some_iff.1 hx).1
    have hk : i < n := by simpa using hk
    unfold nilH at hi
    rw [List.getElem?_replicate, if_pos hk] at hi hx
    obtain rfl := Option.some.inj hi
    obtain rfl := Option.some.inj hx
    exact ⟨rfl, World.ownsRow_nil _ _ _ _⟩
  · have hk := (List.getElem?_eq_some_iff.1 hi).1
    have hk : i < n := by simpa [nilH] using hk
    unfold nilH at hi
    rw [List.getElem?_replicate, if_pos hk] at hi
    obtain rfl := Option.some.inj hi
    cases h1
/-- a row put in -/
theorem TabR.putH (hE : EH ≠ E) (h : TabR EH E enc w base (some ⟨p, 0, none⟩) n c hs xss) {i : Nat} (hi : i < n) {q : RowH} {x : List α} (hq : w.ownsRow base E 1 (.slice q.A q.n q.c) q.n (x.flatMap enc)) (hxl : x.length = q.n)
    (hfar : ∀ (j : Nat) (r : RowH) (g : Nat), hs[j]? = some r → (Value.slice r.A r.n r.c).ownBlock = some g → (Value.slice q.A q.n q.c).ownBlock ≠ some g) :
    TabR EH E enc (w.setCell ⟨p, i, none⟩ (.slice q.A q.n q.c)) base (some ⟨p, 0, none⟩) n c (hs.set i q) (xss.set i x) := by
  have lg := h.lg
  have lx := h.lx
  have hg := gb_set w p i (.slice q.A q.n q.c)
  have ne : ∀ {m : Nat} {v : Value} {ys : List Value}, w.ownsRow base E 1 v m ys → v.ownBlock = none ∨ v.ownBlock ≠ some p := fun ho => own_ne ho h.o (Ne.symm hE)
  have at1 : ∀ (j : Nat) (r : RowH), (hs.set i q)[j]? = some r → (j ≠ i ∧ hs[j]? = some r) ∨ (j = i ∧ r = q) := fun j r hj => by
    by_cases hji : i = j
    · subst hji
      rw [List.getElem?_set_self (by rw [lg]; exact hi)] at hj
      exact .inr ⟨rfl, (Option.some.inj hj).symm⟩
    · rw [List.getElem?_set_ne hji] at hj
      exact .inl ⟨fun e => hji e.symm, hj⟩
  refine ⟨?_, by rw [List.length_set, lg], by rw [List.length_set, lx], fun j r y hj hy => ?_, fun j k r r' g hj hk h1 h2 => ?_⟩
  · have := own_setI h.o i (.slice q.A q.n q.c)
    rw [flat1 (enc := encR) (fun r => .slice r.A r.n r.c) (fun _ => rfl)] at this
    rw [flat1 (enc := encR) (fun r => .slice r.A r.n r.c) (fun _ => rfl), List.map_set]
    exact this
  · rcases at1 j r hj with ⟨hne, hr⟩ | ⟨rfl, rfl⟩
    · rw [List.getElem?_set_ne (fun e => hne e.symm)] at hy
      have := h.r j r y hr hy
      exact ⟨this.1, this.2.kept hg (ne this.2)⟩
    · rw [List.getElem?_set_self (by rw [lx]; exact hi)] at hy
      obtain rfl := Option.some.inj hy
      exact ⟨hxl, hq.kept hg (ne hq)⟩
  · rcases at1 j r hj with ⟨hne, hr⟩ | ⟨rfl, rfl⟩ <;> rcases at1 k r' hk with ⟨hne', hr'⟩ | ⟨rfl, rfl⟩
    · exact h.d j k r r' g hr hr' h1 h2
    · exact absurd h2 (hfar j r g hr h1)
    · exact absurd h1 (hfar k r' g hr' h2)
    · rfl
end
end Go.Proofs.YtmdmgndhapdmgaaGreat


/-
  A region that draws its order, in which two or three operations that write may come up; a copy into a new row.
-/
namespace Go.Proofs.YtmdmgndhapdmgaaGreat
open Go.RowKit

section
variable {α : Type} {P : Program} {w : World} {ops : Array Oper} {o : Oper} {a : Act} {K : Act → World → Prop} {Q : Exit → Act → World → Prop} {E : Prop}
/-- all elements into a new row, as a step of a region that draws its order; where the row lies then -/
theorem step_copyL (hgd : o.guard = none) (s x : Operand) (t : TypeId) (ho : o.op = .call { callee := .builtin .append, args := #[s, x], argTypes := #[t, t] })
    (base : Nat) (e : TypeId) (sz bytes : Nat) (EI : Elem P t e sz bytes) (enc : α → List Value) (e0 : Nat) (hs : a.eval s = .slice (some ⟨e0, 0, none⟩) 0 0)
    (hown : w.ownsRow base e sz (.slice (some ⟨e0, 0, none⟩) 0 0) 0 []) (ad : Addr) (m cc : Nat) (ys : List α) (hx : a.eval x = .slice (some ad) m cc) (hym : ys.length = m) (hm0 : 0 < m) (hnews : ∀ j u, (ys.flatMap enc)[j]? = some u → w.cell? (ad.add j) = some u)
    (hlen : ∀ y ∈ ys, (enc y).length = sz) (hone : ∀ y ∈ ys, ∀ u ∈ enc y, u.oneCell' = true) (hsz : 0 < sz) (hbytes : m * bytes ≤ 140737488355328) (hm : m ≤ maxLen) (hsize : base ≤ w.heap.size)
    (h : ∀ A' c' w', w'.ownsRow base e sz (.slice A' m c') m (ys.flatMap enc) → w.grownBy w' (some e0) → ((Value.slice A' m c').ownBlock = some e0 ∨ (Value.slice A' m c').ownBlock = some w.heap.size) → K (a.put o.dst (.slice A' m c')) w') :
    if Region.wanted o (yielded ops a.tmps) = true then Oper.wp P o a w K Q else E := by
  obtain ⟨ht, i, z, hi, hz, h1, h2, hzs⟩ := EI
  obtain ⟨v', w', hr, r2, r3, _, r5⟩ := run_append_own_at (P := P) w base t o.type e i z sz bytes ht hi hz h1 h2 hzs hsz _ 0 _ hown ad m cc (ys.flatMap enc) (by rw [flat_len ys hlen, hym]) hnews
    (fun u hu => by obtain ⟨y, hy, hu⟩ := List.mem_flatMap.1 hu; exact hone y hy u hu) (by omega) (by rw [Nat.zero_add]; exact hbytes) hsize
  rw [Nat.zero_add, List.nil_append] at r2
  obtain ⟨g', cap, rfl, _, _⟩ := r2.form (by omega)
  have hw : Region.wanted o (yielded ops a.tmps) = true := by simp [Region.wanted, hgd]
  rw [if_pos hw]
  unfold Oper.wp execOp
  simp only [ho, resolve, invoke, builtin, Sem.run_bind, Sem.run_pure, Result.andThen_ok, List.map_toArray, List.map_cons, List.map_nil, hs, hx, hr]
  exact h _ _ w' r2 r3 r5
end
end Go.Proofs.YtmdmgndhapdmgaaGreat


/-
  A grammar trimmed by the program.
-/
namespace Go.Proofs.YtmdmgndhapdmgaaGreat
open Go.RowKit

theorem pair64_any (a b : Int) (w : World) (ha : -9223372036854775808 ≤ a ∧ a ≤ 9223372036854775807) (hb : -9223372036854775808 ≤ b ∧ b ≤ 9223372036854775807) : Calls Tryz.prog 37 #[.int .i64 a, .int .i64 b] w (Ret (Fac.val ⟨⟨#[]⟩, a, b⟩) w) := by
  have u1 : IntKind.i64.wrap a = a := IntWalk.i64_in _ (by omega)
  have u2 : IntKind.i64.wrap b = b := IntWalk.i64_in _ (by omega)
  go_enter Tryz.func37, Tryz.ntmps37
  go_wp2
  refine bodyPost_ret (v := Fac.val ⟨⟨#[]⟩, a, b⟩) (by simp [results, Tryz.results37, go_sem, Fac.val]; try rfl) rfl ⟨rfl, ?_⟩
  (repeat first | exact Below.refl _ _ | assumption | refine Below.drew ?_ | refine Below.alloc ?_ (by first | exact Nat.le_refl _ | (simp; done) | omega | (simp; omega)) _ | refine Below.setCell ?_ (by first | exact Nat.le_refl _ | (simp; done) | omega | (simp; omega)) _)
/-- the first round of 'trimmed' under way: what the call has made -/
structure TrW (w W : World) (A : Option Addr) (n c k : Nat) (A4 : Option Addr) (c4 k6 : Nat) (A6 : Option Addr) (c6 : Nat) (kept : List Fac) (same : List Int) (m : List (Fac × Value)) : Prop where
  r : W.ownsRow w.heap.size 72 3 (.slice A4 k c4) k (kept.flatMap Fac.cells)
  s : W.ownsRow w.heap.size 2 1 (.slice A6 k6 c6) k6 (same.flatMap intE)
  m : MapIs W (w.heap.size + 3) Fac.val m
  g : Blk W w.heap.size 31 #[.slice A n c]
  o : Blk W (w.heap.size + 1) 31 #[.slice none 0 0]
  e : Below w.heap.size w W
section
variable {w W W' : World} {A : Option Addr} {n c k k6 : Nat} {A4 : Option Addr} {c4 : Nat} {A6 : Option Addr} {c6 : Nat} {kept : List Fac} {same : List Int} {m : List (Fac × Value)}
theorem TrW.next (h : TrW w W A n c k A4 c4 k6 A6 c6 kept same m) (hb : Below W.heap.size W W') : TrW w W' A n c k A4 c4 k6 A6 c6 kept same m :=
  ⟨own_next h.r hb, own_next h.s hb, h.m.next hb, h.g.next hb, h.o.next hb, h.e.trans (hb.mono h.e.size)⟩
theorem TrW.alloc (h : TrW w W A n c k A4 c4 k6 A6 c6 kept same m) (o : Obj) : TrW w (W.alloc o) A n c k A4 c4 k6 A6 c6 kept same m := h.next ((Below.refl _ _).alloc (Nat.le_refl _) _)
theorem TrW.drew (h : TrW w W A n c k A4 c4 k6 A6 c6 kept same m) : TrW w W.drew A n c k A4 c4 k6 A6 c6 kept same m := h.next (Below.refl _ _).drew
/-- all that the call has made so far lies below a block that it makes next -/
theorem TrW.bnd (h : TrW w W A n c k A4 c4 k6 A6 c6 kept same m) : (∀ q, (Value.slice A4 k c4).ownBlock = some q → q < W.heap.size) ∧ (∀ q, (Value.slice A6 k6 c6).ownBlock = some q → q < W.heap.size) ∧ w.heap.size + 3 < W.heap.size :=
  ⟨fun q hq => (h.r.lt q hq).2, fun q hq => (h.s.lt q hq).2, h.m.lt⟩
/-- an entry put into the map -/
theorem TrW.put {m' : List (Fac × Value)} (h : TrW w W A n c k A4 c4 k6 A6 c6 kept same m) (hm : MapIs W' (w.heap.size + 3) Fac.val m') (hg : W.grownBy W' (some (w.heap.size + 3))) (hb : Below w.heap.size w W') : TrW w W' A n c k A4 c4 k6 A6 c6 kept same m' :=
  have ne : ∀ {e sz n : Nat} {v : Value} {xs : List Value}, W.ownsRow w.heap.size e sz v n xs → v.ownBlock = none ∨ v.ownBlock ≠ some (w.heap.size + 3) := fun ho => by
    have := h.m.ne_own ho
    exact .inr fun e => this e.symm
  ⟨h.r.kept hg (ne h.r), h.s.kept hg (ne h.s), hm, h.g.grown hg (by intro e; injection e with e; omega), h.o.grown hg (by intro e; injection e with e; omega), hb⟩
/-- one rule more -/
theorem TrW.pushR {A8 : Option Addr} {k8 c8 : Nat} {kept' : List Fac} (h : TrW w W A n c k A4 c4 k6 A6 c6 kept same m) (ho : W'.ownsRow w.heap.size 72 3 (.slice A8 k8 c8) k8 (kept'.flatMap Fac.cells)) (hg : W.grownBy W' (Value.slice A4 k c4).ownBlock) :
    TrW w W' A n c k8 A8 c8 k6 A6 c6 kept' same m :=
  ⟨ho, h.s.kept hg (own_ne h.s h.r (by decide)), h.m.grown hg (h.m.ne_own h.r), h.g.grown hg (own_blk_ne h.r h.g (by decide)), h.o.grown hg (own_blk_ne h.r h.o (by decide)), h.e.grown hg h.e.size (own_ge h.r)⟩
/-- one number more -/
theorem TrW.pushS {A8 : Option Addr} {k8 c8 : Nat} {same' : List Int} (h : TrW w W A n c k A4 c4 k6 A6 c6 kept same m) (ho : W'.ownsRow w.heap.size 2 1 (.slice A8 k8 c8) k8 (same'.flatMap intE)) (hg : W.grownBy W' (Value.slice A6 k6 c6).ownBlock) :
    TrW w W' A n c k A4 c4 k8 A8 c8 kept same' m :=
  ⟨h.r.kept hg (own_ne h.r h.s (by decide)), ho, h.m.grown hg (h.m.ne_own h.s), h.g.grown hg (own_blk_ne h.s h.g (by decide)), h.o.grown hg (own_blk_ne h.s h.o (by decide)), h.e.grown hg h.e.size (own_ge h.s)⟩
/-- three cells of a block of another kind put -/
theorem TrW.box3 {B : Nat} (h : TrW w W A n c k A4 c4 k6 A6 c6 kept same m) (hB : w.heap.size ≤ B) (hb : (∀ q, (Value.slice A4 k c4).ownBlock = some q → q < B) ∧ (∀ q, (Value.slice A6 k6 c6).ownBlock = some q → q < B) ∧ w.heap.size + 3 < B) (x y z : Value) :
    TrW w (((W.setCell ⟨B, 0, none⟩ x).setCell ⟨B, 1, none⟩ y).setCell ⟨B, 2, none⟩ z) A n c k A4 c4 k6 A6 c6 kept same m := by
  obtain ⟨h4, h6, hm⟩ := hb
  have hg : W.grownBy (((W.setCell ⟨B, 0, none⟩ x).setCell ⟨B, 1, none⟩ y).setCell ⟨B, 2, none⟩ z) (some B) := gb_setCell (gb_setCell (gb_set W B 0 x) 1 y) 2 z
  have ne : ∀ (v : Value), (∀ q, v.ownBlock = some q → q < B) → v.ownBlock = none ∨ v.ownBlock ≠ some B := fun v hv => by
    cases hq : v.ownBlock with
    | none => exact .inl rfl
    | some q => exact .inr fun e => by have := hv q hq; injection e with e; omega
  exact ⟨h.r.kept hg (ne _ h4), h.s.kept hg (ne _ h6), h.m.grown hg (by intro e; injection e with e; omega), h.g.grown hg (by intro e; injection e with e; omega), h.o.grown hg (by intro e; injection e with e; omega),
    h.e.grown hg h.e.size (fun q hq => by injection hq with hq; omega)⟩
/-- a cell of a block made later put -/
theorem TrW.set1 {B : Nat} (h : TrW w W A n c k A4 c4 k6 A6 c6 kept same m) (hB : w.heap.size ≤ B) (hb : (∀ q, (Value.slice A4 k c4).ownBlock = some q → q < B) ∧ (∀ q, (Value.slice A6 k6 c6).ownBlock = some q → q < B) ∧ w.heap.size + 3 < B) (i : Nat) (x : Value) :
    TrW w (W.setCell ⟨B, i, none⟩ x) A n c k A4 c4 k6 A6 c6 kept same m := by
  obtain ⟨h4, h6, hm⟩ := hb
  have hg : W.grownBy (W.setCell ⟨B, i, none⟩ x) (some B) := gb_set W B i x
  have ne : ∀ (v : Value), (∀ q, v.ownBlock = some q → q < B) → v.ownBlock = none ∨ v.ownBlock ≠ some B := fun v hv => by
    cases hq : v.ownBlock with
    | none => exact .inl rfl
    | some q => exact .inr fun e => by have := hv q hq; injection e with e; omega
  exact ⟨h.r.kept hg (ne _ h4), h.s.kept hg (ne _ h6), h.m.grown hg (by intro e; injection e with e; omega), h.g.grown hg (by intro e; injection e with e; omega), h.o.grown hg (by intro e; injection e with e; omega),
    h.e.grown hg h.e.size (fun q hq => by injection hq with hq; omega)⟩
end
set_option maxHeartbeats 4000000 in
set_option maxRecDepth 100000 in
theorem trimmed_any (A : Option Addr) (n c : Nat) (rs : List Fac) (w : World) (hn : n ≤ 1048576) (hr : Rd w w.heap.size A n 3 Fac.cells rs) (hwf : WF rs) :
    Calls Tryz.prog 39 #[.agg #[.slice A n c]] w (RetG w (trimL rs)) := by
  have hl := Lib.hid hr.len
  have HR := Lib.hid hr; clear hr
  have HWF := Lib.hid hwf; clear hwf
  rcases Nat.eq_zero_or_pos n with hn0 | hn0
  · subst hn0
    have ev := Lib.hid (show trimL rs = [] by unfold trimL; rw [if_pos hl.out])
    go_enter Tryz.func39, Tryz.ntmps39
    go_wp2_with fail
    refine bodyPost_ret (v := .agg #[.slice none 0 0]) (by simp [results, Tryz.results39, go_sem]) rfl ⟨none, 0, by rw [ev.out]; rfl, ?_, ?_⟩
    · rw [ev.out]; exact World.ownsRow_nil _ _ _ _
    · (repeat first | exact Below.refl _ _ | assumption | refine Below.drew ?_ | refine Below.alloc ?_ (by first | exact Nat.le_refl _ | (simp; done) | omega | (simp; omega)) _ | refine Below.setCell ?_ (by first | exact Nat.le_refl _ | (simp; done) | omega | (simp; omega)) _)
  have hn0' : ((n : Int) == 0) = false := by simp; omega
  have hmm := @run_makeMap Tryz.prog
  go_enter Tryz.func39, Tryz.ntmps39
  go_wp2_with fail
  refine named fun w0 H0 => ?_
  have T0 : TrW w w0 A n c 0 (some ⟨w.heap.size + 1 + 1, 0, none⟩) 0 0 (some ⟨w.heap.size + 1 + 1 + 1 + 1, 0, none⟩) 0 [] [] [] := by
    rw [H0.out]
    refine ⟨?_, ?_, ?_, ?_, ?_, by (repeat first | exact Below.refl _ _ | assumption | refine Below.drew ?_ | refine Below.alloc ?_ (by first | exact Nat.le_refl _ | (simp; done) | omega | (simp; omega)) _ | refine Below.setCell ?_ (by first | exact Nat.le_refl _ | (simp; done) | omega | (simp; omega)) _)⟩
    · have h := World.ownsRow_made (base := w.heap.size) (e := 72) (size := 3) ((w.alloc (.cells #[.slice A n c] 31)).alloc (.cells #[.slice none 0 0] 31)) #[] 0 (by simp; omega) (by unfold maxLen; omega) rfl
      simpa using (h.alloc _).alloc _
    · have h := World.ownsRow_made (base := w.heap.size) (e := 2) (size := 1) ((((w.alloc (.cells #[.slice A n c] 31)).alloc (.cells #[.slice none 0 0] 31)).alloc (.cells #[] 72)).alloc (.map #[] 0)) #[] 0 (by simp; omega) (by unfold maxLen; omega) rfl
      simpa using h
    · have h := MapIs.made (((w.alloc (.cells #[.slice A n c] 31)).alloc (.cells #[.slice none 0 0] 31)).alloc (.cells #[] 72)) Fac.val
      simpa using h.alloc _
    · exact ((((Blk.new w _ _).alloc _).alloc _).alloc _).alloc _
    · simpa using (((Blk.new (w.alloc _) _ _).alloc _).alloc _).alloc _
  have T0' := Lib.hid T0
  clear T0 H0 hmm hn0'
  have zr := Tryz.prog
  clear zr
  go_loopw [4, 6, 30] (fun r_ s_ i_ w' => ∃ (k : Nat) (A4 : Option Addr) (c4 : Nat) (A6 : Option Addr) (c6 : Nat) (kept : List Fac) (same : List Int) (m : List (Fac × Value)), i_ = .int .i64 k ∧ r_ = .slice A4 k c4 ∧ s_ = .slice A6 k c6 ∧ k ≤ n ∧ Hid (TrW w w' A n c k A4 c4 k A6 c6 kept same m) ∧
      Hid (∀ f, mget f m = if f ∈ kept then some (.int .i64 ((kept.idxOf f : Nat) : Int)) else none) ∧ Hid (TrI kept same) ∧ Hid (kept.length = k) ∧ Hid (trK (rs.drop k) kept same = trK rs [] [])) (fun _ _ i_ _ => n - (intOf i_).toNat)
  case atStart => exact ⟨0, _, 0, _, 0, [], [], [], rfl, rfl, rfl, by omega, T0', Lib.hid (fun f => rfl), Lib.hid TrI.nil, Lib.hid rfl, Lib.hid rfl⟩
  case round =>
    obtain ⟨k, A4, c4, A6, c6, kept, same, m, rfl, rfl, rfl, hk, TR, HM, HI, hkl, HK⟩ := hrel
    by_cases hlt : k < n
    · obtain ⟨b, o, x, rfl, hB, gx, c0, c1, c2⟩ := (HR.out.below TR.out.e).fac hlt
      have hBr : b < wr.heap.size := by have := TR.out.e.size; omega
      have Hstep := Lib.hid (trK_take rs gx HK.out)
      have HI2 := Lib.hid (HI.out.step HWF.out (by rw [hkl.out]; exact gx))
      have hsl := Lib.hid (HI.out.len.trans hkl.out)
      have Gx := Lib.hid gx
      clear gx
      obtain ⟨pb, hpb⟩ : ∃ pb, isP x = pb := ⟨_, rfl⟩
      have Hpb := Lib.hid hpb; clear hpb
      go_upto_if 36 with (go_at_call 33; refine (isPair_any x pb _ Hpb.out).mono ?_; rintro e w1 ⟨rfl, hb1'⟩)
      have b1 : Below wr.heap.size wr w1 := ((Below.refl wr.heap.size wr).alloc (Nat.le_refl _) _).trans (hb1'.mono (by simp))
      have TR1 := Lib.hid (TR.out.next b1)
      have BX1 := Lib.hid ((Blk.new wr 72 #[.string x.l, .int .i64 x.a, .int .i64 x.b]).next hb1')
      have zb := b1.size
      go_cut [] (fun wx => Hid (TrW w wx (some ⟨b, o, none⟩) n c k A4 c4 k A6 c6 kept same m) ∧ Hid (Blk wx wr.heap.size 72 #[.string (trR same x).l, .int .i64 (trR same x).a, .int .i64 (trR same x).b]))
      case first =>
        rcases HWF.out k x Gx.out with ⟨h0, ha0, ha1, hb0, hb1⟩ | ⟨cc, hcc, hxl, hxa, hxb⟩
        · obtain rfl : true = pb := by rw [← Hpb.out]; simp [isP, h0]
          have Hy := Lib.hid (show trR same x = ⟨⟨#[]⟩, same.getD x.a.toNat 0, same.getD x.b.toNat 0⟩ by unfold trR; rw [if_pos h0])
          have s1 := HI.out.s x.a.toNat (by have := hkl.out; omega)
          have s2 := HI.out.s x.b.toNat (by have := hkl.out; omega)
          obtain ⟨g6, cp6, hv6, hg60, hg61⟩ := TR1.out.s.form (by omega)
          obtain rfl : A6 = some ⟨g6, 0, none⟩ := by injection hv6
          have va : w1.cell? ⟨g6, x.a.toNat, none⟩ = some (.int .i64 (same.getD x.a.toNat 0)) := by
            have := own_at (sz := 1) (enc := intE) (fun _ _ => rfl) TR1.out.s hsl.out 0 x.a.toNat (by omega) 0 (by omega)
            rw [Nat.mul_one, Nat.add_zero] at this; exact this
          have vb : w1.cell? ⟨g6, x.b.toNat, none⟩ = some (.int .i64 (same.getD x.b.toNat 0)) := by
            have := own_at (sz := 1) (enc := intE) (fun _ _ => rfl) TR1.out.s hsl.out 0 x.b.toNat (by omega) 0 (by omega)
            rw [Nat.mul_one, Nat.add_zero] at this; exact this
          generalize same.getD x.a.toNat 0 = sa at *
          generalize same.getD x.b.toNat 0 = sb at *
          obtain ⟨d0, d1, d2⟩ := BX1.out.three
          have lx := BX1.out.lt
          have i1 : x.a < (k : Int) := ha1
          have i2 : x.b < (k : Int) := hb1
          clear hv6
          go_wp2_with fail
          go_region_with
            (first
              | (go_at_call 37
                 refine (pair64_any sa sb w1.drew (by omega) (by omega)).mono ?_
                 rintro e wm ⟨rfl, hbm⟩
                 have bm : Below w1.heap.size w1 wm := (Below.refl _ _).drew.trans hbm
                 have BXm := Lib.hid (BX1.out.next bm)
                 have fm := BXm.out.frozen
                 have lm := BXm.out.lt
                 obtain ⟨m0, m1, m2⟩ := BXm.out.three)
              | fail)
          all_goals
            go_wp2_with fail
            go_meet
            have BY := ((BXm.out.set_ 0 (.string .empty)).set_ 1 (.int .i64 sa)).set_ 2 (.int .i64 sb)
            have TRm := TR1.out.next bm
            have nb : ∀ q, q < wr.heap.size → q ≠ wr.heap.size := fun q hq => by omega
            refine ⟨Lib.hid (TrW.box3 TRm (by have := TR.out.e.size; omega) (TR.out.bnd) _ _ _), Lib.hid ?_⟩
            rw [Hy.out]; exact BY
        · obtain rfl : false = pb := by rw [← Hpb.out]; unfold isP; rw [hxl]; rfl
          have Hy := Lib.hid (show trR same x = x by unfold trR; rw [if_neg (by rw [hxl]; show (1 : Nat) ≠ 0; omega)])
          go_wp2_with fail
          go_meet
          exact ⟨TR1, by rw [Hy.out]; exact BX1⟩
      case rest =>
        obtain ⟨TR2, BX2⟩ := hcut
        have zmap := Lib.hid (show w.heap.size + 3 < wr.heap.size from TR.out.bnd.2.2)
        have nbR := Lib.hid (show some wr.heap.size ≠ (Value.slice A4 k c4).ownBlock from fun e => by have := TR.out.bnd.1 _ e.symm; omega)
        have nbS := Lib.hid (show some wr.heap.size ≠ (Value.slice A6 k c6).ownBlock from fun e => by have := TR.out.bnd.2.1 _ e.symm; omega)
        clear TR TR1 BX1 Hpb hb1' b1 c0 c1 c2
        generalize trR same x = y at *
        have hyk : k = kept.length := hkl.out.symm
        have Hyk := Lib.hid hyk; clear hyk
        obtain ⟨d0, d1, d2⟩ := BX2.out.three
        have lx := BX2.out.lt
        obtain ⟨kn, hkn⟩ : ∃ kn, (mget y m).isSome = kn := ⟨_, rfl⟩
        obtain ⟨vv, hvv⟩ : ∃ vv, (mget y m).getD (.int .i64 0) = vv := ⟨_, rfl⟩
        have Hkn := Lib.hid hkn
        clear hkn
        go_upto_if 55 with (at_lookup; refine wpList_lookOk rfl _ _ rfl rule_key Tryz.underlying121 (zero_i64 _) rfl y rfl TR2.out.m ?_; rw [Hkn.out, hvv])
        go_cut [] (fun wx => ∃ m', Hid (TrW w wx (some ⟨b, o, none⟩) n c k A4 c4 k A6 c6 kept same m') ∧ Hid (∀ f, mget f m' = if f ∈ kept ++ [y] then some (.int .i64 (((kept ++ [y]).idxOf f : Nat) : Int)) else none) ∧ Hid (Blk wx wr.heap.size 72 #[.string y.l, .int .i64 y.a, .int .i64 y.b]))
        case first =>
          by_cases hmem : y ∈ kept
          · obtain rfl : true = kn := by rw [← Hkn.out, HM.out, if_pos hmem]; rfl
            go_wp2_with fail
            go_meet
            exact ⟨m, TR2, Lib.hid (map_known HM.out hmem), BX2⟩
          · obtain rfl : false = kn := by rw [← Hkn.out, HM.out, if_neg hmem]; rfl
            go_wp2_with
              (at_mapUpdate
               refine wpList_put (w0 := w) rfl _ _ _ rfl rule_key Tryz.underlying121 rfl y (.int .i64 (k : Int)) rfl rfl TR2.out.m w.heap.size rfl (by omega) TR2.out.e ?_
               intro w7 hm7 hg7 hb7
               have HM7 := Lib.hid hm7
               have HG7 := Lib.hid hg7
               have HB7 := Lib.hid hb7
               clear hm7 hg7 hb7)
            go_meet
            refine ⟨_, Lib.hid (TrW.put TR2.out HM7.out HG7.out HB7.out), Lib.hid (fun f => ?_), Lib.hid (BX2.out.grown HG7.out (by intro e; injection e with e; have := zmap.out; omega))⟩
            rw [mget_mput, Hyk.out]
            exact map_new HM.out hmem f
        case rest =>
          obtain ⟨m', TR3, HM3, BX3⟩ := hcut
          have hv' := HM3.out y
          rw [if_pos (by simp), idx_app2] at hv'
          have hgk : k ≤ 1048576 := by omega
          have hvb : kept.idxOf y ≤ k := by have := List.idxOf_le_length (a := y) (l := kept); have := hkl.out; omega
          generalize hvz : ((kept.idxOf y : Nat) : Int) = v at *
          have T0 := Lib.hid (TR3.out.drew)
          have T1 := Lib.hid ((TR3.out.alloc (.cells #[.string y.l, .int .i64 y.a, .int .i64 y.b] 72)).drew)
          have T2 := Lib.hid (((TR3.out.alloc (.cells #[.string y.l, .int .i64 y.a, .int .i64 y.b] 72)).alloc (.cells #[.int .i64 v] 2)).drew)
          have T3 := Lib.hid (((TR3.out.alloc (.cells #[.int .i64 v] 2)).alloc (.cells #[.string y.l, .int .i64 y.a, .int .i64 y.b] 72)).drew)
          have T4 := Lib.hid ((TR3.out.alloc (.cells #[.int .i64 v] 2)).drew)
          have lk := fun (W : World) (h : MapIs W (w.heap.size + 3) Fac.val m') => show (Instr.lookup 121 (.map (some (w.heap.size + 1 + 1 + 1))) (.agg #[.string y.l, .int .i64 y.a, .int .i64 y.b]) false).run Tryz.prog W = .ok (.int .i64 v) W by
            have := h.look rule_key Tryz.underlying121 (zero_i64 W) y
            rw [hv'] at this
            exact this
          have LK := Lib.hid lk
          have l0 := lk _ T0.out.m
          have l1 := lk _ T1.out.m
          clear lk hv'
          obtain ⟨d0, d1, d2⟩ := BX3.out.three
          have lx := BX3.out.lt
          have X1 := Lib.hid ((BX3.out.alloc (.cells #[.string y.l, .int .i64 y.a, .int .i64 y.b] 72)).drew)
          have X2 := Lib.hid (((BX3.out.alloc (.cells #[.string y.l, .int .i64 y.a, .int .i64 y.b] 72)).alloc (.cells #[.int .i64 v] 2)).drew)
          have X3 := Lib.hid (((BX3.out.alloc (.cells #[.int .i64 v] 2)).alloc (.cells #[.string y.l, .int .i64 y.a, .int .i64 y.b] 72)).drew)
          have X4 := Lib.hid ((BX3.out.alloc (.cells #[.int .i64 v] 2)).drew)
          have P2R := Lib.hid (((Blk.new wc 72 #[.string y.l, .int .i64 y.a, .int .i64 y.b]).alloc (.cells #[.int .i64 v] 2)).drew)
          have P3S := Lib.hid (((Blk.new wc 2 #[.int .i64 v]).alloc (.cells #[.string y.l, .int .i64 y.a, .int .i64 y.b] 72)).drew)
          have P2S := Lib.hid (show Blk ((wc.alloc (.cells #[.string y.l, .int .i64 y.a, .int .i64 y.b] 72)).alloc (.cells #[.int .i64 v] 2)).drew (wc.heap.size + 1) 2 #[.int .i64 v] by
            have h := Blk.new (wc.alloc (.cells #[.string y.l, .int .i64 y.a, .int .i64 y.b] 72)) 2 #[.int .i64 v]
            rw [show (wc.alloc (.cells #[.string y.l, .int .i64 y.a, .int .i64 y.b] 72)).heap.size = wc.heap.size + 1 by simp] at h; exact h.drew)
          have P3R := Lib.hid (show Blk ((wc.alloc (.cells #[.int .i64 v] 2)).alloc (.cells #[.string y.l, .int .i64 y.a, .int .i64 y.b] 72)).drew (wc.heap.size + 1) 72 #[.string y.l, .int .i64 y.a, .int .i64 y.b] by
            have h := Blk.new (wc.alloc (.cells #[.int .i64 v] 2)) 72 #[.string y.l, .int .i64 y.a, .int .i64 y.b]
            rw [show (wc.alloc (.cells #[.int .i64 v] 2)).heap.size = wc.heap.size + 1 by simp] at h; exact h.drew)
          have zk : (k + 1) * 32 ≤ 140737488355328 := by omega
          have zk8 : (k + 1) * 8 ≤ 140737488355328 := by omega
          have zkm : k + 1 ≤ maxLen := by unfold maxLen; omega
          go_wp2_with fail
          go_region_law
            (first
              | (refine step_push (by rfl) _ _ _ (by rfl) w.heap.size 72 3 32 elem_rule Fac.cells A4 k c4 kept (by rfl) (by with_reducible first | exact T1.out.r | exact T2.out.r | exact T3.out.r | exact (tS.alloc _).r | exact tS.r) _ y #[.string y.l, .int .i64 y.a, .int .i64 y.b] 72 (0, 0) (by rfl) (by first | exact heap_alloc_new _ _ | exact P2R.out | exact P3R.out | exact bR) rfl rfl (one_fac _) (by omega) zk zkm (by with_reducible first | exact T1.out.e.size | exact T2.out.e.size | exact T3.out.e.size | exact (tS.alloc _).e.size | exact tS.e.size) ?_
                 intro A8 c8 w8 own8 hg8 old8
                 with_reducible first
                   | (have tR := T1.out.pushR own8 hg8
                      have xx := X1.out.grown hg8 nbR.out)
                   | (have tR := T2.out.pushR own8 hg8
                      have xx := X2.out.grown hg8 nbR.out
                      have bS := P2S.out.grown hg8 (own_blk_ne T2.out.r P2S.out (by decide)))
                   | (have tR := T3.out.pushR own8 hg8
                      have xx := X3.out.grown hg8 nbR.out
                      have bS := P3S.out.grown hg8 (own_blk_ne T3.out.r P3S.out (by decide)))
                   | have tRS := (tS.alloc _).pushR own8 hg8
                   | have tRS := tS.pushR own8 hg8
                 try
                   (have l8 := LK.out _ tR.m
                    obtain ⟨e0, e1, e2⟩ := xx.three
                    have le := xx.lt))
              | (refine step_push (by rfl) _ _ _ (by rfl) w.heap.size 2 1 8 elem_int intE A6 k c6 same (by rfl) (by with_reducible first | exact T4.out.s | exact T2.out.s | exact T3.out.s | exact (tR.alloc _).s | exact tR.s) _ v #[.int .i64 v] 2 (0, 0) (by rfl) (by first | exact heap_alloc_new _ _ | exact P2S.out | exact P3S.out | exact bS) rfl rfl (by simp [intE, Value.oneCell']) (by omega) zk8 zkm (by with_reducible first | exact T4.out.e.size | exact T2.out.e.size | exact T3.out.e.size | exact (tR.alloc _).e.size | exact tR.e.size) ?_
                 intro A9 c9 w9 own9 hg9 old9
                 with_reducible first
                   | (have tS := T4.out.pushS own9 hg9
                      have xx := X4.out.grown hg9 nbS.out)
                   | (have tS := T2.out.pushS own9 hg9
                      have xx := X2.out.grown hg9 nbS.out
                      have bR := P2R.out.grown hg9 (own_blk_ne T2.out.s P2R.out (by decide)))
                   | (have tS := T3.out.pushS own9 hg9
                      have xx := X3.out.grown hg9 nbS.out
                      have bR := P3R.out.grown hg9 (own_blk_ne T3.out.s P3R.out (by decide)))
                   | have tRS := (tR.alloc _).pushS own9 hg9
                   | have tRS := tR.pushS own9 hg9
                 try
                   (obtain ⟨e0, e1, e2⟩ := xx.three
                    have le := xx.lt)))
          all_goals
            go_wp2_with fail
            go_roundw
            case rel =>
              refine ⟨k + 1, _, _, _, _, kept ++ [y], same ++ [v], m', by go_num, rfl, rfl, by omega, Lib.hid tRS, HM3, HI2, Lib.hid (by rw [List.length_append, hkl.out]; rfl), Hstep⟩
            case measure => simp [intOf]; omega
    · obtain rfl : k = n := by omega
      have HA := Lib.hid (trK_all (by rw [hl.out]; omega) HK.out)
      have hI := HI.out
      have sv := hI.s (k - 1) (by have := hkl.out; omega)
      obtain ⟨g6, cp6, hv6, hg60, hg61⟩ := TR.out.s.form (by omega)
      obtain rfl : A6 = some ⟨g6, 0, none⟩ := by injection hv6
      have cs : wr.cell? ⟨g6, k - 1, none⟩ = some (.int .i64 (same.getD (k - 1) 0)) := by
        have := own_at (sz := 1) (enc := intE) (fun _ _ => rfl) TR.out.s (hI.len.trans hkl.out) 0 (k - 1) (by omega) 0 (by omega)
        rw [Nat.mul_one, Nat.add_zero] at this; exact this
      have Hu0 := Lib.hid (show use0 k same = (List.replicate k false).set (same.getD (k - 1) 0).toNat true from rfl)
      generalize same.getD (k - 1) 0 = z at *
      obtain ⟨z0, z1⟩ := sv
      have u1 : IntKind.i64.wrap ((k : Int) - 1) = (k : Int) - 1 := IntWalk.i64_in _ (by omega)
      have z2 : z < (k : Int) := by omega
      have j0 : (0 : Int) ≤ (k : Int) - 1 := by omega
      have j1 : (k : Int) - 1 < (k : Int) := by omega
      have jn : ((k : Int) - 1).toNat = k - 1 := by omega
      have mkB := fun W => makeB k W (by omega)
      have bz := boolA_at (List.replicate k false) (i := z.toNat) (by rw [List.length_replicate]; omega)
      have zk : z.toNat < k := by omega
      clear hv6 hI
      go_wp2_with fail
      refine named fun w2 H2 => ?_
      obtain ⟨g4, cp4, hv4, hg40, hg41⟩ := TR.out.r.form (by omega)
      obtain rfl : A4 = some ⟨g4, 0, none⟩ := by injection hv4
      have TU := Lib.hid (show TrW w w2 A k c k (some ⟨g4, 0, none⟩) c4 k (some ⟨g6, 0, none⟩) c6 kept same m by rw [H2.out]; exact TR.out.alloc _)
      have BU := Lib.hid (show Blk w2 wr.heap.size 4 (boolA (use0 k same)) by rw [H2.out, Hu0.out, ← boolA_set]; exact Blk.new _ _ _)
      have hbd := Lib.hid TR.out.bnd
      have hU : w.heap.size ≤ wr.heap.size := TR.out.e.size
      have hlu : (use0 k same).length = k := by rw [Hu0.out]; simp
      clear H2 HK Hu0 mkB bz cs TR hv4
      generalize wr.heap.size = U at *
      have HI' := HI
      go_loopw [12] (fun j_ w' => ∃ (j : Nat) (u : List Bool) (y : Int), j_ = .int .i64 y ∧ y + 1 = (j : Int) ∧ j ≤ k ∧ Hid (TrW w w' A k c k (some ⟨g4, 0, none⟩) c4 k (some ⟨g6, 0, none⟩) c6 kept same m) ∧ Hid (Blk w' U 4 (boolA u)) ∧ Hid (u.length = k) ∧
        Hid (useT kept j u = useT kept k (use0 k same))) (fun j_ _ => (intOf j_ + 1).toNat)
      case atStart => exact ⟨k, _, _, rfl, by omega, Nat.le_refl _, TU, BU, Lib.hid hlu, Lib.hid rfl⟩
      case round =>
        obtain ⟨j, u, y, rfl, hy, hj, T2, B2, hu, HU⟩ := hrel
        rcases j with _ | i
        · obtain rfl : y = -1 := by omega
          go_wp2_with fail
          have mkN := fun W => makeN k W (by omega)
          have e := HU.out
          rw [show useT kept 0 u = u from rfl] at e
          have HU2 := Lib.hid e
          clear e HU hy hj
          go_cut [14, 15] (fun p_ s_ wx => ∃ (B V X : Nat), p_ = .pointer (some ⟨B, 0, none⟩) ∧ s_ = .slice (some ⟨V, 0, none⟩) k k ∧ Hid (OutW (w.heap.size + 1) w wx (some ⟨g4, 0, none⟩) c4 k kept X U u V (List.replicate k 0) B none 0 0 []))
          case first =>
            go_region
            all_goals
              go_wp2_with fail
              go_meet
              have lo := T2.out.o.lt
              have lu := B2.out.lt
              have n6 : ∀ q, (Value.slice (some ⟨g4, 0, none⟩) k c4).ownBlock = some q → q < wr.heap.size := fun q hq => by have := hbd.out.1 q hq; omega
              first
                | (refine ⟨wr.heap.size + 1, wr.heap.size, wr.heap.size + 2, rfl, rfl, Lib.hid ?_⟩
                   have hb : Below wr.heap.size wr ((wr.alloc (.cells (intA (List.replicate k 0)) 2)).alloc (.cells #[.slice none 0 0] 31)).drew := (((Below.refl _ _).alloc (Nat.le_refl _) _).alloc (by simp) _).drew
                   have T5 := T2.out.next hb
                   refine ⟨T5.r, B2.out.next hb, ((Blk.new wr _ _).alloc _).drew, ?_, T5.o, World.ownsRow_nil _ _ _ _, T5.e, by omega, by omega, by omega, by omega, by omega, by simp, fun q hq => by have := n6 q hq; omega⟩
                   have h := Blk.new (wr.alloc (.cells (intA (List.replicate k 0)) 2)) 31 #[.slice none 0 0]
                   rw [show (wr.alloc (.cells (intA (List.replicate k 0)) 2)).heap.size = wr.heap.size + 1 by simp] at h
                   exact h.drew)
                | (refine ⟨wr.heap.size, wr.heap.size + 1, wr.heap.size + 2, rfl, rfl, Lib.hid ?_⟩
                   have hb : Below wr.heap.size wr ((wr.alloc (.cells #[.slice none 0 0] 31)).alloc (.cells (intA (List.replicate k 0)) 2)).drew := (((Below.refl _ _).alloc (Nat.le_refl _) _).alloc (by simp) _).drew
                   have T5 := T2.out.next hb
                   refine ⟨T5.r, B2.out.next hb, ?_, ((Blk.new wr _ _).alloc _).drew, T5.o, World.ownsRow_nil _ _ _ _, T5.e, by omega, by omega, by omega, by omega, by omega, by simp, fun q hq => by have := n6 q hq; omega⟩
                   have h := Blk.new (wr.alloc (.cells #[.slice none 0 0] 31)) 2 (intA (List.replicate k 0))
                   rw [show (wr.alloc (.cells #[.slice none 0 0] 31)).heap.size = wr.heap.size + 1 by simp] at h
                   exact h.drew)
          case rest =>
            obtain ⟨B, V, X, rfl, rfl, O0⟩ := hcut
            have hul := hu.out
            clear T2 B2 hu mkN TU BU hlu
            have key := Lib.hid (show trimL rs = outT u 0 kept [] (List.replicate k 0) by
              unfold trimL
              rw [← HA.out, hl.out, if_neg (by omega), ← HU2.out])
            have ulen := Lib.hid hul
            clear hul HU2 HA
            go_wp2_with fail
            refine named fun w4 H4 => ?_
            have O1 := Lib.hid (show OutW (w.heap.size + 1) w w4 (some ⟨g4, 0, none⟩) c4 k kept X U u V (List.replicate k 0) B none 0 0 [] by rw [H4.out]; exact O0.out)
            clear O0 H4
            go_loopw [110] (fun i_ w' => ∃ (i nn : Nat) (A7 : Option Addr) (c7 : Nat) (out : List Fac) (at_ : List Int), i_ = .int .i64 i ∧ i ≤ k ∧ nn ≤ i ∧ Hid (OutW (w.heap.size + 1) w w' (some ⟨g4, 0, none⟩) c4 k kept X U u V at_ B A7 nn c7 out) ∧ Hid (out.length = nn) ∧ Hid (at_.length = k) ∧
              Hid (∀ j, 0 ≤ at_.getD j 0 ∧ at_.getD j 0 ≤ 1048576) ∧ Hid (outT u i (kept.drop i) out at_ = outT u 0 kept [] (List.replicate k 0))) (fun i_ _ => k - (intOf i_).toNat)
            case atStart =>
              exact ⟨0, 0, none, 0, [], _, rfl, by omega, by omega, O1, Lib.hid rfl, Lib.hid (by simp), Lib.hid (fun j => by rw [List.getD_eq_getElem?_getD, List.getElem?_replicate]; split <;> simp), Lib.hid rfl⟩
            case round =>
              obtain ⟨i, nn, A7, c7, out, at_, rfl, hi, hnn, O2, hol, hal, har, HO⟩ := hrel
              by_cases hlt : i < k
              · obtain ⟨x, hx⟩ : ∃ x, kept[i]? = some x := ⟨_, List.getElem?_eq_getElem (by have := hkl.out; omega)⟩
                have hxd : kept.getD i default = x := by rw [List.getD_eq_getElem?_getD, hx]; rfl
                have cel := fun (q : Nat) (hq : q < 3) => own_at (sz := 3) (enc := Fac.cells) (fun _ _ => rfl) O2.out.r hkl.out default i (by omega) q hq
                rw [hxd] at cel
                have c0 : wr.cell? ⟨g4, i * 3, none⟩ = some (.string x.l) := cel 0 (by omega)
                have c1 : wr.cell? ⟨g4, i * 3 + 1, none⟩ = some (.int .i64 x.a) := cel 1 (by omega)
                have c2 : wr.cell? ⟨g4, i * 3 + 2, none⟩ = some (.int .i64 x.b) := cel 2 (by omega)
                clear cel hxd
                have bu := O2.out.u.cell i
                rw [boolA_at u (i := i) (by have := ulen.out; omega)] at bu
                have ho := HO.out
                rw [drop_cons hx] at ho
                have HX := Lib.hid hx
                obtain ⟨ub, hub⟩ : ∃ ub, u.getD i false = ub := ⟨_, rfl⟩
                rw [hub] at bu
                have Hub := Lib.hid hub
                clear hub hx
                have lU := O2.out.u.lt
                have a3 : Below wr.heap.size wr (wr.alloc (.cells #[.string x.l, .int .i64 x.a, .int .i64 x.b] 72)) := (Below.refl _ _).alloc (Nat.le_refl _) _
                have O3 := Lib.hid (O2.out.next a3)
                cases ub
                · have e : outT u (i + 1) (kept.drop (i + 1)) out at_ = outT u 0 kept [] (List.replicate k 0) := by
                    rw [← ho, outT, if_neg (by rw [Hub.out]; simp)]
                  have E := Lib.hid e
                  clear e ho
                  go_wp2_with fail
                  go_roundw
                  case rel => exact ⟨i + 1, nn, A7, c7, out, at_, by go_num, by omega, by omega, O3, hol, hal, har, E⟩
                  case measure => first | (simp [intOf]; done) | (simp [intOf]; omega)
                · have e : outT u (i + 1) (kept.drop (i + 1)) (out ++ [trR at_ x]) (at_.set i (nn : Int)) = outT u 0 kept [] (List.replicate k 0) := by
                    rw [← ho, outT, if_pos Hub.out, hol.out]
                  have E := Lib.hid e
                  clear e ho
                  obtain ⟨pb, hpb⟩ : ∃ pb, isP x = pb := ⟨_, rfl⟩
                  have Hpb := Lib.hid hpb; clear hpb
                  go_upto_if 121 with (go_at_call 33; refine (isPair_any x pb _ Hpb.out).mono ?_; rintro e w1 ⟨rfl, hb1'⟩)
                  have O4 := Lib.hid (O3.out.next hb1')
                  have BX1 := Lib.hid ((Blk.new wr 72 #[.string x.l, .int .i64 x.a, .int .i64 x.b]).next hb1')
                  have hsz : wr.heap.size < w1.heap.size := BX1.out.lt
                  go_cut [] (fun wx => Hid (OutW (w.heap.size + 1) w wx (some ⟨g4, 0, none⟩) c4 k kept X U u V at_ B A7 nn c7 out) ∧ Hid (Blk wx wr.heap.size 72 #[.string (trR at_ x).l, .int .i64 (trR at_ x).a, .int .i64 (trR at_ x).b]))
                  case first =>
                    rcases HI.out.k i x HX.out with ⟨h0, ha0, ha1, hb0, hb1⟩ | ⟨cc, hcc, hxl, hxa, hxb⟩
                    · obtain rfl : true = pb := by rw [← Hpb.out]; simp [isP, h0]
                      have Hy := Lib.hid (show trR at_ x = ⟨⟨#[]⟩, at_.getD x.a.toNat 0, at_.getD x.b.toNat 0⟩ by unfold trR; rw [if_pos h0])
                      have s1 := har.out x.a.toNat
                      have s2 := har.out x.b.toNat
                      have va := O4.out.v.cell x.a.toNat
                      rw [intA_at at_ (by have := hal.out; omega)] at va
                      have vb := O4.out.v.cell x.b.toNat
                      rw [intA_at at_ (by have := hal.out; omega)] at vb
                      generalize at_.getD x.a.toNat 0 = sa at *
                      generalize at_.getD x.b.toNat 0 = sb at *
                      obtain ⟨d0, d1, d2⟩ := BX1.out.three
                      have lx := BX1.out.lt
                      have i1 : x.a < (k : Int) := by omega
                      have i2 : x.b < (k : Int) := by omega
                      clear c0 c1 c2 bu
                      go_wp2_with fail
                      go_region_with
                        (first
                          | (go_at_call 37
                             refine (pair64_any sa sb w1.drew (by omega) (by omega)).mono ?_
                             rintro e wm ⟨rfl, hbm⟩
                             have bm : Below w1.heap.size w1 wm := (Below.refl _ _).drew.trans hbm
                             have BXm := Lib.hid (BX1.out.next bm)
                             have fm := BXm.out.frozen
                             have lm := BXm.out.lt
                             obtain ⟨m0, m1, m2⟩ := BXm.out.three)
                          | fail)
                      all_goals
                        go_wp2_with fail
                        go_meet
                        have BY := ((BXm.out.set_ 0 (.string .empty)).set_ 1 (.int .i64 sa)).set_ 2 (.int .i64 sb)
                        have Om := O4.out.next bm
                        have hgm := gb_setCell (gb_setCell (gb_set wm wr.heap.size 0 (.string .empty)) 1 (.int .i64 sa)) 2 (.int .i64 sb)
                        refine ⟨Lib.hid (Om.far hgm (fun e => by have := O2.out.n6 _ e.symm; have := O2.out.n5; omega) (fun e => by have := (O2.out.q.lt _ e.symm).2; omega) (by have := O2.out.u.lt; omega) (by have := O2.out.v.lt; omega) (by have := O2.out.b.lt; omega) (by have := O2.out.o.lt; omega)), Lib.hid ?_⟩
                        rw [Hy.out]; exact BY
                    · obtain rfl : false = pb := by rw [← Hpb.out]; unfold isP; rw [hxl]; rfl
                      have Hy := Lib.hid (show trR at_ x = x by unfold trR; rw [if_neg (by rw [hxl]; show (1 : Nat) ≠ 0; omega)])
                      clear hxl hxa hxb
                      go_wp2_with fail
                      go_meet
                      exact ⟨O4, by rw [Hy.out]; exact BX1⟩
                  case rest =>
                    obtain ⟨O5, BX5⟩ := hcut
                    clear O3 O4 BX1 Hpb c0 c1 c2 bu
                    generalize trR at_ x = y at *
                    have f5 := O5.out.v.frozen
                    have v5 := O5.out.v.cell i
                    rw [intA_at at_ (by have := hal.out; omega)] at v5
                    have b5 := O5.out.b.cell 0
                    have k5 : (i : Int) < (k : Int) := by omega
                    have O6 := Lib.hid (O5.out.tell i (nn : Int))
                    have BX6 := Lib.hid (BX5.out.grown (gb_set wc V i (.int .i64 (nn : Int))) (by intro e; injection e with e; have := O2.out.v.lt; omega))
                    have b6 := O6.out.b.cell 0
                    obtain ⟨e0, e1, e2⟩ := BX6.out.three
                    have O7 := Lib.hid (O6.out.alloc (.cells #[.string y.l, .int .i64 y.a, .int .i64 y.b] 72))
                    have BN := Lib.hid (Blk.new (wc.setCell ⟨V, i, none⟩ (.int .i64 (nn : Int))) 72 #[.string y.l, .int .i64 y.a, .int .i64 y.b])
                    have sz7 : (wc.setCell ⟨V, i, none⟩ (.int .i64 (nn : Int))).heap.size = wc.heap.size := by simp
                    rw [sz7] at BN
                    go_wp2_with
                      (at_builtin
                       refine wpList_app rfl _ _ _ rfl X 72 3 32 elem_rule Fac.cells A7 nn c7 out rfl O7.out.q ⟨wc.heap.size, 0, none⟩ 1 1 [y] rfl rfl (by omega) (news1 BN.out) (fun x _ => fac_len x) (fun x _ => one_fac x) (by omega) (by omega) (by unfold maxLen; omega) O7.out.n5 ?_
                       intro A9 c9 w9 own9 hg9 hat9
                       have O8 := Lib.hid (O7.out.push own9 hg9)
                       have B9 := O7.out.b.grown hg9 (own_blk_ne O7.out.q O7.out.b (by decide))
                       have f9 := B9.frozen
                       have d9 := B9.cell 0
                       have l9 := B9.lt
                       clear own9 B9)
                    go_roundw
                    case rel =>
                      exact ⟨i + 1, nn + 1, A9, c9, out ++ [y], at_.set i (nn : Int), by go_num, by omega, by omega, O8, Lib.hid (by simp [hol.out]), Lib.hid (by simp [hal.out]),
                        Lib.hid (fun j => by
                          have h := har.out j
                          rw [List.getD_eq_getElem?_getD, List.getElem?_set]
                          split
                          · split
                            · simp; omega
                            · simp
                          · rw [← List.getD_eq_getElem?_getD]; exact h), E⟩
                    case measure => first | (simp [intOf]; done) | (simp [intOf]; omega)
              · obtain rfl : i = k := by omega
                have hk2 := Lib.hid (show trimL rs = out by
                  rw [key.out, ← HO.out, List.drop_of_length_le (by rw [hkl.out]; exact Nat.le_refl _)]; rfl)
                have b0 := O2.out.b.cell 0
                have o0 := O2.out.o.cell 0
                have fo := O2.out.o.frozen
                go_wp2_with fail
                have hg := gb_set wr (w.heap.size + 1) 0 (.slice A7 nn c7)
                have x9 := O2.out.o.set_ 0 (.slice A7 nn c7)
                have x10 : (wr.setCell ⟨w.heap.size + 1, 0, none⟩ (.slice A7 nn c7)).cell? ⟨w.heap.size + 1, 0, none⟩ = some (.slice A7 nn c7) := by rw [x9.cell 0]; rfl
                refine bodyPost_ret (v := .agg #[.slice A7 nn c7]) (by simp [results, Tryz.results39, go_sem, x10]) rfl ⟨A7, c7, by rw [hk2.out, hol.out], ?_, O2.out.e.grown hg O2.out.e.size (fun q hq => by injection hq with hq; omega)⟩
                rw [hk2.out, hol.out]
                exact (O2.out.q.kept hg (.inr fun e => own_blk_ne O2.out.q O2.out.o (by decide) e.symm)).mono (by have := O2.out.n1; have := O2.out.n2; omega)
        · obtain rfl : y = (i : Int) := by omega
          obtain ⟨x, hx⟩ : ∃ x, kept[i]? = some x := ⟨_, List.getElem?_eq_getElem (by have := hkl.out; omega)⟩
          have hxd : kept.getD i default = x := by rw [List.getD_eq_getElem?_getD, hx]; rfl
          have cel := fun (q : Nat) (hq : q < 3) => own_at (sz := 3) (enc := Fac.cells) (fun _ _ => rfl) T2.out.r hkl.out default i (by omega) q hq
          rw [hxd] at cel
          have c0 : wr.cell? ⟨g4, i * 3, none⟩ = some (.string x.l) := cel 0 (by omega)
          have c1 : wr.cell? ⟨g4, i * 3 + 1, none⟩ = some (.int .i64 x.a) := cel 1 (by omega)
          have c2 : wr.cell? ⟨g4, i * 3 + 2, none⟩ = some (.int .i64 x.b) := cel 2 (by omega)
          clear cel
          have bu := B2.out.cell i
          rw [boolA_at u (i := i) (by have := hu.out; omega)] at bu
          have Hus := Lib.hid (show useStep kept i u = if u.getD i false = true ∧ x.l.size = 0 then (u.set x.a.toNat true).set x.b.toNat true else u by unfold useStep; rw [hxd])
          have HU' := Lib.hid (show useT kept i (useStep kept i u) = useT kept k (use0 k same) from HU.out)
          have HX := Lib.hid hx
          clear HU hx hxd
          obtain ⟨ub, hub⟩ : ∃ ub, u.getD i false = ub := ⟨_, rfl⟩
          rw [hub] at bu
          have Hub := Lib.hid hub
          clear hub
          have lU := B2.out.lt
          have u1 : IntKind.i64.wrap ((i : Int) - 1) = (i : Int) - 1 := IntWalk.i64_in _ (by omega)
          have a3 : Below wr.heap.size wr (wr.alloc (.cells #[.string x.l, .int .i64 x.a, .int .i64 x.b] 72)) := (Below.refl _ _).alloc (Nat.le_refl _) _
          have T3 := Lib.hid (T2.out.next a3)
          have B3 := Lib.hid (B2.out.next a3)
          cases ub
          · have e := Hus.out
            rw [Hub.out, if_neg (by simp)] at e
            have E := Lib.hid e
            clear e
            go_wp2_with fail
            go_roundw
            case rel => exact ⟨i, u, _, rfl, by omega, by omega, T3, B3, hu, by rw [E.out] at HU'; exact HU'⟩
            case measure => first | (simp [intOf]; done) | (simp [intOf]; omega)
          · obtain ⟨pb, hpb⟩ : ∃ pb, isP x = pb := ⟨_, rfl⟩
            have Hpb := Lib.hid hpb; clear hpb
            rcases HI.out.k i x HX.out with ⟨h0, ha0, ha1, hb0, hb1⟩ | ⟨cc, hcc, hxl, hxa, hxb⟩
            · obtain rfl : true = pb := by rw [← Hpb.out]; simp [isP, h0]
              have e := Hus.out
              rw [Hub.out, if_pos ⟨rfl, h0⟩] at e
              have E := Lib.hid e
              clear e
              go_wp2_with
                (go_at_call 33
                 refine (isPair_any x true _ Hpb.out).mono ?_
                 rintro e w1 ⟨rfl, hb1'⟩
                 have T4 := Lib.hid (T3.out.next hb1')
                 have B4 := Lib.hid (B3.out.next hb1')
                 have BX := Lib.hid ((Blk.new wr 72 #[.string x.l, .int .i64 x.a, .int .i64 x.b]).next hb1')
                 have lB := BX.out.lt
                 have lU4 := B4.out.lt
                 have fU := B4.out.frozen
                 obtain ⟨m0, m1, m2⟩ := BX.out.three
                 have da := B4.out.cell x.a.toNat
                 rw [boolA_at u (by have := hu.out; omega)] at da
                 have db := B4.out.cell x.b.toNat
                 rw [boolA_at u (by have := hu.out; omega)] at db
                 have B5 := B4.out.set_ x.a.toNat (.bool true)
                 rw [boolA_set] at B5
                 have db2 := B5.cell x.b.toNat
                 rw [boolA_at _ (by have := hu.out; rw [List.length_set]; omega)] at db2
                 clear B5
                 have ab : x.a < (k : Int) := by omega
                 have bb : x.b < (k : Int) := by omega
                 have nU : U ≠ wr.heap.size := by omega)
              go_region
              all_goals
                go_wp2_with fail
                go_roundw
                case rel =>
                  have B6 := (B4.out.set_ x.a.toNat (.bool true)).set_ x.b.toNat (.bool true)
                  rw [boolA_set, boolA_set, ← E.out] at B6
                  exact ⟨i, useStep kept i u, _, rfl, by omega, by omega, Lib.hid (TrW.set1 (TrW.set1 T4.out hU hbd.out _ _) hU hbd.out _ _).drew, Lib.hid B6.drew, Lib.hid (by rw [E.out]; simp [hu.out]), HU'⟩
                case measure => first | (simp [intOf]; done) | (simp [intOf]; omega)
            · obtain rfl : false = pb := by rw [← Hpb.out]; unfold isP; rw [hxl]; rfl
              have e := Hus.out
              rw [if_neg (by rw [hxl]; rintro ⟨-, h⟩; exact absurd h (show (1 : Nat) ≠ 0 by omega))] at e
              have E := Lib.hid e
              clear e hxl hxa hxb
              go_wp2_with
                (go_at_call 33
                 refine (isPair_any x false _ Hpb.out).mono ?_
                 rintro e w1 ⟨rfl, hb1'⟩
                 have T4 := Lib.hid (T3.out.next hb1')
                 have B4 := Lib.hid (B3.out.next hb1'))
              go_roundw
              case rel => exact ⟨i, u, _, rfl, by omega, by omega, T4, B4, hu, by rw [E.out] at HU'; exact HU'⟩
              case measure => first | (simp [intOf]; done) | (simp [intOf]; omega)
end Go.Proofs.YtmdmgndhapdmgaaGreat


/-
  A grammar trimmed by the reference.
-/
namespace Go.Proofs.YtmdmgndhapdmgaaGreat
open Go.RowKit

/-- the reference's first round under way: what the call has made -/
structure TsW (w W : World) (k : Nat) (A5 : Option Addr) (c5 k6 : Nat) (A4 : Option Addr) (c4 : Nat) (kept : List Fac) (same : List Int) : Prop where
  r : W.ownsRow w.heap.size 72 3 (.slice A5 k c5) k (kept.flatMap Fac.cells)
  s : W.ownsRow w.heap.size 2 1 (.slice A4 k6 c4) k6 (same.flatMap intE)
  o : Blk W w.heap.size 31 #[.slice none 0 0]
  e : Below w.heap.size w W
section
variable {w W W' : World} {k k6 : Nat} {A5 : Option Addr} {c5 : Nat} {A4 : Option Addr} {c4 : Nat} {kept : List Fac} {same : List Int}
theorem TsW.next (h : TsW w W k A5 c5 k6 A4 c4 kept same) (hb : Below W.heap.size W W') : TsW w W' k A5 c5 k6 A4 c4 kept same :=
  ⟨own_next h.r hb, own_next h.s hb, h.o.next hb, h.e.trans (hb.mono h.e.size)⟩
theorem TsW.alloc (h : TsW w W k A5 c5 k6 A4 c4 kept same) (o : Obj) : TsW w (W.alloc o) k A5 c5 k6 A4 c4 kept same := h.next ((Below.refl _ _).alloc (Nat.le_refl _) _)
theorem TsW.drew (h : TsW w W k A5 c5 k6 A4 c4 kept same) : TsW w W.drew k A5 c5 k6 A4 c4 kept same := h.next (Below.refl _ _).drew
theorem TsW.pushR {A8 : Option Addr} {k8 c8 : Nat} {kept' : List Fac} (h : TsW w W k A5 c5 k6 A4 c4 kept same) (ho : W'.ownsRow w.heap.size 72 3 (.slice A8 k8 c8) k8 (kept'.flatMap Fac.cells)) (hg : W.grownBy W' (Value.slice A5 k c5).ownBlock) :
    TsW w W' k8 A8 c8 k6 A4 c4 kept' same :=
  ⟨ho, h.s.kept hg (own_ne h.s h.r (by decide)), h.o.grown hg (own_blk_ne h.r h.o (by decide)), h.e.grown hg h.e.size (own_ge h.r)⟩
theorem TsW.pushS {A8 : Option Addr} {k8 c8 : Nat} {same' : List Int} (h : TsW w W k A5 c5 k6 A4 c4 kept same) (ho : W'.ownsRow w.heap.size 2 1 (.slice A8 k8 c8) k8 (same'.flatMap intE)) (hg : W.grownBy W' (Value.slice A4 k6 c4).ownBlock) :
    TsW w W' k A5 c5 k8 A8 c8 kept same' :=
  ⟨h.r.kept hg (own_ne h.r h.s (by decide)), ho, h.o.grown hg (own_blk_ne h.s h.o (by decide)), h.e.grown hg h.e.size (own_ge h.s)⟩
/-- a block made later put -/
theorem TsW.far {Z : Nat} (h : TsW w W k A5 c5 k6 A4 c4 kept same) (hg : W.grownBy W' (some Z)) (h1 : some Z ≠ (Value.slice A5 k c5).ownBlock) (h2 : some Z ≠ (Value.slice A4 k6 c4).ownBlock) (h3 : w.heap.size < Z) : TsW w W' k A5 c5 k6 A4 c4 kept same :=
  ⟨h.r.kept hg (.inr fun e => h1 e.symm), h.s.kept hg (.inr fun e => h2 e.symm), h.o.grown hg (by intro e; injection e with e; omega), h.e.grown hg h.e.size (fun q hq => by injection hq with hq; omega)⟩
theorem TsW.bnd (h : TsW w W k A5 c5 k6 A4 c4 kept same) : (∀ q, (Value.slice A5 k c5).ownBlock = some q → q < W.heap.size) ∧ (∀ q, (Value.slice A4 k6 c4).ownBlock = some q → q < W.heap.size) ∧ w.heap.size < W.heap.size :=
  ⟨fun q hq => (h.r.lt q hq).2, fun q hq => (h.s.lt q hq).2, h.o.lt⟩
end
theorem trR_set {at_ : List Int} {x : Fac} {i : Nat} {z : Int} (h : x.l.size = 0 → 0 ≤ x.a ∧ x.a < (i : Int) ∧ 0 ≤ x.b ∧ x.b < (i : Int)) : trR (at_.set i z) x = trR at_ x := by
  unfold trR
  by_cases h0 : x.l.size = 0
  · obtain ⟨a0, a1, b0, b1⟩ := h h0
    rw [if_pos h0, if_pos h0]
    simp only [List.getD_eq_getElem?_getD]
    rw [List.getElem?_set_ne (by omega), List.getElem?_set_ne (by omega)]
  · rw [if_neg h0, if_neg h0]
theorem fac_ext {f g : Fac} (h1 : f.l.toList = g.l.toList) (h2 : f.a = g.a) (h3 : f.b = g.b) : f = g := by
  cases f; cases g
  simp only at h1 h2 h3
  rw [tl_inj.1 h1, h2, h3]
theorem news1i {W : World} {g : Nat} {t : TypeId} {v : Int} (h : Blk W g t #[.int .i64 v]) : ∀ j u, ([v].flatMap intE)[j]? = some u → W.cell? ((⟨g, 0, none⟩ : Addr).add j) = some u := by
  intro j u hj
  have e : ((⟨g, 0, none⟩ : Addr).add j) = ⟨g, j, none⟩ := by
    simp only [Addr.add, Nat.zero_add]
    by_cases h0 : j = 0
    · subst h0; rfl
    · simp [h0]
  rw [e, h.cell j]
  simpa [intE] using hj
theorem hs_step {kept : List Fac} {same : List Int} (h : ∀ (j : Nat) (x : Fac), kept[j]? = some x → same.getD j 0 = ((kept.idxOf x : Nat) : Int)) (hl : same.length = kept.length) (y : Fac) :
    ∀ (j : Nat) (x : Fac), (kept ++ [y])[j]? = some x → (same ++ [((kept.idxOf y : Nat) : Int)]).getD j 0 = (((kept ++ [y]).idxOf x : Nat) : Int) := by
  intro j x hx
  by_cases e : j < kept.length
  · rw [List.getElem?_append_left e] at hx
    rw [List.getD_eq_getElem?_getD, List.getElem?_append_left (by omega), ← List.getD_eq_getElem?_getD, h j x hx, idx_app1 (List.mem_of_getElem? hx)]
  · have hj2 := (List.getElem?_eq_some_iff.1 hx).1
    simp only [List.length_append, List.length_singleton] at hj2
    obtain rfl : j = kept.length := by omega
    rw [List.getElem?_append_right (Nat.le_refl _), Nat.sub_self] at hx
    obtain rfl : y = x := by simpa using hx
    rw [List.getD_eq_getElem?_getD, List.getElem?_append_right (by omega), hl, Nat.sub_self, idx_app2]
    rfl
set_option maxHeartbeats 4000000 in
set_option maxRecDepth 100000 in
theorem l02Trim_any (gb : Nat) (A : Option Addr) (n c : Nat) (rs : List Fac) (w : World) (hg : gb < w.heap.size) (hc : w.cell? ⟨gb, 0, none⟩ = some (.slice A n c)) (hn : n ≤ 1048576) (hr : Rd w w.heap.size A n 3 Fac.cells rs) (hwf : WF rs) :
    Calls Tryz.prog 45 #[.pointer (some ⟨gb, 0, none⟩)] w (RetG w (trimL rs)) := by
  have hl := Lib.hid hr.len
  have HR := Lib.hid hr; clear hr
  have HWF := Lib.hid hwf; clear hwf
  have HC := Lib.hid (fun (W : World) (h : Below w.heap.size w W) => (h.cell (p := ⟨gb, 0, none⟩) hg).trans hc)
  go_enter Tryz.func45, Tryz.ntmps45
  go_wp2_with fail
  refine named fun w0 H0 => ?_
  have T0 : TsW w w0 0 (some ⟨w.heap.size + 1 + 1, 0, none⟩) 0 0 (some ⟨w.heap.size + 1, 0, none⟩) 0 [] [] := by
    rw [H0.out]
    refine ⟨?_, ?_, ?_, by (repeat first | exact Below.refl _ _ | assumption | refine Below.drew ?_ | refine Below.alloc ?_ (by first | exact Nat.le_refl _ | (simp; done) | omega | (simp; omega)) _ | refine Below.setCell ?_ (by first | exact Nat.le_refl _ | (simp; done) | omega | (simp; omega)) _)⟩
    · have h := World.ownsRow_made (base := w.heap.size) (e := 72) (size := 3) ((w.alloc (.cells #[.slice none 0 0] 31)).alloc (.cells #[] 2)) #[] 0 (by simp; omega) (by unfold maxLen; omega) rfl
      simpa using h
    · have h := World.ownsRow_made (base := w.heap.size) (e := 2) (size := 1) (w.alloc (.cells #[.slice none 0 0] 31)) #[] 0 (by simp) (by unfold maxLen; omega) rfl
      simpa using h.alloc _
    · exact ((Blk.new w _ _).alloc _).alloc _
  have T0' := Lib.hid T0
  clear T0 H0
  go_loopw [4, 5, 6] (fun s_ r_ i_ w' => ∃ (k : Nat) (A4 : Option Addr) (c4 : Nat) (A5 : Option Addr) (c5 : Nat) (kept : List Fac) (same : List Int), i_ = .int .i64 k ∧ s_ = .slice A4 k c4 ∧ r_ = .slice A5 k c5 ∧ k ≤ n ∧ Hid (TsW w w' k A5 c5 k A4 c4 kept same) ∧
      Hid (∀ (j : Nat) (x : Fac), kept[j]? = some x → same.getD j 0 = ((kept.idxOf x : Nat) : Int)) ∧ Hid (TrI kept same) ∧ Hid (kept.length = k) ∧ Hid (trK (rs.drop k) kept same = trK rs [] [])) (fun _ _ i_ _ => n - (intOf i_).toNat)
  case atStart => exact ⟨0, _, 0, _, 0, [], [], rfl, rfl, rfl, by omega, T0', Lib.hid (fun j x h => by simp at h), Lib.hid TrI.nil, Lib.hid rfl, Lib.hid rfl⟩
  case round =>
    obtain ⟨k, A4, c4, A5, c5, kept, same, rfl, rfl, rfl, hk, TR, HS, HI, hkl, HK⟩ := hrel
    have cg := HC.out wr TR.out.e
    by_cases hlt : k < n
    · obtain ⟨b, o, x, rfl, hB, gx, c0, c1, c2⟩ := (HR.out.below TR.out.e).fac hlt
      have hBr : b < wr.heap.size := by have := TR.out.e.size; omega
      have Hstep := Lib.hid (trK_take rs gx HK.out)
      have HI2 := Lib.hid (HI.out.step HWF.out (by rw [hkl.out]; exact gx))
      have hsl := Lib.hid (HI.out.len.trans hkl.out)
      have Gx := Lib.hid gx
      clear gx
      go_upto_if 37 with fail
      refine named fun w1 H1 => ?_
      have BX1 := Lib.hid (show Blk w1 wr.heap.size 72 #[.string x.l, .int .i64 x.a, .int .i64 x.b] by rw [H1.out]; exact Blk.new wr _ _)
      have TR1 := Lib.hid (show TsW w w1 k A5 c5 k A4 c4 kept same by rw [H1.out]; exact TR.out.alloc _)
      have nbR := Lib.hid (show some wr.heap.size ≠ (Value.slice A5 k c5).ownBlock from fun e => by have := TR.out.bnd.1 _ e.symm; omega)
      have nbS := Lib.hid (show some wr.heap.size ≠ (Value.slice A4 k c4).ownBlock from fun e => by have := TR.out.bnd.2.1 _ e.symm; omega)
      have zZ := TR.out.bnd.2.2
      have cgb : gb < wr.heap.size := by omega
      clear H1 c0 c1 c2
      generalize wr.heap.size = Z at *
      go_cut [] (fun wx => Hid (TsW w wx k A5 c5 k A4 c4 kept same) ∧ Hid (Blk wx Z 72 #[.string (trR same x).l, .int .i64 (trR same x).a, .int .i64 (trR same x).b]))
      case first =>
        rcases HWF.out k x Gx.out with ⟨h0, ha0, ha1, hb0, hb1⟩ | ⟨cc, hcc, hxl, hxa, hxb⟩
        · have e0 := size0 h0
          have he : x.l.toList.isEmpty = true := by rw [size0 h0]; rfl
          have Hy := Lib.hid (show trR same x = ⟨⟨#[]⟩, same.getD x.a.toNat 0, same.getD x.b.toNat 0⟩ by unfold trR; rw [if_pos h0])
          obtain ⟨g4, cp4, hv4, hg40, hg41⟩ := TR1.out.s.form (by omega)
          obtain rfl : A4 = some ⟨g4, 0, none⟩ := by injection hv4
          have va : w1.cell? ⟨g4, x.a.toNat, none⟩ = some (.int .i64 (same.getD x.a.toNat 0)) := by
            have := own_at (sz := 1) (enc := intE) (fun _ _ => rfl) TR1.out.s hsl.out 0 x.a.toNat (by omega) 0 (by omega)
            rw [Nat.mul_one, Nat.add_zero] at this; exact this
          have vb : w1.cell? ⟨g4, x.b.toNat, none⟩ = some (.int .i64 (same.getD x.b.toNat 0)) := by
            have := own_at (sz := 1) (enc := intE) (fun _ _ => rfl) TR1.out.s hsl.out 0 x.b.toNat (by omega) 0 (by omega)
            rw [Nat.mul_one, Nat.add_zero] at this; exact this
          generalize same.getD x.a.toNat 0 = sa at *
          generalize same.getD x.b.toNat 0 = sb at *
          obtain ⟨d0, d1, d2⟩ := BX1.out.three
          have lx := BX1.out.lt
          have fx := BX1.out.frozen
          have i1 : x.a < (k : Int) := ha1
          have i2 : x.b < (k : Int) := hb1
          clear hv4
          simp only [he]
          clear he e0
          go_wp2_with fail
          go_region
          all_goals
            go_wp2_with fail
            go_meet
            have BY := ((BX1.out.set_ 0 (.string .empty)).set_ 1 (.int .i64 sa)).set_ 2 (.int .i64 sb)
            have hgm := gb_setCell (gb_setCell (gb_set w1 Z 0 (.string .empty)) 1 (.int .i64 sa)) 2 (.int .i64 sb)
            refine ⟨Lib.hid (TR1.out.far hgm nbR.out nbS.out (by omega)).drew, Lib.hid ?_⟩
            rw [Hy.out]; exact BY.drew
        · have e0 : x.l.toList ≠ [] := size1 (by rw [hxl]; show (1 : Nat) ≠ 0; omega)
          have he : x.l.toList.isEmpty = false := by rw [List.isEmpty_eq_false_iff]; exact e0
          have Hy := Lib.hid (show trR same x = x by unfold trR; rw [if_neg (by rw [hxl]; show (1 : Nat) ≠ 0; omega)])
          clear hxl hxa hxb
          simp only [he]
          clear he e0
          go_wp2_with fail
          go_meet
          exact ⟨TR1, by rw [Hy.out]; exact BX1⟩
      case rest =>
        obtain ⟨TR2, BX2⟩ := hcut
        clear TR1 BX1
        generalize trR same x = y at *
        have hik : kept.idxOf y ≤ k := by have := List.idxOf_le_length (a := y) (l := kept); have := hkl.out; omega
        go_upto_block 2 with fail
        refine named fun w2 H2 => ?_
        have TR3 := Lib.hid (show TsW w w2 k A5 c5 k A4 c4 kept same by rw [H2.out]; exact TR2.out)
        have BX3 := Lib.hid (show Blk w2 Z 72 #[.string y.l, .int .i64 y.a, .int .i64 y.b] by rw [H2.out]; exact BX2.out)
        clear H2 TR2 BX2
        go_cut [8] (fun o_ wx => o_ = .int .i64 ((kept.idxOf y : Nat) : Int) ∧ Hid (TsW w wx k A5 c5 k A4 c4 kept same) ∧ Hid (Blk wx Z 72 #[.string y.l, .int .i64 y.a, .int .i64 y.b]))
        case first =>
          go_wp2_with fail
          go_loopw [8, 9] (fun o_ j_ w' => ∃ (own j : Nat), o_ = .int .i64 own ∧ j_ = .int .i64 j ∧ j ≤ k ∧ own ≤ k ∧ Hid (TsW w w' k A5 c5 k A4 c4 kept same) ∧ Hid (Blk w' Z 72 #[.string y.l, .int .i64 y.a, .int .i64 y.b]) ∧
            Hid ((own = k ∧ ∀ q, q < j → ¬ (same.getD q 0 = (q : Int) ∧ kept[q]? = some y)) ∨ (own < k ∧ kept[own]? = some y ∧ same.getD own 0 = (own : Int)))) (fun _ j_ _ => k - (intOf j_).toNat)
          case atStart => exact ⟨k, 0, rfl, rfl, by omega, by omega, TR3, BX3, Lib.hid (.inl ⟨rfl, fun q hq => absurd hq (by omega)⟩)⟩
          case round =>
            obtain ⟨own, j, rfl, rfl, hj, how, T4, B4, HQ⟩ := hrel
            by_cases hlt2 : j < k
            · rcases HQ.out with ⟨hok, hno⟩ | ⟨hok, hfo, hsf⟩
              · obtain rfl : k = own := hok.symm
                have HN := Lib.hid hno
                clear hno HQ
                obtain ⟨g4, cp4, hv4, hg40, hg41⟩ := T4.out.s.form (by omega)
                obtain rfl : A4 = some ⟨g4, 0, none⟩ := by injection hv4
                obtain ⟨g5, cp5, hv5, hg50, hg51⟩ := T4.out.r.form (by omega)
                obtain rfl : A5 = some ⟨g5, 0, none⟩ := by injection hv5
                have va : wr.cell? ⟨g4, j, none⟩ = some (.int .i64 (same.getD j 0)) := by
                  have := own_at (sz := 1) (enc := intE) (fun _ _ => rfl) T4.out.s hsl.out 0 j (by omega) 0 (by omega)
                  rw [Nat.mul_one, Nat.add_zero] at this; exact this
                obtain ⟨x', hx'⟩ : ∃ x', kept[j]? = some x' := ⟨_, List.getElem?_eq_getElem (by have := hkl.out; omega)⟩
                have hxd : kept.getD j default = x' := by rw [List.getD_eq_getElem?_getD, hx']; rfl
                have cel := fun (q : Nat) (hq : q < 3) => own_at (sz := 3) (enc := Fac.cells) (fun _ _ => rfl) T4.out.r hkl.out default j (by omega) q hq
                rw [hxd] at cel
                have c0 : wr.cell? ⟨g5, j * 3, none⟩ = some (.string x'.l) := cel 0 (by omega)
                have c1 : wr.cell? ⟨g5, j * 3 + 1, none⟩ = some (.int .i64 x'.a) := cel 1 (by omega)
                have c2 : wr.cell? ⟨g5, j * 3 + 2, none⟩ = some (.int .i64 x'.b) := cel 2 (by omega)
                have HX := Lib.hid hx'
                obtain ⟨e0, e1, e2⟩ := B4.out.three
                clear cel hxd hx' hv4 hv5
                obtain ⟨sj, hsj⟩ : ∃ sj, same.getD j 0 = sj := ⟨_, rfl⟩
                rw [hsj] at va
                have HSJ := Lib.hid hsj
                clear hsj
                by_cases hss : sj = (j : Int)
                · subst hss
                  by_cases hxy : x' = y
                  · subst hxy
                    go_wp2_with fail
                    go_region
                    all_goals
                      go_wp2_with fail
                      go_roundw
                      case rel => exact ⟨j, j + 1, rfl, by go_num, by omega, by omega, Lib.hid T4.out.drew, Lib.hid B4.out.drew, Lib.hid (.inr ⟨hlt2, HX.out, HSJ.out⟩)⟩
                      case measure => first | (simp [intOf]; done) | (simp [intOf]; omega)
                  · have hcase : x'.l.toList ≠ y.l.toList ∨ (x'.l.toList = y.l.toList ∧ x'.a ≠ y.a) ∨ (x'.l.toList = y.l.toList ∧ x'.a = y.a ∧ x'.b ≠ y.b) := by
                      by_cases h1 : x'.l.toList = y.l.toList
                      · by_cases h2 : x'.a = y.a
                        · by_cases h3 : x'.b = y.b
                          · exact absurd (fac_ext h1 h2 h3) hxy
                          · exact .inr (.inr ⟨h1, h2, h3⟩)
                        · exact .inr (.inl ⟨h1, h2⟩)
                      · exact .inl h1
                    have HXY := Lib.hid hxy
                    clear hxy
                    rcases hcase with h1 | ⟨h1, h2⟩ | ⟨h1, h2, h3⟩
                    all_goals
                      go_wp2_with fail
                      go_region
                      all_goals
                        go_wp2_with fail
                        go_roundw
                        case rel =>
                          refine ⟨k, j + 1, rfl, by go_num, by omega, by omega, Lib.hid T4.out.drew, Lib.hid B4.out.drew, Lib.hid (.inl ⟨rfl, fun q hq => ?_⟩)⟩
                          rcases Nat.lt_or_ge q j with h | h
                          · exact HN.out q h
                          · obtain rfl : q = j := by omega
                            rintro ⟨-, hh⟩
                            exact HXY.out (by have := HX.out.symm.trans hh; injection this)
                        case measure => first | (simp [intOf]; done) | (simp [intOf]; omega)
                · have hne : (sj == (j : Int)) = false := by simpa using hss
                  go_wp2_with fail
                  go_region
                  all_goals
                    go_wp2_with fail
                    go_roundw
                    case rel =>
                      refine ⟨k, j + 1, rfl, by go_num, by omega, by omega, Lib.hid T4.out.drew, Lib.hid B4.out.drew, Lib.hid (.inl ⟨rfl, fun q hq => ?_⟩)⟩
                      rcases Nat.lt_or_ge q j with h | h
                      · exact HN.out q h
                      · obtain rfl : q = j := by omega
                        rintro ⟨h1, -⟩
                        exact hss (HSJ.out.symm.trans h1)
                    case measure => first | (simp [intOf]; done) | (simp [intOf]; omega)
              · have hne : ((own : Int) == (k : Int)) = false := by simp; omega
                have hid := HS.out own y hfo
                rw [hsf] at hid
                have HID := Lib.hid hid
                clear hid hfo hsf
                go_wp2_with fail
                go_meet
                exact ⟨by rw [HID.out], T4, B4⟩
            · obtain rfl : k = j := by omega
              rcases HQ.out with ⟨hok, hno⟩ | ⟨hok, hfo, hsf⟩
              · obtain rfl : k = own := hok.symm
                have hnm : y ∉ kept := fun hm => by
                  have h1 : kept.idxOf y < kept.length := List.idxOf_lt_length_iff.2 hm
                  have h2 : kept[kept.idxOf y]? = some y := by rw [List.getElem?_eq_getElem h1, List.getElem_idxOf]
                  exact hno _ (by rw [hkl.out] at h1; exact h1) ⟨HS.out _ _ h2, h2⟩
                have HID := Lib.hid (show kept.idxOf y = k by rw [List.idxOf_eq_length hnm, hkl.out])
                clear hno hnm HQ
                go_wp2_with fail
                go_meet
                exact ⟨by rw [HID.out], T4, B4⟩
              · have hid := HS.out own y hfo
                rw [hsf] at hid
                have HID := Lib.hid hid
                clear hid hfo hsf HQ
                go_wp2_with fail
                go_meet
                exact ⟨by rw [HID.out], T4, B4⟩
        case rest =>
          obtain ⟨rfl, TR2, BX2⟩ := hcut
          have HS2 := Lib.hid (hs_step HS.out HI.out.len y)
          generalize hvz : ((kept.idxOf y : Nat) : Int) = v at *
          have TA := Lib.hid (TR2.out.alloc (.cells #[.int .i64 v] 2))
          have BA := Lib.hid (BX2.out.alloc (.cells #[.int .i64 v] 2))
          go_wp2_with
            (first
              | (at_builtin
                 refine wpList_app rfl _ _ _ rfl w.heap.size 2 1 8 elem_int intE A4 k c4 same rfl TA.out.s ⟨wc.heap.size, 0, none⟩ 1 1 [v] rfl rfl (by omega) (news1i (Blk.new wc 2 #[.int .i64 v])) (fun _ _ => rfl) (by simp [intE, Value.oneCell']) (by omega) (by omega) (by unfold maxLen; omega) TA.out.e.size ?_
                 intro A8 c8 w8 own8 hg8 hat8
                 have TB := Lib.hid (TA.out.pushS own8 hg8)
                 have BB := Lib.hid (BA.out.grown hg8 nbS.out)
                 obtain ⟨d0, d1, d2⟩ := BB.out.three
                 have lx := BB.out.lt
                 have TC := Lib.hid (TB.out.alloc (.cells #[.string y.l, .int .i64 y.a, .int .i64 y.b] 72))
                 clear own8 hg8 hat8)
              | (at_builtin
                 refine wpList_app rfl _ _ _ rfl w.heap.size 72 3 32 elem_rule Fac.cells A5 k c5 kept rfl TC.out.r ⟨w8.heap.size, 0, none⟩ 1 1 [y] rfl rfl (by omega) (news1 (Blk.new w8 72 #[.string y.l, .int .i64 y.a, .int .i64 y.b])) (fun x _ => fac_len x) (fun x _ => one_fac x) (by omega) (by omega) (by unfold maxLen; omega) TC.out.e.size ?_
                 intro A9 c9 w9 own9 hg9 hat9
                 have TD := Lib.hid (TC.out.pushR own9 hg9)
                 clear own9 hg9 hat9))
          go_roundw
          case rel => exact ⟨k + 1, A8, c8, A9, c9, kept ++ [y], same ++ [v], by go_num, rfl, rfl, by omega, TD, HS2, HI2, Lib.hid (by rw [List.length_append, hkl.out]; rfl), Hstep⟩
          case measure => first | (simp [intOf]; done) | (simp [intOf]; omega)
    · obtain rfl : k = n := by omega
      have HA := Lib.hid (trK_all (by rw [hl.out]; omega) HK.out)
      have mkB := fun W => makeB k W (by omega)
      go_upto_if 86 with fail
      refine named fun w2 H2 => ?_
      have TU := Lib.hid (show TsW w w2 k A5 c5 k A4 c4 kept same by rw [H2.out]; exact TR.out.alloc _)
      have BU := Lib.hid (show Blk w2 wr.heap.size 4 (boolA (List.replicate k false)) by rw [H2.out]; exact Blk.new wr _ _)
      have hbd := Lib.hid TR.out.bnd
      clear H2 TR mkB
      generalize wr.heap.size = U at *
      go_cut [] (fun wx => ∃ u, Hid (TsW w wx k A5 c5 k A4 c4 kept same) ∧ Hid (Blk wx U 4 (boolA u)) ∧ Hid (u.length = k) ∧ Hid (trimL rs = outT (useT kept k u) 0 kept [] (List.replicate k 0)))
      case first =>
        rcases Nat.eq_zero_or_pos k with hk0 | hk0
        · have hkey := Lib.hid (show trimL rs = outT (useT kept k (List.replicate k false)) 0 kept [] (List.replicate k 0) by
            unfold trimL
            rw [if_pos (by rw [hl.out]; exact hk0), List.eq_nil_of_length_eq_zero (hkl.out.trans hk0)]
            rfl)
          have hlt0 : ¬ (0 : Int) < (k : Int) := by omega
          clear hk0
          go_wp2_with fail
          go_meet
          exact ⟨_, TU, BU, Lib.hid (by simp), hkey⟩
        · have hI := HI.out
          have sv := hI.s (k - 1) (by have := hkl.out; omega)
          obtain ⟨g4, cp4, hv4, hg40, hg41⟩ := TU.out.s.form (by omega)
          obtain rfl : A4 = some ⟨g4, 0, none⟩ := by injection hv4
          have cs : w2.cell? ⟨g4, k - 1, none⟩ = some (.int .i64 (same.getD (k - 1) 0)) := by
            have := own_at (sz := 1) (enc := intE) (fun _ _ => rfl) TU.out.s (hI.len.trans hkl.out) 0 (k - 1) (by omega) 0 (by omega)
            rw [Nat.mul_one, Nat.add_zero] at this; exact this
          have hkey := Lib.hid (show trimL rs = outT (useT kept k ((List.replicate k false).set (same.getD (k - 1) 0).toNat true)) 0 kept [] (List.replicate k 0) by
            unfold trimL
            rw [← HA.out, hl.out, if_neg (by omega)]
            rfl)
          generalize same.getD (k - 1) 0 = z at *
          obtain ⟨z0, z1⟩ := sv
          have u1 : IntKind.i64.wrap ((k : Int) - 1) = (k : Int) - 1 := IntWalk.i64_in _ (by omega)
          have z2 : z < (k : Int) := by omega
          have j0 : (0 : Int) ≤ (k : Int) - 1 := by omega
          have j1 : (k : Int) - 1 < (k : Int) := by omega
          have jn : ((k : Int) - 1).toNat = k - 1 := by omega
          have bz := BU.out.cell z.toNat
          rw [boolA_at _ (by rw [List.length_replicate]; omega)] at bz
          have fz := BU.out.frozen
          have zk : z.toNat < k := by omega
          have hk1 : (0 : Int) < (k : Int) := by omega
          clear hv4 hI
          go_wp2_with fail
          go_meet
          have B6 := BU.out.set_ z.toNat (.bool true)
          rw [boolA_set] at B6
          refine ⟨(List.replicate k false).set z.toNat true, ?_, Lib.hid B6, Lib.hid (by simp), hkey⟩
          exact (Lib.hid (TU.out.far (gb_set w2 U _ _) (fun e => by have := hbd.out.1 _ e.symm; omega) (fun e => by have := hbd.out.2.1 _ e.symm; omega) hbd.out.2.2))
      case rest =>
        obtain ⟨u0, TV, BV, hu0, key0⟩ := hcut
        clear TU BU
        have u1 : IntKind.i64.wrap ((k : Int) - 1) = (k : Int) - 1 := IntWalk.i64_in _ (by omega)
        go_wp2_with fail
        refine named fun w3 H3 => ?_
        have TW := Lib.hid (show TsW w w3 k A5 c5 k A4 c4 kept same by rw [H3.out]; exact TV.out)
        have BW := Lib.hid (show Blk w3 U 4 (boolA u0) by rw [H3.out]; exact BV.out)
        clear H3 TV BV
        go_loopw [11] (fun j_ w' => ∃ (j : Nat) (u : List Bool) (y : Int), j_ = .int .i64 y ∧ y + 1 = (j : Int) ∧ j ≤ k ∧ Hid (TsW w w' k A5 c5 k A4 c4 kept same) ∧ Hid (Blk w' U 4 (boolA u)) ∧ Hid (u.length = k) ∧
          Hid (useT kept j u = useT kept k u0)) (fun j_ _ => (intOf j_ + 1).toNat)
        case atStart => exact ⟨k, _, _, rfl, by omega, Nat.le_refl _, TW, BW, hu0, Lib.hid rfl⟩
        case round =>
          obtain ⟨j, u, y, rfl, hy, hj, T2, B2, hu, HU⟩ := hrel
          rcases j with _ | i
          · obtain rfl : y = -1 := by omega
            have e := HU.out
            rw [show useT kept 0 u = u from rfl] at e
            have key := Lib.hid (show trimL rs = outT u 0 kept [] (List.replicate k 0) by rw [key0.out, ← e])
            have ulen := hu
            clear e HU hy hj key0
            have mkN := fun W => makeN k W (by omega)
            go_wp2_with fail
            refine named fun w4 H4 => ?_
            have lo := T2.out.o.lt
            have lu := B2.out.lt
            have n6 := T2.out.bnd.1
            have O1 : OutW w.heap.size w w4 A5 c5 k kept (wr.heap.size + 2) U u wr.heap.size (List.replicate k 0) (wr.heap.size + 1) none 0 0 [] := by
              rw [H4.out]
              have hb : Below wr.heap.size wr ((wr.alloc (.cells (intA (List.replicate k 0)) 2)).alloc (.cells #[.slice none 0 0] 31)) := ((Below.refl _ _).alloc (Nat.le_refl _) _).alloc (by simp) _
              have T5 := T2.out.next hb
              refine ⟨T5.r, B2.out.next hb, (Blk.new wr _ _).alloc _, ?_, T5.o, World.ownsRow_nil _ _ _ _, T5.e, Nat.le_refl _, by omega, by omega, by have := T2.out.e.size; have := hbd.out.2.2; omega, by omega, by simp, fun q hq => by have := n6 q hq; omega⟩
              have h := Blk.new (wr.alloc (.cells (intA (List.replicate k 0)) 2)) 31 #[.slice none 0 0]
              rw [show (wr.alloc (.cells (intA (List.replicate k 0)) 2)).heap.size = wr.heap.size + 1 by simp] at h
              exact h
            have O1' := Lib.hid O1
            clear O1 H4 T2 B2 n6 lo lu mkN hbd
            generalize hB : wr.heap.size + 1 = B at *
            have hB' := Lib.hid hB
            clear hB
            generalize wr.heap.size = V at *
            generalize V + 2 = X at *
            go_loopw [14] (fun i_ w' => ∃ (i nn : Nat) (A7 : Option Addr) (c7 : Nat) (out : List Fac) (at_ : List Int), i_ = .int .i64 i ∧ i ≤ k ∧ nn ≤ i ∧ Hid (OutW w.heap.size w w' A5 c5 k kept X U u V at_ B A7 nn c7 out) ∧ Hid (out.length = nn) ∧ Hid (at_.length = k) ∧
              Hid (outT u i (kept.drop i) out at_ = outT u 0 kept [] (List.replicate k 0))) (fun i_ _ => k - (intOf i_).toNat)
            case atStart =>
              exact ⟨0, 0, none, 0, [], _, rfl, by omega, by omega, O1', Lib.hid rfl, Lib.hid (by simp), Lib.hid rfl⟩
            case round =>
              obtain ⟨i, nn, A7, c7, out, at_, rfl, hi, hnn, O2, hol, hal, HO⟩ := hrel
              by_cases hlt : i < k
              · obtain ⟨g5, cp5, hv5, hg50, hg51⟩ := O2.out.r.form (by omega)
                obtain rfl : A5 = some ⟨g5, 0, none⟩ := by injection hv5
                obtain ⟨x, hx⟩ : ∃ x, kept[i]? = some x := ⟨_, List.getElem?_eq_getElem (by have := hkl.out; omega)⟩
                have hxd : kept.getD i default = x := by rw [List.getD_eq_getElem?_getD, hx]; rfl
                have cel := fun (q : Nat) (hq : q < 3) => own_at (sz := 3) (enc := Fac.cells) (fun _ _ => rfl) O2.out.r hkl.out default i (by omega) q hq
                rw [hxd] at cel
                have c0 : wr.cell? ⟨g5, i * 3, none⟩ = some (.string x.l) := cel 0 (by omega)
                have c1 : wr.cell? ⟨g5, i * 3 + 1, none⟩ = some (.int .i64 x.a) := cel 1 (by omega)
                have c2 : wr.cell? ⟨g5, i * 3 + 2, none⟩ = some (.int .i64 x.b) := cel 2 (by omega)
                have nV : V ≠ g5 := fun e => own_blk_ne O2.out.r O2.out.v (by decide) (by rw [e]; rfl)
                have nBV : B ≠ V := by have := hB'.out; omega
                clear cel hxd hv5
                have bu := O2.out.u.cell i
                rw [boolA_at u (i := i) (by have := ulen.out; omega)] at bu
                have ho := HO.out
                rw [drop_cons hx] at ho
                have HX := Lib.hid hx
                obtain ⟨ub, hub⟩ : ∃ ub, u.getD i false = ub := ⟨_, rfl⟩
                rw [hub] at bu
                have Hub := Lib.hid hub
                clear hub hx
                cases ub
                · have e : outT u (i + 1) (kept.drop (i + 1)) out at_ = outT u 0 kept [] (List.replicate k 0) := by
                    rw [← ho, outT, if_neg (by rw [Hub.out]; simp)]
                  have E := Lib.hid e
                  clear e ho
                  go_wp2_with fail
                  go_roundw
                  case rel => exact ⟨i + 1, nn, A7, c7, out, at_, by go_num, by omega, by omega, O2, hol, hal, E⟩
                  case measure => first | (simp [intOf]; done) | (simp [intOf]; omega)
                · have e : outT u (i + 1) (kept.drop (i + 1)) (out ++ [trR at_ x]) (at_.set i (nn : Int)) = outT u 0 kept [] (List.replicate k 0) := by
                    rw [← ho, outT, if_pos Hub.out, hol.out]
                  have E := Lib.hid e
                  clear e ho
                  have Hset := Lib.hid (show trR (at_.set i (nn : Int)) x = trR at_ x from trR_set (fun h0 => by
                    rcases HI.out.k i x HX.out with ⟨_, ha0, ha1, hb0, hb1⟩ | ⟨cc, hcc, hxl, hxa, hxb⟩
                    · exact ⟨ha0, ha1, hb0, hb1⟩
                    · rw [hxl] at h0; exact absurd h0 (show (1 : Nat) ≠ 0 by omega)))
                  have f5 := O2.out.v.frozen
                  have v5 := O2.out.v.cell i
                  rw [intA_at at_ (by have := hal.out; omega)] at v5
                  have b5 := O2.out.b.cell 0
                  go_upto_if 151 with fail
                  refine named fun w1 H1 => ?_
                  have O3 := Lib.hid (show OutW w.heap.size w w1 (some ⟨g5, 0, none⟩) c5 k kept X U u V (at_.set i (nn : Int)) B A7 nn c7 out by rw [H1.out]; exact (O2.out.tell i (nn : Int)).alloc _)
                  have BX1 := Lib.hid (show Blk w1 wr.heap.size 72 #[.string x.l, .int .i64 x.a, .int .i64 x.b] by
                    rw [H1.out]
                    have h := Blk.new (wr.setCell ⟨V, i, none⟩ (.int .i64 (nn : Int))) 72 #[.string x.l, .int .i64 x.a, .int .i64 x.b]
                    rw [show (wr.setCell ⟨V, i, none⟩ (.int .i64 (nn : Int))).heap.size = wr.heap.size by simp] at h
                    exact h)
                  have q1 : some wr.heap.size ≠ (Value.slice (some ⟨g5, 0, none⟩) k c5).ownBlock := fun e => by have := (O2.out.r.lt _ e.symm).2; omega
                  have q2 : some wr.heap.size ≠ (Value.slice A7 nn c7).ownBlock := fun e => by have := (O2.out.q.lt _ e.symm).2; omega
                  have q3 := O2.out.u.lt
                  have q4 := O2.out.v.lt
                  have q5 := O2.out.b.lt
                  have q6 := O2.out.o.lt
                  have Q1 := Lib.hid q1
                  have Q2 := Lib.hid q2
                  clear q1 q2 H1 c0 c1 c2 bu v5 f5 b5
                  generalize wr.heap.size = Z at *
                  go_cut [] (fun wx => Hid (OutW w.heap.size w wx (some ⟨g5, 0, none⟩) c5 k kept X U u V (at_.set i (nn : Int)) B A7 nn c7 out) ∧ Hid (Blk wx Z 72 #[.string (trR at_ x).l, .int .i64 (trR at_ x).a, .int .i64 (trR at_ x).b]))
                  case first =>
                    rcases HI.out.k i x HX.out with ⟨h0, ha0, ha1, hb0, hb1⟩ | ⟨cc, hcc, hxl, hxa, hxb⟩
                    · have e0 := size0 h0
                      have he : x.l.toList.isEmpty = true := by rw [e0]; rfl
                      have Hy := Lib.hid (show trR at_ x = ⟨⟨#[]⟩, (at_.set i (nn : Int)).getD x.a.toNat 0, (at_.set i (nn : Int)).getD x.b.toNat 0⟩ by rw [← Hset.out]; unfold trR; rw [if_pos h0])
                      have va := O3.out.v.cell x.a.toNat
                      rw [intA_at _ (by rw [List.length_set]; have := hal.out; omega)] at va
                      have vb := O3.out.v.cell x.b.toNat
                      rw [intA_at _ (by rw [List.length_set]; have := hal.out; omega)] at vb
                      obtain ⟨sa, hsa⟩ : ∃ sa, (at_.set i (nn : Int)).getD x.a.toNat 0 = sa := ⟨_, rfl⟩
                      obtain ⟨sb, hsb⟩ : ∃ sb, (at_.set i (nn : Int)).getD x.b.toNat 0 = sb := ⟨_, rfl⟩
                      rw [hsa] at va
                      rw [hsb] at vb
                      have Hy2 := Lib.hid (show trR at_ x = ⟨⟨#[]⟩, sa, sb⟩ by rw [Hy.out, hsa, hsb])
                      obtain ⟨d0, d1, d2⟩ := BX1.out.three
                      have lx := BX1.out.lt
                      have fx := BX1.out.frozen
                      have i1 : x.a < (k : Int) := by omega
                      have i2 : x.b < (k : Int) := by omega
                      clear hsa hsb Hy
                      simp only [he]
                      clear he e0
                      go_wp2_with fail
                      go_region
                      all_goals
                        go_wp2_with fail
                        go_meet
                        have BY := ((BX1.out.set_ 0 (.string .empty)).set_ 1 (.int .i64 sa)).set_ 2 (.int .i64 sb)
                        have hgm := gb_setCell (gb_setCell (gb_set w1 Z 0 (.string .empty)) 1 (.int .i64 sa)) 2 (.int .i64 sb)
                        refine ⟨Lib.hid (O3.out.far hgm Q1.out Q2.out (by omega) (by omega) (by omega) (by omega)).drew, Lib.hid ?_⟩
                        rw [Hy2.out]; exact BY.drew
                    · have e0 : x.l.toList ≠ [] := size1 (by rw [hxl]; show (1 : Nat) ≠ 0; omega)
                      have he : x.l.toList.isEmpty = false := by rw [List.isEmpty_eq_false_iff]; exact e0
                      have Hy := Lib.hid (show trR at_ x = x by unfold trR; rw [if_neg (by rw [hxl]; show (1 : Nat) ≠ 0; omega)])
                      clear hxl hxa hxb
                      simp only [he]
                      clear he e0
                      go_wp2_with fail
                      go_meet
                      exact ⟨O3, by rw [Hy.out]; exact BX1⟩
                  case rest =>
                    obtain ⟨O5, BX5⟩ := hcut
                    clear O3 BX1
                    generalize trR at_ x = y at *
                    have b5 := O5.out.b.cell 0
                    obtain ⟨e0, e1, e2⟩ := BX5.out.three
                    have O7 := Lib.hid (O5.out.alloc (.cells #[.string y.l, .int .i64 y.a, .int .i64 y.b] 72))
                    have BN := Lib.hid (Blk.new wc 72 #[.string y.l, .int .i64 y.a, .int .i64 y.b])
                    go_wp2_with
                      (at_builtin
                       refine wpList_app rfl _ _ _ rfl X 72 3 32 elem_rule Fac.cells A7 nn c7 out rfl O7.out.q ⟨wc.heap.size, 0, none⟩ 1 1 [y] rfl rfl (by omega) (news1 BN.out) (fun x _ => fac_len x) (fun x _ => one_fac x) (by omega) (by omega) (by unfold maxLen; omega) O7.out.n5 ?_
                       intro A9 c9 w9 own9 hg9 hat9
                       have O8 := Lib.hid (O7.out.push own9 hg9)
                       have B9 := O7.out.b.grown hg9 (own_blk_ne O7.out.q O7.out.b (by decide))
                       have f9 := B9.frozen
                       have d9 := B9.cell 0
                       have l9 := B9.lt
                       clear own9 B9)
                    go_roundw
                    case rel => exact ⟨i + 1, nn + 1, A9, c9, out ++ [y], at_.set i (nn : Int), by go_num, by omega, by omega, O8, Lib.hid (by simp [hol.out]), Lib.hid (by simp [hal.out]), E⟩
                    case measure => first | (simp [intOf]; done) | (simp [intOf]; omega)
              · obtain rfl : k = i := by omega
                have hk2 := Lib.hid (show trimL rs = out by
                  rw [key.out, ← HO.out, List.drop_of_length_le (by rw [hkl.out]; exact Nat.le_refl _)]; rfl)
                have b0 := O2.out.b.cell 0
                have o0 := O2.out.o.cell 0
                have fo := O2.out.o.frozen
                go_wp2_with fail
                have hg := gb_set wr w.heap.size 0 (.slice A7 nn c7)
                have x9 := O2.out.o.set_ 0 (.slice A7 nn c7)
                have x10 : (wr.setCell ⟨w.heap.size, 0, none⟩ (.slice A7 nn c7)).cell? ⟨w.heap.size, 0, none⟩ = some (.slice A7 nn c7) := by rw [x9.cell 0]; rfl
                refine bodyPost_ret (v := .agg #[.slice A7 nn c7]) (by simp [results, Tryz.results45, go_sem, x10]) rfl ⟨A7, c7, by rw [hk2.out, hol.out], ?_, O2.out.e.grown hg O2.out.e.size (fun q hq => by injection hq with hq; omega)⟩
                rw [hk2.out, hol.out]
                exact (O2.out.q.kept hg (.inr fun e => own_blk_ne O2.out.q O2.out.o (by decide) e.symm)).mono (by have := O2.out.n1; have := O2.out.n2; omega)
          · obtain rfl : y = (i : Int) := by omega
            obtain ⟨g5, cp5, hv5, hg50, hg51⟩ := T2.out.r.form (by omega)
            obtain rfl : A5 = some ⟨g5, 0, none⟩ := by injection hv5
            obtain ⟨x, hx⟩ : ∃ x, kept[i]? = some x := ⟨_, List.getElem?_eq_getElem (by have := hkl.out; omega)⟩
            have hxd : kept.getD i default = x := by rw [List.getD_eq_getElem?_getD, hx]; rfl
            have cel := fun (q : Nat) (hq : q < 3) => own_at (sz := 3) (enc := Fac.cells) (fun _ _ => rfl) T2.out.r hkl.out default i (by omega) q hq
            rw [hxd] at cel
            have c0 : wr.cell? ⟨g5, i * 3, none⟩ = some (.string x.l) := cel 0 (by omega)
            have c1 : wr.cell? ⟨g5, i * 3 + 1, none⟩ = some (.int .i64 x.a) := cel 1 (by omega)
            have c2 : wr.cell? ⟨g5, i * 3 + 2, none⟩ = some (.int .i64 x.b) := cel 2 (by omega)
            clear cel hv5
            have bu := B2.out.cell i
            rw [boolA_at u (i := i) (by have := hu.out; omega)] at bu
            have Hus := Lib.hid (show useStep kept i u = if u.getD i false = true ∧ x.l.size = 0 then (u.set x.a.toNat true).set x.b.toNat true else u by unfold useStep; rw [hxd])
            have HU' := Lib.hid (show useT kept i (useStep kept i u) = useT kept k u0 from HU.out)
            have HX := Lib.hid hx
            clear HU hx hxd
            obtain ⟨ub, hub⟩ : ∃ ub, u.getD i false = ub := ⟨_, rfl⟩
            rw [hub] at bu
            have Hub := Lib.hid hub
            clear hub
            have u2 : IntKind.i64.wrap ((i : Int) - 1) = (i : Int) - 1 := IntWalk.i64_in _ (by omega)
            cases ub
            · have e := Hus.out
              rw [Hub.out, if_neg (by simp)] at e
              have E := Lib.hid e
              clear e
              go_wp2_with fail
              go_roundw
              case rel => exact ⟨i, u, _, rfl, by omega, by omega, T2, B2, hu, by rw [E.out] at HU'; exact HU'⟩
              case measure => first | (simp [intOf]; done) | (simp [intOf]; omega)
            · rcases HI.out.k i x HX.out with ⟨h0, ha0, ha1, hb0, hb1⟩ | ⟨cc, hcc, hxl, hxa, hxb⟩
              · have e := Hus.out
                rw [Hub.out, if_pos ⟨rfl, h0⟩] at e
                have E := Lib.hid e
                clear e
                have e0 := size0 h0
                have he : x.l.toList.isEmpty = true := by rw [e0]; rfl
                have nU : U ≠ g5 := fun e => by have := hbd.out.1 g5 rfl; omega
                have fU := B2.out.frozen
                have da := B2.out.cell x.a.toNat
                rw [boolA_at u (by have := hu.out; omega)] at da
                have B5 := B2.out.set_ x.a.toNat (.bool true)
                rw [boolA_set] at B5
                have db2 := B5.cell x.b.toNat
                rw [boolA_at _ (by have := hu.out; rw [List.length_set]; omega)] at db2
                have fU5 := B5.frozen
                clear B5
                have ab : x.a < (k : Int) := by omega
                have bb : x.b < (k : Int) := by omega
                go_wp2_with fail
                go_roundw
                case rel =>
                  have B6 := (B2.out.set_ x.a.toNat (.bool true)).set_ x.b.toNat (.bool true)
                  rw [boolA_set, boolA_set, ← E.out] at B6
                  exact ⟨i, useStep kept i u, _, rfl, by omega, by omega, Lib.hid (T2.out.far (gb_setCell (gb_set wr U _ _) _ _) (fun e => by have := hbd.out.1 _ e.symm; omega) (fun e => by have := hbd.out.2.1 _ e.symm; omega) hbd.out.2.2), Lib.hid B6, Lib.hid (by rw [E.out]; simp [hu.out]), HU'⟩
                case measure => first | (simp [intOf]; done) | (simp [intOf]; omega)
              · have e := Hus.out
                rw [if_neg (by rw [hxl]; rintro ⟨-, h⟩; exact absurd h (show (1 : Nat) ≠ 0 by omega))] at e
                have E := Lib.hid e
                have e0 : x.l.toList ≠ [] := size1 (by rw [hxl]; show (1 : Nat) ≠ 0; omega)
                have he : x.l.toList.isEmpty = false := by rw [List.isEmpty_eq_false_iff]; exact e0
                clear e hxl hxa hxb
                go_wp2_with fail
                go_roundw
                case rel => exact ⟨i, u, _, rfl, by omega, by omega, T2, B2, hu, by rw [E.out] at HU'; exact HU'⟩
                case measure => first | (simp [intOf]; done) | (simp [intOf]; omega)
end Go.Proofs.YtmdmgndhapdmgaaGreat


/-
  TrimGrammar on both sides.
-/
namespace Go.Proofs.YtmdmgndhapdmgaaGreat
open Go.RowKit

/-- a grammar in new memory, and a code -/
def RetGC (w0 : World) (xs : List Fac) (k : Int) (e : Ending) (w' : World) : Prop :=
  ∃ A c, e = .returned (.tuple #[.agg #[.slice A xs.length c], .int .i64 k]) ∧ w'.ownsRow w0.heap.size 72 3 (.slice A xs.length c) xs.length (xs.flatMap Fac.cells) ∧ Below w0.heap.size w0 w'
theorem outT_len (used : List Bool) : ∀ (ks : List Fac) (i : Nat) (out : List Fac) (at_ : List Int), (outT used i ks out at_).length ≤ out.length + ks.length
  | [], i, out, at_ => by simp [outT]
  | r :: ks, i, out, at_ => by
    rw [outT]
    split
    · have := outT_len used ks (i + 1) (out ++ [trR at_ r]) (at_.set i (out.length : Int))
      simp only [List.length_append, List.length_singleton] at this
      simp only [List.length_cons]; omega
    · have := outT_len used ks (i + 1) out at_
      simp only [List.length_cons]; omega
theorem trK_len : ∀ (rs kept : List Fac) (same : List Int), (trK rs kept same).1.length = kept.length + rs.length
  | [], kept, same => by simp [trK]
  | r :: rs, kept, same => by
    rw [trK, trK_len rs]; simp; omega
end Go.Proofs.YtmdmgndhapdmgaaGreat


/-
  A grammar, if it is valid: in the program and in the reference.
-/
namespace Go.Proofs.YtmdmgndhapdmgaaGreat
open Go.RowKit

/-- a grammar if it is valid, or the word that there is too much -/
def orLim (A : Option Addr) (n c : Nat) (b : Bool) : Value := bif b then .tuple #[.agg #[.slice A n c], .int .i64 0] else .tuple #[.agg #[.slice none 0 0], .int .i64 3]
def limF (rs : List Fac) : List Fac := if (gOk rs).isSome then rs else []
def limC (rs : List Fac) : Int := if (gOk rs).isSome then 0 else 3
set_option maxHeartbeats 1000000 in
theorem l02Told_any (A : Option Addr) (n c : Nat) (rs : List Fac) (w : World) (hn : n ≤ 100000000) (hr : Rd w w.heap.size A n 3 Fac.cells rs) (hok : ∀ f ∈ rs, f.l.size ≤ maxLen) :
    Calls Tryz.prog 99 #[.agg #[.slice A n c]] w (Ret (orLim A n c (gOk rs).isSome) w) := by
  have HR := Lib.hid hr; clear hr
  have HO := Lib.hid hok; clear hok
  obtain ⟨b, hb⟩ : ∃ b, (gOk rs).isSome = b := ⟨_, rfl⟩
  rw [hb]
  have Hb := Lib.hid hb; clear hb
  have hT := Lib.hid (show orLim A n c b = bif b then .tuple #[.agg #[.slice A n c], .int .i64 0] else .tuple #[.agg #[.slice none 0 0], .int .i64 3] from rfl)
  generalize orLim A n c b = T at *
  go_enter Tryz.func99, Tryz.ntmps99
  go_wp2_with fail
  refine namedC fun w3 H3 => ?_
  have hb3 : Below w.heap.size w w3 := by rw [H3.out]; (repeat first | exact Below.refl _ _ | assumption | refine Below.drew ?_ | refine Below.alloc ?_ (by first | exact Nat.le_refl _ | (simp; done) | omega | (simp; omega)) _ | refine Below.setCell ?_ (by first | exact Nat.le_refl _ | (simp; done) | omega | (simp; omega)) _)
  have BG := Lib.hid (show Blk w3 w.heap.size 31 #[.slice A n c] by rw [H3.out]; exact (Blk.new _ _ _).alloc _)
  have BC := Lib.hid (show Blk w3 (w.heap.size + 1) 31 #[.slice none 0 0] by rw [H3.out]; simpa using Blk.new (w.alloc (.cells #[.slice A n c] 31)) 31 #[.slice none 0 0])
  clear H3
  refine (l02Ok_any w.heap.size A n c rs w3 BG.out.lt (BG.out.cell 0) hn (HR.out.next hb3) HO.out b Hb.out).mono ?_
  rintro e1 w4 ⟨rfl, hb4⟩
  have b4 := hb3.trans (hb4.mono hb3.size)
  have BC4 := BC.out.next hb4
  have BG4 := BG.out.next hb4
  have d4 := BC4.cell 0
  have f4 := BC4.frozen
  have l4 := BC4.lt
  have g4 := BG4.cell 0
  cases b
  · have B5 := BC4.set_ 0 (.slice none 0 0)
    have x5 : (w4.setCell ⟨w.heap.size + 1, 0, none⟩ (.slice none 0 0)).cell? ⟨w.heap.size + 1, 0, none⟩ = some (.slice none 0 0) := by rw [B5.cell 0]; rfl
    have b5 := b4.setCell (p := ⟨w.heap.size + 1, 0, none⟩) (by simp) (.slice none 0 0)
    clear B5 BC4 BG4
    go_wp2_with fail
    exact bodyPost_ret (v := .tuple #[.agg #[.slice none 0 0], .int .i64 3]) (by simp [results, Tryz.results99, go_sem, x5]) rfl ⟨by rw [hT.out]; rfl, b5⟩
  · have B5 := BC4.set_ 0 (.slice A n c)
    have x5 : (w4.setCell ⟨w.heap.size + 1, 0, none⟩ (.slice A n c)).cell? ⟨w.heap.size + 1, 0, none⟩ = some (.slice A n c) := by rw [B5.cell 0]; rfl
    have b5 := b4.setCell (p := ⟨w.heap.size + 1, 0, none⟩) (by simp) (.slice A n c)
    clear B5 BC4 BG4
    go_wp2_with fail
    exact bodyPost_ret (v := .tuple #[.agg #[.slice A n c], .int .i64 0]) (by simp [results, Tryz.results99, go_sem, x5]) rfl ⟨by rw [hT.out]; rfl, b5⟩
theorem l02Told_yes (A : Option Addr) (n c : Nat) (rs : List Fac) (w : World) (hn : n ≤ 100000000) (hr : Rd w w.heap.size A n 3 Fac.cells rs) (hok : ∀ f ∈ rs, f.l.size ≤ maxLen) (h : (gOk rs).isSome = true) :
    Calls Tryz.prog 99 #[.agg #[.slice A n c]] w (Ret (.tuple #[.agg #[.slice A n c], .int .i64 0]) w) := by
  have := l02Told_any A n c rs w hn hr hok
  rw [h] at this; exact this
theorem l02Told_no (A : Option Addr) (n c : Nat) (rs : List Fac) (w : World) (hn : n ≤ 100000000) (hr : Rd w w.heap.size A n 3 Fac.cells rs) (hok : ∀ f ∈ rs, f.l.size ≤ maxLen) (h : (gOk rs).isSome = false) :
    Calls Tryz.prog 99 #[.agg #[.slice A n c]] w (Ret (.tuple #[.agg #[.slice none 0 0], .int .i64 3]) w) := by
  have := l02Told_any A n c rs w hn hr hok
  rw [h] at this; exact this
end Go.Proofs.YtmdmgndhapdmgaaGreat


/-
  The letters of a grammar replaced: what is made, and the code.
-/
namespace Go.Proofs.YtmdmgndhapdmgaaGreat

end Go.Proofs.YtmdmgndhapdmgaaGreat


/-
  The letters of a grammar replaced, in the program.
-/
namespace Go.Proofs.YtmdmgndhapdmgaaGreat
open Go.RowKit

theorem trK_len' : ∀ (rs kept : List Fac) (same : List Int), (trK rs kept same).1.length = kept.length + rs.length
  | [], kept, same => by simp [trK]
  | r :: rs, kept, same => by
    rw [trK, trK_len' rs]; simp; omega
theorem trimL_le (rs : List Fac) : (trimL rs).length ≤ rs.length := by
  unfold trimL
  split
  · simp
  · have h1 := outT_len (useT (trK rs [] []).1 rs.length (use0 rs.length (trK rs [] []).2)) (trK rs [] []).1 0 [] (List.replicate rs.length 0)
    have h2 := trK_len' rs [] []
    simp only [List.length_nil, Nat.zero_add] at h1 h2
    omega
section
variable {w W W' : World} {G S : Nat} {ga gv : Value} {A : Option Addr} {n c : Nat} {out : List Fac} {st : List Int}
end
end Go.Proofs.YtmdmgndhapdmgaaGreat


/-
  The grammar of a code: the made grammar under way, in the program.
-/
namespace Go.Proofs.YtmdmgndhapdmgaaGreat
open Go.RowKit

section
variable {α : Type} {P : Program} {w : World} {ops : Array Oper} {o : Oper} {a : Act}
/-- all elements of a list behind those of a row, as a step of a region that draws its order; where the row lies then -/
theorem step_appG {K : Act → World → Prop} {Q : Exit → Act → World → Prop} {E : Prop} (hgd : o.guard = none) (s x : Operand) (t : TypeId) (ho : o.op = .call { callee := .builtin .append, args := #[s, x], argTypes := #[t, t] })
    (base : Nat) (e : TypeId) (sz bytes : Nat) (EI : Elem P t e sz bytes) (enc : α → List Value) (A : Option Addr) (n c : Nat) (xs : List α) (hs : a.eval s = .slice A n c)
    (hown : w.ownsRow base e sz (.slice A n c) n (xs.flatMap enc)) (ad : Addr) (m cc : Nat) (ys : List α) (hx : a.eval x = .slice (some ad) m cc) (hym : ys.length = m) (hm0 : 0 < m) (hnews : ∀ j u, (ys.flatMap enc)[j]? = some u → w.cell? (ad.add j) = some u)
    (hlen : ∀ y ∈ ys, (enc y).length = sz) (hone : ∀ y ∈ ys, ∀ u ∈ enc y, u.oneCell' = true) (hsz : 0 < sz) (hbytes : (n + m) * bytes ≤ 140737488355328) (hm : n + m ≤ maxLen) (hsize : base ≤ w.heap.size)
    (h : ∀ A' c' w', w'.ownsRow base e sz (.slice A' (n + m) c') (n + m) ((xs ++ ys).flatMap enc) → w.grownBy w' (Value.slice A n c).ownBlock →
      ((Value.slice A' (n + m) c').ownBlock = (Value.slice A n c).ownBlock ∨ (Value.slice A' (n + m) c').ownBlock = some w.heap.size) → K (a.put o.dst (.slice A' (n + m) c')) w') :
    if Region.wanted o (yielded ops a.tmps) = true then Oper.wp P o a w K Q else E := by
  obtain ⟨ht, i, z, hi, hz, h1, h2, hzs⟩ := EI
  obtain ⟨v', w', hr, r2, r3, _, r5⟩ := run_append_own_at (P := P) w base t o.type e i z sz bytes ht hi hz h1 h2 hzs hsz _ n _ hown ad m cc (ys.flatMap enc) (by rw [flat_len ys hlen, hym]) hnews
    (fun u hu => by obtain ⟨y, hy, hu⟩ := List.mem_flatMap.1 hu; exact hone y hy u hu) hm hbytes hsize
  obtain ⟨g', cap, rfl, _, _⟩ := r2.form (by omega)
  have hw : Region.wanted o (yielded ops a.tmps) = true := by simp [Region.wanted, hgd]
  rw [if_pos hw]
  unfold Oper.wp execOp
  simp only [ho, resolve, invoke, builtin, Sem.run_bind, Sem.run_pure, Result.andThen_ok, List.map_toArray, List.map_cons, List.map_nil, hs, hx, hr]
  exact h _ _ w' (by rw [List.flatMap_append]; exact r2) r3 r5
end
section
variable {α : Type} {P : Program} {w : World} {ops : Array Oper} {o : Oper} {a : Act}
theorem step_pushG {K : Act → World → Prop} {Q : Exit → Act → World → Prop} {E : Prop} (hgd : o.guard = none) (s x : Operand) (t : TypeId) (ho : o.op = .call { callee := .builtin .append, args := #[s, x], argTypes := #[t, t] })
    (base : Nat) (e : TypeId) (sz bytes : Nat) (EI : Elem P t e sz bytes) (enc : α → List Value) (A : Option Addr) (n c : Nat) (xs : List α) (hs : a.eval s = .slice A n c)
    (hown : w.ownsRow base e sz (.slice A n c) n (xs.flatMap enc)) (g : Nat) (y : α) (cs : Array Value) (t' : TypeId) (fr : Nat × Nat) (hx : a.eval x = .slice (some ⟨g, 0, none⟩) 1 1) (hg : w.heap[g]? = some (.cells cs t' fr)) (hcs : cs.toList = enc y)
    (hlen : (enc y).length = sz) (hone : ∀ u ∈ enc y, u.oneCell' = true) (hsz : 0 < sz) (hbytes : (n + 1) * bytes ≤ 140737488355328) (hm : n + 1 ≤ maxLen) (hsize : base ≤ w.heap.size)
    (h : ∀ A' c' w', w'.ownsRow base e sz (.slice A' (n + 1) c') (n + 1) ((xs ++ [y]).flatMap enc) → w.grownBy w' (Value.slice A n c).ownBlock →
      ((Value.slice A' (n + 1) c').ownBlock = (Value.slice A n c).ownBlock ∨ (Value.slice A' (n + 1) c').ownBlock = some w.heap.size) → K (a.put o.dst (.slice A' (n + 1) c')) w') :
    if Region.wanted o (yielded ops a.tmps) = true then Oper.wp P o a w K Q else E :=
  step_appG hgd s x t ho base e sz bytes EI enc A n c xs hs hown ⟨g, 0, none⟩ 1 1 [y] hx rfl Nat.one_pos (by
    intro j u hj
    have hj' : (enc y)[j]? = some u := by simpa using hj
    rw [← hcs] at hj'
    exact World.news_of_block hg j u hj') (by intro z hz; rw [List.mem_singleton.1 hz]; exact hlen) (by intro z hz; rw [List.mem_singleton.1 hz]; exact hone) hsz hbytes hm hsize h
end
theorem row_set {acc : List Int} {m s : Nat} (ha : acc.length = s) (hs : s < m) (z : Int) : (acc ++ List.replicate (m - s) (-1)).set s z = (acc ++ [z]) ++ List.replicate (m - (s + 1)) (-1) := by
  subst ha
  rw [show m - acc.length = (m - (acc.length + 1)) + 1 by omega, List.replicate_succ, List.set_append_right _ _ (by omega), Nat.sub_self, List.set_cons_zero, List.append_assoc]; rfl
theorem row_keep {acc : List Int} {m s : Nat} (hs : s < m) : (acc ++ List.replicate (m - s) (-1)) = (acc ++ [-1]) ++ List.replicate (m - (s + 1)) (-1) := by
  rw [show m - s = (m - (s + 1)) + 1 by omega, List.replicate_succ, List.append_assoc]; rfl
section
variable {α : Type} {st R : List α} {i : Nat} {r r' : α}
theorem tab_set (h : st.length = i) (r' : α) : (st ++ r :: R).set i r' = st ++ r' :: R := by
  subst h
  rw [List.set_append_right _ _ (Nat.le_refl _), Nat.sub_self, List.set_cons_zero]
theorem tab_at (h : st.length = i) : (st ++ r :: R)[i]? = some r := by
  subst h
  rw [List.getElem?_append_right (Nat.le_refl _), Nat.sub_self]; rfl
theorem tab_lt {j : Nat} (hj : st[j]? = some r) : (st ++ R)[j]? = some r := by
  rw [List.getElem?_append_left (List.getElem?_eq_some_iff.1 hj).1]; exact hj
theorem rep_put (k n : Nat) (hk : k < n) (x : α) : (List.replicate k x ++ List.replicate (n - k) r).set k x = List.replicate (k + 1) x ++ List.replicate (n - (k + 1)) r := by
  rw [show n - k = (n - (k + 1)) + 1 by omega, List.replicate_succ, tab_set (by simp), List.replicate_succ', List.append_assoc]; rfl
theorem tab_nil (n : Nat) (hi : i < n) (x : List α) : List.replicate (n - i) x = x :: List.replicate (n - (i + 1)) x := by
  rw [show n - i = (n - (i + 1)) + 1 by omega, List.replicate_succ]
end
/-- the truths under way, beside the maps -/
structure MiX (w W : World) (p n c : Nat) (hs : List RowH) (T : List (List Bool)) (M : Option Addr) (nm cm : Nat) (mh : List RowH) (MP : List (List Int)) : Prop where
  t : TabR 70 4 boolE W w.heap.size (some ⟨p, 0, none⟩) n c hs T
  m : TabR 61 2 intE W w.heap.size M nm cm mh MP
  e : Below w.heap.size w W
section
variable {w W W' : World} {p n c : Nat} {hs : List RowH} {T : List (List Bool)} {M : Option Addr} {nm cm : Nat} {mh : List RowH} {MP : List (List Int)}
theorem MiX.next (h : MiX w W p n c hs T M nm cm mh MP) (hb : Below W.heap.size W W') : MiX w W' p n c hs T M nm cm mh MP := ⟨h.t.next hb, h.m.next hb, h.e.trans (hb.mono h.e.size)⟩
theorem MiX.alloc (h : MiX w W p n c hs T M nm cm mh MP) (o : Obj) : MiX w (W.alloc o) p n c hs T M nm cm mh MP := h.next ((Below.refl _ _).alloc (Nat.le_refl _) o)
theorem mix_a {w6 : World} (h : TabR 61 2 intE w6 w.drew.heap.size M nm cm mh MP) (hb : Below w.drew.heap.size w.drew w6) (hn : n ≤ 1048576) :
    MiX w (w6.alloc (.cells (nilA n) 70)) w6.heap.size n n (nilH n) (List.replicate n []) M nm cm mh MP := by
  have hb' : Below w.heap.size w w6 := (Below.refl _ _).drew.trans hb
  have h' : TabR 61 2 intE w6 w.heap.size M nm cm mh MP := h
  exact ⟨TabR.made (Blk.new w6 _ _) hb'.size hn, h'.alloc _, hb'.alloc hb'.size _⟩
theorem mix_b {w6 : World} (h : TabR 61 2 intE w6 (w.alloc (.cells (nilA n) 70)).drew.heap.size M nm cm mh MP) (hb : Below (w.alloc (.cells (nilA n) 70)).drew.heap.size (w.alloc (.cells (nilA n) 70)).drew w6) (hn : n ≤ 1048576) :
    MiX w w6 w.heap.size n n (nilH n) (List.replicate n []) M nm cm mh MP := by
  have hb1 : Below (w.alloc (.cells (nilA n) 70)).heap.size (w.alloc (.cells (nilA n) 70)) w6 := (Below.refl _ _).drew.trans hb
  have hle : w.heap.size ≤ (w.alloc (.cells (nilA n) 70)).heap.size := by simp
  have h' : TabR 61 2 intE w6 (w.alloc (.cells (nilA n) 70)).heap.size M nm cm mh MP := h
  exact ⟨TabR.made ((Blk.new w _ _).next hb1) (Nat.le_refl _) hn, h'.mono hle, ((Below.refl _ _).alloc (Nat.le_refl _) _).trans (hb1.mono hle)⟩
theorem MiX.set (h : MiX w W p n c hs T M nm cm mh MP) {i g ln cq : Nat} {v : List Bool} (hi : hs[i]? = some ⟨some ⟨g, 0, none⟩, ln, cq⟩) (hv : T[i]? = some v) (j : Nat) :
    MiX w (W.setCell ⟨g, j, none⟩ (.bool true)) p n c hs (T.set i (v.set j true)) M nm cm mh MP := by
  have hg := h.t.geC hi
  have ho := (h.t.r i _ v hi hv).2
  exact ⟨h.t.setC .bool (fun _ => rfl) (by decide) hi hv true, h.m.keptN ho (gb_set W g j _) (by decide) (by decide), h.e.setCell (by show w.heap.size ≤ g; exact hg.1) _⟩
theorem MiX.putH (h : MiX w W p n c hs T M nm cm mh MP) {i : Nat} (hi : i < n) {q : RowH} {x : List Bool} (hq : W.ownsRow w.heap.size 4 1 (.slice q.A q.n q.c) q.n (x.flatMap boolE)) (hxl : x.length = q.n)
    (hfar : ∀ (j : Nat) (r : RowH) (g : Nat), hs[j]? = some r → (Value.slice r.A r.n r.c).ownBlock = some g → (Value.slice q.A q.n q.c).ownBlock ≠ some g) :
    MiX w (W.setCell ⟨p, i, none⟩ (.slice q.A q.n q.c)) p n c (hs.set i q) (T.set i x) M nm cm mh MP :=
  ⟨h.t.putH (by decide) hi hq hxl hfar, h.m.keptN h.t.o (gb_set W p i _) (by decide) (by decide), h.e.setCell (by show w.heap.size ≤ p; exact own_ge h.t.o p rfl) _⟩
end
/-- with a rule's box -/
structure MiY (w W : World) (p n c : Nat) (hs : List RowH) (T : List (List Bool)) (M : Option Addr) (nm cm : Nat) (mh : List RowH) (MP : List (List Int)) (X : Nat) (x : Fac) : Prop where
  o : MiX w W p n c hs T M nm cm mh MP
  x : Blk W X 72 #[.string x.l, .int .i64 x.a, .int .i64 x.b]
section
variable {w W W' : World} {p n c : Nat} {hs : List RowH} {T : List (List Bool)} {M : Option Addr} {nm cm : Nat} {mh : List RowH} {MP : List (List Int)} {X : Nat} {x : Fac}
theorem MiY.next (h : MiY w W p n c hs T M nm cm mh MP X x) (hb : Below W.heap.size W W') : MiY w W' p n c hs T M nm cm mh MP X x := ⟨h.o.next hb, h.x.next hb⟩
theorem MiY.set (h : MiY w W p n c hs T M nm cm mh MP X x) {i g ln cq : Nat} {v : List Bool} (hi : hs[i]? = some ⟨some ⟨g, 0, none⟩, ln, cq⟩) (hv : T[i]? = some v) (j : Nat) :
    MiY w (W.setCell ⟨g, j, none⟩ (.bool true)) p n c hs (T.set i (v.set j true)) M nm cm mh MP X x :=
  ⟨h.o.set hi hv j, h.x.grown (gb_set W g j _) (own_blk_ne (h.o.t.r i _ v hi hv).2 h.x (by decide))⟩
end
/-- the made grammar under way -/
structure CiO (w0 W : World) (MB p : Nat) (gv : Value) (A : Option Addr) (n c : Nat) (out : List Fac) (k d : Nat) (hs : List RowH) (st : List (List Int)) : Prop where
  q : W.ownsRow w0.heap.size 72 3 (.slice A n c) n (out.flatMap Fac.cells)
  m : Blk W MB 31 #[gv]
  t : TabR 61 2 intE W w0.heap.size (some ⟨p, 0, none⟩) k d hs st
  e : Below w0.heap.size w0 W
  hm : w0.heap.size ≤ MB
  ln : out.length = n
section
variable {w0 W W' : World} {MB p : Nat} {gv : Value} {A : Option Addr} {n c : Nat} {out : List Fac} {k d : Nat} {hs : List RowH} {st : List (List Int)}
theorem cio_new {W : World} {MB p k : Nat} (hq : Below w0.heap.size w0 W) (hm : Blk W MB 31 #[.slice none 0 0]) (hp : Blk W p 61 (nilA k)) (h1 : w0.heap.size ≤ MB) (h2 : w0.heap.size ≤ p) (hk : k ≤ 1048576) :
    CiO w0 W MB p (.slice none 0 0) none 0 0 [] k k (nilH k) (List.replicate k []) := ⟨World.ownsRow_nil _ _ _ _, hm, TabR.made hp h2 hk, hq, h1, rfl⟩
theorem cio_a {k : Nat} (hk : k ≤ 1048576) : CiO w0 ((w0.alloc (.cells (nilA k) 61)).alloc (.cells #[.slice none 0 0] 31)).drew (w0.heap.size + 1) w0.heap.size (.slice none 0 0) none 0 0 [] k k (nilH k) (List.replicate k []) := by
  refine cio_new ?_ ?_ ?_ (by omega) (Nat.le_refl _) hk
  · exact (((Below.refl _ _).alloc (Nat.le_refl _) _).alloc (by simp) _).drew
  · have h := Blk.new (w0.alloc (.cells (nilA k) 61)) 31 #[.slice none 0 0]
    rw [show (w0.alloc _).heap.size = w0.heap.size + 1 by simp] at h
    exact h.next (Below.refl _ _).drew
  · exact ((Blk.new w0 61 (nilA k)).alloc _).next (Below.refl _ _).drew
theorem cio_b {k : Nat} (hk : k ≤ 1048576) : CiO w0 ((w0.alloc (.cells #[.slice none 0 0] 31)).alloc (.cells (nilA k) 61)).drew w0.heap.size (w0.heap.size + 1) (.slice none 0 0) none 0 0 [] k k (nilH k) (List.replicate k []) := by
  refine cio_new ?_ ?_ ?_ (Nat.le_refl _) (by omega) hk
  · exact (((Below.refl _ _).alloc (Nat.le_refl _) _).alloc (by simp) _).drew
  · exact ((Blk.new w0 31 #[.slice none 0 0]).alloc _).next (Below.refl _ _).drew
  · have h := Blk.new (w0.alloc (.cells #[.slice none 0 0] 31)) 61 (nilA k)
    rw [show (w0.alloc _).heap.size = w0.heap.size + 1 by simp] at h
    exact h.next (Below.refl _ _).drew
theorem CiO.next (h : CiO w0 W MB p gv A n c out k d hs st) (hb : Below W.heap.size W W') : CiO w0 W' MB p gv A n c out k d hs st :=
  ⟨own_next h.q hb, h.m.next hb, h.t.next hb, h.e.trans (hb.mono h.e.size), h.hm, h.ln⟩
theorem CiO.alloc (h : CiO w0 W MB p gv A n c out k d hs st) (o : Obj) : CiO w0 (W.alloc o) MB p gv A n c out k d hs st := h.next ((Below.refl _ _).alloc (Nat.le_refl _) o)
/-- behind an append -/
theorem CiO.app {A' : Option Addr} {n' c' : Nat} {out' : List Fac} (h : CiO w0 W MB p gv A n c out k d hs st) (hq : W'.ownsRow w0.heap.size 72 3 (.slice A' n' c') n' (out'.flatMap Fac.cells)) (hg : W.grownBy W' (Value.slice A n c).ownBlock) (hl : out'.length = n') :
    CiO w0 W' MB p gv A' n' c' out' k d hs st :=
  ⟨hq, h.m.grown hg (own_blk_ne h.q h.m (by decide)), h.t.keptN h.q hg (by decide) (by decide), h.e.grown hg h.e.size (own_ge h.q), h.hm, hl⟩
/-- the new slice told -/
theorem CiO.put (h : CiO w0 W MB p gv A n c out k d hs st) (u : Value) : CiO w0 (W.setCell ⟨MB, 0, none⟩ u) MB p u A n c out k d hs st :=
  ⟨own_keptR h.q h.m (by decide) _, h.m.set_ 0 _, h.t.keptB h.m (gb_set W MB 0 u) (by decide) (by decide), h.e.setCell (by show w0.heap.size ≤ MB; exact h.hm) _, h.hm, h.ln⟩
theorem CiO.row (h : CiO w0 W MB p gv A n c out k d hs st) {i : Nat} (hi : i < k) {q : RowH} {x : List Int} (hq : W.ownsRow w0.heap.size 2 1 (.slice q.A q.n q.c) q.n (x.flatMap intE)) (hxl : x.length = q.n)
    (hfar : ∀ (j : Nat) (r : RowH) (g : Nat), hs[j]? = some r → (Value.slice r.A r.n r.c).ownBlock = some g → (Value.slice q.A q.n q.c).ownBlock ≠ some g) :
    CiO w0 (W.setCell ⟨p, i, none⟩ (.slice q.A q.n q.c)) MB p gv A n c out k d (hs.set i q) (st.set i x) :=
  ⟨h.q.kept (gb_set W p i _) (own_ne h.q h.t.o (by decide)), h.m.grown (gb_set W p i _) (own_blk_ne h.t.o h.m (by decide)), h.t.putH (by decide) hi hq hxl hfar, h.e.setCell (by show w0.heap.size ≤ p; exact own_ge h.t.o p rfl) _, h.hm, h.ln⟩
theorem CiO.set (h : CiO w0 W MB p gv A n c out k d hs st) {i g ln cq : Nat} {v : List Int} (hi : hs[i]? = some ⟨some ⟨g, 0, none⟩, ln, cq⟩) (hv : st[i]? = some v) (j : Nat) (z : Int) :
    CiO w0 (W.setCell ⟨g, j, none⟩ (.int .i64 z)) MB p gv A n c out k d hs (st.set i (v.set j z)) := by
  have ho := (h.t.r i _ v hi hv).2
  exact ⟨h.q.kept (gb_set W g j _) (own_ne h.q ho (by decide)), h.m.grown (gb_set W g j _) (own_blk_ne ho h.m (by decide)), h.t.setC (.int .i64) (fun _ => rfl) (by decide) hi hv z, h.e.setCell (by show w0.heap.size ≤ g; exact (h.t.geC hi).1) _, h.hm, h.ln⟩
end
/-- with a rule's box -/
structure CiW (w0 W : World) (MB p : Nat) (gv : Value) (A : Option Addr) (n c : Nat) (out : List Fac) (k d : Nat) (hs : List RowH) (st : List (List Int)) (X : Nat) (x : Fac) : Prop where
  o : CiO w0 W MB p gv A n c out k d hs st
  x : Blk W X 72 #[.string x.l, .int .i64 x.a, .int .i64 x.b]
  v : ∀ g, (Value.slice A n c).ownBlock = some g → g ≠ X
section
variable {w0 W W' : World} {MB p : Nat} {gv : Value} {A : Option Addr} {n c : Nat} {out : List Fac} {k d : Nat} {hs : List RowH} {st : List (List Int)} {X : Nat} {x : Fac}
theorem CiW.next (h : CiW w0 W MB p gv A n c out k d hs st X x) (hb : Below W.heap.size W W') : CiW w0 W' MB p gv A n c out k d hs st X x := ⟨h.o.next hb, h.x.next hb, h.v⟩
theorem CiW.alloc (h : CiW w0 W MB p gv A n c out k d hs st X x) (o : Obj) : CiW w0 (W.alloc o) MB p gv A n c out k d hs st X x := h.next ((Below.refl _ _).alloc (Nat.le_refl _) o)
theorem CiW.app {A' : Option Addr} {n' c' : Nat} {out' : List Fac} (h : CiW w0 W MB p gv A n c out k d hs st X x) (hq : W'.ownsRow w0.heap.size 72 3 (.slice A' n' c') n' (out'.flatMap Fac.cells)) (hg : W.grownBy W' (Value.slice A n c).ownBlock) (hl : out'.length = n')
    (hat : (Value.slice A' n' c').ownBlock = (Value.slice A n c).ownBlock ∨ (Value.slice A' n' c').ownBlock = some W.heap.size) : CiW w0 W' MB p gv A' n' c' out' k d hs st X x := by
  refine ⟨h.o.app hq hg hl, h.x.grown hg (fun e => h.v X e.symm rfl), fun g hg' e => ?_⟩
  rcases hat with h1 | h1
  · rw [h1] at hg'; exact h.v g hg' e
  · rw [h1] at hg'; injection hg' with hg'; have := h.x.lt; omega
theorem CiW.put (h : CiW w0 W MB p gv A n c out k d hs st X x) (u : Value) : CiW w0 (W.setCell ⟨MB, 0, none⟩ u) MB p u A n c out k d hs st X x := by
  refine ⟨h.o.put u, h.x.grown (gb_set W MB 0 u) (fun e => ?_), h.v⟩
  injection e with e
  have h1 := h.x
  have h2 := h.o.m
  rw [e] at h1
  unfold Blk at h1 h2
  rw [h1] at h2
  injection h2 with h2; injection h2 with _ h2; exact absurd h2 (by decide)
theorem CiW.set (h : CiW w0 W MB p gv A n c out k d hs st X x) {i g ln cq : Nat} {v : List Int} (hi : hs[i]? = some ⟨some ⟨g, 0, none⟩, ln, cq⟩) (hv : st[i]? = some v) (j : Nat) (z : Int) :
    CiW w0 (W.setCell ⟨g, j, none⟩ (.int .i64 z)) MB p gv A n c out k d hs (st.set i (v.set j z)) X x :=
  ⟨h.o.set hi hv j z, h.x.grown (gb_set W g j _) (own_blk_ne (h.o.t.r i _ v hi hv).2 h.x (by decide)), h.v⟩
theorem CiW.row (h : CiW w0 W MB p gv A n c out k d hs st X x) {i : Nat} (hi : i < k) {q : RowH} {y : List Int} (hq : W.ownsRow w0.heap.size 2 1 (.slice q.A q.n q.c) q.n (y.flatMap intE)) (hxl : y.length = q.n)
    (hfar : ∀ (j : Nat) (r : RowH) (g : Nat), hs[j]? = some r → (Value.slice r.A r.n r.c).ownBlock = some g → (Value.slice q.A q.n q.c).ownBlock ≠ some g) :
    CiW w0 (W.setCell ⟨p, i, none⟩ (.slice q.A q.n q.c)) MB p gv A n c out k d (hs.set i q) (st.set i y) X x :=
  ⟨h.o.row hi hq hxl hfar, h.x.grown (gb_set W p i _) (own_blk_ne h.o.t.o h.x (by decide)), h.v⟩
end
end Go.Proofs.YtmdmgndhapdmgaaGreat


/-
  slices.Repeat of one number.
-/
namespace Go.Proofs.YtmdmgndhapdmgaaGreat
open Go.RowKit

theorem splice_map {α β : Type} (f : α → β) (L : List α) (o : Nat) (cs : List α) : splice (L.map f) o (cs.map f) = (splice L o cs).map f := by
  unfold splice
  rw [List.map_append, List.map_append, List.map_take, List.map_drop, List.length_map]
def repU (z : Int) (S k : Nat) : List Int := List.replicate k z ++ List.replicate (S - k) 0
theorem repU_splice (z : Int) (S k j : Nat) (h : k + j ≤ S) : splice (repU z S k) k (List.replicate j z) = repU z S (k + j) := by
  unfold splice repU
  rw [List.take_left' (by simp), List.length_replicate, List.drop_append, List.length_replicate]
  have e1 : (List.replicate k z).drop (k + j) = [] := List.drop_of_length_le (by simp)
  rw [e1, List.nil_append, List.drop_replicate, ← List.append_assoc, List.replicate_append_replicate]
  congr 2; omega
theorem repU_all (z : Int) (S : Nat) : repU z S S = List.replicate S z := by unfold repU; rw [Nat.sub_self]; simp
theorem repU_none (z : Int) (S : Nat) : repU z S 0 = List.replicate S 0 := by unfold repU; simp
theorem repU_len {z : Int} {S k : Nat} (h : k ≤ S) : (repU z S k).length = S := by unfold repU; simp; omega
theorem repU_at {z : Int} {S k j : Nat} (h : j < k) : (repU z S k)[j]? = some z := by
  unfold repU
  rw [List.getElem?_append_left (by simpa using h), List.getElem?_replicate, if_pos h]
set_option maxHeartbeats 1000000 in
set_option maxRecDepth 100000 in
theorem repeatI_any (b0 : Nat) (z : Int) (S : Nat) (w : World) (hS1 : 1 ≤ S) (hS2 : S ≤ 24) (hz : w.cell? ⟨b0, 0, none⟩ = some (.int .i64 z)) :
    Calls Tryz.prog 34 #[.slice (some ⟨b0, 0, none⟩) 1 1, .int .i64 (S : Int)] w (RetNew w 2 1 intE (List.replicate S z)) := by
  have hbl := cell_lt hz
  have mkN := fun W => makeN S W (by omega)
  have hM := Lib.hid (fun W => Tryz.bits_Mul 1 S (by omega) (by omega) W)
  have e1 : 1 * S / 18446744073709551616 = 0 := by omega
  have e2 : 1 * S % 18446744073709551616 = S := by omega
  rw [e1, e2] at hM
  clear e1 e2
  have u1 : IntKind.u64.wrap (S : Int) = (S : Int) := by rw [IntKind.wrap_u64]; omega
  have u2 : IntKind.i64.wrap (S : Int) = (S : Int) := IntWalk.i64_in _ (by omega)
  have s0 : ¬ (S : Int) < 0 := by omega
  have s1 : ¬ (9223372036854775807 : Int) < (S : Int) := by omega
  have sb : decide ((9223372036854775807 : Int) < (S : Int)) = false := by simp; omega
  have hcz : (w.alloc (.cells (intA (List.replicate S 0)) 2)).cell? ⟨b0, 0, none⟩ = some (.int .i64 z) := (((Below.refl w.heap.size w).alloc (Nat.le_refl _) _).cell (p := ⟨b0, 0, none⟩) hbl).trans hz
  go_enter Tryz.func34, Tryz.ntmps34
  go_upto_region 7 with (go_at_call 66; refine (hM.out _).mono ?_; rintro e w1 ⟨rfl, hw1⟩; rw [hw1]; clear hw1)
  refine named fun w2 H2 => ?_
  have B2 := Lib.hid (show Blk w2 w.heap.size 2 (intA (repU z S 0)) by rw [H2.out, repU_none]; exact Blk.new _ _ _)
  have b2 := Lib.hid (show Below w.heap.size w w2 by rw [H2.out]; exact (Below.refl _ _).alloc (Nat.le_refl _) _)
  have c2 : w2.cell? ⟨b0, 0, none⟩ = some (.int .i64 z) := by rw [H2.out]; exact hcz
  obtain ⟨g, hg⟩ : ∃ g, w.heap.size = g := ⟨_, rfl⟩
  rw [hg] at B2 ⊢
  have HG := Lib.hid hg
  clear H2 hcz mkN hM hg
  have hs2 : ∀ j v, ((List.replicate 1 z).map (Value.int .i64))[j]? = some v → w2.cell? ((⟨b0, 0, none⟩ : Addr).add j) = some v := fun j v hj => by
    have h1 := (List.getElem?_eq_some_iff.1 hj).1
    obtain rfl : j = 0 := by simpa using h1
    obtain rfl : v = .int .i64 z := by simpa using hj.symm
    simpa [Addr.add] using c2
  have hrun := run_copy_row (P := Tryz.prog) w2 61 61 3 2 g 0 S S ⟨b0, 0, none⟩ 1 1 (intA (repU z S 0)) 2 ((List.replicate 1 z).map (Value.int .i64)) Tryz.underlying61 (by kernel_rfl) B2.out (by show _ = min 1 S; rw [Nat.min_eq_left hS1]; simp) hs2 (by simp [intA, repU_len (Nat.zero_le S)]; omega) (by simp [Value.oneCell'])
  obtain ⟨w3, hw3⟩ : ∃ w3, w2.setRow g ((intA (repU z S 0)).toList.take 0 ++ (List.replicate 1 z).map (Value.int .i64) ++ (intA (repU z S 0)).toList.drop (0 + ((List.replicate 1 z).map (Value.int .i64)).length)).toArray = w3 := ⟨_, rfl⟩
  rw [hw3] at hrun
  have hrun : (Builtin.copy_ #[61, 61] 3 #[.slice (some ⟨g, 0, none⟩) S S, .slice (some ⟨b0, 0, none⟩) 1 1]).run Tryz.prog w2 = .ok (.int .i64 1) w3 := hrun
  have B3 := Lib.hid (show Blk w3 g 2 (intA (repU z S (0 + 1))) by
    have h := setRow_heap w2 g _ ((intA (repU z S 0)).toList.take 0 ++ (List.replicate 1 z).map (Value.int .i64) ++ (intA (repU z S 0)).toList.drop (0 + ((List.replicate 1 z).map (Value.int .i64)).length)).toArray _ _ B2.out
    rw [hw3] at h
    have e := splice_map (Value.int .i64) (repU z S 0) 0 (List.replicate 1 z)
    rw [repU_splice _ _ _ _ (by omega)] at e
    unfold splice at e
    unfold Blk
    rw [h]
    congr 2
    unfold intA
    rw [← e]
    simp)
  have b3' := Lib.hid (show Below w.heap.size w w3 by rw [← hw3]; exact below_setRow b2.out (by rw [HG.out]; exact Nat.le_refl _) _)
  have sb : decide ((9223372036854775807 : Int) < (S : Int)) = false := by simp; omega
  clear hw3
  go_wp2_with fail
  go_loopw [8] (fun n_ w' => ∃ k : Nat, n_ = .int .i64 k ∧ 1 ≤ k ∧ k ≤ S ∧ Hid (Blk w' g 2 (intA (repU z S k))) ∧ Hid (Below w.heap.size w w')) (fun n_ _ => S - (intOf n_).toNat)
  case atStart => exact ⟨1, rfl, by omega, by omega, B3, b3'⟩
  case round =>
    obtain ⟨k, rfl, hk1, hk, HB, hb⟩ := hrel
    clear B3 b3' B2 b2 hs2 c2
    by_cases hlt : k < S
    · obtain ⟨j, hj⟩ : ∃ j, Nat.min k (S - k) = j := ⟨_, rfl⟩
      have hjl : k + j ≤ S ∧ 1 ≤ j ∧ j ≤ k := by subst hj; have h1 := Nat.min_le_left k (S - k); have h2 := Nat.min_le_right k (S - k); rcases Nat.le_total k (S - k) with h | h <;> simp [Nat.min_eq_left, Nat.min_eq_right, h] <;> omega
      have HB0 := Lib.hid HB.out.drew
      have hb0 := Lib.hid (show Below w.heap.size w wr.drew from hb.out.trans ((Below.refl _ _).drew.mono hb.out.size))
      have hs3 : ∀ i v, ((List.replicate j z).map (Value.int .i64))[i]? = some v → wr.drew.cell? ((⟨g, 0, none⟩ : Addr).add i) = some v := fun i v hi => by
        have h1 := (List.getElem?_eq_some_iff.1 hi).1
        have hij : i < j := by simpa using h1
        obtain rfl : v = .int .i64 z := by
          have h2 := hi
          rw [List.getElem?_map, List.getElem?_replicate, if_pos hij] at h2
          exact (Option.some.inj h2).symm
        have h3 := HB0.out.cell i
        rw [intA_at _ (by rw [repU_len (by omega)]; omega), List.getD_eq_getElem?_getD, repU_at (by omega)] at h3
        have e : ((⟨g, 0, none⟩ : Addr).add i) = ⟨g, i, none⟩ := by
          by_cases h0 : i = 0
          · subst h0; rfl
          · simp [Addr.add, h0]
        rw [e]; exact h3
      have hN := Lib.hid (show ((List.replicate j z).map (Value.int .i64)).length = Nat.min k (S - k) by rw [hj]; simp)
      have k0 : (0 : Int) ≤ (k : Int) := by omega
      have k1 : (k : Int) ≤ (S : Int) := by omega
      have k2 : (k : Int) < (S : Int) := by omega
      have uk : IntKind.i64.wrap ((k : Int) + (j : Int)) = ((k + j : Nat) : Int) := by rw [IntWalk.i64_in _ (by omega)]; omega
      have hgl := HB0.out.lt
      have hgw : w.heap.size ≤ g := by rw [HG.out]; exact Nat.le_refl _
      have Hj := Lib.hid hj
      clear hj
      have hfit : k + ((List.replicate j z).map (Value.int .i64)).length ≤ ((repU z S k).map (Value.int .i64)).length := by rw [List.length_map, List.length_map, repU_len (by omega), List.length_replicate]; omega
      have one : ∀ v ∈ (List.replicate j z).map (Value.int .i64), v.oneCell' = true := by simp [Value.oneCell']
      have hlen : ((List.replicate j z).map (Value.int .i64)).length = j := by simp
      go_upto_region 9 with fail
      refine wp_region_N (fun _ => True) [8, 9] (by kernel_rfl) ?_
      generalize wr.drew = wd at *
      refine wpAnyN_take (i := 0) (v := ?_) rfl (by kernel_rfl) (fun _ _ _ h => h) (by rfl) (fun W hW => ?_) trivial ?_
      rotate_left
      · go_simp
        try with_reducible rfl
      try simp only [List.getElem_toArray, List.getElem_cons_zero, List.getElem_cons_succ, Act.put, List.setIfInBounds_toArray, List.set_cons_zero, List.set_cons_succ]
      refine wpAnyN_take (i := 1) (v := ?_) rfl (by kernel_rfl) (fun _ _ _ h => h) (by rfl) (fun W hW => ?_) trivial ?_
      rotate_left
      · go_simp
        try with_reducible rfl
      try simp only [List.getElem_toArray, List.getElem_cons_zero, List.getElem_cons_succ, Act.put, List.setIfInBounds_toArray, List.set_cons_zero, List.set_cons_succ]
      refine wpAnyN_take (i := 2) (v := ?_) rfl (by kernel_rfl) (fun _ _ _ h => h) (by rfl) (fun W hW => ?_) trivial ?_
      rotate_left
      · go_simp
        try with_reducible rfl
      try simp only [List.getElem_toArray, List.getElem_cons_zero, List.getElem_cons_succ, Act.put, List.setIfInBounds_toArray, List.set_cons_zero, List.set_cons_succ]
      refine wpAnyN_take (i := 3) (v := ?_) rfl (by kernel_rfl) (fun _ _ _ h => h) (by rfl) (fun W hW => ?_) trivial ?_
      rotate_left
      · go_simp
        try with_reducible rfl
      try simp only [List.getElem_toArray, List.getElem_cons_zero, List.getElem_cons_succ, Act.put, List.setIfInBounds_toArray, List.set_cons_zero, List.set_cons_succ]
      refine wpAnyN_take (i := 4) (v := ?_) rfl (by kernel_rfl) (fun _ _ _ h => h) (by rfl) (fun W hW => ?_) trivial ?_
      rotate_left
      · go_simp
        try with_reducible rfl
      try simp only [List.getElem_toArray, List.getElem_cons_zero, List.getElem_cons_succ, Act.put, List.setIfInBounds_toArray, List.set_cons_zero, List.set_cons_succ]
      refine wpAnyN_take (i := 5) (v := ?_) rfl (by kernel_rfl) (fun _ _ _ h => h) (by rfl) (fun W hW => ?_) trivial ?_
      rotate_left
      · go_simp
        try with_reducible rfl
      try simp only [List.getElem_toArray, List.getElem_cons_zero, List.getElem_cons_succ, Act.put, List.setIfInBounds_toArray, List.set_cons_zero, List.set_cons_succ]
      refine wpAnyN_take (i := 6) (v := ?_) rfl (by kernel_rfl) (fun _ _ _ h => h) (by rfl) (fun W hW => ?_) trivial ?_
      rotate_left
      · go_simp
        try with_reducible rfl
      try simp only [List.getElem_toArray, List.getElem_cons_zero, List.getElem_cons_succ, Act.put, List.setIfInBounds_toArray, List.set_cons_zero, List.set_cons_succ]
      refine wpAnyN_next (i := 7) rfl (by kernel_rfl) (fun Kc hK => ?_)
      refine step_copy_splice (by rfl) (.tmp 41) (.tmp 44) 61 61 (by rfl) 2 Tryz.underlying61 (by kernel_rfl) (some ⟨g, k, none⟩) (some ⟨g, 0, none⟩) (S - k) (S - k) k S (by simp [Act.eval]; omega) (by first | rfl | (simp [Act.eval]; done) | (simp [Act.eval]; omega)) g k ((repU z S k).map (Value.int .i64)) 2 HB0.out ((List.replicate j z).map (Value.int .i64)) hN.out (fun _ => ⟨rfl, _, rfl, hs3⟩) hfit one w.heap.size w hb0.out hgw ?_
      intro w4 h4 b4
      rw [splice_map, repU_splice _ _ _ _ hjl.1] at h4
      have B4 := Lib.hid (show Blk w4 g 2 (intA (repU z S (k + j))) from h4.out)
      have b4' := Lib.hid b4
      rw [hlen]
      clear h4 b4
      refine hK.out _ _ (fun _ => trivial) ?_
      clear hK Kc
      try simp only [List.getElem_toArray, List.getElem_cons_zero, List.getElem_cons_succ, Act.put, List.setIfInBounds_toArray, List.set_cons_zero, List.set_cons_succ]
      refine wpAnyN_next (i := 8) rfl (by kernel_rfl) (fun Kc hK => ?_)
      go_simp
      refine hK.out _ _ (fun h => absurd h (by decide)) ?_
      clear hK Kc
      try simp only [List.getElem_toArray, List.getElem_cons_zero, List.getElem_cons_succ, Act.put, List.setIfInBounds_toArray, List.set_cons_zero, List.set_cons_succ]
      refine wpAnyN_next (i := 9) rfl (by kernel_rfl) (fun Kc hK => ?_)
      go_simp
      refine hK.out _ _ (fun h => absurd h (by decide)) ?_
      clear hK Kc
      try simp only [List.getElem_toArray, List.getElem_cons_zero, List.getElem_cons_succ, Act.put, List.setIfInBounds_toArray, List.set_cons_zero, List.set_cons_succ]
      refine wpAnyN_done (by kernel_rfl) ?_ _
      go_wp2_with fail
      go_roundw
      case rel => exact ⟨k + j, by go_num, by omega, by omega, B4, b4'⟩
      case measure => simp [intOf]; omega
    · obtain rfl : k = S := by omega
      have k2 : ¬ (k : Int) < (k : Int) := by omega
      have HO := Lib.hid (show wr.ownsRow w.heap.size 2 1 (.slice (some ⟨g, 0, none⟩) k k) k ((List.replicate k z).flatMap intE) from
        own_of_blk (α := Int) (enc := intE) (xs := List.replicate k z) (n := k) (sz := 1) HB.out (by rw [HG.out]; exact Nat.le_refl _) (by rw [repU_all]; simp [intA]) (by simp) (by unfold maxLen; omega) (fun _ _ => rfl) (fun i x hx j hj => by
          have hk' : i < k := by have := (List.getElem?_eq_some_iff.1 hx).1; simpa using this
          obtain rfl : j = 0 := by omega
          rw [Nat.mul_one, Nat.add_zero, repU_all, intA_at _ (by simpa using hk'), List.getD_eq_getElem?_getD, hx]; rfl))
      go_wp2_with fail
      go_ret
      exact ⟨some ⟨g, 0, none⟩, k, by rw [List.length_replicate]; rfl, by rw [List.length_replicate]; exact HO.out, hb.out⟩
end Go.Proofs.YtmdmgndhapdmgaaGreat
