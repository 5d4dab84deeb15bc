
/-
  Numbers behind a line's first word, the text of an automaton, whether it is valid, in the reference.
-/
import Derived.Test.YtcpofhjoblgmgaaDoorAuS
import Derived.Test.YtcpofhjoblgmgaaDoorAuR
namespace Go.Proofs.YtcpofhjoblgmgaaDoor
open Go.RowKit

set_option maxHeartbeats 2000000 in
set_option maxRecDepth 100000 in
theorem nbS_any (x : List UInt8) (w : World) (hx : x.length ≤ 4000) : Calls Tryd.prog 10 #[.string ⟨x.toArray⟩] w (RetNew w 2 1 intE (nbS x)) := by
  have hsz : (⟨x.toArray⟩ : ByteArray).size = x.length := by show x.toArray.size = _; rw [List.size_toArray]
  have hcnt := spl_count 32 x
  have hpos := List.length_pos_iff.2 (spl_ne 32 x)
  have hsm := Lib.hid (fun y hy => spl_small 32 x y hy)
  have hnb : nbS x = ((spl 32 x).drop 1).map fun y => (num18 y).getD (-1) := rfl
  have SPc := Lib.hid (show Calls Tryd.prog 9 #[.string ⟨x.toArray⟩, .int .u8 32] w (RetNew w 9 1 strE (bas (spl 32 x))) from split_any ⟨x.toArray⟩ 32 w (by omega))
  generalize nbS x = NB at *
  generalize spl 32 x = LS at *
  generalize (⟨x.toArray⟩ : ByteArray) = tx_ at *
  have hbl : (bas LS).length = LS.length := by unfold bas; simp
  obtain ⟨m, hm⟩ : ∃ m, LS.length = m := ⟨_, rfl⟩
  obtain ⟨M, hM⟩ : ∃ M, m = M + 1 := ⟨m - 1, by omega⟩
  have HNB := Lib.hid hnb
  clear hnb
  go_enter Tryd.func10, Tryd.ntmps10
  go_wp2_with fail
  refine SPc.out.mono ?_
  rintro e w1 ⟨A1, c1, rfl, own1, hb1⟩
  rw [hbl, hm] at own1 ⊢
  obtain ⟨lb, rfl, hlB, hlb, hcap, RL⟩ := pieces_at (hbl.trans hm) (by omega) own1
  have RL := Lib.hid RL
  have b1 := Lib.hid hb1
  have O1 := Lib.hid (World.ownsRow_made (base := w.heap.size) (e := 2) (size := 1) w1 #[] 0 hb1.size (by unfold maxLen; omega) rfl)
  have hml : (LS.drop 1).length = M := by rw [List.length_drop]; omega
  have P1 := Lib.hid (show NbW w (w1.alloc (.cells #[] 2)) lb 1 (LS.drop 1) (some ⟨w1.heap.size, 0, none⟩) 0 0 [] from ⟨by simpa using O1.out, by intro e; injection e with e; have e' : lb = w1.heap.size := e; omega, by simp; omega, fun k y hy => by
      rw [List.getElem?_drop] at hy
      exact (((Below.refl w1.heap.size w1).alloc (Nat.le_refl _) _).cell (p := ⟨lb, 1 + k, none⟩) hlB).trans (RL.out (1 + k) y hy), b1.out.alloc b1.out.size _⟩)
  have hmi : (m : Int) = (M : Int) + 1 := by omega
  clear own1 hb1 SPc hM
  go_wp2_with fail
  go_loopw [4, 5] (fun o_ i_ w' => ∃ (A : Option Addr) (c i : Nat), o_ = .slice A i c ∧ i_ = .int .i64 ((i : Int) + 1) ∧ i ≤ M ∧ Hid (NbW w w' lb 1 (LS.drop 1) A i c (((LS.drop 1).take i).map fun y => (num18 y).getD (-1)))) (fun _ i_ _ => (m : Int).toNat - (intOf i_).toNat)
  case atStart => exact ⟨_, 0, 0, rfl, rfl, by omega, P1⟩
  case round =>
    obtain ⟨A, c, i, rfl, rfl, him, HP⟩ := hrel
    clear P1 O1 RL b1 hlB
    by_cases hlt : i < M
    · obtain ⟨y, hy⟩ : ∃ y, (LS.drop 1)[i]? = some y := ⟨_, List.getElem?_eq_getElem (by omega)⟩
      have l0 := HP.out.rd i y hy
      rw [Nat.add_comm] at l0
      have hys : y.length ≤ x.length := hsm.out y (List.mem_of_mem_drop (List.mem_of_getElem? hy))
      have hsn := Lib.hid (show ((LS.drop 1).take (i + 1)).map (fun y => (num18 y).getD (-1)) = ((LS.drop 1).take i).map (fun y => (num18 y).getD (-1)) ++ [(num18 y).getD (-1)] by rw [List.take_add_one, hy]; simp)
      have i0 : (0 : Int) ≤ (i : Int) + 1 := by omega
      have i2 : (i : Int) + 1 < (m : Int) := by omega
      have i3 : ((i : Int) + 1).toNat = i + 1 := by omega
      have hys2 : (⟨y.toArray⟩ : ByteArray).size = y.length := by show y.toArray.size = _; rw [List.size_toArray]
      have PY0 := number18_any ⟨y.toArray⟩ wr (by omega)
      have hyd : (⟨y.toArray⟩ : ByteArray).data.toList = y := rfl
      rw [hyd] at PY0
      have hlw := HP.out.lt
      generalize (⟨y.toArray⟩ : ByteArray) = ty at *
      rcases hn : num18 y with _ | v
      all_goals
        have e18 := show n18 y = _ by unfold n18; rw [hn]
        rw [e18] at PY0
        have PY := Lib.hid PY0
        rw [hn] at hsn
        have hsn2 := Lib.hid hsn.out
        clear hy PY0 e18 hsn hn
        go_wp2_with fail
        refine PY.out.mono ?_
        rintro e w2 ⟨rfl, hb2⟩
        have P2a := Lib.hid (HP.out.next hb2)
        clear hb2 HP l0
      · have P2 := Lib.hid (P2a.out.alloc (.cells #[.int .i64 (-1)] 2))
        go_wp2_with
          (at_builtin
           refine wpList_pushG rfl _ _ _ rfl w.heap.size 2 1 8 elem_int intE A i c (((LS.drop 1).take i).map fun y => (num18 y).getD (-1)) rfl P2.out.own w2.heap.size (-1 : Int) _ _ _ rfl (heap_alloc_new _ _) rfl rfl (by simp [intE, Value.oneCell']) (by omega) (by omega) (by unfold maxLen; omega) P2.out.be.size ?_
           intro A9 c9 w9 own9 hg9 hat9
           have P9 := Lib.hid (P2.out.push own9 hg9 hat9)
           clear own9 hg9 hat9)
        go_roundw
        case rel => exact ⟨A9, c9, i + 1, rfl, by go_num, by omega, Lib.hid (by rw [hsn2.out]; exact P9.out)⟩
        case measure => simp [intOf]; omega
      · have P2 := Lib.hid (P2a.out.alloc (.cells #[.int .i64 v] 2))
        go_wp2_with
          (at_builtin
           refine wpList_pushG rfl _ _ _ rfl w.heap.size 2 1 8 elem_int intE A i c (((LS.drop 1).take i).map fun y => (num18 y).getD (-1)) rfl P2.out.own w2.heap.size v _ _ _ rfl (heap_alloc_new _ _) rfl rfl (by simp [intE, Value.oneCell']) (by omega) (by omega) (by unfold maxLen; omega) P2.out.be.size ?_
           intro A9 c9 w9 own9 hg9 hat9
           have P9 := Lib.hid (P2.out.push own9 hg9 hat9)
           clear own9 hg9 hat9)
        go_roundw
        case rel => exact ⟨A9, c9, i + 1, rfl, by go_num, by omega, Lib.hid (by rw [hsn2.out]; exact P9.out)⟩
        case measure => simp [intOf]; omega
    · obtain rfl : i = M := by omega
      have i2 : ¬ (i : Int) + 1 < (m : Int) := by omega
      have ht : (LS.drop 1).take i = LS.drop 1 := List.take_of_length_le (by omega)
      have HO := Lib.hid HP.out.own
      have HB := Lib.hid HP.out.be
      rw [ht, ← HNB.out] at HO
      have hl : NB.length = i := by rw [HNB.out, List.length_map]; omega
      go_wp2_with fail
      go_ret
      exact ⟨A, c, ret_slice hl.symm, by rw [hl]; exact HO.out, HB.out⟩
set_option maxHeartbeats 1000000 in
set_option maxRecDepth 100000 in
theorem l04List_any (A : Option Addr) (n c : Nat) (l : List Int) (w : World) (hn : n ≤ 1000) (hr : Rd w w.heap.size A n 1 intE l) (hl : ∀ z ∈ l, 0 ≤ z ∧ z < 1000) :
    Calls Tryd.prog 28 #[.slice A n c] w (Ret (.string (bt (nuT l))) w) := by
  have HR := Lib.hid hr
  have hlen := hr.len
  have HL := Lib.hid hl
  clear hr hl
  go_enter Tryd.func28, Tryd.ntmps28
  go_wp2_with fail
  go_loopw [3, 4] (fun o_ i_ w' => ∃ (i : Nat) (t : ByteArray), o_ = .string t ∧ i_ = .int .i64 i ∧ i ≤ n ∧ Hid (t ++ bt (nuT (l.drop i)) = bt (nuT l)) ∧ t.size ≤ 5 * i ∧ Hid (Below w.heap.size w w')) (fun _ i_ _ => n - (intOf i_).toNat)
  case atStart => exact ⟨0, ⟨#[]⟩, rfl, rfl, by omega, Lib.hid (bt_app [] _), by show 0 ≤ _; omega, Lib.hid (Below.refl _ _)⟩
  case round =>
    obtain ⟨i, t, rfl, rfl, hi, HW, hts, hb⟩ := hrel
    by_cases hlt : i < n
    · obtain ⟨b, o, z, rfl, hB, gz, c0⟩ := (show Rd _ _ A n 1 (fun s => [.int .i64 s]) l from HR.out.next hb.out).int hlt
      have hz := HL.out z (List.mem_of_getElem? gz)
      obtain ⟨k, rfl⟩ := Int.eq_ofNat_of_zero_le hz.1
      have HW2 := Lib.hid (show (t ++ (⟨#[32]⟩ ++ decS k)) ++ bt (nuT (l.drop (i + 1))) = bt (nuT l) by
        rw [← HW.out, drop_cons gz, ByteArray.append_assoc]
        congr 1)
      have D := Lib.hid (specDec_any k k wr rfl (by omega))
      have hds : (decS k).size ≤ 3 := by
        have := dec_len 2 k (by omega)
        show (Lib.decDigits k).toArray.size ≤ 3
        rw [List.size_toArray]; exact this
      have i0 : (0 : Int) ≤ (i : Int) := by omega
      have i2 : (i : Int) < (n : Int) := by omega
      have hsz2 : (t ++ (⟨#[32]⟩ ++ decS k)).size ≤ 5 * (i + 1) := by
        rw [ByteArray.size_append, ByteArray.size_append]
        have : (⟨#[32]⟩ : ByteArray).size = 1 := rfl
        omega
      generalize decS k = dk at *
      clear gz hz
      go_wp2_with fail
      refine D.out.mono ?_
      rintro e w2 ⟨rfl, hb2⟩
      go_wp2_with fail
      go_roundw
      case rel => exact ⟨i + 1, _, rfl, by go_num, by omega, HW2, hsz2, Lib.hid (hb.out.trans (hb2.mono hb.out.size))⟩
      case measure => simp [intOf]; omega
    · have ht : l.drop i = [] := List.drop_of_length_le (by omega)
      have i2 : ¬ (i : Int) < (n : Int) := by omega
      have HW2 := Lib.hid (show t = bt (nuT l) by
        rw [← HW.out, ht]
        show t = t ++ bt []
        apply ByteArray.ext
        rw [ByteArray.data_append]
        show _ = t.data ++ (#[] : Array UInt8)
        rw [Array.append_empty])
      go_wp2_with fail
      go_ret
      exact ⟨by rw [← HW2.out]; rfl, hb.out⟩
set_option maxHeartbeats 2000000 in
set_option maxRecDepth 100000 in
theorem l04Text_any (g : Nat) (S q : Int) (F : Option Addr) (nf cf : Nat) (fin : List Int) (A : Option Addr) (n c : Nat) (hs : List RowH) (nx : List (List Int)) (w : World) (hB : Blk w g 25 #[.int .i64 S, .int .i64 q, .slice F nf cf, .slice A n c]) (hf : Rd w w.heap.size F nf 1 intE fin)
    (hr : RdT w w.heap.size A n intE hs nx) (hv : auB ⟨S, q, fin, nx⟩ = true) :
    Calls Tryd.prog 12 #[.pointer (some ⟨g, 0, none⟩)] w (Ret (.string (autS ⟨S, q, fin, nx⟩)) w) := by
  obtain ⟨⟨s1, s2⟩, ⟨q1, q2⟩, hfi, hnl, hrow⟩ := au_ok hv
  have hfl : fin.length ≤ 24 := fin_le hv
  have s1 : 1 ≤ S := s1
  have s2 : S ≤ 24 := s2
  have q1 : 0 ≤ q := q1
  have q2 : q < S := q2
  have hfi : ∀ z ∈ fin, 0 ≤ z ∧ z < S := hfi
  have hnl : (nx.length : Int) = S := hnl
  have hrow : ∀ r ∈ nx, r.length = 4 ∧ ∀ z ∈ r, 0 ≤ z ∧ z < S := hrow
  have hnn := hr.len
  have hflen := hf.len
  have HF := Lib.hid hf
  have HR := Lib.hid hr
  have HRow := Lib.hid hrow
  have B0 := Lib.hid hB
  obtain ⟨a, rfl⟩ := Int.eq_ofNat_of_zero_le (show 0 ≤ S by omega)
  obtain ⟨b, rfl⟩ := Int.eq_ofNat_of_zero_le q1
  have D1 := Lib.hid (fun W => specDec_any a a W rfl (by omega))
  have D2 := Lib.hid (fun W => specDec_any b b W rfl (by omega))
  have LF := Lib.hid (fun W (h : Below w.heap.size w W) => l04List_any F nf cf fin W (by omega) (HF.out.next h) (fun z hz => by have := hfi z hz; omega))
  have n1 := auto_le [] (l := fin) (fun z hz => by have := hfi z hz; omega)
  have e1 : lineW [] fin = nuT fin := rfl
  rw [e1] at n1
  have z1 : (bt (nuT fin)).size ≤ 4 * nf := by rw [bt_size]; simp only [List.length_nil] at n1; omega
  have d1 := decS_size a
  have d2 := decS_size b
  have hE : (((((⟨#[97, 117, 116, 111, 32]⟩ ++ decS a) ++ ⟨#[32]⟩) ++ decS b) ++ ⟨#[10, 102, 105, 110, 97, 108, 115]⟩) ++ bt (nuT fin) ++ ⟨#[10]⟩) ++ bt (stT nx) = autS ⟨(a : Int), (b : Int), fin, nx⟩ := by
    show ((((((bt [97, 117, 116, 111, 32] ++ bt (Lib.decDigits a)) ++ bt [32]) ++ bt (Lib.decDigits b)) ++ bt [10, 102, 105, 110, 97, 108, 115]) ++ bt (nuT fin)) ++ bt [10]) ++ bt (stT nx) = bt (auT ⟨(a : Int), (b : Int), fin, nx⟩)
    simp only [bt_app]
    unfold auT lineW nuT autoW finsW stT
    simp [lineW, nuT]
  have HE := Lib.hid hE
  generalize autS ⟨(a : Int), (b : Int), fin, nx⟩ = T at *
  generalize bt (nuT fin) = tf at *
  generalize decS a = da at *
  generalize decS b = db at *
  clear hf hr hv hfi hrow hE hB n1 e1
  obtain ⟨y0, y1, y2, y3⟩ := B0.out.four
  have yl := B0.out.lt
  have hup := upc w.heap.size w
  go_enter Tryd.func12, Tryd.ntmps12
  go_upto_region 1 with fail
  have zz1 : ¬ 9223372036854775807 < 5 + da.size := by omega
  have zz2 : ¬ 9223372036854775807 < 5 + da.size + 1 := by omega
  have zz3 : ¬ 9223372036854775807 < 5 + da.size + 1 + db.size := by omega
  have zz4 : ¬ 9223372036854775807 < 5 + da.size + 1 + db.size + 7 := by omega
  have zz5 : ¬ 9223372036854775807 < 5 + da.size + 1 + db.size + 7 + tf.size := by omega
  have zz6 : ¬ 9223372036854775807 < 5 + da.size + 1 + db.size + 7 + tf.size + 1 := by omega
  refine wp_region_up w.heap.size (by kernel_rfl) (by kernel_rfl) ?_
  repeat (go_big_quiet_step ((first | (go_at_call 27; with_reducible exact Calls.upR (Nat.le_refl _) (D1.out _)) | (go_at_call 27; with_reducible exact Calls.upR (Nat.le_refl _) (D2.out _)) | (go_at_call 28; with_reducible exact Calls.upR (Nat.le_refl _) (LF.out _ (Up.h _))))))
  refine wpQuiet_nil ?_
  intro w3 hup_w3
  have hb3 := up_of hup_w3
  have hts0 : (((((((⟨#[97, 117, 116, 111, 32]⟩ : ByteArray) ++ da) ++ ⟨#[32]⟩) ++ db) ++ ⟨#[10, 102, 105, 110, 97, 108, 115]⟩) ++ tf) ++ ⟨#[10]⟩).size ≤ 5000 := by
    simp only [ByteArray.size_append]
    have q1 : (⟨#[97, 117, 116, 111, 32]⟩ : ByteArray).size = 5 := rfl
    have q2 : (⟨#[32]⟩ : ByteArray).size = 1 := rfl
    have q3 : (⟨#[10, 102, 105, 110, 97, 108, 115]⟩ : ByteArray).size = 7 := rfl
    have q4 : (⟨#[10]⟩ : ByteArray).size = 1 := rfl
    omega
  generalize (((((((⟨#[97, 117, 116, 111, 32]⟩ : ByteArray) ++ da) ++ ⟨#[32]⟩) ++ db) ++ ⟨#[10, 102, 105, 110, 97, 108, 115]⟩) ++ tf) ++ ⟨#[10]⟩) = t0 at *
  have b3 := Lib.hid hb3
  have hab : a ≤ 24 := by omega
  clear zz1 zz2 zz3 zz4 zz5 zz6 hb3 y0 y1 y2 y3 hup D1 D2 LF
  go_wp2_with fail
  go_loopw [3, 4] (fun o_ i_ w' => ∃ (i : Nat) (t : ByteArray), o_ = .string t ∧ i_ = .int .i64 i ∧ i ≤ n ∧ Hid (t ++ bt (stT (nx.drop i)) = T) ∧ t.size ≤ 5000 + 30 * i ∧ Hid (Below w.heap.size w w')) (fun _ i_ _ => n - (intOf i_).toNat)
  case atStart => exact ⟨0, t0, rfl, rfl, by omega, HE, by omega, b3⟩
  case round =>
    obtain ⟨i, t, rfl, rfl, hi, HE, hts, hb⟩ := hrel
    have x3 := (B0.out.next hb.out).cell 3
    have xl := (B0.out.next hb.out).lt
    by_cases hlt : i < n
    · obtain ⟨b', o, p, r, rfl, hB, gp, gr, c0, rr⟩ := (HR.out.next hb.out).at_ hlt
      have h4 := (HRow.out r (List.mem_of_getElem? gr))
      have hr4 := h4.1
      have hrl := rr.len
      have hsl := auto_le [] (l := r) (fun z hz => by have := h4.2 z hz; omega)
      have e1 : lineW [] r = nuT r := rfl
      rw [e1] at hsl
      have WS := Lib.hid (l04List_any p.A p.n p.c r wr (by omega) rr (fun z hz => by have := h4.2 z hz; omega))
      have HE2 := Lib.hid (show (t ++ ((⟨#[115, 116, 97, 116, 101]⟩ ++ bt (nuT r)) ++ ⟨#[10]⟩)) ++ bt (stT (nx.drop (i + 1))) = T by
        rw [← HE.out, drop_cons gr, ByteArray.append_assoc]
        congr 1)
      have hz4 : (bt (nuT r)).size ≤ 16 := by rw [bt_size]; simp only [List.length_nil] at hsl; omega
      have q1 : (⟨#[115, 116, 97, 116, 101]⟩ : ByteArray).size = 5 := rfl
      have q4 : (⟨#[10]⟩ : ByteArray).size = 1 := rfl
      have hz5 : (t ++ ((⟨#[115, 116, 97, 116, 101]⟩ ++ bt (nuT r)) ++ ⟨#[10]⟩)).size ≤ 5000 + 30 * (i + 1) := by simp only [ByteArray.size_append]; omega
      generalize bt (nuT r) = tr at *
      have hz6 : ¬ 9223372036854775807 < 5 + tr.size := by omega
      have hz7 : ¬ 9223372036854775807 < 5 + tr.size + 1 := by omega
      have hz8 : ¬ 9223372036854775807 < t.size + (5 + tr.size + 1) := by omega
      have i0 : (0 : Int) ≤ (i : Int) := by omega
      have i1 : (i : Int) < (n : Int) := by omega
      clear HE h4 gr gp e1 q1 q4
      go_wp2_with fail
      refine WS.out.mono ?_
      rintro e w4 ⟨rfl, hb4⟩
      go_wp2_with fail
      go_roundw
      case rel => exact ⟨i + 1, _, rfl, by go_num, by omega, HE2, hz5, Lib.hid (hb.out.trans (hb4.mono hb.out.size))⟩
      case measure => simp [intOf]; omega
    · have ht : nx.drop i = [] := List.drop_of_length_le (by omega)
      have HT2 := Lib.hid (show t = T by
        rw [← HE.out, ht]
        show t = t ++ bt []
        apply ByteArray.ext
        rw [ByteArray.data_append]
        show _ = t.data ++ (#[] : Array UInt8)
        rw [Array.append_empty])
      have i1 : ¬ (i : Int) < (n : Int) := by omega
      go_wp2_with fail
      go_ret
      exact ⟨by rw [← HT2.out]; rfl, hb.out⟩
set_option maxHeartbeats 2000000 in
set_option maxRecDepth 100000 in
theorem l04Ok_any (g : Nat) (S q : Int) (F : Option Addr) (nf cf : Nat) (fin : List Int) (A : Option Addr) (n c : Nat) (hs : List RowH) (nx : List (List Int)) (w : World) (hB : Blk w g 25 #[.int .i64 S, .int .i64 q, .slice F nf cf, .slice A n c]) (hnf : nf ≤ 1048576) (hn : n ≤ 1048576) (hf : Rd w w.heap.size F nf 1 intE fin)
    (hr : RdT w w.heap.size A n intE hs nx) (b : Bool) (hb : auB ⟨S, q, fin, nx⟩ = b) :
    Calls Tryd.prog 11 #[.pointer (some ⟨g, 0, none⟩)] w (Ret (.bool b) w) := by
  have HF := Lib.hid hf
  have HR := Lib.hid hr
  have ew : IntKind.i64.wrap (S - 1) = w1 S := rfl
  have Hb : (((inB S 1 24 && inB q 0 (w1 S)) && risB (w1 S) none fin) && (nx.all (rowB (w1 S)) && decide ((nx.length : Int) = S))) = b := by
    rw [← hb]
    show _ = ((((inB S 1 24 && inB q 0 (w1 S)) && decide ((nx.length : Int) = S)) && nx.all (rowB (w1 S))) && risB (w1 S) none fin)
    generalize (inB S 1 24 && inB q 0 (w1 S)) = x1
    generalize risB (w1 S) none fin = x2
    generalize nx.all (rowB (w1 S)) = x3
    generalize decide ((nx.length : Int) = S) = x4
    cases x1 <;> cases x2 <;> cases x3 <;> cases x4 <;> rfl
  have C1 := Lib.hid (fun W => specIn_any S 1 24 (inB S 1 24) W rfl)
  have C2 := Lib.hid (fun W => specIn_any q 0 (w1 S) (inB q 0 (w1 S)) W rfl)
  have C3 := Lib.hid (fun W (h : Below w.heap.size w W) => l00Rises_any (w1 S) F nf cf fin W hnf (HF.out.next h) _ rfl)
  have C4 := Lib.hid (fun W (h : Below w.heap.size w W) => l04Next_any S A n c hs nx W hn (HR.out.next h) _ rfl)
  generalize inB S 1 24 = b1 at *
  generalize inB q 0 (w1 S) = b2 at *
  generalize risB (w1 S) none fin = b3 at *
  generalize (nx.all (rowB (w1 S)) && decide ((nx.length : Int) = S)) = b4 at *
  generalize w1 S = S1 at *
  have HB := Lib.hid Hb
  obtain ⟨y0, y1, y2, y3⟩ := hB.four
  have yl := hB.lt
  have hup := upc w.heap.size w
  clear hf hr hb Hb hB
  cases b1
  case false =>
    go_enter Tryd.func11, Tryd.ntmps11
    go_upto_region 1 with fail
    refine wp_region_up w.heap.size (by kernel_rfl) (by kernel_rfl) ?_
    repeat (go_big_quiet_step ((go_at_call 24; with_reducible exact Calls.upR (Nat.le_refl _) (C1.out _))))
    refine wpQuiet_nil ?_
    intro w3 hup_w3
    have hb3 := up_of hup_w3
    go_wp2_with fail
    go_ret
    exact ⟨ret_bool (by rw [← HB.out]; rfl), hb3⟩
  cases b2
  case false =>
    go_enter Tryd.func11, Tryd.ntmps11
    go_upto_region 1 with fail
    refine wp_region_up w.heap.size (by kernel_rfl) (by kernel_rfl) ?_
    repeat (go_big_quiet_step ((first | (go_at_call 24; with_reducible exact Calls.upR (Nat.le_refl _) (C1.out _)) | (go_at_call 24; with_reducible exact Calls.upR (Nat.le_refl _) (C2.out _)))))
    refine wpQuiet_nil ?_
    intro w3 hup_w3
    have hb3 := up_of hup_w3
    go_wp2_with fail
    go_ret
    exact ⟨ret_bool (by rw [← HB.out]; rfl), hb3⟩
  cases b3
  case false =>
    go_enter Tryd.func11, Tryd.ntmps11
    go_upto_region 1 with fail
    refine wp_region_up w.heap.size (by kernel_rfl) (by kernel_rfl) ?_
    repeat (go_big_quiet_step ((first | (go_at_call 24; with_reducible exact Calls.upR (Nat.le_refl _) (C1.out _)) | (go_at_call 24; with_reducible exact Calls.upR (Nat.le_refl _) (C2.out _)) | (go_at_call 25; with_reducible exact Calls.upR (Nat.le_refl _) (C3.out _ (Up.h _))))))
    refine wpQuiet_nil ?_
    intro w3 hup_w3
    have hb3 := up_of hup_w3
    go_wp2_with fail
    go_ret
    exact ⟨ret_bool (by rw [← HB.out]; rfl), hb3⟩
  case true =>
    go_enter Tryd.func11, Tryd.ntmps11
    go_upto_region 1 with fail
    refine wp_region_up w.heap.size (by kernel_rfl) (by kernel_rfl) ?_
    repeat (go_big_quiet_step ((first | (go_at_call 24; with_reducible exact Calls.upR (Nat.le_refl _) (C1.out _)) | (go_at_call 24; with_reducible exact Calls.upR (Nat.le_refl _) (C2.out _)) | (go_at_call 25; with_reducible exact Calls.upR (Nat.le_refl _) (C3.out _ (Up.h _))) | (go_at_call 26; with_reducible exact Calls.upR (Nat.le_refl _) (C4.out _ (Up.h _))))))
    refine wpQuiet_nil ?_
    intro w3 hup_w3
    have hb3 := up_of hup_w3
    go_wp2_with fail
    go_ret
    exact ⟨ret_bool (by rw [← HB.out]; rfl), hb3⟩
end Go.Proofs.YtcpofhjoblgmgaaDoor
