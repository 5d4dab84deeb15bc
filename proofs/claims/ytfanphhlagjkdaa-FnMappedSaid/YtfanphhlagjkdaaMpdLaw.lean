/-
  The statement FnMapped: for all bytes, the grammar that is drawn from them, its letters replaced by drawn words, has the word whose letters are replaced. No condition.
-/
import Derived.Test.YtfanphhlagjkdaaP4

namespace Go.Proofs.Ytfanphhlagjkdaa
open Go.ChangeShapes Go.WideShapes Go.ChangeAt Go.RowKit

/-- the words under way -/
structure MdW (w W : World) (x : Nat) (A3 : Option Addr) (n3 c3 : Nat) (rs : List Fac) (A1 : Option Addr) (k c1 : Nat) (ws : List ByteArray) : Prop where
  q : W.ownsRow w.heap.size 65 3 (.slice A3 n3 c3) n3 (rs.flatMap Fac.cells)
  g : Blk W x 26 #[.slice A3 n3 c3]
  l : W.ownsRow w.heap.size 9 1 (.slice A1 k c1) k (ws.flatMap strEM)
  e : Below w.heap.size w W
theorem elem_strM : Elem Try.prog 29 9 1 16 := Elem.mk' (z := .string .empty) Try.underlying29 (by kernel_rfl) rfl
section
variable {w W W' : World} {x : Nat} {A3 : Option Addr} {n3 c3 : Nat} {rs : List Fac} {A1 : Option Addr} {k c1 : Nat} {ws : List ByteArray}
theorem MdW.next (h : MdW w W x A3 n3 c3 rs A1 k c1 ws) (hb : Below W.heap.size W W') : MdW w W' x A3 n3 c3 rs A1 k c1 ws := ⟨own_next h.q hb, h.g.next hb, own_next h.l hb, h.e.trans (hb.mono h.e.size)⟩
theorem MdW.alloc (h : MdW w W x A3 n3 c3 rs A1 k c1 ws) (o : Obj) : MdW w (W.alloc o) x A3 n3 c3 rs A1 k c1 ws := h.next ((Below.refl _ _).alloc (Nat.le_refl _) _)
theorem MdW.push {A9 : Option Addr} {k9 c9 : Nat} {ws' : List ByteArray} (h : MdW w W x A3 n3 c3 rs A1 k c1 ws) (hq : W'.ownsRow w.heap.size 9 1 (.slice A9 k9 c9) k9 (ws'.flatMap strEM)) (hg : W.grownBy W' (Value.slice A1 k c1).ownBlock) : MdW w W' x A3 n3 c3 rs A9 k9 c9 ws' :=
  ⟨h.q.kept hg (own_ne h.q h.l (by decide)), h.g.grown hg (own_blk_ne h.l h.g (by decide)), hq, h.e.grown hg h.e.size (own_ge h.l)⟩
theorem MdW.far {A2 : Option Addr} {j c2 : Nat} {xs : List Value} (h : MdW w W x A3 n3 c3 rs A1 k c1 ws) (hb : W.ownsRow w.heap.size 5 1 (.slice A2 j c2) j xs) (hg : W.grownBy W' (Value.slice A2 j c2).ownBlock) : MdW w W' x A3 n3 c3 rs A1 k c1 ws :=
  ⟨h.q.kept hg (own_ne h.q hb (by decide)), h.g.grown hg (own_blk_ne hb h.g (by decide)), h.l.kept hg (own_ne h.l hb (by decide)), h.e.grown hg h.e.size (own_ge hb)⟩
end
set_option maxHeartbeats 4000000 in
set_option maxRecDepth 100000 in
theorem walkMapped (A : Option Addr) (n c : Nat) (zs : List Int) (D : Option Addr) (m d : Nat) (ys : List Int) (w : World)
    (hn : n ≤ maxLen) (hx : Rd w w.heap.size A n 1 (fun z => [.int .u8 z]) zs) (ox : ∀ z ∈ zs, 0 ≤ z ∧ z < 256) (hm : m ≤ maxLen) (hy : Rd w w.heap.size D m 1 (fun z => [.int .u8 z]) ys) (oy : ∀ z ∈ ys, 0 ≤ z ∧ z < 256) :
    Calls Try.prog 3 #[.slice A n c, .slice D m d] w (Ret (.bool true) w) := by
  rcases hlong : (decide (3000 < n) || decide (3000 < m)) with _ | _
  case true =>
    have H := Lib.hid hlong
    clear hlong
    go_enter Try.func3, Try.ntmps3
    go_wp2_with fail
    refine (a2Long_any A n c D m d w hn hm true H.out).mono ?_
    rintro e w1 ⟨rfl, hb1⟩
    go_wp2_with fail
    go_ret
    exact ⟨rfl, hb1⟩
  have H := Lib.hid hlong
  have hn3 : n ≤ 3000 ∧ m ≤ 3000 := by simp only [Bool.or_eq_false_iff, decide_eq_false_iff_not] at hlong; omega
  have hbs := Lib.hid (hx.bytes ox)
  have hcs := Lib.hid (hy.bytes oy)
  clear hx hy ox oy hlong
  generalize ys.map (fun z => UInt8.ofNat z.toNat) = bs at *
  go_enter Try.func3, Try.ntmps3
  go_wp2_with fail
  refine (a2Long_any A n c D m d w hn hm false H.out).mono ?_
  rintro e w1 ⟨rfl, hb1⟩
  have b1 := Lib.hid hb1
  clear hb1 hn hm
  go_wp2_with fail
  refine (a2Grammar_any A n c _ 40 w1 (by omega) (hbs.out.next b1.out) (by omega) (by omega)).mono ?_
  rintro e w3 ⟨A3, c3, rs, rfl, ok, own3, hb3⟩
  have Hgok := Lib.hid ok.gok
  have Hwf := Lib.hid ok.wf
  have Hsz := Lib.hid (wf_sz ok.wf)
  have hfew := ok.few
  have hlen8 := ok.len
  have HL4 := Lib.hid (wdN_let ok.wf)
  obtain ⟨ls, hls⟩ := Option.isSome_iff_exists.1 Hgok.out
  have b3 := Lib.hid (b1.out.trans (hb3.mono b1.out.size))
  have O3 := Lib.hid (own3.mono b1.out.size)
  have R3 := Lib.hid (Rd.of_own (fun x _ => fac_len x) rfl own3)
  have UW := Lib.hid (fun W (hb : Below w3.heap.size w3 W) => unpacked_any A3 rs.length c3 rs ls W (R3.out.next hb) Hsz.out hls (by omega))
  have HMo := Lib.hid (pws_ok (bs := bs) Hgok.out)
  have HMc := Lib.hid (pws_small (bs := bs) Hgok.out hfew)
  have HMw := Lib.hid (map_word HMo.out HMc.out)
  have HMl := Lib.hid (fun (u : List Nat) (hu : ∀ x ∈ u, x < 4) => mapW_let (bs := bs) u hu)
  have MP := Lib.hid (fun W (hr : Rd W W.heap.size A3 rs.length 3 Fac.cells rs) (B : Option Addr) (d : Nat) (hw : Rd W W.heap.size B 4 1 strEM (pws bs)) => implMap_any A3 rs.length c3 rs B 4 d (pws bs) W (by omega) (by omega) hr hw Hsz.out (fun s hs => by have := (pws_mem hs).1; omega))
  rw [HMc.out] at MP
  have HTg := Lib.hid HMw.out.1
  have HTw := Lib.hid HMw.out.2
  generalize mapF rs (pws bs) = T at *
  have HN3 := Lib.hid (show rs.length = rs.length from rfl)
  generalize hn3e : rs.length = n3 at *
  have HN3e := Lib.hid hn3e
  clear hls ok own3 hb3 hbs R3 Hsz HMw HMo HMc HN3 hn3e
  generalize wdN rs = u at *
  have hlu := Lib.hid (show u.length ≤ 40 by omega)
  have Hs := Lib.hid (tx_at u HL4.out)
  have hsz := tx_size u
  generalize tx u = s at *
  have HU := Lib.hid hsz
  have hs8 : s.size ≤ 40 := by omega
  have BG0 := Lib.hid (Blk.new w3 26 #[.slice A3 n3 c3])
  have g0 := BG0.out.cell 0
  have gl0 := BG0.out.lt
  clear hsz hlen8
  go_wp2_with fail
  refine namedC fun w4 H4 => ?_
  have hb4 : Below w3.heap.size w3 w4 := by rw [H4.out]; (repeat first | exact Below.refl _ _ | assumption | refine Below.drew ?_ | refine Below.alloc ?_ (by first | exact Nat.le_refl _ | (simp; done) | omega | (simp; omega)) _ | refine Below.setCell ?_ (by first | exact Nat.le_refl _ | (simp; done) | omega | (simp; omega)) _)
  have BG4 := Lib.hid (show Blk w4 w3.heap.size 26 #[.slice A3 n3 c3] by rw [H4.out]; exact Blk.new _ _ _)
  clear H4 BG0 g0 gl0
  refine (UW.out w4 hb4).mono ?_
  rintro e w5 ⟨rfl, hb5⟩
  have b5 := hb4.trans (hb5.mono hb4.size)
  have P5 := Lib.hid (show MdW w (w5.alloc (.cells #[] 9)) w3.heap.size A3 n3 c3 rs (some ⟨w5.heap.size, 0, none⟩) 0 0 ((pws bs).take 0) from
    ⟨(own_next O3.out b5).alloc _, (BG4.out.next hb5).alloc _, World.ownsRow_made (base := w.heap.size) (e := 9) (size := 1) w5 #[] 0 (by have := b3.out.size; have := b5.size; omega) (by unfold maxLen; omega) rfl, (b3.out.trans (b5.mono b3.out.size)).alloc (by have := b3.out.size; have := b5.size; omega) _⟩)
  clear hb4 hb5 b5 BG4 UW
  go_wp2_with fail
  go_loopw [7, 8] (fun l_ k_ w' => ∃ (k : Nat) (A1 : Option Addr) (c1 : Nat), k_ = .int .i64 k ∧ l_ = .slice A1 k c1 ∧ k ≤ 4 ∧ Hid (MdW w w' w3.heap.size A3 n3 c3 rs A1 k c1 ((pws bs).take k))) (fun _ k_ _ => 4 - (intOf k_).toNat)
  case atStart => exact ⟨0, _, 0, rfl, rfl, by omega, P5⟩
  case round =>
    obtain ⟨k, A1, c1, rfl, rfl, hk, P⟩ := hrel
    clear P5
    by_cases hlt : k < 4
    · have i1 : (k : Int) < 4 := by omega
      obtain ⟨wo, rfl⟩ : ∃ wo : World, wo = wr := ⟨_, rfl⟩
      have Q := Lib.hid (P.out.alloc (.cells #[] 5))
      have OB := Lib.hid (World.ownsRow_made (base := w.heap.size) (e := 5) (size := 1) wo #[] 0 (by have := P.out.e.size; omega) (by unfold maxLen; omega) rfl)
      have hpl := pu_len bs k
      have hpl3 := pu_le bs k
      go_wp2_with fail
      go_loopw [9, 10] (fun o_ x_ w' => ∃ (x : Nat) (A2 : Option Addr) (c2 : Nat), x_ = .int .i64 x ∧ o_ = .slice A2 x c2 ∧ x ≤ atV bs k 4 ∧ Hid (w'.ownsRow w.heap.size 5 1 (.slice A2 x c2) x ((txB ((pu bs k).take x)).flatMap byteE)) ∧
          Hid (MdW w w' w3.heap.size A3 n3 c3 rs A1 k c1 ((pws bs).take k))) (fun _ x_ _ => atV bs k 4 - (intOf x_).toNat)
      case atStart => exact ⟨0, _, 0, rfl, rfl, by omega, Lib.hid (by simpa [txB] using OB.out), Q⟩
      case round =>
        obtain ⟨x, A2, c2, rfl, rfl, hx, hown, PI⟩ := hrel
        clear Q OB P
        have CA := Lib.hid (a2At_any D m d bs k 4 wr (by omega) ((hcs.out.next PI.out.e)) (by omega) (by omega) (by omega))
        have HX := Lib.hid hx
        have HPl := Lib.hid hpl
        have hV := atV_lt bs k (show 0 < 4 by omega)
        by_cases hlx : x < atV bs k 4
        · have hV2 := atV_lt bs (4 + k + x) (show 0 < 4 by omega)
          have hlet := Lib.hid (byteE_let (pu bs k) x (pu_let bs k))
          have hlet2 := hlet.out
          unfold lt8 at hlet2
          rw [pu_at bs hlx] at hlet2
          have Hlet := Lib.hid hlet2
          have hsn := Lib.hid (txB_snoc (pu bs k) (i := x) (by rw [hpl]; exact hlx))
          have hsn2 := hsn.out
          rw [pu_at bs hlx] at hsn2
          have Hsn := Lib.hid hsn2
          have CB := fun W (h : Rd W W.heap.size D m 1 byteE bs) => a2At_any D m d bs (4 + k + x) 4 W (by omega) h (by omega) (by omega) (by omega)
          have CB := Lib.hid (show ∀ W, Rd W W.heap.size D m 1 byteE bs → Calls Try.prog 9 #[.slice D m d, .int .i64 (4 + (k : Int) + (x : Int)), .int .i64 4] W (Ret (.int .i64 ((atV bs (4 + k + x) 4 : Nat) : Int)) W) from fun W h => by
            have q := CB W h
            rw [show ((4 + k + x : Nat) : Int) = 4 + (k : Int) + (x : Int) by omega] at q
            exact q)
          generalize hv1 : atV bs k 4 = V at *
          generalize atV bs (4 + k + x) 4 = v2 at *
          have HV1 := Lib.hid hv1
          have i2 : (x : Int) < (V : Int) := by omega
          have u3 : IntKind.u8.wrap (97 + (v2 : Int)) = ((97 + v2 : Nat) : Int) := by rw [IntKind.wrap_u8]; omega
          clear hlet2 hsn2 hlet hsn hv1
          go_wp2_with fail
          refine CA.out.mono ?_
          rintro e w6 ⟨rfl, hb6⟩
          have P6 := Lib.hid (PI.out.next hb6)
          have O6 := Lib.hid (own_next hown.out hb6)
          clear hb6 PI
          go_wp2_with fail
          refine (CB.out w6 (hcs.out.next P6.out.e)).mono ?_
          rintro e w7 ⟨rfl, hb7⟩
          have P7 := Lib.hid ((P6.out.next hb7).alloc (.cells #[.int .u8 ((97 + v2 : Nat) : Int)] 5))
          have O7 := Lib.hid ((own_next O6.out hb7).alloc (.cells #[.int .u8 ((97 + v2 : Nat) : Int)] 5))
          clear hb7 P6 O6
          go_wp2_with
            (at_builtin
             refine wpList_push (w0 := w) rfl _ _ _ rfl w.heap.size 5 1 1 elem_byte byteE A2 x c2 (txB ((pu bs k).take x)) rfl O7.out w7.heap.size (UInt8.ofNat (97 + v2)) #[.int .u8 ((97 + v2 : Nat) : Int)] 5 (0, 0) rfl (heap_alloc_new _ _) Hlet.out rfl (by simp [byteE, Value.oneCell']) (by omega) (by omega) (by unfold maxLen; omega) rfl P7.out.e ?_
             intro A9 c9 w9 own9 hg9 hat9 hb9
             have O9 := Lib.hid own9
             have P9 := Lib.hid (P7.out.far O7.out hg9)
             clear own9 hg9 hat9 hb9)
          go_roundw
          case rel => exact ⟨x + 1, A9, c9, by go_num, rfl, by omega, Lib.hid (by rw [← Hsn.out]; exact O9.out), P9⟩
          case measure => simp [intOf]; omega
        · have hxv : x = atV bs k 4 := by omega
          have ht : (pu bs k).take x = pu bs k := List.take_of_length_le (by rw [hpl]; omega)
          have hon : wr.ownsRow w.heap.size 5 1 (.slice A2 x c2) x ((txB (pu bs k)).flatMap byteE) := by have h := hown.out; rw [ht] at h; exact h
          have Hon := Lib.hid hon
          have htl : (txB (pu bs k)).length = x := by rw [txB_len, hpl, hxv]
          have HTl := Lib.hid htl
          have Htk := Lib.hid (pws_take bs hlt)
          have HTx := Lib.hid (show tx (pu bs k) = ⟨(txB (pu bs k)).toArray⟩ from rfl)
          have hx3 : x ≤ 3 := by omega
          generalize hV1 : atV bs k 4 = V at *
          generalize pu bs k = pk at *
          have i2 : ¬ (x : Int) < (V : Int) := by omega
          have HV1 := Lib.hid hV1
          clear hon htl ht hown hxv hV1 hpl hpl3 hV
          go_wp2_with fail
          refine CA.out.mono ?_
          rintro e w6 ⟨rfl, hb6⟩
          have P6 := Lib.hid (PI.out.next hb6)
          have hcv := conv_own (own_next Hon.out hb6) HTl.out
          rw [← HTx.out] at hcv
          generalize tx pk = sk at *
          have P7 := Lib.hid (P6.out.alloc (.cells #[.string sk] 9))
          clear hb6 PI Hon
          go_wp2_with
            (at_builtin
             refine wpList_push (w0 := w) rfl _ _ _ rfl w.heap.size 9 1 16 elem_strM strEM A1 k c1 ((pws bs).take k) rfl P7.out.l w6.heap.size sk #[.string sk] 9 (0, 0) rfl (heap_alloc_new _ _) rfl rfl (by simp [strEM, Value.oneCell']) (by omega) (by omega) (by unfold maxLen; omega) rfl P7.out.e ?_
             intro A9 c9 w9 own9 hg9 hat9 hb9
             have P9 := Lib.hid (P7.out.push own9 hg9)
             clear own9 hg9 hat9 hb9)
          go_roundw
          case rel => exact ⟨k + 1, A9, c9, by go_num, rfl, by omega, Lib.hid (by rw [Htk.out]; exact P9.out)⟩
          case measure => simp [intOf]; omega
    · obtain rfl : k = 4 := by omega
      have htk : (pws bs).take 4 = pws bs := List.take_of_length_le (by rw [pws_len]; omega)
      have Q := Lib.hid (show MdW w wr w3.heap.size A3 n3 c3 rs A1 4 c1 (pws bs) by have h := P.out; rw [htk] at h; exact h)
      have CM := Lib.hid (MP.out wr (Rd.of_own (fun x _ => fac_len x) HN3e.out Q.out.q) A1 c1 (Rd.of_own (enc := strEM) (fun _ _ => rfl) (pws_len bs) Q.out.l))
      have q0 := Q.out.g.cell 0
      have ql := Q.out.g.lt
      clear htk P MP
      go_wp2_with fail
      refine CM.out.mono ?_
      rintro e w6 ⟨A8, c8, rfl, own8, hb8⟩
      have Q8 := Lib.hid ((Q.out.next hb8).alloc (.cells #[.slice A8 T.length c8] 26))
      have O8 := Lib.hid (own8.alloc (.cells #[.slice A8 T.length c8] 26))
      have B8 := Lib.hid (Blk.new w6 26 #[.slice A8 T.length c8])
      clear own8 hb8 q0 ql Q CM
      go_wp2_with fail
      generalize w6.alloc (.cells #[.slice A8 T.length c8] 26) = w9 at *
      obtain ⟨gs, cps, hvs, _, _⟩ := Q8.out.l.form (by omega)
      obtain rfl : A1 = some ⟨gs, 0, none⟩ := by injection hvs
      have hgs : gs < w9.heap.size := (Q8.out.l.lt gs rfl).2
      have cel := fun (q : Nat) (hq : q < 4) => own_at (sz := 1) (enc := strEM) (fun _ _ => rfl) Q8.out.l (pws_len bs) ⟨#[]⟩ q hq 0 (by omega)
      have pat := fun (q : Nat) (hq : q < 4) => show (pws bs).getD q ⟨#[]⟩ = tx (pu bs q) by rw [List.getD_eq_getElem?_getD, pws_at bs hq]; rfl
      have k0 : w9.cell? ⟨gs, 0, none⟩ = some (.string (tx (pu bs 0))) := by have h := cel 0 (by omega); rw [pat 0 (by omega)] at h; exact h
      have k1 : w9.cell? ⟨gs, 1, none⟩ = some (.string (tx (pu bs 1))) := by have h := cel 1 (by omega); rw [pat 1 (by omega)] at h; exact h
      have k2 : w9.cell? ⟨gs, 2, none⟩ = some (.string (tx (pu bs 2))) := by have h := cel 2 (by omega); rw [pat 2 (by omega)] at h; exact h
      have k3 : w9.cell? ⟨gs, 3, none⟩ = some (.string (tx (pu bs 3))) := by have h := cel 3 (by omega); rw [pat 3 (by omega)] at h; exact h
      obtain ⟨lt, hlt'⟩ := Option.isSome_iff_exists.1 HTg.out
      have hT4 : T.length ≤ 400 := (gOk_lens hlt').2.1
      have HLt := Lib.hid hlt'
      have e0 := B8.out.cell 0
      have el := B8.out.lt
      clear cel pat hvs hlt'
      go_loop [13, 14] (fun d_ i_ => ∃ (i : Nat) (dd : ByteArray), i_ = .int .i64 i ∧ d_ = .string dd ∧ i ≤ s.size ∧ Hid (dd = tx ((u.take i).flatMap (pu bs)))) (fun _ i_ => s.size - (intOf i_).toNat)
      case atStart => exact ⟨0, ⟨#[]⟩, rfl, rfl, by omega, Lib.hid rfl⟩
      case round =>
        obtain ⟨i, dd, rfl, rfl, hi, hd⟩ := hrel
        by_cases hlt : i < s.size
        · have hlu : i < u.length := by rw [← HU.out]; exact hlt
          obtain ⟨hb, hk⟩ := Hs.out i hlt
          have hst : ∀ q, u.getD i 0 = q → Hid (dd ++ tx (pu bs q) = tx ((u.take (i + 1)).flatMap (pu bs))) := fun q hq => Lib.hid (by
            rw [hd.out, ← tx_app, List.take_succ_eq_append_getElem hlu, List.flatMap_append, List.flatMap_singleton, ← hq, List.getD_eq_getElem?_getD, List.getElem?_eq_getElem hlu]; rfl)
          have hdz : dd.size ≤ 120 := by
            rw [hd.out, tx_size]
            have := flat_len3 bs (u.take i)
            have := hlu
            have := hlu
            rw [List.length_take] at *
            have := hs8
            have := HU.out
            omega
          have p0 := pu_le bs 0
          have p1 := pu_le bs 1
          have p2 := pu_le bs 2
          have p3 := pu_le bs 3
          rw [← tx_size] at p0 p1 p2 p3
          have HST := Lib.hid hst
          have j0 : (0 : Int) ≤ (i : Int) := by omega
          have j1 : (i : Int) < (s.size : Int) := by omega
          clear hst hlu
          rcases (show u.getD i 0 = 0 ∨ u.getD i 0 = 1 ∨ u.getD i 0 = 2 ∨ u.getD i 0 = 3 by omega) with hk0 | hk0 | hk0 | hk0
          all_goals
            have hS := HST.out _ hk0
            rw [hk0] at hb
            clear hk hk0 HST
            go_wp2_with fail
            go_round
            case rel => exact ⟨i + 1, _, by go_num, rfl, by omega, Lib.hid hS.out⟩
            case measure => simp [intOf]; omega
        · have hdd : dd = tx (wdN T) := by
            rw [hd.out, HTw.out, List.take_of_length_le (by rw [← HU.out]; omega), HMl.out u HL4.out]
          have hTl : (wdN T).length ≤ 2000 := by
            rw [HTw.out, HMl.out u HL4.out]
            have := flat_len3 bs u
            have := hlu.out
            omega
          have CW := Lib.hid (a2Word_any A8 T.length c8 T lt w9 (Rd.of_own (fun x _ => fac_len x) rfl O8.out) (wf_sz (wf_of (gOk_lens HLt.out).1)) HLt.out dd hTl hdd.symm)
          clear hdd hTl hd
          go_wp2_with fail
          refine CW.out.mono ?_
          rintro e w10 ⟨rfl, hb10⟩
          go_wp2_with fail
          go_ret
          exact ⟨rfl, Q8.out.e.trans (hb10.mono Q8.out.e.size)⟩
set_option maxRecDepth 100000 in
theorem fnMapped_contract (H : Type) (enc : TypeId × Value → H) (W : World) (base : Nat) (args : Array Value) (ds gs : List (DataW H)) (before : List MemPlace)
    (hval : ∀ (j : Nat) t v, Try.f3.params[j]? = some t → args[j]? = some v → Value.okWide Try.prog W .any base t v)
    (hW : DataW.Whole enc Try.prog Try.f3.params.toList Rows.fnMappedSpec.vars false W args.toList ds gs before) :
    Calls Try.prog 3 args W fun e W' => ∃ v, e = .returned v ∧ Rows.fnMappedSpec.post enc Try.prog Try.f3 false true false false W args v W' := by
  have hW' := hW
  obtain ⟨p, q, hA0, hV, rfl, hfz, hnd⟩ := hW
  have hA : DataW.TrodAll enc Try.prog W 0 (fun _ => true) true Try.f3.params.toList args.toList ds p := hA0
  rw [Try.params3] at hA hval
  obtain ⟨v0, vs0, d0, ds0, p0, q0, hargs, rfl, rfl, h0, r0⟩ := trodAll_cons hA
  obtain ⟨v1, vs1, d1, ds1, p1, q1, rfl, rfl, rfl, h1, r1⟩ := trodAll_cons r0
  obtain ⟨rfl, rfl, rfl⟩ := trodAll_nil r1
  obtain rfl : args = #[v0, v1] := by cases args; simp_all
  obtain ⟨rfl, rfl⟩ := trodVars_none hV
  obtain ⟨A0, n0, c0, zs0, rfl, hn0, rd0, ok0⟩ := open_bytes Try.underlying22 Try.underlying5 (by kernel_rfl) (hval 0 22 v0 rfl rfl) h0
  obtain ⟨A1, n1, c1, zs1, rfl, hn1, rd1, ok1⟩ := open_bytes Try.underlying22 Try.underlying5 (by kernel_rfl) (hval 1 22 v1 rfl rfl) h1
  clear hA0
  refine (walkMapped A0 n0 c0 zs0 A1 n1 c1 zs1 W hn0 rd0 ok0 hn1 rd1 ok1).mono fun e W' ⟨he, hb⟩ => ?_
  subst he
  exact ⟨_, rfl, law_post laidOut hW' rfl 4 Try.underlying4 (by kernel_rfl) (by rw [Try.params3]; intro t ht; simp at ht; first | (subst ht; exact ⟨by kernel_rfl, of_decide_eq_true (by kernel_rfl)⟩) | (rcases ht with rfl | rfl <;> exact ⟨by kernel_rfl, of_decide_eq_true (by kernel_rfl)⟩) | (rcases ht with rfl | rfl | rfl <;> exact ⟨by kernel_rfl, of_decide_eq_true (by kernel_rfl)⟩) | (rcases ht with rfl | rfl | rfl | rfl <;> exact ⟨by kernel_rfl, of_decide_eq_true (by kernel_rfl)⟩)) rfl hb⟩

set_option maxRecDepth 100000 in
theorem fnMapped_lifted (os : Os) (started : os.Started) (H : Type) (enc : TypeId × Value → H) :
    ReturnsInHanded {} Try.checked os 3 .any (Rows.fnMappedSpec.pre6 enc Try.prog Try.f3 Rows.fnMappedRow.domain false) (Rows.fnMappedSpec.post enc Try.prog Try.f3 false true false false) := by
  refine returnsInHanded_of_change (C := Try.checked) own started (by kernel_rfl) Try.func3
    (ChangeSpec.witness6 (enc := enc) (C := Try.checked) false ⟨#[], #[.slice none 0 0, .slice none 0 0], []⟩ 8 (by kernel_rfl) (by kernel_rfl) (by kernel_rfl) (by kernel_rfl)) ?_
  intro W base args ds gs before hval0 hW hcnd _
  exact fnMapped_contract H enc W base args ds gs before hval0 hW

theorem fnMapped_holds : Rows.FnMappedSaid :=
  OpenClaim.holds_of_wide 3 Try.f3 rfl rfl rfl rfl rfl rfl rfl ⟨rfl, rfl, rfl, rfl, rfl⟩ rfl rfl rfl rfl rfl (by as_aux_lemma => kernel_rfl) Try.func3
    (joined_mk (by as_aux_lemma => kernel_rfl) laidOut mapsRowed' (by as_aux_lemma => kernel_rfl) (by as_aux_lemma => kernel_rfl) (by as_aux_lemma => kernel_rfl) (by as_aux_lemma => kernel_rfl) (by as_aux_lemma => kernel_rfl) (by as_aux_lemma => kernel_rfl) plainKeys' rfl heard' mayEnter' lifts' make' (by as_aux_lemma => kernel_rfl))
    (of_decide_eq_true (by kernel_rfl)) (by unfold Func.isWrapper; first | (rw [if_pos (by decide +kernel)]; kernel_rfl) | (rw [if_neg (by decide +kernel)]; exact ⟨rfl, rfl⟩))
    (fun os started H enc _ => fnMapped_lifted os started H enc)

end Go.Proofs.Ytfanphhlagjkdaa
