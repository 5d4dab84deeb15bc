/-
  Texts of this claim, merged: P6G WdT WdW PlainP MapI IdxR Ints StrS IdxS MapP Found PlainS MapS.
-/
import Derived.Test.YtfanphhlagjkdaaP3
import Derived.Deep.RegionLaw
import Derived.Deep.DeepCutAuto


/-
  The grammars that a law draws.
-/
namespace Go.Proofs.Ytfanphhlagjkdaa
open Go.RowKit

/-- a grammar that is drawn, in memory of its own -/
def GrNew (w : World) (most : Int) (e : Ending) (w' : World) : Prop :=
  ∃ A c rs, e = .returned (.agg #[.slice A rs.length c]) ∧ DgOk rs most ∧ w'.ownsRow w.heap.size 65 3 (.slice A rs.length c) rs.length (rs.flatMap Fac.cells) ∧ Below w.heap.size w w'
theorem DgOk.gok {rs : List Fac} {most : Int} (h : DgOk rs most) : (gOk rs).isSome = true := small_ok h.wf (by have := h.few; omega)
set_option maxHeartbeats 1000000 in
theorem p6Grammar_any (A : Option Addr) (n c : Nat) (bs : List UInt8) (w : World) (hn : n ≤ 4096) (hr : Rd w w.heap.size A n 1 byteE bs) :
    Calls Try.prog 13 #[.slice A n c] w (GrNew w 8) := by
  have HR := Lib.hid hr; clear hr
  go_enter Try.func13, Try.ntmps13
  go_wp2_with fail
  refine namedC fun w0 H0 => ?_
  have hb0 : Below w.heap.size w w0 := by rw [H0.out]; (repeat first | exact Below.refl _ _ | assumption | refine Below.drew ?_ | refine Below.alloc ?_ (by first | exact Nat.le_refl _ | (simp; done) | omega | (simp; omega)) _ | refine Below.setCell ?_ (by first | exact Nat.le_refl _ | (simp; done) | omega | (simp; omega)) _)
  have B0 := Lib.hid (show Blk w0 w.heap.size 26 #[.slice none 0 0] by rw [H0.out]; exact Blk.new _ _ _)
  clear H0
  refine (l00From_any A n c bs w0 hn (HR.out.next hb0)).mono ?_
  rintro e w1 ⟨g, rfl, hg, s1, hb1⟩
  have b1 := hb0.trans (hb1.mono hb0.size)
  have B1 := Lib.hid (B0.out.next hb1)
  have hlt := B0.out.lt
  go_wp2_with fail
  refine (l02Drawn_any g 0 8 w1 s1 (by omega) (by omega) (by omega)).mono ?_
  rintro e w2 ⟨A2, c2, rs, rfl, ok, own2, s2, g2⟩
  have B2 := Lib.hid (B1.out.grown g2 (by intro e; injection e with e; omega))
  have b2 := Lib.hid (b1.grown g2 b1.size (fun k e => by injection e; omega))
  have O2 := Lib.hid (own_kept' (i := 0) (own2.mono b1.size) B2.out (by decide) (.slice A2 rs.length c2))
  have Ok := Lib.hid ok
  have r0 := B2.out.cell 0
  have rf := B2.out.frozen
  have rl := B2.out.lt
  have x5 := (B2.out.set_ 0 (.slice A2 rs.length c2)).cell 0
  have b3 := Lib.hid (b2.out.setCell (p := ⟨w.heap.size, 0, none⟩) (Nat.le_refl _) (.slice A2 rs.length c2))
  clear own2 s2 g2 ok
  go_wp2_with fail
  refine bodyPost_ret (v := .agg #[.slice A2 rs.length c2]) (by simp [results, Try.results13, go_sem]; rw [x5]; rfl) rfl ?_
  exact ⟨A2, c2, rs, rfl, Ok.out, O2.out, b3.out⟩
set_option maxHeartbeats 1000000 in
theorem a2Grammar_any (A : Option Addr) (n c : Nat) (bs : List UInt8) (most : Int) (w : World) (hn : n ≤ 4096) (hr : Rd w w.heap.size A n 1 byteE bs) (hm0 : 1 ≤ most) (hm : most ≤ 100000) :
    Calls Try.prog 7 #[.slice A n c, .int .i64 most] w (GrNew w most) := by
  have HR := Lib.hid hr; clear hr
  go_enter Try.func7, Try.ntmps7
  go_wp2_with fail
  refine namedC fun w0 H0 => ?_
  have hb0 : Below w.heap.size w w0 := by rw [H0.out]; (repeat first | exact Below.refl _ _ | assumption | refine Below.drew ?_ | refine Below.alloc ?_ (by first | exact Nat.le_refl _ | (simp; done) | omega | (simp; omega)) _ | refine Below.setCell ?_ (by first | exact Nat.le_refl _ | (simp; done) | omega | (simp; omega)) _)
  have B0 := Lib.hid (show Blk w0 w.heap.size 26 #[.slice none 0 0] by rw [H0.out]; exact Blk.new _ _ _)
  clear H0
  refine (l00From_any A n c bs w0 hn (HR.out.next hb0)).mono ?_
  rintro e w1 ⟨g, rfl, hg, s1, hb1⟩
  have b1 := hb0.trans (hb1.mono hb0.size)
  have B1 := Lib.hid (B0.out.next hb1)
  have hlt := B0.out.lt
  go_wp2_with fail
  refine (l02Drawn_any g 0 most w1 s1 (by omega) hm0 hm).mono ?_
  rintro e w2 ⟨A2, c2, rs, rfl, ok, own2, s2, g2⟩
  have B2 := Lib.hid (B1.out.grown g2 (by intro e; injection e with e; omega))
  have b2 := Lib.hid (b1.grown g2 b1.size (fun k e => by injection e; omega))
  have O2 := Lib.hid (own_kept' (i := 0) (own2.mono b1.size) B2.out (by decide) (.slice A2 rs.length c2))
  have Ok := Lib.hid ok
  have r0 := B2.out.cell 0
  have rf := B2.out.frozen
  have rl := B2.out.lt
  have x5 := (B2.out.set_ 0 (.slice A2 rs.length c2)).cell 0
  have b3 := Lib.hid (b2.out.setCell (p := ⟨w.heap.size, 0, none⟩) (Nat.le_refl _) (.slice A2 rs.length c2))
  clear own2 s2 g2 ok
  go_wp2_with fail
  refine bodyPost_ret (v := .agg #[.slice A2 rs.length c2]) (by simp [results, Try.results7, go_sem]; rw [x5]; rfl) rfl ?_
  exact ⟨A2, c2, rs, rfl, Ok.out, O2.out, b3.out⟩
end Go.Proofs.Ytfanphhlagjkdaa


/-
  The letters of a grammar's word, in the reference.
-/
namespace Go.Proofs.Ytfanphhlagjkdaa
open Go.RowKit

def lt8 (u : List Nat) (i : Nat) : Value := .int .u8 ((97 + u.getD i 0 : Nat) : Int)
theorem wds_get_pair {rs : List Fac} (hwf : WF rs) {k : Nat} {r : Fac} (h : rs[k]? = some r) (h0 : r.l.size = 0) : (wds rs).getD k [] = (wds rs).getD r.a.toNat [] ++ (wds rs).getD r.b.toNat [] := full_pair [] wdF wdG hwf h h0
theorem wds_get_let {rs : List Fac} {k : Nat} {r : Fac} (h : rs[k]? = some r) {c : UInt8} (hl : r.l = ⟨#[c]⟩) : (wds rs).getD k [] = [c.toNat - 97] := by
  have := full_let [] wdF wdG h (by rw [hl]; show (1 : Nat) ≠ 0; omega)
  rw [hl] at this
  exact this
set_option maxHeartbeats 2000000 in
set_option maxRecDepth 100000 in
theorem l02Letter_any (gb : Nat) (A : Option Addr) (n c : Nat) (rs : List Fac) (B : Option Addr) (m d : Nat) (ls : List Int) (i : Nat) (w : World) (hg : gb < w.heap.size) (hc : w.cell? ⟨gb, 0, none⟩ = some (.slice A n c)) (hn4 : n ≤ 400)
    (hr : Rd w w.heap.size A n 3 Fac.cells rs) (hl : Rd w w.heap.size B m 1 intE ls) (hls : gLens rs [] = some ls) (hi : i < (wdN rs).length) (hi4 : i ≤ 1000000000000000) :
    Calls Try.prog 67 #[.pointer (some ⟨gb, 0, none⟩), .slice B m d, .int .i64 i] w (Ret (lt8 (wdN rs) i) w) := by
  have hwf := Lib.hid (wf_of hls)
  have HN := Lib.hid hr.len
  have hne : rs ≠ [] := by intro e; rw [e] at hi; simp [wdN] at hi
  have hn0 : 0 < n := by rw [← HN.out]; exact List.length_pos_iff.2 hne
  have hml := gLens_len rs [] ls hls
  simp only [List.length_nil, Nat.zero_add] at hml
  have HM := Lib.hid (show m = n by rw [← hl.len, hml, HN.out])
  have HI := Lib.hid hi
  have HS := Lib.hid (show ((wds rs).getD (n - 1) [])[i]? = (wdN rs)[i]? by unfold wdN; rw [if_neg hne, HN.out])
  have HL := Lib.hid hl
  have HR := Lib.hid hr
  have HLs := Lib.hid hls
  obtain ⟨q, hq⟩ : ∃ q, n - 1 = q := ⟨_, rfl⟩
  have hqn : q < n := by omega
  have um : IntKind.i64.wrap ((n : Int) - 1) = (q : Int) := by rw [IntWalk.i64_in _ (by omega)]; omega
  rw [hq] at HS
  clear hr hl hls hi hml hq
  go_enter Try.func67, Try.ntmps67
  go_wp2_with fail
  clear um
  go_loop [2, 7] (fun i_ at_ => ∃ (a j : Nat), at_ = .int .i64 a ∧ i_ = .int .i64 j ∧ a < n ∧ j ≤ i ∧ Hid (((wds rs).getD a [])[j]? = (wdN rs)[i]?)) (fun _ at_ => (intOf at_).toNat)
  case atStart => exact ⟨q, i, rfl, rfl, hqn, Nat.le_refl _, HS⟩
  case round =>
    obtain ⟨a, j, rfl, rfl, ha, hj, H⟩ := hrel
    clear HS
    obtain ⟨b, o, x, rfl, hB, gx, c0, c1, c2⟩ := HR.out.fac ha
    have Gx := Lib.hid gx
    have i0 : (0 : Int) ≤ (a : Int) := by omega
    have i1 : (a : Int) < (n : Int) := by omega
    have hjl : j < ((wds rs).getD a []).length := by
      have h1 := H.out
      rw [List.getElem?_eq_getElem HI.out] at h1
      exact (List.getElem?_eq_some_iff.1 h1).1
    have HJ := Lib.hid hjl
    clear gx hjl
    rcases hwf.out a x Gx.out with ⟨h0, ha0, ha1, hb0, hb1⟩ | ⟨cc, hcc, hxl, hxa, hxb⟩
    · have e0 := size0 h0
      obtain ⟨l, hle⟩ : ∃ l : Nat, x.a = l := ⟨x.a.toNat, by omega⟩
      obtain ⟨r, hre⟩ : ∃ r : Nat, x.b = r := ⟨x.b.toNat, by omega⟩
      have hw := wds_get_pair hwf.out Gx.out h0
      rw [hle, hre, Int.toNat_natCast, Int.toNat_natCast] at hw
      have HW := Lib.hid hw
      rw [hle] at c1 ha1
      rw [hre] at c2 hb1
      obtain ⟨b', o', y, rfl, hB', gy, d0⟩ := (show Rd w w.heap.size B m 1 (fun s => [.int .i64 s]) ls from HL.out).int (show l < m by rw [HM.out]; omega)
      have hy : y = (((wds rs).getD l []).length : Int) := by
        have := lens_word HLs.out (k := l) (by have := HN.out; omega)
        rw [List.getD_eq_getElem?_getD, gy] at this
        exact this
      have Hy := Lib.hid hy
      obtain ⟨L, hL⟩ : ∃ L, ((wds rs).getD l []).length = L := ⟨_, rfl⟩
      rw [hL] at hy
      have HLl := Lib.hid hL
      subst hy
      have l0 : (0 : Int) ≤ (l : Int) := by omega
      have l1 : (l : Int) < (m : Int) := by have := HM.out; omega
      clear hw hle hre ha0 hb0 gy hL h0
      by_cases hjL : j < L
      · have c3 : (j : Int) < (L : Int) := by omega
        go_wp2_with fail
        go_round
        case rel => exact ⟨l, j, rfl, rfl, by omega, hj, Lib.hid (by rw [← H.out, HW.out, List.getElem?_append_left (by rw [HLl.out]; exact hjL)])⟩
        case measure => simp [intOf]; omega
      · have c3 : ¬ (j : Int) < (L : Int) := by omega
        have um : IntKind.i64.wrap ((j : Int) - (L : Int)) = ((j - L : Nat) : Int) := by rw [IntWalk.i64_in _ (by omega)]; omega
        go_wp2_with fail
        go_round
        case rel => exact ⟨r, j - L, rfl, by go_num, by omega, by omega, Lib.hid (by rw [← H.out, HW.out, List.getElem?_append_right (by rw [HLl.out]; omega), HLl.out])⟩
        case measure => simp [intOf]; omega
    · have hw := wds_get_let Gx.out hxl
      have hj0 : j = 0 := by
        have := HJ.out
        rw [hw] at this
        simp at this; exact this
      have hlet := letB_num hcc
      have hv : (97 + (wdN rs).getD i 0 : Nat) = cc.toNat := by
        have h1 := H.out
        rw [hw, hj0] at h1
        rw [List.getD_eq_getElem?_getD, ← h1]
        simp; omega
      have HV := Lib.hid (show lt8 (wdN rs) i = .int .u8 (cc.toNat : Int) by unfold lt8; rw [hv])
      obtain ⟨xl, xa, xb⟩ := x
      simp only at hxl hxa hxb c0 c1 c2
      subst hxl hxa hxb
      have e1 := size1 (s := ⟨#[cc]⟩) (show (1 : Nat) ≠ 0 by omega)
      have e2 := size1' (s := ⟨#[cc]⟩) (show (1 : Nat) ≠ 0 by omega)
      clear hw hv hcc hlet
      go_wp2_with fail
      go_ret
      rw [HV.out]
      exact ⟨rfl, Below.refl _ _⟩
end Go.Proofs.Ytfanphhlagjkdaa


/-
  A grammar unpacked, in the reference.
-/
namespace Go.Proofs.Ytfanphhlagjkdaa
open Go.RowKit

/-- letters as bytes -/
theorem byteE_let (u : List Nat) (i : Nat) (h : ∀ x ∈ u, x < 4) : [lt8 u i] = byteE (UInt8.ofNat (97 + u.getD i 0)) := by
  have hb : u.getD i 0 < 4 := by
    rw [List.getD_eq_getElem?_getD]
    cases e : u[i]? with
    | none => simp
    | some x => exact h x (List.mem_of_getElem? e)
  have e : (UInt8.ofNat (97 + u.getD i 0)).toNat = 97 + u.getD i 0 := by rw [UInt8.toNat_ofNat']; omega
  unfold lt8 byteE
  rw [e]
theorem txB_snoc (u : List Nat) {i : Nat} (hi : i < u.length) : txB (u.take i) ++ [UInt8.ofNat (97 + u.getD i 0)] = txB (u.take (i + 1)) := by
  rw [List.take_succ_eq_append_getElem hi]
  unfold txB
  rw [List.map_append, List.getD_eq_getElem?_getD, List.getElem?_eq_getElem hi]; rfl
theorem txB_len (u : List Nat) : (txB u).length = u.length := by simp [txB]
set_option maxHeartbeats 2000000 in
set_option maxRecDepth 100000 in
/-- the whole word -/
theorem l02Unpack_any (gb : Nat) (A : Option Addr) (n c : Nat) (rs : List Fac) (ls : List Int) (w : World) (hg : gb < w.heap.size) (hc : w.cell? ⟨gb, 0, none⟩ = some (.slice A n c)) (hr : Rd w w.heap.size A n 3 Fac.cells rs)
    (hok : ∀ f ∈ rs, f.l.size ≤ maxLen) (hls : gOk rs = some ls) (hlen : (wdN rs).length ≤ 1048576) :
    Calls Try.prog 39 #[.pointer (some ⟨gb, 0, none⟩), .int .i64 0, .int .i64 ((wdN rs).length : Nat)] w (Ret (.string (tx (wdN rs))) w) := by
  have HN := Lib.hid hr.len
  have hn4 : n ≤ 400 := by have := (gOk_lens hls).2.1; have := HN.out; omega
  have HL := Lib.hid (l02Lengths_any gb A n c rs w hg hc (by omega) hr hok)
  have HLT := Lib.hid (fun (B : Option Addr) (d : Nat) (i : Nat) (w' : World) (hb : Below w.heap.size w w') (h : Rd w' w'.heap.size B ls.length 1 intE ls) (hi : i < (wdN rs).length) =>
    l02Letter_any gb A n c rs B ls.length d ls i w' (by have := hb.size; omega) ((hb.cell (p := ⟨gb, 0, none⟩) hg).trans hc) hn4 (hr.next hb) h (gOk_lens hls).1 hi (by omega))
  have HW := Lib.hid (wdN_let (wf_of (gOk_lens hls).1))
  have HLs := Lib.hid hls
  clear hr hok hls hg hc
  generalize wdN rs = u at *
  obtain ⟨L, hL⟩ : ∃ L, u.length = L := ⟨_, rfl⟩
  have HU := Lib.hid hL
  rw [hL] at hlen ⊢
  clear hL
  go_enter Try.func39, Try.ntmps39
  go_wp2_with fail
  refine HL.out.mono ?_
  rintro e w1 ⟨hb1, ⟨ls', A', c', hgl, rfl, own1⟩ | ⟨hgl, _⟩⟩
  · obtain rfl : ls = ls' := by have := HLs.out.symm.trans hgl; injection this
    have O1 := Lib.hid (own1.alloc (.cells #[] 5))
    have W1 := Lib.hid (World.ownsRow_made (base := w.heap.size) (e := 5) (size := 1) w1 #[] 0 (by have := hb1.size; omega) (by unfold maxLen; omega) rfl)
    have B1 := Lib.hid (show Below w.heap.size w (w1.alloc (.cells #[] 5)) from hb1.alloc hb1.size _)
    clear hgl own1 hb1
    go_wp2_with fail
    go_loopw [9, 10] (fun o_ k_ w' => ∃ (k : Nat) (A2 : Option Addr) (c2 : Nat), k_ = .int .i64 k ∧ o_ = .slice A2 k c2 ∧ k ≤ L ∧ Hid (w'.ownsRow w.heap.size 5 1 (.slice A2 k c2) k ((txB (u.take k)).flatMap byteE)) ∧
        Hid (w'.ownsRow w.heap.size 2 1 (.slice A' ls.length c') ls.length (ls.flatMap intE)) ∧ Hid (Below w.heap.size w w')) (fun _ k_ _ => L - (intOf k_).toNat)
    case atStart => exact ⟨0, _, 0, rfl, rfl, by omega, Lib.hid (by simpa [txB] using W1.out), O1, B1⟩
    case round =>
      obtain ⟨k, A2, c2, rfl, rfl, hk, hown, hlr, hbb⟩ := hrel
      clear W1 O1 B1
      by_cases hlt : k < L
      · have hku : k < u.length := by rw [HU.out]; exact hlt
        have hlet := Lib.hid (show [.int .u8 (((97 + u.getD k 0 : Nat)) : Int)] = byteE (UInt8.ofNat (97 + u.getD k 0)) from byteE_let u k HW.out)
        have hsn := Lib.hid (txB_snoc u hku)
        have hkl := Lib.hid (show (txB (u.take k)).length = k by rw [txB_len, List.length_take]; omega)
        have RL := Lib.hid (Rd.of_own (enc := intE) (fun _ _ => rfl) rfl hlr.out)
        have C := Lib.hid (show Calls _ _ _ _ (Ret (.int .u8 (((97 + u.getD k 0 : Nat)) : Int)) wr) from HLT.out A' c' k wr hbb.out RL.out hku)
        generalize hz : 97 + u.getD k 0 = z at *
        clear hz
        generalize UInt8.ofNat z = b8 at *
        have i1 : (k : Int) < (L : Int) := by omega
        clear hku
        go_wp2_with fail
        refine C.out.mono ?_
        rintro e w3 ⟨rfl, hb3⟩
        have O3 := Lib.hid ((own_next hown.out hb3).alloc (.cells #[.int .u8 (z : Int)] 5))
        have L3 := Lib.hid ((own_next hlr.out hb3).alloc (.cells #[.int .u8 (z : Int)] 5))
        have B3 := Lib.hid (hbb.out.trans (hb3.mono hbb.out.size))
        have B3' := Lib.hid (show Below w.heap.size w (w3.alloc (.cells #[.int .u8 (z : Int)] 5)) from B3.out.alloc B3.out.size _)
        clear hb3
        go_wp2_with
          (at_builtin
           refine wpList_push (w0 := w) rfl _ _ _ rfl w.heap.size 5 1 1 elem_byte byteE A2 k c2 (txB (u.take k)) rfl O3.out w3.heap.size b8 #[.int .u8 (z : Int)] 5 (0, 0) rfl (heap_alloc_new _ _) hlet.out rfl (by simp [byteE, Value.oneCell']) (by omega) (by omega) (by unfold maxLen; omega) rfl B3'.out ?_
           intro A9 c9 w9 own9 hg9 hat9 hb9
           have O9 := Lib.hid own9
           have L9 := Lib.hid (L3.out.kept hg9 (own_ne L3.out O3.out (by decide)))
           have B9 := Lib.hid hb9
           clear own9 hg9 hat9 hb9)
        go_roundw
        case rel => exact ⟨k + 1, A9, c9, by go_num, rfl, by omega, Lib.hid (by rw [← hsn.out]; exact O9.out), L9, B9⟩
        case measure => simp [intOf]; omega
      · obtain rfl : k = L := by omega
        have ht : u.take k = u := List.take_of_length_le (by rw [HU.out]; omega)
        have ho := hown.out
        rw [ht] at ho
        have hcv := conv_own ho (by rw [txB_len, HU.out])
        have HT := Lib.hid (show tx u = ⟨(txB u).toArray⟩ from rfl)
        clear ho ht
        go_wp2_with fail
        go_ret
        rw [HT.out]
        exact ⟨rfl, hbb.out⟩
  · rw [HLs.out] at hgl; cases hgl
section
variable (A : Option Addr) (n c : Nat) (rs : List Fac) (ls : List Int) (w : World) (hr : Rd w w.heap.size A n 3 Fac.cells rs) (hok : ∀ f ∈ rs, f.l.size ≤ maxLen) (hls : gOk rs = some ls)
include hr hok hls
set_option maxHeartbeats 1000000 in
/-- a short word -/
theorem unpackWord_any (hlen : (wdN rs).length ≤ 2000) : Calls Try.prog 14 #[.agg #[.slice A n c]] w (Ret (.tuple #[.string (tx (wdN rs)), .int .i64 0]) w) := by
  have HN := Lib.hid hr.len
  have hn4 : n ≤ 400 := by have := (gOk_lens hls).2.1; have := HN.out; omega
  have hb0 : Below w.heap.size w (w.alloc (.cells #[.slice A n c] 26)) := by (repeat first | exact Below.refl _ _ | assumption | refine Below.drew ?_ | refine Below.alloc ?_ (by first | exact Nat.le_refl _ | (simp; done) | omega | (simp; omega)) _ | refine Below.setCell ?_ (by first | exact Nat.le_refl _ | (simp; done) | omega | (simp; omega)) _)
  have B0 := Lib.hid (Blk.new w 26 #[.slice A n c])
  have hlw := Lib.hid (last_word (gOk_lens hls).1)
  have OK := Lib.hid (fun W (hb : Below w.heap.size w W) (hB : Blk W w.heap.size 26 #[.slice A n c]) => l02Ok_any w.heap.size A n c rs W hB.lt (hB.cell 0) (by omega) (hr.next hb) hok true (by rw [hls]; rfl))
  have LE := Lib.hid (fun W (hb : Below w.heap.size w W) (hB : Blk W w.heap.size 26 #[.slice A n c]) => l02Length_any w.heap.size A n c rs W hB.lt (hB.cell 0) (by omega) (hr.next hb) hok ls (gOk_lens hls).1)
  have UN := Lib.hid (fun W (hb : Below w.heap.size w W) (hB : Blk W w.heap.size 26 #[.slice A n c]) => l02Unpack_any w.heap.size A n c rs ls W hB.lt (hB.cell 0) (hr.next hb) hok hls (by omega))
  rw [hlw.out] at LE
  clear hr hok hls hlw
  generalize wdN rs = u at *
  generalize u.length = L at *
  go_enter Try.func14, Try.ntmps14
  go_wp2_with fail
  refine (OK.out _ hb0 B0.out).mono ?_
  rintro e w1 ⟨rfl, hb1⟩
  have b1 := Lib.hid (hb0.trans (hb1.mono (by simp)))
  have B1 := Lib.hid (B0.out.next hb1)
  go_wp2_with fail
  refine (LE.out _ b1.out B1.out).mono ?_
  rintro e w2 ⟨rfl, hb2⟩
  have b2 := Lib.hid (b1.out.trans (hb2.mono b1.out.size))
  have B2 := Lib.hid (B1.out.next hb2)
  have hL : ¬ (2000 : Int) < (L : Int) := by omega
  clear hb1 hb2 hb0
  go_wp2_with fail
  refine (UN.out _ b2.out B2.out).mono ?_
  rintro e w3 ⟨rfl, hb3⟩
  have b3 := Lib.hid (b2.out.trans (hb3.mono b2.out.size))
  clear hb3
  go_wp2_with fail
  go_ret2
  exact ⟨rfl, b3.out⟩
set_option maxHeartbeats 1000000 in
theorem unpacked_any (hlen : (wdN rs).length ≤ 2000) : Calls Try.prog 8 #[.agg #[.slice A n c]] w (Ret (.string (tx (wdN rs))) w) := by
  have hb0 : Below w.heap.size w (w.alloc (.cells #[.slice A n c] 26)) := by (repeat first | exact Below.refl _ _ | assumption | refine Below.drew ?_ | refine Below.alloc ?_ (by first | exact Nat.le_refl _ | (simp; done) | omega | (simp; omega)) _ | refine Below.setCell ?_ (by first | exact Nat.le_refl _ | (simp; done) | omega | (simp; omega)) _)
  have B0 := Lib.hid (Blk.new w 26 #[.slice A n c])
  have UN := Lib.hid (fun W (hb : Below w.heap.size w W) => unpackWord_any A n c rs ls W (hr.next hb) hok hls hlen)
  have c0 := B0.out.cell 0
  have l0 := B0.out.lt
  clear hr hok hls
  generalize wdN rs = u at *
  go_enter Try.func8, Try.ntmps8
  go_wp2_with fail
  refine (UN.out _ hb0).mono ?_
  rintro e w1 ⟨rfl, hb1⟩
  have b1 := Lib.hid (hb0.trans (hb1.mono (by simp)))
  clear hb1
  go_wp2_with fail
  go_ret
  exact ⟨rfl, b1.out⟩
end
end Go.Proofs.Ytfanphhlagjkdaa


/-
  The grammar of a plain word in the program.
-/
namespace Go.Proofs.Ytfanphhlagjkdaa
open Go.RowKit

/-- a slice of the call's own that is the beginning of one which is appended to -/
theorem own_prefix {W W' : World} {base E sz k n c0 c : Nat} {A0 A : Option Addr} {xs0 ys : List Value} (hsz : 0 < sz) (hL : W.ownsRow base E sz (.slice A0 k c0) k xs0) (hA : W.ownsRow base E sz (.slice A n c) n (xs0 ++ ys))
    (hA' : W'.ownsRow base E sz (.slice A n c) n (xs0 ++ ys)) (hg : W.grownBy W' (Value.slice A n c).ownBlock) : W'.ownsRow base E sz (.slice A0 k c0) k xs0 := by
  rcases hL.2 with ⟨hnil, hk⟩ | ⟨g0, cap0, cur0, hv0, hb0, hh0, hk0, hm0, hs0, ht0⟩
  · rw [hnil] at hL ⊢
    exact ⟨hL.1, .inl ⟨rfl, hk⟩⟩
  · by_cases hne : (Value.slice A n c).ownBlock = some g0
    · rcases hA'.2 with ⟨hnil, _⟩ | ⟨g1, cap1, cur1, hv1, hb1, hh1, hk1, hm1, hs1, ht1⟩
      · rw [hnil] at hne; cases hne
      · rcases hA.2 with ⟨hnil, _⟩ | ⟨g2, cap2, cur2, hv2, hb2, hh2, hk2, hm2, hs2, ht2⟩
        · rw [hnil] at hne; cases hne
        · rw [hv1] at hne
          have e1 : g1 = g0 := by simpa [Value.ownBlock] using hne
          have e2 : g1 = g2 ∧ cap1 = cap2 := by
            rw [hv1] at hv2; injection hv2 with q1 q2 q3; injection q1 with q1; injection q1 with q1; exact ⟨q1, q3⟩
          obtain ⟨e2, e3⟩ := e2
          subst e1 e2 e3
          have ec : cur0 = cur2 := by
            rw [hh0] at hh2; injection hh2 with q; injection q with q
          subst ec
          have ecap : cap0 = cap1 := by
            have := hs0.symm.trans hs2
            exact Nat.eq_of_mul_eq_mul_right hsz this
          subst ecap
          refine ⟨hL.1, .inr ⟨g1, cap0, cur1, hv0, hb0, hh1, hk0, hm0, hs1, ?_⟩⟩
          have hkn : k * sz ≤ n * sz := by
            have h1 := hA.1
            have h2 := hL.1
            rw [List.length_append] at h1; omega
          have e5 : cur1.toList.take (k * sz) = (cur1.toList.take (n * sz)).take (k * sz) := by rw [List.take_take, Nat.min_eq_left hkn]
          rw [e5, ht1, ← hL.1]
          exact List.take_left
    · refine hL.kept hg (.inr ?_)
      rw [hv0]
      intro e; exact hne e.symm

/-- the letters up to one -/
def ksT (w : List UInt8) (c : Int) : List UInt8 := [97, 98, 99, 100].filter (fun u => decide (u ∈ w) && decide ((u.toNat : Int) < c))
theorem ksT_first (w : List UInt8) : ksT w 97 = [] := by simp [ksT]
theorem ksT_last (w : List UInt8) : ksT w 101 = ksP w := by
  unfold ksT ksP
  apply List.filter_congr
  intro u hu
  have : (u.toNat : Int) < 101 := by
    simp only [List.mem_cons, List.not_mem_nil, or_false] at hu
    rcases hu with rfl | rfl | rfl | rfl <;> decide
  simp [this]
theorem ksT_step (w : List UInt8) (u : UInt8) (h : letB u = true) : ksT w ((u.toNat : Int) + 1) = if u ∈ w then ksT w u.toNat ++ [u] else ksT w u.toNat := by
  have h : (97 : Int) ≤ u.toNat ∧ (u.toNat : Int) ≤ 100 := by simpa [letB] using h
  have h4 : u = 97 ∨ u = 98 ∨ u = 99 ∨ u = 100 := by
    simp only [← UInt8.toNat_inj]
    have : u.toNat = 97 ∨ u.toNat = 98 ∨ u.toNat = 99 ∨ u.toNat = 100 := by omega
    exact this
  unfold ksT
  rcases h4 with rfl | rfl | rfl | rfl
  all_goals
    by_cases h1 : (97 : UInt8) ∈ w <;> by_cases h2 : (98 : UInt8) ∈ w <;> by_cases h3 : (99 : UInt8) ∈ w <;> by_cases h4 : (100 : UInt8) ∈ w <;> simp [h1, h2, h3, h4]
theorem ksT_le (w : List UInt8) (c : Int) : (ksT w c).length ≤ 4 := by
  unfold ksT; exact Nat.le_trans (List.length_filter_le _ _) (by simp)

theorem okW_at {s : ByteArray} (h : okW s = true) {i : Nat} (hi : i < s.size) : letB s[i] = true := by
  unfold okW at h
  simp only [Bool.and_eq_true, List.all_eq_true] at h
  exact h.2 _ (List.mem_of_getElem? (at_byte s i hi))
theorem okW_size {s : ByteArray} (h : okW s = true) : s.size ≤ 2000 := by
  unfold okW at h
  simp only [Bool.and_eq_true, decide_eq_true_eq] at h
  exact h.1
/-- 'plain' under way -/
structure PlW (w W : World) (s : ByteArray) (A : Option Addr) (n c : Nat) (rs : List Fac) : Prop where
  q : W.ownsRow w.heap.size 65 3 (.slice A n c) n (rs.flatMap Fac.cells)
  s : Blk W w.heap.size 9 #[.string s]
  o : Blk W (w.heap.size + 1) 26 #[.slice none 0 0]
  g : Blk W (w.heap.size + 2) 26 #[.slice A n c]
  e : Below w.heap.size w W
section
variable {w W W' : World} {s : ByteArray} {A : Option Addr} {n c : Nat} {rs : List Fac}
theorem PlW.next (h : PlW w W s A n c rs) (hb : Below W.heap.size W W') : PlW w W' s A n c rs :=
  ⟨own_next h.q hb, h.s.next hb, h.o.next hb, h.g.next hb, h.e.trans (hb.mono h.e.size)⟩
theorem PlW.alloc (h : PlW w W s A n c rs) (o : Obj) : PlW w (W.alloc o) s A n c rs := h.next ((Below.refl _ _).alloc (Nat.le_refl _) _)
theorem PlW.push {A8 : Option Addr} {k8 c8 : Nat} {rs' : List Fac} (h : PlW w W s A n c rs) (hq : W'.ownsRow w.heap.size 65 3 (.slice A8 k8 c8) k8 (rs'.flatMap Fac.cells)) (hg : W.grownBy W' (Value.slice A n c).ownBlock) :
    PlW w (W'.setCell ⟨w.heap.size + 2, 0, none⟩ (.slice A8 k8 c8)) s A8 k8 c8 rs' := by
  have hs' := h.s.grown hg (own_blk_ne h.q h.s (by decide))
  have ho' := h.o.grown hg (own_blk_ne h.q h.o (by decide))
  have hg' := h.g.grown hg (own_blk_ne h.q h.g (by decide))
  have he' := h.e.grown hg h.e.size (own_ge h.q)
  have hg2 := gb_set W' (w.heap.size + 2) 0 (.slice A8 k8 c8)
  exact ⟨own_kept' hq hg' (by decide) _, hs'.grown hg2 (by intro e; injection e with e; omega), ho'.grown hg2 (by intro e; injection e with e; omega), hg'.set_ 0 _, he'.setCell (by simp) _⟩
end
set_option maxHeartbeats 1000000 in
set_option maxRecDepth 100000 in
theorem plainOf_any (L S : Nat) (z : Int) (i k c0 : Nat) (A0 : Option Addr) (s : ByteArray) (w : World) (hz : z = (i : Int)) (hL : Blk w L 24 #[.slice A0 k c0]) (hS : Blk w S 9 #[.string s]) (hk : k ≤ 1048576)
    (hr : Rd w w.heap.size A0 k 3 Fac.cells (lettersP s.data.toList)) (hi : i < s.size) (hs : s.size ≤ maxLen) (hl : letB s[i] = true) :
    Calls Try.prog 62 #[.int .i64 z, .pointer (some ⟨L, 0, none⟩), .pointer (some ⟨S, 0, none⟩)] w (Ret (.int .i64 (atP s.data.toList s[i])) w) := by
  subst hz
  unfold maxLen at hs
  have hmem : s[i] ∈ s.data.toList := List.mem_of_getElem? (at_byte s i hi)
  have e := Lib.hid (atP_ix hmem hl)
  have l0 := hL.cell 0
  have lL := hL.lt
  have s0 := hS.cell 0
  have lS := hS.lt
  have HR := Lib.hid hr
  have i0 : (0 : Int) ≤ (i : Int) := by omega
  have i1 : (i : Int) < (s.size : Int) := by omega
  have hup := upc w.heap.size w
  clear hmem hr hL hS
  go_enter Try.func62, Try.ntmps62
  go_wp2_with fail
  refine wp_region_up w.heap.size (by kernel_rfl) (by kernel_rfl) ?_
  repeat (go_big_quiet_step ((first | (go_at_call 60; exact Calls.up (Nat.le_refl _) (letter_any s[i] _)) | (go_at_call 63; exact Calls.up (Nat.le_refl _) (indexR_any A0 k c0 (lettersP s.data.toList) (ruleC s[i]) _ hk ((HR.out.below (Up.h _)).more (Up.h _).size))))))
  refine wpQuiet_nil ?_
  intro w4 hup_w4
  have hb4 := up_of hup_w4
  go_wp2_with fail
  go_ret
  exact ⟨ret_int e.out, hb4⟩
set_option maxHeartbeats 4000000 in
set_option maxRecDepth 100000 in
theorem plain_any (s : ByteArray) (w : World) (ho : okW s = true) : Calls Try.prog 30 #[.string s] w (RetG w (plainL s.data.toList)) := by
  have hs := okW_size ho
  have HL := Lib.hid (fun (i : Nat) (hi : i < s.size) => okW_at ho hi)
  clear ho
  go_enter Try.func30, Try.ntmps30
  go_wp2_with fail
  refine named fun w0 H0 => ?_
  have P0 := Lib.hid (show PlW w w0 s none 0 0 [] by
    rw [H0.out]
    refine ⟨World.ownsRow_nil _ _ _ _, ?_, ?_, ?_, by (repeat first | exact Below.refl _ _ | assumption | refine Below.drew ?_ | refine Below.alloc ?_ (by first | exact Nat.le_refl _ | (simp; done) | omega | (simp; omega)) _ | refine Below.setCell ?_ (by first | exact Nat.le_refl _ | (simp; done) | omega | (simp; omega)) _)⟩
    · exact ((Blk.new w _ _).alloc _).alloc _
    · simpa using (Blk.new (w.alloc (.cells #[.string s] 9)) 26 #[.slice none 0 0]).alloc _
    · simpa using Blk.new ((w.alloc (.cells #[.string s] 9)).alloc (.cells #[.slice none 0 0] 26)) 26 #[.slice none 0 0])
  clear H0
  go_loopw [4] (fun c_ w' => ∃ (c : Int) (A : Option Addr) (n cp : Nat), c_ = .int .u8 c ∧ 97 ≤ c ∧ c ≤ 101 ∧ n ≤ 4 ∧ Hid ((ksT s.data.toList c).length = n) ∧ Hid (PlW w w' s A n cp ((ksT s.data.toList c).map ruleC))) (fun c_ _ => (101 - intOf c_).toNat)
  case atStart => exact ⟨97, none, 0, 0, rfl, by omega, by omega, by omega, Lib.hid (by rw [ksT_first]; rfl), by rw [ksT_first]; exact P0⟩
  case round =>
    obtain ⟨c, A, n, cp, rfl, hc0, hc1, hn4, hnl, P1⟩ := hrel
    have s0 := P1.out.s.cell 0
    have ls := P1.out.s.lt
    by_cases hlt : c ≤ 100
    · obtain ⟨u, hu⟩ : ∃ u : UInt8, (u.toNat : Int) = c := ⟨UInt8.ofNat c.toNat, by simp; omega⟩
      subst hu
      have hlb : letB u = true := by simp [letB]; omega
      have Hst := Lib.hid (ksT_step s.data.toList u hlb)
      obtain ⟨z, hz⟩ : ∃ z, Lib.indexByte s.data.toList ((u.toNat : Int)).toNat.toUInt8 = z := ⟨_, rfl⟩
      have hzm := indexByte_mem s.data.toList u
      rw [show ((u.toNat : Int)).toNat.toUInt8 = u by simp] at hz
      rw [hz] at hzm
      have HZ := Lib.hid (show Lib.indexByte s.data.toList ((u.toNat : Int)).toNat.toUInt8 = z by rw [show ((u.toNat : Int)).toNat.toUInt8 = u by simp]; exact hz)
      have HZM := Lib.hid hzm
      clear hz hzm hlb
      by_cases hzz : 0 ≤ z
      · have Hst2 := Lib.hid (show ksT s.data.toList ((u.toNat : Int) + 1) = ksT s.data.toList u.toNat ++ [u] by rw [Hst.out, if_pos (HZM.out.1 hzz)])
        go_upto_if 17 with (go_at_call 61; refine (indexByte_any s _ z _ HZ.out).mono ?_; rintro e w1 ⟨rfl, hb1⟩)
        have P2 := Lib.hid (P1.out.next hb1)
        have d0 := P2.out.g.cell 0
        have l0 := P2.out.g.lt
        have P3 := Lib.hid (P2.out.next (Below.refl _ _).drew)
        have lc := fun W => letter_any u W
        obtain ⟨y, hy⟩ : ∃ y, ruleC u = y := ⟨_, rfl⟩
        rw [hy] at lc
        have LC := Lib.hid lc
        have HY := Lib.hid hy
        clear lc hy
        have zk : (n + 1) * 32 ≤ 140737488355328 := by omega
        have zkm : n + 1 ≤ maxLen := by unfold maxLen; omega
        go_wp2_with fail
        go_region_law
          (first
            | (refine step_push (by rfl) _ _ _ (by rfl) w.heap.size 65 3 32 elem_rule Fac.cells A n cp ((ksT s.data.toList u.toNat).map ruleC) (by rfl) P6.out.q _ y #[.string y.l, .int .i64 y.a, .int .i64 y.b] 65 (0, 0) (by rfl) (heap_alloc_new _ _) rfl rfl (one_fac _) (by omega) zk zkm P6.out.e.size ?_
               intro A8 c8 w8 own8 hg8 old8
               have P5 := Lib.hid (P6.out.push own8 hg8)
               have B5 := P6.out.g.grown hg8 (own_blk_ne P6.out.q P6.out.g (by decide))
               have d5 := B5.cell 0
               have f5 := B5.frozen
               have l5 := B5.lt)
            | (go_simp
               go_wp2_with (go_at_call 60; refine (LC.out _).mono ?_; rintro e w4 ⟨rfl, hb4⟩)
               have P4 := Lib.hid (P3.out.next hb4)
               have P6 := Lib.hid (P4.out.alloc (.cells #[.string y.l, .int .i64 y.a, .int .i64 y.b] 65))
               have d4 := P4.out.g.cell 0
               have l4 := P4.out.g.lt))
        all_goals
          have e5 := Lib.hid (show (ksT s.data.toList u.toNat).map ruleC ++ [y] = (ksT s.data.toList ((u.toNat : Int) + 1)).map ruleC by rw [Hst2.out, List.map_append, ← HY.out]; rfl)
          have hn4' : n + 1 ≤ 4 := by
            have h1 := ksT_le s.data.toList ((u.toNat : Int) + 1)
            rw [Hst2.out, List.length_append, hnl.out] at h1; exact h1
          have hnl' := Lib.hid (show (ksT s.data.toList ((u.toNat : Int) + 1)).length = n + 1 by rw [Hst2.out, List.length_append, hnl.out]; rfl)
          go_wp2_with fail
          go_roundw
          case rel => exact ⟨(u.toNat : Int) + 1, A8, n + 1, c8, by go_num, by omega, by omega, hn4', hnl', by rw [← e5.out]; exact P5⟩
          case measure => simp [intOf]; omega
      · have Hst2 := Lib.hid (show ksT s.data.toList ((u.toNat : Int) + 1) = ksT s.data.toList u.toNat by rw [Hst.out, if_neg (fun h => hzz (HZM.out.2 h))])
        go_wp2_with (go_at_call 61; refine (indexByte_any s _ z _ HZ.out).mono ?_; rintro e w1 ⟨rfl, hb1⟩)
        have P2 := Lib.hid (P1.out.next hb1)
        go_roundw
        case rel => exact ⟨(u.toNat : Int) + 1, A, n, cp, by go_num, by omega, by omega, hn4, by rw [Hst2.out]; exact hnl, by rw [Hst2.out]; exact P2⟩
        case measure => simp [intOf]; omega
    · obtain rfl : c = 101 := by omega
      have hK := ksT_last s.data.toList
      rw [hK] at hnl P1
      clear hK
      have d0 := P1.out.g.cell 0
      have l0 := P1.out.g.lt
      go_wp2_with fail
      refine named fun w2 H2 => ?_
      have P2 := Lib.hid (show PlW w w2 s A n cp (lettersP s.data.toList) by rw [H2.out]; exact P1.out.alloc _)
      have BL := Lib.hid (show Blk w2 wr.heap.size 24 #[.slice A n cp] by rw [H2.out]; exact Blk.new _ _ _)
      have hLw : w.heap.size + 2 < wr.heap.size := l0
      clear H2 P1 d0 l0 hlt hc0 hc1
      generalize wr.heap.size = L at *
      have LP2 := Lib.hid P2.out.q
      have hll := Lib.hid (show (lettersP s.data.toList).length = n by rw [← hnl.out]; simp [lettersP])
      obtain ⟨bf0, hbf0, hpl0⟩ : ∃ bf : Int, ((∀ h : 0 < s.size, bf = atP s.data.toList s[0]) ∧ (s.size = 0 → bf = 0)) ∧ lettersP s.data.toList ++ pairsP s.data.toList (s.data.toList.drop 1) bf n = plainL s.data.toList := by
        by_cases h0 : 0 < s.size
        · refine ⟨atP s.data.toList s[0], ⟨fun _ => rfl, fun h => by omega⟩, ?_⟩
          have := drop_cons (at_byte s 0 h0)
          rw [List.drop_zero] at this
          generalize hq : s.data.toList.drop (0 + 1) = q at this
          unfold plainL
          rw [← hnl.out]
          split
          · rename_i h; rw [h] at this; cases this
          · rename_i c cs h
            have h2 := h.symm.trans this
            injection h2 with h3 h4
            rw [← h3, ← h4]
        · refine ⟨0, ⟨fun h => absurd h h0, fun _ => rfl⟩, ?_⟩
          have : s.data.toList = [] := List.eq_nil_of_length_eq_zero (by rw [byte_len]; omega)
          rw [this]; rfl
      go_loopw [7] (fun i_ w' => ∃ (i : Nat) (A' : Option Addr) (n' cp' : Nat) (rs more : List Fac) (bf : Int), i_ = .int .i64 i ∧ 1 ≤ i ∧ (i ≤ s.size ∨ i = 1) ∧ Hid (n' + 1 = n + i) ∧ Hid (rs = lettersP s.data.toList ++ more) ∧ Hid (rs.length = n') ∧
        Hid (PlW w w' s A' n' cp' rs) ∧ Hid (Blk w' L 24 #[.slice A n cp]) ∧ Hid (w'.ownsRow w.heap.size 65 3 (.slice A n cp) n ((lettersP s.data.toList).flatMap Fac.cells)) ∧
        Hid ((i = 1 → ∀ h : 0 < s.size, bf = atP s.data.toList s[0]) ∧ (i ≠ 1 → bf = (n' : Int) - 1)) ∧ Hid (rs ++ pairsP s.data.toList (s.data.toList.drop i) bf n' = plainL s.data.toList)) (fun i_ _ => s.size - (intOf i_).toNat)
      case atStart =>
        exact ⟨1, A, n, cp, _, [], bf0, rfl, by omega, by omega, Lib.hid rfl, Lib.hid (by simp), hll, P2, BL, LP2, Lib.hid ⟨fun _ h => hbf0.1 h, fun h => absurd rfl h⟩, Lib.hid hpl0⟩
      case round =>
        obtain ⟨i, A', n', cp', rs, more, bf, rfl, hi1, hi2, hn', hrs, hrl, PR, BR, LR, hbf, HQ⟩ := hrel
        have s1 := PR.out.s.cell 0
        have ls1 := PR.out.s.lt
        have g1 := PR.out.g.cell 0
        have lg1 := PR.out.g.lt
        have o1 := PR.out.o.cell 0
        have f1 := PR.out.o.frozen
        by_cases hlt : i < s.size
        · have hat := fun (j : Nat) (hj : j < s.size) => atP_lt (List.mem_of_getElem? (at_byte s j hj)) (HL.out j hj)
          have hat0 := hat 0 (by omega)
          have hati := hat i hlt
          have hkl : (ksP s.data.toList).length = n := hnl.out
          rw [hkl] at hat0 hati
          have hn1 : 1 ≤ n := by omega
          have hn1' : 1 ≤ n' := by have := hn'.out; omega
          have hn2' : n' ≤ 2010 := by have := hn'.out; omega
          have hbb : -1 ≤ bf ∧ bf ≤ 2010 := by
            by_cases h1 : i = 1
            · have := hbf.out.1 h1 (by omega); omega
            · have := hbf.out.2 h1; omega
          have u1 : IntKind.i64.wrap ((n' : Int) - 1) = (n' : Int) - 1 := IntWalk.i64_in _ (by omega)
          have Hat := Lib.hid hat0
          have Hati := Lib.hid hati
          clear hat hat0 hati hkl
          go_upto_if 39 with (fail)
          go_cut [8] (fun b_ wx => b_ = .int .i64 bf ∧ Hid (PlW w wx s A' n' cp' rs) ∧ Hid (Blk wx L 24 #[.slice A n cp]) ∧ Hid (wx.ownsRow w.heap.size 65 3 (.slice A n cp) n ((lettersP s.data.toList).flatMap Fac.cells)))
          case first =>
            by_cases h1 : i = 1
            · subst h1
              have hb1 := Lib.hid (hbf.out.1 rfl (by omega))
              go_wp2_with (go_at_call 62; refine (plainOf_any L w.heap.size 0 0 n cp A s _ rfl BR.out PR.out.s (by omega) (Rd.of_own (fun x _ => fac_len x) hll.out LR.out) (by omega) (by unfold maxLen; omega) (HL.out 0 (by omega))).mono ?_; rintro e w4 ⟨rfl, hb4⟩; rw [← hb1.out])
              go_meet
              exact ⟨rfl, Lib.hid (PR.out.next hb4), Lib.hid (BR.out.next hb4), Lib.hid (own_next LR.out hb4)⟩
            · have hb1 := Lib.hid (hbf.out.2 h1)
              have h1' : ((i : Int) == 1) = false := by simp; omega
              clear h1
              go_wp2_with fail
              go_meet
              exact ⟨by rw [hb1.out], PR, BR, LR⟩
          case rest =>
            obtain ⟨rfl, PC, BC, LC⟩ := hcut
            have hat2 := Hati.out
            have HLi := Lib.hid (HL.out i hlt)
            have hstep := Lib.hid (show (rs ++ [⟨⟨#[]⟩, bf, atP s.data.toList s[i]⟩]) ++ pairsP s.data.toList (s.data.toList.drop (i + 1)) ((n' : Int)) (n' + 1) = plainL s.data.toList by
              rw [← HQ.out, drop_cons (at_byte s i hlt), List.append_assoc]; rfl)
            have LO := Lib.hid (fun W (h1 : Blk W L 24 #[.slice A n cp]) (h2 : Blk W w.heap.size 9 #[.string s]) h3 => plainOf_any L w.heap.size (i : Int) i n cp A s W rfl h1 h2 (by omega) h3 hlt (by unfold maxLen; omega) HLi.out)
            have hv := Lib.hid (atP_lt (List.mem_of_getElem? (at_byte s i hlt)) HLi.out)
            generalize atP s.data.toList s[i] = v at *
            have lc := fun W => pairInt_any bf v W (by omega) (by omega)
            obtain ⟨y, hy⟩ : ∃ y : Fac, (⟨⟨#[]⟩, bf, v⟩ : Fac) = y := ⟨_, rfl⟩
            rw [hy] at lc hstep
            have LC' := Lib.hid lc
            clear lc hy hat2 s1 ls1 g1 lg1 o1 f1
            have P3 := Lib.hid (PC.out.next (Below.refl _ _).drew)
            have B3 := Lib.hid (BC.out.next (Below.refl _ _).drew)
            have L3 := Lib.hid (own_next LC.out (Below.refl _ _).drew)
            have d0 := PC.out.g.cell 0
            have l0 := PC.out.g.lt
            have zk : (n' + 1) * 32 ≤ 140737488355328 := by omega
            have zkm : n' + 1 ≤ maxLen := by unfold maxLen; omega
            go_wp2_with fail
            go_region_law
              (first
                | (refine step_push (by rfl) _ _ _ (by rfl) w.heap.size 65 3 32 elem_rule Fac.cells A' n' cp' rs (by rfl) P6.out.q _ y #[.string y.l, .int .i64 y.a, .int .i64 y.b] 65 (0, 0) (by rfl) (heap_alloc_new _ _) rfl rfl (one_fac _) (by omega) zk zkm P6.out.e.size ?_
                   intro A8 c8 w8 own8 hg8 old8
                   have P7 := Lib.hid (P6.out.push own8 hg8)
                   have L7 := Lib.hid (own_prefix (by omega) L6.out (show _ ∧ _ from by have q := P6.out.q; rw [hrs.out, List.flatMap_append] at q; exact q) (by rw [hrs.out, List.flatMap_append] at old8; exact old8) hg8)
                   have G7 := Lib.hid (P6.out.g.grown hg8 (own_blk_ne P6.out.q P6.out.g (by decide)))
                   have B7 := Lib.hid (B6.out.grown hg8 (own_blk_ne P6.out.q B6.out (by decide)))
                   have d5 := G7.out.cell 0
                   have f5 := G7.out.frozen
                   have l5 := G7.out.lt)
                | (go_simp
                   go_wp2_with (go_at_call 64; refine (LC'.out _).mono ?_; rintro e w5 ⟨rfl, hb5⟩)
                   have P6 := Lib.hid ((P4.out.next hb5).alloc (.cells #[.string y.l, .int .i64 y.a, .int .i64 y.b] 65))
                   have B6 := Lib.hid ((B4.out.next hb5).alloc (.cells #[.string y.l, .int .i64 y.a, .int .i64 y.b] 65))
                   have L6 := Lib.hid ((own_next L4.out hb5).alloc (.cells #[.string y.l, .int .i64 y.a, .int .i64 y.b] 65))
                   have d6 := (P4.out.next hb5).g.cell 0
                   have l6 := (P4.out.next hb5).g.lt)
                | (go_simp
                   go_wp2_with (go_at_call 62; refine (LO.out _ B3.out P3.out.s (Rd.of_own (fun x _ => fac_len x) hll.out L3.out)).mono ?_; rintro e w4 ⟨rfl, hb4⟩)
                   have P4 := Lib.hid (P3.out.next hb4)
                   have B4 := Lib.hid (B3.out.next hb4)
                   have L4 := Lib.hid (own_next L3.out hb4)
                   have d4 := P4.out.g.cell 0
                   have l4 := P4.out.g.lt))
            all_goals
              go_wp2_with fail
              go_roundw
              case rel =>
                refine ⟨i + 1, A8, n' + 1, c8, rs ++ [y], more ++ [y], (n' : Int), by go_num, by omega, by omega, Lib.hid (by have := hn'.out; omega), Lib.hid (by rw [hrs.out, List.append_assoc]), Lib.hid (by rw [List.length_append, hrl.out]; rfl), P7, Lib.hid ?_, Lib.hid ?_, Lib.hid ⟨fun h => by omega, fun _ => by omega⟩, hstep⟩
                · exact B7.out.far (show L ≠ w.heap.size + 2 by omega) _
                · exact own_kept' L7.out G7.out (by decide) _
              case measure => simp [intOf]; omega
        · have he := Lib.hid (show plainL s.data.toList = rs by
            rw [← HQ.out, List.drop_of_length_le (by rw [byte_len]; omega)]; simp [pairsP])
          go_wp2_with fail
          have hg := gb_set wr (w.heap.size + 1) 0 (.slice A' n' cp')
          have x9 := PR.out.o.set_ 0 (.slice A' n' cp')
          have x10 : (wr.setCell ⟨w.heap.size + 1, 0, none⟩ (.slice A' n' cp')).cell? ⟨w.heap.size + 1, 0, none⟩ = some (.slice A' n' cp') := by rw [x9.cell 0]; rfl
          refine bodyPost_ret (v := .agg #[.slice A' n' cp']) (by simp [results, Try.results30, go_sem, x10]) rfl ⟨A', cp', by rw [he.out, hrl.out], ?_, PR.out.e.grown hg PR.out.e.size (fun q hq => by injection hq with hq; omega)⟩
          rw [he.out, hrl.out]
          exact PR.out.q.kept hg (.inr fun e => own_blk_ne PR.out.q PR.out.o (by decide) e.symm)
end Go.Proofs.Ytfanphhlagjkdaa


/-
  The letters of a grammar replaced: the small functions.
-/
namespace Go.Proofs.Ytfanphhlagjkdaa
open Go.RowKit

set_option maxHeartbeats 2000000 in
set_option maxRecDepth 100000 in
theorem raised_any (A : Option Addr) (n c : Nat) (rs : List Fac) (by_ : Int) (w : World) (hn : n ≤ 100000) (hr : Rd w w.heap.size A n 3 Fac.cells rs) (hwf : WF rs) (h0 : 0 ≤ by_) (h1 : by_ ≤ 1048576) :
    Calls Try.prog 29 #[.slice A n c, .int .i64 by_] w (RetNew w 65 3 Fac.cells (raiseL by_ rs)) := by
  have hl := Lib.hid hr.len
  have HR := Lib.hid hr; clear hr
  have HW := Lib.hid hwf; clear hwf
  go_enter Try.func29, Try.ntmps29
  go_wp2_with fail
  go_loopw [5, 11] (fun o_ i_ w' => ∃ (k : Nat) (A' : Option Addr) (c' : Nat), i_ = .int .i64 k ∧ o_ = .slice A' k c' ∧ k ≤ n ∧
      Hid (w'.ownsRow w.heap.size 65 3 (.slice A' k c') k ((raiseL by_ (rs.take k)).flatMap Fac.cells)) ∧ Below w.heap.size w w') (fun _ i_ _ => n - (intOf i_).toNat)
  case atStart =>
    exact ⟨0, _, 0, rfl, rfl, by omega, Lib.hid (by simpa [raiseL] using World.ownsRow_made (base := w.heap.size) (e := 65) (size := 3) w #[] 0 (by simp) (by unfold maxLen; omega) rfl), by (repeat first | exact Below.refl _ _ | assumption | refine Below.drew ?_ | refine Below.alloc ?_ (by first | exact Nat.le_refl _ | (simp; done) | omega | (simp; omega)) _ | refine Below.setCell ?_ (by first | exact Nat.le_refl _ | (simp; done) | omega | (simp; omega)) _)⟩
  case round =>
    obtain ⟨k, A', c', rfl, rfl, hk, hown, hb⟩ := hrel
    by_cases hlt : k < n
    · obtain ⟨b, o, x, rfl, hB, gx, c0, c1, c2⟩ := (HR.out.next hb).fac hlt
      have Hst := Lib.hid (show raiseL by_ (rs.take (k + 1)) = raiseL by_ (rs.take k) ++ [rsF by_ x] by rw [take_succ_at gx]; simp [raiseL])
      rcases HW.out k x gx with ⟨h0', ha0, ha1, hb0, hb1⟩ | ⟨cc, hcc, hxl, hxa, hxb⟩
      · have Hy := Lib.hid (show rsF by_ x = ⟨x.l, x.a + by_, x.b + by_⟩ by unfold rsF; rw [if_pos h0'])
        have Hp := Lib.hid (show isP x = true by simp [isP, h0'])
        have i0 : (0 : Int) ≤ (k : Int) := by omega
        clear gx h0'
        go_wp2_with fail
        refine (isPair_any x true _ Hp.out).mono ?_
        rintro e w1 ⟨rfl, hb1'⟩
        have B1 := Lib.hid ((Blk.new wr 65 #[.string x.l, .int .i64 x.a, .int .i64 x.b]).next hb1')
        have b1 := (hb.alloc hb.size _).trans (hb1'.mono (by have := hb.size; simp; omega))
        have own1 := Lib.hid (own_next (hown.out.alloc _) hb1')
        have hz1 : w.heap.size ≤ wr.heap.size := hb.size
        obtain ⟨d0, d1, d2⟩ := B1.out.three
        have lx := B1.out.lt
        have fx := B1.out.frozen
        have B2 := Lib.hid ((B1.out.set_ 1 (.int .i64 (x.a + by_))).set_ 2 (.int .i64 (x.b + by_)))
        have hgm := gb_setCell (gb_set w1 wr.heap.size 1 (.int .i64 (x.a + by_))) 2 (.int .i64 (x.b + by_))
        have own2 := Lib.hid (own1.out.kept hgm (by
          cases hv : (Value.slice A' k c').ownBlock with
          | none => exact .inl rfl
          | some q => exact .inr fun e => by injection e with e; have := (hown.out.lt q hv).2; omega))
        have b2 := (b1.setCell (p := ⟨wr.heap.size, 1, none⟩) hz1 (.int .i64 (x.a + by_))).setCell (p := ⟨wr.heap.size, 2, none⟩) hz1 (.int .i64 (x.b + by_))
        obtain ⟨e0, e1, e2⟩ := B2.out.three
        have BN0 := Blk.new ((w1.setCell ⟨wr.heap.size, 1, none⟩ (.int .i64 (x.a + by_))).setCell ⟨wr.heap.size, 2, none⟩ (.int .i64 (x.b + by_))) 65 #[.string x.l, .int .i64 (x.a + by_), .int .i64 (x.b + by_)]
        rw [show ((w1.setCell ⟨wr.heap.size, 1, none⟩ (.int .i64 (x.a + by_))).setCell ⟨wr.heap.size, 2, none⟩ (.int .i64 (x.b + by_))).heap.size = w1.heap.size by simp] at BN0
        have BN := Lib.hid BN0
        clear hgm BN0
        go_wp2_with
          (at_builtin
           refine wpList_push (w0 := w) rfl _ _ _ rfl w.heap.size 65 3 32 elem_rule Fac.cells _ k c' (raiseL by_ (rs.take k)) rfl (own2.out.alloc _) w1.heap.size ⟨x.l, x.a + by_, x.b + by_⟩ #[.string x.l, .int .i64 (x.a + by_), .int .i64 (x.b + by_)] 65 (0, 0) rfl BN.out rfl rfl (one_fac _) (by omega) (by omega) (by unfold maxLen; omega) rfl (b2.alloc b2.size _) ?_
           intro A9 c9 w9 own9 hg9 hat9 hb9
           have O9 := Lib.hid own9; clear own9)
        go_roundw
        case rel =>
          refine ⟨k + 1, A9, c9, by go_num, rfl, by omega, Lib.hid ?_, hb9⟩
          rw [Hst.out, Hy.out]; exact O9.out
        case measure => simp [intOf]; omega
      · have Hy := Lib.hid (show rsF by_ x = x by unfold rsF; rw [if_neg (by rw [hxl]; show ¬ (1 : Nat) = 0; omega)])
        have Hp := Lib.hid (show isP x = false by unfold isP; rw [hxl]; rfl)
        clear hxl hxa hxb gx
        go_wp2_with fail
        refine (isPair_any x false _ Hp.out).mono ?_
        rintro e w1 ⟨rfl, hb1'⟩
        have B1 := Lib.hid ((Blk.new wr 65 #[.string x.l, .int .i64 x.a, .int .i64 x.b]).next hb1')
        have b1 := (hb.alloc hb.size _).trans (hb1'.mono (by have := hb.size; simp; omega))
        have own1 := Lib.hid (own_next (hown.out.alloc _) hb1')
        obtain ⟨d0, d1, d2⟩ := B1.out.three
        go_wp2_with
          (at_builtin
           refine wpList_push (w0 := w) rfl _ _ _ rfl w.heap.size 65 3 32 elem_rule Fac.cells _ k c' (raiseL by_ (rs.take k)) rfl (own1.out.alloc _) _ x #[.string x.l, .int .i64 x.a, .int .i64 x.b] 65 (0, 0) rfl (heap_alloc_new _ _) rfl rfl (one_fac _) (by omega) (by omega) (by unfold maxLen; omega) rfl (b1.alloc b1.size _) ?_
           intro A9 c9 w9 own9 hg9 hat9 hb9
           have O9 := Lib.hid own9; clear own9)
        go_roundw
        case rel =>
          refine ⟨k + 1, A9, c9, by go_num, rfl, by omega, Lib.hid ?_, hb9⟩
          rw [Hst.out, Hy.out]; exact O9.out
        case measure => simp [intOf]; omega
    · have hkn : k = n := by omega
      have e := Lib.hid (show rs.take k = rs from List.take_of_length_le (by rw [hl.out]; omega))
      clear hkn
      have hk2 : k = n := by omega
      have hl2 := Lib.hid (show (raiseL by_ rs).length = k by rw [raiseL_len, hl.out]; omega)
      clear hk2
      go_wp2_with fail
      go_ret
      refine ⟨A', c', ret_slice (by rw [hl2.out]), ?_, hb⟩
      rw [hl2.out]
      have := hown.out
      rw [e.out] at this; exact this
theorem raisedL_any (A : Option Addr) (n c : Nat) (rs : List Fac) (by_ : Int) (w : World) (hn : n ≤ 100000) (hr : Rd w w.heap.size A n 3 Fac.cells rs) (hwf : WF rs) (h0 : 0 ≤ by_) (h1 : by_ ≤ 1048576) :
    Calls Try.prog 29 #[.slice A n c, .int .i64 by_] w fun e w' => ∃ A' c', e = .returned (.slice A' n c') ∧ w'.ownsRow w.heap.size 65 3 (.slice A' n c') n ((raiseL by_ rs).flatMap Fac.cells) ∧ Below w.heap.size w w' := by
  have hl : (raiseL by_ rs).length = n := by rw [raiseL_len, hr.len]
  refine (raised_any A n c rs by_ w hn hr hwf h0 h1).mono ?_
  rintro e w' ⟨A', c', he, ho, hb⟩
  rw [hl] at he ho
  exact ⟨A', c', he, ho, hb⟩
set_option maxHeartbeats 1000000 in
theorem l02Raised_any (x : Fac) (by_ : Int) (w : World) (hx : x.l.size = 0 → 0 ≤ x.a ∧ x.a ≤ 1048576 ∧ 0 ≤ x.b ∧ x.b ≤ 1048576) (h0 : 0 ≤ by_) (h1 : by_ ≤ 1048576) :
    Calls Try.prog 51 #[x.val, .int .i64 by_] w (Ret (rsF by_ x).val w) := by
  unfold Fac.val
  by_cases h : x.l.size = 0
  · have Hy := Lib.hid (show rsF by_ x = ⟨x.l, x.a + by_, x.b + by_⟩ by unfold rsF; rw [if_pos h])
    have e0 := size0 h
    obtain ⟨q0, q1, q2, q3⟩ := hx h
    rw [Hy.out]
    clear hx h
    go_enter Try.func51, Try.ntmps51
    go_wp2_with fail
    refine bodyPost_ret (v := .agg #[.string x.l, .int .i64 (x.a + by_), .int .i64 (x.b + by_)]) (by simp [results, Try.results51, go_sem]) rfl ⟨rfl, ?_⟩
    (repeat first | exact Below.refl _ _ | assumption | refine Below.drew ?_ | refine Below.alloc ?_ (by first | exact Nat.le_refl _ | (simp; done) | omega | (simp; omega)) _ | refine Below.setCell ?_ (by first | exact Nat.le_refl _ | (simp; done) | omega | (simp; omega)) _)
  · have Hy := Lib.hid (show rsF by_ x = x by unfold rsF; rw [if_neg h])
    have e0 := size1 h
    have e1 := size1' h
    rw [Hy.out]
    clear hx h
    go_enter Try.func51, Try.ntmps51
    go_wp2_with fail
    refine bodyPost_ret (v := .agg #[.string x.l, .int .i64 x.a, .int .i64 x.b]) (by simp [results, Try.results51, go_sem]) rfl ⟨rfl, ?_⟩
    (repeat first | exact Below.refl _ _ | assumption | refine Below.drew ?_ | refine Below.alloc ?_ (by first | exact Nat.le_refl _ | (simp; done) | omega | (simp; omega)) _ | refine Below.setCell ?_ (by first | exact Nat.le_refl _ | (simp; done) | omega | (simp; omega)) _)
theorem ixR_ge (f : Fac) : ∀ (rs : List Fac) (i : Int), 0 ≤ i → decide (0 ≤ ixR f rs i) = decide (f ∈ rs)
  | [], i, _ => by simp [ixR]
  | x :: r, i, h => by
    unfold ixR
    by_cases hx : f = x
    · simp [hx, h]
    · rw [if_neg hx, ixR_ge f r (i + 1) (by omega)]; simp [hx]
set_option maxHeartbeats 1000000 in
theorem containsR_any (A : Option Addr) (n c : Nat) (rs : List Fac) (f : Fac) (w : World) (hn : n ≤ 1048576) (hr : Rd w w.heap.size A n 3 Fac.cells rs) :
    Calls Try.prog 59 #[.slice A n c, .agg #[.string f.l, .int .i64 f.a, .int .i64 f.b]] w (Ret (.bool (decide (f ∈ rs))) w) := by
  have HR := Lib.hid hr; clear hr
  have hg := Lib.hid (ixR_ge f rs 0 (by omega))
  go_enter Try.func59, Try.ntmps59
  go_wp2_with fail
  refine (indexR_any A n c rs f _ hn (HR.out.next ((Below.refl _ _).alloc (Nat.le_refl _) _))).mono ?_
  rintro e w1 ⟨rfl, hb1⟩
  generalize ixR f rs 0 = z at *
  go_wp2_with fail
  go_ret
  exact ⟨ret_bool hg.out, ((Below.refl _ _).alloc (Nat.le_refl _) _).trans (hb1.mono (by simp))⟩
set_option maxHeartbeats 1000000 in
theorem hasLetter_any (A : Option Addr) (n c : Nat) (rs : List Fac) (z : Int) (u : UInt8) (hz : z = (u.toNat : Int)) (w : World) (hn : n ≤ 1048576) (hr : Rd w w.heap.size A n 3 Fac.cells rs) (b : Bool) (hb : decide (ruleC u ∈ rs) = b) :
    Calls Try.prog 28 #[.agg #[.slice A n c], .int .u8 z] w (Ret (.bool b) w) := by
  subst hz
  have HR := Lib.hid hr; clear hr
  have Hb := Lib.hid hb; clear hb
  go_enter Try.func28, Try.ntmps28
  go_wp2_with fail
  refine named fun w0 H0 => ?_
  have B0 := Lib.hid (show Blk w0 w.heap.size 26 #[.slice A n c] by rw [H0.out]; exact Blk.new _ _ _)
  have hb0 : Below w.heap.size w w0 := by rw [H0.out]; (repeat first | exact Below.refl _ _ | assumption | refine Below.drew ?_ | refine Below.alloc ?_ (by first | exact Nat.le_refl _ | (simp; done) | omega | (simp; omega)) _ | refine Below.setCell ?_ (by first | exact Nat.le_refl _ | (simp; done) | omega | (simp; omega)) _)
  have c0 := B0.out.cell 0
  have l0 := B0.out.lt
  have HR0 := Lib.hid (HR.out.next hb0)
  clear H0
  have hup := upc w0.heap.size w0
  refine wp_region_up w0.heap.size (by kernel_rfl) (by kernel_rfl) ?_
  repeat (go_big_quiet_step ((first | (go_at_call 60; exact Calls.up (Nat.le_refl _) (letter_any u _)) | (go_at_call 59; exact Calls.up (Nat.le_refl _) (containsR_any A n c rs (ruleC u) _ hn ((HR0.out.below (Up.h _)).more (Up.h _).size))))))
  refine wpQuiet_nil ?_
  intro w4 hup_w4
  have hb4 := up_of hup_w4
  go_wp2_with fail
  go_ret
  exact ⟨ret_bool Hb.out, hb0.trans (hb4.mono hb0.size)⟩
end Go.Proofs.Ytfanphhlagjkdaa


/-
  slices.IndexFunc and slices.ContainsFunc over rules, by the contract of the function that they are handed.
-/
namespace Go.Proofs.Ytfanphhlagjkdaa
open Go.RowKit

def findI {α : Type} (p : α → Bool) : List α → Int → Int
  | [], _ => -1
  | x :: r, i => if p x = true then i else findI p r (i + 1)
theorem findI_any {α : Type} (p : α → Bool) : ∀ (xs : List α) (i : Int), 0 ≤ i → (decide (0 ≤ findI p xs i) = xs.any p)
  | [], i, _ => rfl
  | x :: r, i, h => by
    unfold findI
    by_cases hp : p x = true
    · rw [if_pos hp]; simp [hp, h]
    · rw [if_neg hp, findI_any p r (i + 1) (by omega)]; simp [hp]

end Go.Proofs.Ytfanphhlagjkdaa


/-
  Lists of numbers copied and compared.
-/
namespace Go.Proofs.Ytfanphhlagjkdaa
open Go.RowKit

theorem fill1 {α : Type} {enc : α → List Value} {cs : Array Value} {n k : Nat} {xs : List α} {x : α} {v : Value} (hs : cs.size = n * 1) (hk : k < n) (hx : xs[k]? = some x) (he : enc x = [v])
    (hc : ∀ i y, i < k → xs[i]? = some y → ∀ j, j < 1 → cs[i * 1 + j]? = (enc y)[j]?) :
    (cs.setIfInBounds k v).size = n * 1 ∧ ∀ i y, i < k + 1 → xs[i]? = some y → ∀ j, j < 1 → (cs.setIfInBounds k v)[i * 1 + j]? = (enc y)[j]? := by
  refine ⟨by simpa using hs, fun i y hi hy j hj => ?_⟩
  obtain rfl : j = 0 := by omega
  by_cases h : i = k
  · subst h
    obtain rfl : x = y := by rw [hx] at hy; exact Option.some.inj hy
    rw [he]
    have : i < cs.size := by omega
    simp [this]
  · rw [← hc i y (by omega) hy 0 hj]
    rw [Array.getElem?_setIfInBounds_ne (by omega)]

def eqInts : List Int → List Int → Bool
  | x :: r, y :: s => decide (x = y) && eqInts r s
  | _, _ => true
theorem eqInts_eq : ∀ (a b : List Int), a.length = b.length → eqInts a b = decide (a = b)
  | [], [], _ => rfl
  | x :: r, y :: s, h => by
    rw [eqInts, eqInts_eq r s (by simpa using h)]
    by_cases h1 : x = y <;> by_cases h2 : r = s <;> simp [h1, h2]
end Go.Proofs.Ytfanphhlagjkdaa


/-
  Equality of lists of texts, and whether marks are still there.
-/
namespace Go.Proofs.Ytfanphhlagjkdaa
open Go.RowKit

def eqStrs : List ByteArray → List ByteArray → Bool
  | x :: r, y :: s => decide (x = y) && eqStrs r s
  | _, _ => true
theorem eqStrs_eq : ∀ (a b : List ByteArray), a.length = b.length → eqStrs a b = decide (a = b)
  | [], [], _ => rfl
  | x :: r, y :: s, h => by
    rw [eqStrs, eqStrs_eq r s (by simpa using h)]
    by_cases h1 : x = y <;> by_cases h2 : r = s <;> simp [h1, h2]

end Go.Proofs.Ytfanphhlagjkdaa


/-
  slices.IndexFunc and slices.ContainsFunc over texts; lists of texts measured and copied.
-/
namespace Go.Proofs.Ytfanphhlagjkdaa
open Go.RowKit

set_option maxHeartbeats 1000000 in
theorem indexStr_any (fp : Nat) (ep : EnterOk fp) (cp : Array Value) (p : ByteArray → Bool) (A : Option Addr) (n c : Nat) (zs : List ByteArray) (w : World) (hn : n ≤ 1048576) (hr : Rd w w.heap.size A n 1 strEM zs)
    (hP : ∀ (k : Nat) (x : ByteArray), zs[k]? = some x → ∀ w', Below w.heap.size w w' → Calls Try.prog fp (#[.string x] ++ cp) w' (Ret (.bool (p x)) w')) :
    Calls Try.prog 57 #[.slice A n c, .func (.func fp) #[] cp] w (Ret (.int .i64 (findI p zs 0)) w) := by
  have hl := Lib.hid hr.len
  have HP := Lib.hid hP; clear hP
  unfold EnterOk at ep
  go_enter Try.func57, Try.ntmps57
  go_wp2_with fail
  go_loopw [8] (fun i_ w' => ∃ k : Nat, i_ = .int .i64 k ∧ k ≤ n ∧ Below w.heap.size w w' ∧ Hid (findI p (zs.drop k) k = findI p zs 0)) (fun i_ _ => n - (intOf i_).toNat)
  case atStart => exact ⟨0, rfl, by omega, Below.refl _ _, Lib.hid rfl⟩
  case round =>
    obtain ⟨k, rfl, hk, hb, H⟩ := hrel
    by_cases hlt : k < n
    · obtain ⟨b, o, x, rfl, hB, gx, c0⟩ := (show Rd wr wr.heap.size A n 1 (fun s => [.string s]) zs from hr.next hb).str hlt
      have H' := Lib.hid (show (if p x = true then (k : Int) else findI p (zs.drop (k + 1)) (k + 1)) = findI p zs 0 by rw [← H.out, drop_cons gx]; rfl)
      have hc := HP.out k x gx wr hb
      clear gx H
      rcases hp : p x with _ | _
      all_goals
        rw [hp] at hc
        have Hp := Lib.hid hp; clear hp
        have Hc := Lib.hid hc; clear hc
        go_wp2_with fail
        refine Hc.out.mono ?_
        rintro e w1 ⟨rfl, hb1⟩
        go_wp2_with fail
        first
          | (go_ret
             exact ⟨ret_int (by rw [← H'.out, Hp.out]; rfl), hb.trans (hb1.mono hb.size)⟩)
          | (go_roundw
             case rel => exact ⟨k + 1, by go_num, by omega, hb.trans (hb1.mono hb.size), Lib.hid (by rw [← H'.out, Hp.out]; rfl)⟩
             case measure => simp [intOf]; omega)
    · go_wp2_with fail
      go_ret
      exact ⟨ret_int (by rw [← H.out, List.drop_of_length_le (by rw [hl.out]; omega)]; rfl), hb⟩
theorem containsStr_any (fp : Nat) (ep : EnterOk fp) (cp : Array Value) (p : ByteArray → Bool) (A : Option Addr) (n c : Nat) (zs : List ByteArray) (w : World) (hn : n ≤ 1048576) (hr : Rd w w.heap.size A n 1 strEM zs)
    (hP : ∀ (k : Nat) (x : ByteArray), zs[k]? = some x → ∀ w', Below w.heap.size w w' → Calls Try.prog fp (#[.string x] ++ cp) w' (Ret (.bool (p x)) w')) :
    Calls Try.prog 25 #[.slice A n c, .func (.func fp) #[] cp] w (Ret (.bool (zs.any p)) w) := by
  have e := Lib.hid (findI_any p zs 0 (by omega))
  have Hc := Lib.hid (indexStr_any fp ep cp p A n c zs w hn hr hP)
  clear hP hr
  go_enter Try.func25, Try.ntmps25
  go_wp2_with fail
  refine Hc.out.mono ?_
  rintro e1 w1 ⟨rfl, hb1⟩
  go_wp2_with fail
  go_ret
  exact ⟨ret_bool e.out, hb1⟩
theorem info_str : (Try.prog.info? 9).map (fun i => (i.zero, i.size, i.bytes)) = some (some (.string .empty), 1, 16) := by kernel_rfl
/-- the rest of the measure of texts -/
def szStrs : Int → List ByteArray → Int
  | left, [] => left
  | left, s :: r => if left - s.size < 0 then -1 else szStrs (left - s.size) r
def szStrAll (left : Int) (ss : List ByteArray) : Int := if left < ss.length then -1 else szStrs (left - ss.length) ss
theorem szStrs_le : ∀ (ss : List ByteArray) (left : Int), 0 ≤ szStrs left ss → szStrs left ss ≤ left ∧ ∀ s ∈ ss, (s.size : Int) ≤ left
  | [], left, h => ⟨Int.le_refl _, by simp⟩
  | s :: r, left, h => by
    unfold szStrs at h ⊢
    split
    · rename_i h1; rw [if_pos h1] at h; omega
    · rename_i h1
      rw [if_neg h1] at h
      have ⟨h2, h3⟩ := szStrs_le r _ h
      refine ⟨by omega, fun x hx => ?_⟩
      rcases List.mem_cons.1 hx with rfl | hx
      · omega
      · have := h3 x hx; omega
theorem szStrAll_le {left : Int} {ss : List ByteArray} (h : 0 ≤ szStrAll left ss) : szStrAll left ss ≤ left ∧ (ss.length : Int) ≤ left ∧ ∀ s ∈ ss, (s.size : Int) ≤ left := by
  unfold szStrAll at h ⊢
  split
  · rename_i h1; rw [if_pos h1] at h; omega
  · rename_i h1
    rw [if_neg h1] at h
    have ⟨h2, h3⟩ := szStrs_le ss _ h
    exact ⟨by omega, by omega, fun s hs => by have := h3 s hs; omega⟩
end Go.Proofs.Ytfanphhlagjkdaa


/-
  The letters of a grammar replaced, in the program.
-/
namespace Go.Proofs.Ytfanphhlagjkdaa
open Go.RowKit

theorem trR_sz (at_ : List Int) {r : Fac} (h : r.l.size ≤ 1) : (trR at_ r).l.size ≤ 1 := by
  unfold trR
  split
  · show 0 ≤ 1; omega
  · exact h
theorem outT_sz (used : List Bool) : ∀ (ks : List Fac) (i : Nat) (out : List Fac) (at_ : List Int), (∀ f ∈ ks, f.l.size ≤ 1) → (∀ f ∈ out, f.l.size ≤ 1) → ∀ f ∈ outT used i ks out at_, f.l.size ≤ 1
  | [], i, out, at_, _, ho => ho
  | r :: ks, i, out, at_, hk, ho => by
    rw [outT]
    have hr := hk r (by simp)
    have hk' : ∀ f ∈ ks, f.l.size ≤ 1 := fun f hf => hk f (by simp [hf])
    split
    · refine outT_sz used ks _ _ _ hk' fun f hf => ?_
      rcases List.mem_append.1 hf with h | h
      · exact ho f h
      · obtain rfl : f = trR at_ r := by simpa using h
        exact trR_sz _ hr
    · exact outT_sz used ks _ _ _ hk' ho
theorem trimL_sz {rs : List Fac} (hwf : WF rs) : ∀ f ∈ trimL rs, f.l.size ≤ 1 := by
  unfold trimL
  split
  · simp
  · refine outT_sz _ _ _ _ _ (fun f hf => ?_) (by simp)
    obtain ⟨j, hj⟩ := List.mem_iff_getElem?.1 hf
    have := (trK_I hwf 0 [] [] TrI.nil rfl (by omega)).1.k j f (by simpa using hj)
    rcases this with ⟨h0, _⟩ | ⟨c, _, hl, _⟩
    · omega
    · rw [hl]; show 1 ≤ 1; omega
theorem trK_len' : ∀ (rs kept : List Fac) (same : List Int), (trK rs kept same).1.length = kept.length + rs.length
  | [], kept, same => by simp [trK]
  | r :: rs, kept, same => by
    rw [trK, trK_len' rs]; simp; omega
theorem trimL_le (rs : List Fac) : (trimL rs).length ≤ rs.length := by
  unfold trimL
  split
  · simp
  · have h1 := outT_len (useT (trK rs [] []).1 rs.length (use0 rs.length (trK rs [] []).2)) (trK rs [] []).1 0 [] (List.replicate rs.length 0)
    have h2 := trK_len' rs [] []
    simp only [List.length_nil, Nat.zero_add] at h1 h2
    omega
theorem rd_take {α : Type} {w : World} {B n sz : Nat} {A : Option Addr} {enc : α → List Value} {xs : List α} (h : Rd w B A n sz enc xs) {k : Nat} (hk : k ≤ n) : Rd w B A k sz enc (xs.take k) := by
  refine ⟨by rw [List.length_take, h.1]; omega, fun hp => ?_⟩
  obtain ⟨b, o, hA, hb, hc⟩ := h.2 (by omega)
  refine ⟨b, o, hA, hb, fun i x hx j v hv => hc i x ?_ j v hv⟩
  rw [List.getElem?_take] at hx
  split at hx
  · exact hx
  · cases hx
theorem mapL1_any (s : ByteArray) (w : World) (hs : s.size ≤ maxLen) : Calls Try.prog 26 #[.string s] w (Ret (.bool (!okW s)) w) := by
  have hc := fun W => validWord_any s (okW s) W hs rfl
  generalize okW s = b at *
  go_enter Try.func26, Try.ntmps26
  go_wp2_with fail
  refine (hc _).mono ?_
  rintro e w1 ⟨rfl, hb1⟩
  go_wp2_with fail
  go_ret
  exact ⟨rfl, hb1⟩
theorem mapL1_ok : EnterOk 26 := enterOk Try.func26 (by kernel_rfl) (by kernel_rfl)
theorem containsW_any (B : Option Addr) (m d : Nat) (ws : List ByteArray) (w : World) (hm : m ≤ 1048576) (hw : Rd w w.heap.size B m 1 strEM ws) (hs : ∀ s ∈ ws, s.size ≤ maxLen) (b : Bool) (hb : (ws.all okW) = b) :
    Calls Try.prog 25 #[.slice B m d, .func (.func 26) #[] #[]] w (Ret (.bool (!b)) w) := by
  have h := containsStr_any 26 mapL1_ok #[] (fun s => !okW s) B m d ws w hm hw (fun k x hx w' _ => mapL1_any x w' (hs x (List.mem_of_getElem? hx)))
  have e : (ws.any fun s => !okW s) = !b := by
    rw [← hb]
    clear hb h hw hs hm
    induction ws with
    | nil => rfl
    | cons x r ih => simp only [List.any_cons, List.all_cons, ih, Bool.not_and]
  rw [e] at h; exact h
/-- 'MapLetters' under way -/
structure MpW (w W : World) (G S : Nat) (ga gv : Value) (A : Option Addr) (n c : Nat) (out : List Fac) (st : List Int) : Prop where
  q : W.ownsRow w.heap.size 65 3 (.slice A n c) n (out.flatMap Fac.cells)
  i : Blk W w.heap.size 26 #[ga]
  o : Blk W (w.heap.size + 1) 26 #[.slice none 0 0]
  g : Blk W G 26 #[gv]
  s : Blk W S 60 (intA st)
  e : Below w.heap.size w W
  n0 : w.heap.size + 1 < G
  n1 : w.heap.size ≤ S
section
variable {w W W' : World} {G S : Nat} {ga gv : Value} {A : Option Addr} {n c : Nat} {out : List Fac} {st : List Int}
theorem MpW.next (h : MpW w W G S ga gv A n c out st) (hb : Below W.heap.size W W') : MpW w W' G S ga gv A n c out st :=
  ⟨own_next h.q hb, h.i.next hb, h.o.next hb, h.g.next hb, h.s.next hb, h.e.trans (hb.mono h.e.size), h.n0, h.n1⟩
theorem MpW.alloc (h : MpW w W G S ga gv A n c out st) (o : Obj) : MpW w (W.alloc o) G S ga gv A n c out st := h.next ((Below.refl _ _).alloc (Nat.le_refl _) _)
theorem MpW.drew (h : MpW w W G S ga gv A n c out st) : MpW w W.drew G S ga gv A n c out st := h.next (Below.refl _ _).drew
/-- behind an append -/
theorem MpW.app {A8 : Option Addr} {k8 c8 : Nat} {out' : List Fac} (h : MpW w W G S ga gv A n c out st) (hq : W'.ownsRow w.heap.size 65 3 (.slice A8 k8 c8) k8 (out'.flatMap Fac.cells)) (hg : W.grownBy W' (Value.slice A n c).ownBlock) :
    MpW w W' G S ga gv A8 k8 c8 out' st :=
  ⟨hq, h.i.grown hg (own_blk_ne h.q h.i (by decide)), h.o.grown hg (own_blk_ne h.q h.o (by decide)), h.g.grown hg (own_blk_ne h.q h.g (by decide)), h.s.grown hg (own_blk_ne h.q h.s (by decide)), h.e.grown hg h.e.size (own_ge h.q), h.n0, h.n1⟩
/-- the new slice told -/
theorem MpW.put (h : MpW w W G S ga gv A n c out st) (u : Value) : MpW w (W.setCell ⟨G, 0, none⟩ u) G S ga u A n c out st := by
  have hg2 := gb_set W G 0 u
  have h0 := h.n0
  have hs : some S ≠ some G := fun e => by
    injection e with e
    have h1 := h.s; have h2 := h.g
    rw [e] at h1
    unfold Blk at h1 h2
    rw [h1] at h2
    injection h2 with h2; injection h2 with _ h2; exact absurd h2 (by decide)
  exact ⟨own_kept' h.q h.g (by decide) _, h.i.grown hg2 (by intro e; injection e with e; omega), h.o.grown hg2 (by intro e; injection e with e; omega), h.g.set_ 0 _, h.s.grown hg2 hs, h.e.setCell (by show w.heap.size ≤ G; omega) _, h.n0, h.n1⟩
/-- behind what writes a row of numbers -/
theorem MpW.far {v : Value} {k : Nat} {xs : List Value} (h : MpW w W G S ga gv A n c out st) (ho : W.ownsRow w.heap.size 2 1 v k xs) (hg : W.grownBy W' v.ownBlock) : MpW w W' G S ga gv A n c out st :=
  ⟨h.q.kept hg (own_ne h.q ho (by decide)), h.i.grown hg (own_blk_ne ho h.i (by decide)), h.o.grown hg (own_blk_ne ho h.o (by decide)), h.g.grown hg (own_blk_ne ho h.g (by decide)), h.s.grown hg (own_blk_ne ho h.s (by decide)), h.e.grown hg h.e.size (own_ge ho), h.n0, h.n1⟩
/-- a number told -/
theorem MpW.tell (h : MpW w W G S ga gv A n c out st) (i : Nat) (z : Int) : MpW w (W.setCell ⟨S, i, none⟩ (.int .i64 z)) G S ga gv A n c out (st.set i z) := by
  have hg2 := gb_set W S i (.int .i64 z)
  have nt : ∀ {g : Nat} {cs : Array Value}, Blk W g 26 cs → some g ≠ some S := fun hB e => by
    injection e with e; subst e
    have := hB.symm.trans h.s
    injection this with this; injection this with _ this; exact absurd this (by decide)
  have := h.s.set_ i (.int .i64 z)
  rw [intA_set] at this
  exact ⟨own_kept' h.q h.s (by decide) _, h.i.grown hg2 (nt h.i), h.o.grown hg2 (nt h.o), h.g.grown hg2 (nt h.g), this, h.e.setCell h.n1 _, h.n0, h.n1⟩
end
theorem getD_of {α : Type} {xs : List α} {k : Nat} {x d : α} (h : xs[k]? = some x) : xs.getD k d = x := by rw [List.getD_eq_getElem?_getD, h]; rfl
theorem mlGo_take (rs : List Fac) : ∀ (ws : List ByteArray) (w : ByteArray) (k : Nat) (s : List Fac × List Int), mlGo rs k (ws ++ [w]) s = mlStep rs (k + ws.length) w (mlGo rs k ws s)
  | [], _, _, _ => rfl
  | x :: ws, w, k, s => by
    show mlGo rs (k + 1) (ws ++ [w]) (mlStep rs k x s) = _
    rw [mlGo_take rs ws w (k + 1)]
    simp only [List.length_cons]
    rw [show k + 1 + ws.length = k + (ws.length + 1) by omega]; rfl
set_option maxHeartbeats 4000000 in
set_option maxRecDepth 100000 in
theorem implMap_any (A : Option Addr) (n c : Nat) (rs : List Fac) (B : Option Addr) (m d : Nat) (ws : List ByteArray) (w : World) (hn : n ≤ 1048576) (hm : m ≤ 1048576) (hr : Rd w w.heap.size A n 3 Fac.cells rs) (hw : Rd w w.heap.size B m 1 strEM ws)
    (hok : ∀ f ∈ rs, f.l.size ≤ maxLen) (hs : ∀ s ∈ ws, s.size ≤ 1048576) :
    Calls Try.prog 10 #[.agg #[.slice A n c], .slice B m d] w (RetGC w (mapF rs ws) (mapC rs ws)) := by
  have HR := Lib.hid hr; clear hr
  have HW := Lib.hid hw; clear hw
  have HO := Lib.hid hok; clear hok
  have hs' : ∀ s ∈ ws, s.size ≤ maxLen := fun s hx => by have := hs s hx; unfold maxLen; omega
  have HS := Lib.hid hs'; clear hs hs'
  have hl := Lib.hid HR.out.len
  have hlw := Lib.hid HW.out.len
  have start : ∀ w3, Hid (w3 = (w.alloc (.cells #[.slice A n c] 26)).alloc (.cells #[.slice none 0 0] 26)) →
      Below w.heap.size w w3 ∧ Blk w3 w.heap.size 26 #[.slice A n c] ∧ Blk w3 (w.heap.size + 1) 26 #[.slice none 0 0] := fun w3 H3 => by
    rw [H3.out]
    refine ⟨by (repeat first | exact Below.refl _ _ | assumption | refine Below.drew ?_ | refine Below.alloc ?_ (by first | exact Nat.le_refl _ | (simp; done) | omega | (simp; omega)) _ | refine Below.setCell ?_ (by first | exact Nat.le_refl _ | (simp; done) | omega | (simp; omega)) _), (Blk.new _ _ _).alloc _, ?_⟩
    simpa using Blk.new (w.alloc (.cells #[.slice A n c] 26)) 26 #[.slice none 0 0]
  have Start := Lib.hid start; clear start
  rcases hmo : mapOk rs ws with _ | _
  · have eT := Lib.hid (show mapF rs ws = [] by unfold mapF; rw [if_pos hmo])
    have eC := Lib.hid (show mapC rs ws = 1 by unfold mapC; rw [if_pos hmo])
    have shut : ∀ w4, Below w.heap.size w w4 → Blk w4 (w.heap.size + 1) 26 #[.slice none 0 0] →
        (w4.cell? ⟨w.heap.size + 1, 0, none⟩ = some (.slice none 0 0)) ∧ (∀ i, w4.frozen? ⟨w.heap.size + 1, i, none⟩ = false) ∧ w.heap.size + 1 < w4.heap.size ∧
        (w4.setCell ⟨w.heap.size + 1, 0, none⟩ (.slice none 0 0)).cell? ⟨w.heap.size + 1, 0, none⟩ = some (.slice none 0 0) ∧ Below w.heap.size w (w4.setCell ⟨w.heap.size + 1, 0, none⟩ (.slice none 0 0)) := fun w4 hb B4 => by
      refine ⟨B4.cell 0, B4.frozen, B4.lt, ?_, hb.setCell (by simp) _⟩
      rw [(B4.set_ 0 (.slice none 0 0)).cell 0]; rfl
    have Shut_ := Lib.hid shut; clear shut
    rcases hg : (gOk rs).isSome with _ | _
    · have Hg := Lib.hid hg
      clear hg hmo
      go_enter Try.func10, Try.ntmps10
      go_wp2_with fail
      refine namedC fun w3 H3 => ?_
      obtain ⟨hb3, BG, BC⟩ := Start.out w3 H3
      clear H3
      refine (validG_any A n c rs w3 (by omega) (HR.out.next hb3) HO.out false Hg.out).mono ?_
      rintro e1 w4 ⟨rfl, hb4⟩
      obtain ⟨d4, f4, l4, x5, b5⟩ := Shut_.out w4 (hb3.trans (hb4.mono hb3.size)) (BC.next hb4)
      clear BG BC
      go_wp2_with fail
      exact bodyPost_ret (v := .tuple #[.agg #[.slice none 0 0], .int .i64 1]) (by simp [results, Try.results10, go_sem, x5]) rfl ⟨none, 0, by rw [eT.out, eC.out]; rfl, by rw [eT.out]; exact World.ownsRow_nil _ _ _ _, b5⟩
    · have Hg := Lib.hid hg
      by_cases hm4 : m = 4
      · have hany : ws.all okW = false := by
          unfold mapOk at hmo
          rw [hg, hlw.out, decide_eq_true hm4] at hmo
          simpa using hmo
        have Ha := Lib.hid hany
        subst hm4
        clear hg hmo hany
        go_enter Try.func10, Try.ntmps10
        go_wp2_with fail
        refine namedC fun w3 H3 => ?_
        obtain ⟨hb3, BG, BC⟩ := Start.out w3 H3
        clear H3
        refine (validG_any A n c rs w3 (by omega) (HR.out.next hb3) HO.out true Hg.out).mono ?_
        rintro e1 w4 ⟨rfl, hb4⟩
        have b4 := hb3.trans (hb4.mono hb3.size)
        have BC4 := Lib.hid (BC.next hb4)
        clear BG BC
        go_wp2_with fail
        refine (containsW_any B 4 d ws w4 (by omega) (HW.out.next b4) HS.out false Ha.out).mono ?_
        rintro e1 w5 ⟨rfl, hb5⟩
        obtain ⟨d4, f4, l4, x5, b5⟩ := Shut_.out w5 (b4.trans (hb5.mono b4.size)) (BC4.out.next hb5)
        go_wp2_with fail
        exact bodyPost_ret (v := .tuple #[.agg #[.slice none 0 0], .int .i64 1]) (by simp [results, Try.results10, go_sem, x5]) rfl ⟨none, 0, by rw [eT.out, eC.out]; rfl, by rw [eT.out]; exact World.ownsRow_nil _ _ _ _, b5⟩
      · have hm4' : ((m : Int) == 4) = false := by simp; omega
        have hm5' : ((m : Int) != 4) = true := by simp; omega
        clear hg hmo hm4
        go_enter Try.func10, Try.ntmps10
        go_wp2_with fail
        refine namedC fun w3 H3 => ?_
        obtain ⟨hb3, BG, BC⟩ := Start.out w3 H3
        clear H3
        refine (validG_any A n c rs w3 (by omega) (HR.out.next hb3) HO.out true Hg.out).mono ?_
        rintro e1 w4 ⟨rfl, hb4⟩
        obtain ⟨d4, f4, l4, x5, b5⟩ := Shut_.out w4 (hb3.trans (hb4.mono hb3.size)) (BC.next hb4)
        clear BG BC
        go_wp2_with fail
        exact bodyPost_ret (v := .tuple #[.agg #[.slice none 0 0], .int .i64 1]) (by simp [results, Try.results10, go_sem, x5]) rfl ⟨none, 0, by rw [eT.out, eC.out]; rfl, by rw [eT.out]; exact World.ownsRow_nil _ _ _ _, b5⟩
  · have hF : mapF rs ws = _ := rfl
    have hg : (gOk rs).isSome = true := by unfold mapOk at hmo; simp only [Bool.and_eq_true] at hmo; exact hmo.1
    have hm4 : ws.length = 4 := by unfold mapOk at hmo; simp only [Bool.and_eq_true, decide_eq_true_eq] at hmo; exact hmo.2.1
    have ha : ws.all okW = true := by unfold mapOk at hmo; simp only [Bool.and_eq_true] at hmo; exact hmo.2.2
    obtain ⟨ls, hls⟩ := Option.isSome_iff_exists.1 hg
    have hwf := Lib.hid (wf_of (gOk_lens hls).1)
    have hn4 : n ≤ 400 := by have := (gOk_lens hls).2.1; have := hl.out; omega
    have Hg := Lib.hid hg
    have Ha := Lib.hid ha
    have HMO := Lib.hid hmo
    obtain rfl : m = 4 := by rw [← hlw.out]; exact hm4
    clear hF hg ha hls hmo hm4
    go_enter Try.func10, Try.ntmps10
    go_wp2_with fail
    refine namedC fun w3 H3 => ?_
    obtain ⟨hb3, BG, BC⟩ := Start.out w3 H3
    clear H3
    refine (validG_any A n c rs w3 (by omega) (HR.out.next hb3) HO.out true Hg.out).mono ?_
    rintro e1 w4 ⟨rfl, hb4⟩
    have b4 := hb3.trans (hb4.mono hb3.size)
    have BC4 := Lib.hid (BC.next hb4)
    have BG4 := Lib.hid (BG.next hb4)
    clear BG BC
    go_wp2_with fail
    refine (containsW_any B 4 d ws w4 (by omega) (HW.out.next b4) HS.out true Ha.out).mono ?_
    rintro e1 w5 ⟨rfl, hb5⟩
    have b5 := b4.trans (hb5.mono b4.size)
    have BC5 := Lib.hid (BC4.out.next hb5)
    have BG5 := Lib.hid (BG4.out.next hb5)
    have l5 := BC5.out.lt
    go_wp2_with fail
    refine named fun w6 H6 => ?_
    have M6 := Lib.hid (show MpW w w6 w5.heap.size (w5.heap.size + 1) (.slice A n c) (.slice none 0 0) none 0 0 [] [-1, -1, -1, -1] by
      rw [H6.out]
      refine ⟨World.ownsRow_nil _ _ _ _, (BG5.out.alloc _).alloc _, (BC5.out.alloc _).alloc _, (Blk.new _ _ _).alloc _, ?_, (b5.alloc b5.size _).alloc (Nat.le_trans b5.size (by simp)) _, l5, Nat.le_trans b5.size (by omega)⟩
      simpa [intA] using Blk.new (w5.alloc (.cells #[.slice none 0 0] 26)) 60 (intA [-1, -1, -1, -1]))
    have HR6 := Lib.hid (HR.out.next M6.out.e)
    have hGS : w5.heap.size ≠ w5.heap.size + 1 := by omega
    clear H6 BC5 BG5 l5
    generalize w5.heap.size + 1 = S at *
    generalize w5.heap.size = G at *
    have hfi := fun (v : Value) (W : World) => show (Instr.field 26 (.agg #[v]) 0).run Try.prog W = .ok v W by unfold Instr.field; kernel_rfl
    have Hfi := Lib.hid hfi; clear hfi
    go_loopw [31] (fun i_ w' => ∃ (k : Nat) (A' : Option Addr) (n' c' : Nat) (s : List Fac × List Int), i_ = .int .i64 k ∧ k ≤ 4 ∧ n' ≤ 2004 * k ∧ Hid (mlGo rs 0 (ws.take k) ([], [-1, -1, -1, -1]) = s) ∧ Hid (MlI s k) ∧ Hid (s.1.length = n') ∧
      Hid (MpW w w' G S (.slice A n c) (.slice A' n' c') A' n' c' s.1 s.2)) (fun i_ _ => (4 - intOf i_).toNat)
    case atStart => exact ⟨0, none, 0, 0, _, rfl, by omega, by omega, Lib.hid rfl, Lib.hid MlI.nil, Lib.hid rfl, M6⟩
    case round =>
      obtain ⟨k, A', n', c', s, rfl, hk4, hn', HQ, HI, hsl, M1⟩ := hrel
      by_cases hlt : k < 4
      · obtain ⟨bw, ow, x, rfl, hBw, gx, c0⟩ := (show Rd wr w.heap.size B 4 1 (fun s => [.string s]) ws from HW.out.below M1.out.e).str (k := k) hlt
        have hx := Lib.hid (show okW x = true by have := Ha.out; rw [List.all_eq_true] at this; exact this x (List.mem_of_getElem? gx))
        have hstep : mlGo rs 0 (ws.take (k + 1)) ([], [-1, -1, -1, -1]) = mlStep rs k x s := by
          rw [take_succ_at gx, mlGo_take, HQ.out, List.length_take, hlw.out, Nat.min_eq_left hk4, Nat.zero_add]
        have Hstep := Lib.hid hstep
        have HI2 := Lib.hid (HI.out.step (rs := rs) hlt hx.out)
        have g0 := M1.out.i.cell 0
        have gl := M1.out.i.lt
        have k0 : (0 : Int) ≤ (k : Int) := by omega
        have k1 : (k : Int) < 4 := by omega
        clear gx hstep
        by_cases hx0 : x.size = 0
        · have e0 := size0 hx0
          have E := Lib.hid (show mlStep rs k x s = s by unfold mlStep; rw [if_neg (fun h => h.1 hx0)])
          clear hx0
          go_wp2_with fail
          go_roundw
          case rel => exact ⟨k + 1, A', n', c', s, by go_num, by omega, by omega, by rw [E.out] at Hstep; exact Hstep, by rw [E.out] at HI2; exact HI2, hsl, M1⟩
          case measure => simp [intOf]; omega
        · have e0 := size1 hx0
          have e1 := size1' hx0
          have hnum := lb_num hlt
          have Hnum := Lib.hid hnum; clear hnum
          rcases hu : usedL rs (lb k) with _ | _
          · have E := Lib.hid (show mlStep rs k x s = s by unfold mlStep; rw [if_neg (fun h => by rw [hu] at h; cases h.2)])
            have Hu := Lib.hid (show decide (ruleC (lb k) ∈ rs) = false by rw [← usedL_mem hwf.out]; exact hu)
            clear hu hx0
            go_wp2_with (go_at_call 28; refine (hasLetter_any A n c rs _ (lb k) (by rw [Hnum.out]) _ (by omega) (HR.out.next M1.out.e) false Hu.out).mono ?_; rintro e w7 ⟨rfl, hb7⟩)
            go_roundw
            case rel => exact ⟨k + 1, A', n', c', s, by go_num, by omega, by omega, by rw [E.out] at Hstep; exact Hstep, by rw [E.out] at HI2; exact HI2, hsl, Lib.hid (M1.out.next hb7)⟩
            case measure => simp [intOf]; omega
          · have E := Lib.hid (show mlStep rs k x s = (s.1 ++ raiseL s.1.length (plainL x.data.toList), s.2.set k (((s.1.length + (plainL x.data.toList).length : Nat) : Int) - 1)) by unfold mlStep; rw [if_pos ⟨hx0, hu⟩])
            have Hu := Lib.hid (show decide (ruleC (lb k) ∈ rs) = true by rw [← usedL_mem hwf.out]; exact hu)
            obtain ⟨hlx, hsx⟩ := okW_let hx.out
            have HTw := Lib.hid (wf_plain hlx)
            have hTp := plainL_pos (w := x.data.toList) (fun e => hx0 (by rw [← byte_len, e]; rfl)) hlx
            have hTl := plainL_len x.data.toList
            rw [byte_len] at hTl
            have PC := Lib.hid (fun W => plain_any x W hx.out)
            clear hu hx0 hlx
            obtain ⟨T, hT⟩ : ∃ T, plainL x.data.toList = T := ⟨_, rfl⟩
            obtain ⟨L, hL⟩ : ∃ L, T.length = L := ⟨_, rfl⟩
            unfold RetG at PC
            rw [hT] at E HTw hTp hTl PC
            rw [hL] at E hTp hTl PC
            rw [hsl.out] at E
            have HL := Lib.hid hL
            clear hT hL
            go_upto_if 44 with (go_at_call 28; refine (hasLetter_any A n c rs _ (lb k) (by rw [Hnum.out]) _ (by omega) (HR.out.next M1.out.e) true Hu.out).mono ?_; rintro e w7 ⟨rfl, hb7⟩)
            have M2 := Lib.hid (M1.out.next hb7)
            have M3 := Lib.hid M2.out.drew
            have d0 := M2.out.g.cell 0
            have l0 := M2.out.g.lt
            have zk : (n' + L) * 32 ≤ 140737488355328 := by omega
            have zkm : n' + L ≤ maxLen := by unfold maxLen; omega
            have n0 : (0 : Int) ≤ (n' : Int) := by omega
            clear c0 e0 e1
            go_wp2_with fail
            go_region_law
              (first
                | (refine step_app (by rfl) _ _ _ (by rfl) w.heap.size 65 3 32 elem_rule Fac.cells A' n' c' s.1 (by rfl) M5.out.q ⟨g5, 0, none⟩ L c5 (raiseL n' T) (by rfl) (by rw [raiseL_len, HL.out]) hTp HN5.out (fun y _ => fac_len y) (fun y _ => one_fac y) (by omega) zk zkm M5.out.e.size ?_
                   intro A8 c8 w8 own8 hg8
                   have M8 := Lib.hid (M5.out.app own8 hg8)
                   have d8 := M8.out.g.cell 0
                   have f8 := M8.out.g.frozen
                   have l8 := M8.out.g.lt)
                | (go_simp
                   go_wp2_with (go_at_call 29; refine (raisedL_any A4 L c4 T _ _ (by omega) R4.out HTw.out (by omega) (by omega)).mono ?_; rintro e w5' ⟨A5, c5, rfl, own5, hb5'⟩)
                   have M5 := Lib.hid (M4.out.next hb5')
                   obtain ⟨g5, cp5, hv5, _, _⟩ := own5.form hTp
                   obtain rfl : A5 = some ⟨g5, 0, none⟩ := by injection hv5
                   have HN5 := Lib.hid (own5.cells (g := g5) rfl)
                   have d5 := M5.out.g.cell 0
                   have l5 := M5.out.g.lt
                   clear hv5 own5)
                | (go_simp
                   go_wp2_with (go_at_call 30; refine (PC.out _).mono ?_; rintro e w4' ⟨A4, c4, rfl, own4, hb4'⟩)
                   have M4 := Lib.hid (M3.out.next hb4')
                   have R4 := Lib.hid (Rd.of_own (fun y _ => fac_len y) HL.out own4)
                   have hfi := Hfi.out (.slice A4 L c4)
                   have d4 := M4.out.g.cell 0
                   have l4 := M4.out.g.lt
                   clear own4))
            all_goals
              have M9 := Lib.hid (M8.out.put (.slice A8 (n' + L) c8))
              have g9 := M9.out.g.cell 0
              have l9 := M9.out.g.lt
              have s9 := M9.out.s.cell k
              rw [intA_at s.2 (by rw [HI.out.st]; exact hlt)] at s9
              have fs9 := M9.out.s.frozen
              have ls9 := M9.out.s.lt
              have u1 : IntKind.i64.wrap (((n' + L : Nat) : Int) - 1) = ((n' + L : Nat) : Int) - 1 := IntWalk.i64_in _ (by omega)
              clear d8 f8 l8
              go_wp2_with fail
              go_roundw
              case rel =>
                refine ⟨k + 1, A8, n' + L, c8, (s.1 ++ raiseL n' T, s.2.set k (((n' + L : Nat) : Int) - 1)), by go_num, by omega, by omega, by rw [E.out] at Hstep; exact Hstep, by rw [E.out] at HI2; exact HI2, Lib.hid (by rw [List.length_append, raiseL_len, hsl.out, HL.out]), Lib.hid ?_⟩
                exact M9.out.tell k _
              case measure => simp [intOf]; omega
      · have hk5 : k = 4 := by omega
        have hQ := HQ.out
        rw [hk5, show ws.take 4 = ws from List.take_of_length_le (by rw [hlw.out]; omega)] at hQ
        have HS1 := Lib.hid (show mapS1 rs ws = s from hQ)
        have hst4 := Lib.hid HI.out.b
        have hsl4 : n' ≤ 8016 := by omega
        have HI0 := Lib.hid (show MrI (s.1, []) s.1.length 0 from ⟨HI.out.wf, rfl, fun i hi => by omega, by simp⟩)
        have g0 := M1.out.i.cell 0
        have gl := M1.out.i.lt
        clear hQ hk5 HQ
        go_wp2_with fail
        refine named fun w2 H2 => ?_
        have M2 := Lib.hid (show MpW w w2 G S (.slice A n c) (.slice A' n' c') A' n' c' s.1 s.2 by rw [H2.out]; exact M1.out.alloc _)
        have O2 := Lib.hid (show w2.ownsRow w.heap.size 2 1 (.slice (some ⟨wr.heap.size, 0, none⟩) 0 0) 0 (([] : List Int).flatMap intE) by
          rw [H2.out]; simpa using World.ownsRow_made (base := w.heap.size) (e := 2) (size := 1) wr #[] 0 M1.out.e.size (by unfold maxLen; omega) rfl)
        clear H2 g0 gl M1
        go_loopw [10, 67] (fun t_ i_ w' => ∃ (i : Nat) (A1 : Option Addr) (n1 c1 : Nat) (A2 : Option Addr) (c2 : Nat) (s2 : List Fac × List Int), i_ = .int .i64 i ∧ t_ = .slice A2 i c2 ∧ i ≤ n ∧ Hid (mrGo s.2 (rs.take i) (s.1, []) = s2) ∧ Hid (MrI s2 s.1.length i ∧ s.1.length ≤ s2.1.length) ∧ Hid (s2.1.length = n1) ∧
          Hid (MpW w w' G S (.slice A n c) (.slice A1 n1 c1) A1 n1 c1 s2.1 s.2) ∧ Hid (w'.ownsRow w.heap.size 2 1 (.slice A2 i c2) i (s2.2.flatMap intE))) (fun _ i_ _ => n - (intOf i_).toNat)
        case atStart => exact ⟨0, A', n', c', _, 0, _, rfl, rfl, by omega, Lib.hid rfl, Lib.hid ⟨HI0.out, Nat.le_refl _⟩, hsl, M2, O2⟩
        case round =>
          obtain ⟨i, A1, n1, c1, A2, c2, s2, rfl, rfl, hin, HQ, HI2, hs2, M1, O1⟩ := hrel
          have hn1 : n1 ≤ 8416 := by have := HI2.out.1.n; rw [hs2.out, hsl.out] at this; omega
          by_cases hlt : i < n
          · obtain ⟨b, o, x, rfl, hBr, gx, c0, c1', c2'⟩ := (HR.out.next M1.out.e).fac hlt
            have hxw := hwf.out i x gx
            have Hst2 := Lib.hid (show mrGo s.2 (rs.take (i + 1)) (s.1, []) = mrStep s.2 x s2 by rw [take_succ_at gx, mrGo_snoc, HQ.out])
            have HI3 := Lib.hid (show MrI (mrStep s.2 x s2) s.1.length (i + 1) ∧ s.1.length ≤ (mrStep s.2 x s2).1.length from by
              have h := HI2.out.1.step (st := s.2) (fun j hj => by have := hst4.out j hj; have := HI2.out.2; omega) hxw
              exact ⟨h.1, Nat.le_trans HI2.out.2 h.2⟩)
            have Mx := Lib.hid (M1.out.alloc (.cells #[.string x.l, .int .i64 x.a, .int .i64 x.b] 65))
            have Ox := Lib.hid (O1.out.alloc (.cells #[.string x.l, .int .i64 x.a, .int .i64 x.b] 65))
            have nbX := Lib.hid (show some wr.heap.size ≠ (Value.slice A1 n1 c1).ownBlock from fun e => by have := (M1.out.q.lt _ e.symm).2; omega)
            have nGX := Lib.hid (show G < wr.heap.size from M1.out.g.lt)
            have i0 : (0 : Int) ≤ (i : Int) := by omega
            have i1 : (i : Int) < (n : Int) := by omega
            clear gx
            rcases hxw with ⟨h0, a0, a1, b0, b1⟩ | ⟨cc, hcc, hxl, hxa, hxb⟩
            · have Hp := Lib.hid (show isP x = true by simp [isP, h0])
              have E0 := Lib.hid (show mrStep s.2 x s2 = (if s2.2.getD x.a.toNat 0 < 0 then (s2.1, s2.2 ++ [s2.2.getD x.b.toNat 0]) else if s2.2.getD x.b.toNat 0 < 0 then (s2.1, s2.2 ++ [s2.2.getD x.a.toNat 0]) else (s2.1 ++ [⟨⟨#[]⟩, s2.2.getD x.a.toNat 0, s2.2.getD x.b.toNat 0⟩], s2.2 ++ [(s2.1.length : Int)])) by unfold mrStep; rw [if_pos h0])
              have hba := HI2.out.1.b x.a.toNat (by omega)
              have hbb := HI2.out.1.b x.b.toNat (by omega)
              rw [hs2.out] at hba hbb
              have hst := Lib.hid HI2.out.1.st
              obtain ⟨gs, cps, hvs, _, _⟩ := O1.out.form (by omega)
              obtain rfl : A2 = some ⟨gs, 0, none⟩ := by injection hvs
              have HA := Lib.hid (fun (W : World) (h : W.ownsRow w.heap.size 2 1 (.slice (some ⟨gs, 0, none⟩) i c2) i (s2.2.flatMap intE)) => show W.cell? ⟨gs, x.a.toNat, none⟩ = some (.int .i64 (s2.2.getD x.a.toNat 0)) by simpa [intE] using own_at (enc := intE) (sz := 1) (fun _ _ => rfl) h hst.out 0 x.a.toNat (by omega) 0 Nat.zero_lt_one)
              have HB := Lib.hid (fun (W : World) (h : W.ownsRow w.heap.size 2 1 (.slice (some ⟨gs, 0, none⟩) i c2) i (s2.2.flatMap intE)) => show W.cell? ⟨gs, x.b.toNat, none⟩ = some (.int .i64 (s2.2.getD x.b.toNat 0)) by simpa [intE] using own_at (enc := intE) (sz := 1) (fun _ _ => rfl) h hst.out 0 x.b.toNat (by omega) 0 Nat.zero_lt_one)
              have ha2 : x.a < (i : Int) := a1
              have hb2 : x.b < (i : Int) := b1
              generalize s2.2.getD x.a.toNat 0 = sa at *
              generalize s2.2.getD x.b.toNat 0 = sb at *
              obtain ⟨q1, q2⟩ := hba
              obtain ⟨q3, q4⟩ := hbb
              clear hvs h0 a1 b1
              go_wp2_with fail
              refine (isPair_any x true _ Hp.out).mono ?_
              rintro e w1 ⟨rfl, hb1'⟩
              have M3 := Lib.hid (Mx.out.next hb1')
              have O3 := Lib.hid (own_next Ox.out hb1')
              have BX := Lib.hid ((Blk.new wr 65 #[.string x.l, .int .i64 x.a, .int .i64 x.b]).next hb1')
              obtain ⟨d0, d1, d2⟩ := BX.out.three
              have lx := BX.out.lt
              have ea := HA.out w1 O3.out
              have eb := HB.out w1 O3.out
              clear c0 c1' c2'
              by_cases hsa : sa < 0
              · have E := Lib.hid (show mrStep s.2 x s2 = (s2.1, s2.2 ++ [sb]) by rw [E0.out, if_pos hsa])
                go_wp2_with
                  (at_builtin
                   refine wpList_push (w0 := w) rfl _ _ _ rfl w.heap.size 2 1 8 elem_int intE _ i c2 s2.2 rfl (O3.out.alloc _) w1.heap.size sb #[.int .i64 sb] 2 (0, 0) rfl (heap_alloc_new _ _) rfl rfl (by simp [intE, Value.oneCell']) (by omega) (by omega) (by unfold maxLen; omega) rfl (M3.out.alloc (.cells #[.int .i64 sb] 2)).e ?_
                   intro A9 c9 w9 own9 hg9 hat9 hb9
                   have M9 := Lib.hid ((M3.out.alloc (.cells #[.int .i64 sb] 2)).far (O3.out.alloc _) hg9)
                   have O9 := Lib.hid own9; clear own9)
                go_roundw
                case rel => exact ⟨i + 1, A1, n1, c1, A9, c9, (s2.1, s2.2 ++ [sb]), by go_num, rfl, by omega, by rw [E.out] at Hst2; exact Hst2, by rw [E.out] at HI3; exact HI3, hs2, M9, O9⟩
                case measure => simp [intOf]; omega
              · by_cases hsb : sb < 0
                · have E := Lib.hid (show mrStep s.2 x s2 = (s2.1, s2.2 ++ [sa]) by rw [E0.out, if_neg hsa, if_pos hsb])
                  go_wp2_with
                    (at_builtin
                     refine wpList_push (w0 := w) rfl _ _ _ rfl w.heap.size 2 1 8 elem_int intE _ i c2 s2.2 rfl (O3.out.alloc _) w1.heap.size sa #[.int .i64 sa] 2 (0, 0) rfl (heap_alloc_new _ _) rfl rfl (by simp [intE, Value.oneCell']) (by omega) (by omega) (by unfold maxLen; omega) rfl (M3.out.alloc (.cells #[.int .i64 sa] 2)).e ?_
                     intro A9 c9 w9 own9 hg9 hat9 hb9
                     have M9 := Lib.hid ((M3.out.alloc (.cells #[.int .i64 sa] 2)).far (O3.out.alloc _) hg9)
                     have O9 := Lib.hid own9; clear own9)
                  go_roundw
                  case rel => exact ⟨i + 1, A1, n1, c1, A9, c9, (s2.1, s2.2 ++ [sa]), by go_num, rfl, by omega, by rw [E.out] at Hst2; exact Hst2, by rw [E.out] at HI3; exact HI3, hs2, M9, O9⟩
                  case measure => simp [intOf]; omega
                · have E1 := show mrStep s.2 x s2 = (s2.1 ++ [⟨⟨#[]⟩, sa, sb⟩], s2.2 ++ [(n1 : Int)]) by rw [E0.out, if_neg hsa, if_neg hsb, hs2.out]
                  have pc := fun W => pair64_any sa sb W (by omega) (by omega)
                  obtain ⟨y, hy⟩ : ∃ y : Fac, (⟨⟨#[]⟩, sa, sb⟩ : Fac) = y := ⟨_, rfl⟩
                  rw [hy] at E1 pc
                  have E := Lib.hid E1
                  have PC := Lib.hid pc
                  clear E1 pc hy E0
                  have gw1 := M3.out.g.cell 0
                  have gl1 := M3.out.g.lt
                  have zk : (n1 + 1) * 32 ≤ 140737488355328 := by omega
                  have zkm : n1 + 1 ≤ maxLen := by unfold maxLen; omega
                  have HS := Lib.hid (fun (W : World) (M : Blk W G 26 #[.slice A1 n1 c1]) (O : W.ownsRow w.heap.size 2 1 (.slice (some ⟨gs, 0, none⟩) i c2) i (s2.2.flatMap intE)) (X : Blk W wr.heap.size 65 #[.string x.l, .int .i64 x.a, .int .i64 x.b]) =>
                    show W.cell? ⟨G, 0, none⟩ = some (.slice A1 n1 c1) ∧ W.cell? ⟨wr.heap.size, 1, none⟩ = some (.int .i64 x.a) ∧ W.cell? ⟨wr.heap.size, 2, none⟩ = some (.int .i64 x.b) ∧ W.cell? ⟨gs, x.a.toNat, none⟩ = some (.int .i64 sa) ∧ W.cell? ⟨gs, x.b.toNat, none⟩ = some (.int .i64 sb) from
                    ⟨M.cell 0, X.three.2.1, X.three.2.2, HA.out W O, HB.out W O⟩)
                  have hS0 := HS.out w1.drew M3.out.g.drew (own_next O3.out (Below.refl _ _).drew) (BX.out.next (Below.refl _ _).drew)
                  go_wp2_with fail
                  clear ea eb d0 d1 d2
                  refine wp_region_N (fun W => W.cell? ⟨G, 0, none⟩ = some (.slice A1 n1 c1) ∧ W.cell? ⟨wr.heap.size, 1, none⟩ = some (.int .i64 x.a) ∧ W.cell? ⟨wr.heap.size, 2, none⟩ = some (.int .i64 x.b) ∧ W.cell? ⟨gs, x.a.toNat, none⟩ = some (.int .i64 sa) ∧ W.cell? ⟨gs, x.b.toNat, none⟩ = some (.int .i64 sb)) [16] (by kernel_rfl) ?_
                  refine wpAnyN_take (i := 0) (v := ?_) rfl (by kernel_rfl) (fun _ _ _ h => h) (by rfl) (fun W hW => ?_) hS0 ?_
                  rotate_left
                  · obtain ⟨z0, z1, z2, z3, z4⟩ := hW
                    go_simp
                    try with_reducible rfl
                  try simp only [Act.put, List.setIfInBounds_toArray, List.set_cons_zero, List.set_cons_succ]
                  refine wpAnyN_take (i := 1) (v := ?_) rfl (by kernel_rfl) (fun _ _ _ h => h) (by rfl) (fun W hW => ?_) hS0 ?_
                  rotate_left
                  · obtain ⟨z0, z1, z2, z3, z4⟩ := hW
                    go_simp
                    try with_reducible rfl
                  try simp only [Act.put, List.setIfInBounds_toArray, List.set_cons_zero, List.set_cons_succ]
                  refine wpAnyN_take (i := 2) (v := ?_) rfl (by kernel_rfl) (fun _ _ _ h => h) (by rfl) (fun W hW => ?_) hS0 ?_
                  rotate_left
                  · obtain ⟨z0, z1, z2, z3, z4⟩ := hW
                    go_simp
                    try with_reducible rfl
                  try simp only [Act.put, List.setIfInBounds_toArray, List.set_cons_zero, List.set_cons_succ]
                  refine wpAnyN_take (i := 3) (v := ?_) rfl (by kernel_rfl) (fun _ _ _ h => h) (by rfl) (fun W hW => ?_) hS0 ?_
                  rotate_left
                  · obtain ⟨z0, z1, z2, z3, z4⟩ := hW
                    go_simp
                    try with_reducible rfl
                  try simp only [Act.put, List.setIfInBounds_toArray, List.set_cons_zero, List.set_cons_succ]
                  refine wpAnyN_take (i := 4) (v := ?_) rfl (by kernel_rfl) (fun _ _ _ h => h) (by rfl) (fun W hW => ?_) hS0 ?_
                  rotate_left
                  · obtain ⟨z0, z1, z2, z3, z4⟩ := hW
                    go_simp
                    try with_reducible rfl
                  try simp only [Act.put, List.setIfInBounds_toArray, List.set_cons_zero, List.set_cons_succ]
                  refine wpAnyN_take (i := 5) (v := ?_) rfl (by kernel_rfl) (fun _ _ _ h => h) (by rfl) (fun W hW => ?_) hS0 ?_
                  rotate_left
                  · obtain ⟨z0, z1, z2, z3, z4⟩ := hW
                    go_simp
                    try with_reducible rfl
                  try simp only [Act.put, List.setIfInBounds_toArray, List.set_cons_zero, List.set_cons_succ]
                  refine wpAnyN_take (i := 6) (v := ?_) rfl (by kernel_rfl) (fun _ _ _ h => h) (by rfl) (fun W hW => ?_) hS0 ?_
                  rotate_left
                  · obtain ⟨z0, z1, z2, z3, z4⟩ := hW
                    go_simp
                    try with_reducible rfl
                  try simp only [Act.put, List.setIfInBounds_toArray, List.set_cons_zero, List.set_cons_succ]
                  refine wpAnyN_take (i := 7) (v := ?_) rfl (by kernel_rfl) (fun _ _ _ h => h) (by rfl) (fun W hW => ?_) hS0 ?_
                  rotate_left
                  · obtain ⟨z0, z1, z2, z3, z4⟩ := hW
                    go_simp
                    try with_reducible rfl
                  try simp only [Act.put, List.setIfInBounds_toArray, List.set_cons_zero, List.set_cons_succ]
                  refine wpAnyN_take (i := 8) (v := ?_) rfl (by kernel_rfl) (fun _ _ _ h => h) (by rfl) (fun W hW => ?_) hS0 ?_
                  rotate_left
                  · obtain ⟨z0, z1, z2, z3, z4⟩ := hW
                    go_simp
                    try with_reducible rfl
                  try simp only [Act.put, List.setIfInBounds_toArray, List.set_cons_zero, List.set_cons_succ]
                  refine wpAnyN_take (i := 9) (v := ?_) rfl (by kernel_rfl) (fun _ _ _ h => h) (by rfl) (fun W hW => ?_) hS0 ?_
                  rotate_left
                  · obtain ⟨z0, z1, z2, z3, z4⟩ := hW
                    go_simp
                    try with_reducible rfl
                  try simp only [Act.put, List.setIfInBounds_toArray, List.set_cons_zero, List.set_cons_succ]
                  refine wpAnyN_take (i := 10) (v := ?_) rfl (by kernel_rfl) (fun _ _ _ h => h) (by rfl) (fun W hW => ?_) hS0 ?_
                  rotate_left
                  · obtain ⟨z0, z1, z2, z3, z4⟩ := hW
                    go_simp
                    try with_reducible rfl
                  try simp only [Act.put, List.setIfInBounds_toArray, List.set_cons_zero, List.set_cons_succ]
                  refine wpAnyN_take (i := 11) (v := ?_) rfl (by kernel_rfl) (fun _ _ _ h => h) (by rfl) (fun W hW => ?_) hS0 ?_
                  rotate_left
                  · obtain ⟨z0, z1, z2, z3, z4⟩ := hW
                    go_simp
                    try with_reducible rfl
                  try simp only [Act.put, List.setIfInBounds_toArray, List.set_cons_zero, List.set_cons_succ]
                  refine wpAnyN_next (i := 12) rfl (by kernel_rfl) (fun K hK => ?_)
                  go_simp
                  go_wp2_with (go_at_call 32; refine (PC.out _).mono ?_; rintro e w4 ⟨rfl, hb4'⟩)
                  have bm : Below w1.heap.size w1 w4 := (Below.refl _ _).drew.trans hb4'
                  have M4 := Lib.hid (M3.out.next bm)
                  have O4 := Lib.hid (own_next O3.out bm)
                  have M5 := Lib.hid (M4.out.alloc (.cells #[.string y.l, .int .i64 y.a, .int .i64 y.b] 65))
                  have O5 := Lib.hid (O4.out.alloc (.cells #[.string y.l, .int .i64 y.a, .int .i64 y.b] 65))
                  refine hK.out _ _ (fun _ => HS.out _ M4.out.g O4.out (BX.out.next bm)) ?_
                  clear hK K
                  try simp only [Act.put, List.setIfInBounds_toArray, List.set_cons_zero, List.set_cons_succ]
                  refine wpAnyN_next (i := 13) rfl (by kernel_rfl) (fun K hK => ?_)
                  go_simp
                  refine hK.out _ _ (fun _ => HS.out _ M5.out.g O5.out ((BX.out.next bm).alloc _)) ?_
                  clear hK K hS0
                  try simp only [Act.put, List.setIfInBounds_toArray, List.set_cons_zero, List.set_cons_succ]
                  refine wpAnyN_next (i := 14) rfl (by kernel_rfl) (fun K hK => ?_)
                  refine step_push (by rfl) _ _ _ (by rfl) w.heap.size 65 3 32 elem_rule Fac.cells A1 n1 c1 s2.1 (by rfl) M5.out.q _ y #[.string y.l, .int .i64 y.a, .int .i64 y.b] 65 (0, 0) (by rfl) (heap_alloc_new _ _) rfl rfl (one_fac _) (by omega) zk zkm M5.out.e.size ?_
                  intro A8 c8 w8 own8 hg8 old8
                  have M8 := Lib.hid (M5.out.app own8 hg8)
                  have O8 := Lib.hid (O5.out.kept hg8 (own_ne O5.out M5.out.q (by decide)))
                  have d8 := M8.out.g.cell 0
                  have f8 := M8.out.g.frozen
                  have l8 := M8.out.g.lt
                  refine hK.out _ _ (fun _ => HS.out _ M8.out.g O8.out (((BX.out.next bm).alloc _).grown hg8 nbX.out)) ?_
                  clear hK K
                  try simp only [Act.put, List.setIfInBounds_toArray, List.set_cons_zero, List.set_cons_succ]
                  have hS1 := HS.out _ M8.out.g O8.out (((BX.out.next bm).alloc (.cells #[.string y.l, .int .i64 y.a, .int .i64 y.b] 65)).grown hg8 nbX.out)
                  refine wpAnyN_next (i := 15) rfl (by kernel_rfl) (fun K hK => ?_)
                  go_simp
                  refine hK.out _ _ (fun _ => hS1) ?_
                  clear hK K hS1 own8 hg8 old8
                  try simp only [Act.put, List.setIfInBounds_toArray, List.set_cons_zero, List.set_cons_succ]
                  refine wpAnyN_next (i := 16) rfl (by kernel_rfl) (fun K hK => ?_)
                  go_simp
                  refine hK.out _ _ (fun h => absurd h (by decide)) ?_
                  clear hK K
                  refine wpAnyN_done (by kernel_rfl) ?_ _
                  have M6' := Lib.hid (M8.out.put (.slice A8 (n1 + 1) c8))
                  have O6' := Lib.hid (own_kept' (i := 0) O8.out M8.out.g (by decide) (.slice A8 (n1 + 1) c8))
                  have g9 := M6'.out.g.cell 0
                  have l9 := M6'.out.g.lt
                  have um : IntKind.i64.wrap (((n1 + 1 : Nat) : Int) - 1) = (n1 : Int) := by rw [IntWalk.i64_in _ (by omega)]; omega
                  have BN0 := Blk.new (w8.setCell ⟨G, 0, none⟩ (.slice A8 (n1 + 1) c8)) 2 #[.int .i64 (n1 : Int)]
                  rw [show (w8.setCell ⟨G, 0, none⟩ (.slice A8 (n1 + 1) c8)).heap.size = w8.heap.size by simp] at BN0
                  have BN := Lib.hid BN0
                  clear BN0 d8 f8 l8 gw1 gl1
                  go_wp2_with
                    (at_builtin
                     refine wpList_push (w0 := w) rfl _ _ _ rfl w.heap.size 2 1 8 elem_int intE _ i c2 s2.2 rfl (O6'.out.alloc _) w8.heap.size (n1 : Int) #[.int .i64 (n1 : Int)] 2 (0, 0) rfl BN.out rfl rfl (by simp [intE, Value.oneCell']) (by omega) (by omega) (by unfold maxLen; omega) rfl (M6'.out.alloc (.cells #[.int .i64 (n1 : Int)] 2)).e ?_
                     intro A9 c9 w9 own9 hg9 hat9 hb9
                     have M9 := Lib.hid ((M6'.out.alloc (.cells #[.int .i64 (n1 : Int)] 2)).far (O6'.out.alloc _) hg9)
                     have O9 := Lib.hid own9; clear own9)
                  go_roundw
                  case rel => exact ⟨i + 1, A8, n1 + 1, c8, A9, c9, (s2.1 ++ [y], s2.2 ++ [(n1 : Int)]), by go_num, rfl, by omega, by rw [E.out] at Hst2; exact Hst2, by rw [E.out] at HI3; exact HI3, Lib.hid (by rw [List.length_append, hs2.out]; rfl), M9, O9⟩
                  case measure => simp [intOf]; omega
            · have Hp := Lib.hid (show isP x = false by unfold isP; rw [hxl]; rfl)
              obtain ⟨xl, xa, xb⟩ := x
              simp only at hxl hxa hxb
              subst hxl hxa hxb
              obtain ⟨hl0, hl1⟩ := letB_num hcc
              have E := Lib.hid (show mrStep s.2 ⟨⟨#[cc]⟩, 0, 0⟩ s2 = (s2.1, s2.2 ++ [s.2.getD (cc.toNat - 97) 0]) from rfl)
              have hq0 : (0 : Nat) < ByteArray.size ⟨#[cc]⟩ := Nat.zero_lt_one
              have hl2 : (97 : Int) ≤ (((⟨#[cc]⟩ : ByteArray)[0]'hq0).toNat : Int) := hl0
              have hl3 : (((⟨#[cc]⟩ : ByteArray)[0]'hq0).toNat : Int) ≤ 100 := hl1
              go_wp2_with fail
              refine (isPair_any ⟨⟨#[cc]⟩, 0, 0⟩ false _ Hp.out).mono ?_
              rintro e w1 ⟨rfl, hb1'⟩
              have M3 := Lib.hid (Mx.out.next hb1')
              have O3 := Lib.hid (own_next Ox.out hb1')
              have BX := Lib.hid ((Blk.new wr 65 #[.string ⟨#[cc]⟩, .int .i64 0, .int .i64 0]).next hb1')
              obtain ⟨d0, d1, d2⟩ := BX.out.three
              have lx := BX.out.lt
              have s9 := M3.out.s.cell (((⟨#[cc]⟩ : ByteArray)[0]'hq0).toNat - 97)
              rw [intA_at s.2 (by rw [HI.out.st]; omega)] at s9
              have e9 : s.2.getD (((⟨#[cc]⟩ : ByteArray)[0]'hq0).toNat - 97) 0 = s.2.getD (cc.toNat - 97) 0 := rfl
              rw [e9] at s9
              clear e9
              have ls9 := M3.out.s.lt
              generalize s.2.getD (cc.toNat - 97) 0 = sv at *
              go_wp2_with
                (at_builtin
                 refine wpList_push (w0 := w) rfl _ _ _ rfl w.heap.size 2 1 8 elem_int intE _ i c2 s2.2 rfl (O3.out.alloc _) w1.heap.size sv #[.int .i64 sv] 2 (0, 0) rfl (heap_alloc_new _ _) rfl rfl (by simp [intE, Value.oneCell']) (by omega) (by omega) (by unfold maxLen; omega) rfl (M3.out.alloc (.cells #[.int .i64 sv] 2)).e ?_
                 intro A9 c9 w9 own9 hg9 hat9 hb9
                 have M9 := Lib.hid ((M3.out.alloc (.cells #[.int .i64 sv] 2)).far (O3.out.alloc _) hg9)
                 have O9 := Lib.hid own9; clear own9)
              go_roundw
              case rel => exact ⟨i + 1, A1, n1, c1, A9, c9, (s2.1, s2.2 ++ [sv]), by go_num, rfl, by omega, by rw [E.out] at Hst2; exact Hst2, by rw [E.out] at HI3; exact HI3, hs2, M9, O9⟩
              case measure => simp [intOf]; omega
          · have hin' : i = n := by omega
            have hQ := HQ.out
            rw [hin', show rs.take n = rs from List.take_of_length_le (by rw [hl.out]; omega)] at hQ
            have HS2 := Lib.hid (show mapS2 rs ws = s2 by unfold mapS2; rw [HS1.out]; exact hQ)
            have HF := show mapF rs ws = (if 400 < s2.1.length then [] else if s2.2.length = 0 ∨ lastI s2.2 < 0 then [] else limF (mapT rs ws)) by unfold mapF; rw [HMO.out, HS2.out]; rfl
            have HC := show mapC rs ws = (if 400 < s2.1.length then 3 else if s2.2.length = 0 ∨ lastI s2.2 < 0 then 0 else limC (mapT rs ws)) by unfold mapC; rw [HMO.out, HS2.out]; rfl
            have HT := show mapT rs ws = trimL (s2.1.take ((lastI s2.2).toNat + 1)) by unfold mapT; rw [HS2.out]
            rw [hs2.out, HI2.out.1.st, hin'] at HF HC
            clear hQ HQ HS2
            have HF' := Lib.hid HF
            have HC' := Lib.hid HC
            have HT' := Lib.hid HT
            have o1 := M1.out.o.cell 0
            have f1 := M1.out.o.frozen
            have l1 := M1.out.o.lt
            have g1 := M1.out.g.cell 0
            have lg1 := M1.out.g.lt
            have shut : ∀ w4, MpW w w4 G S (.slice A n c) (.slice A1 n1 c1) A1 n1 c1 s2.1 s.2 →
                (w4.cell? ⟨w.heap.size + 1, 0, none⟩ = some (.slice none 0 0)) ∧ (∀ i, w4.frozen? ⟨w.heap.size + 1, i, none⟩ = false) ∧ w.heap.size + 1 < w4.heap.size ∧
                (w4.setCell ⟨w.heap.size + 1, 0, none⟩ (.slice none 0 0)).cell? ⟨w.heap.size + 1, 0, none⟩ = some (.slice none 0 0) ∧ Below w.heap.size w (w4.setCell ⟨w.heap.size + 1, 0, none⟩ (.slice none 0 0)) := fun w4 M => by
              refine ⟨M.o.cell 0, M.o.frozen, M.o.lt, ?_, M.e.setCell (by simp) _⟩
              rw [(M.o.set_ 0 (.slice none 0 0)).cell 0]; rfl
            have Shut_ := Lib.hid shut
            clear shut HF HC HT hin'
            by_cases hbig : 400 < n1
            · have eT := Lib.hid (show mapF rs ws = [] by rw [HF'.out, if_pos hbig])
              have eC := Lib.hid (show mapC rs ws = 3 by rw [HC'.out, if_pos hbig])
              obtain ⟨_, _, _, x5, b5'⟩ := Shut_.out wr M1.out
              go_wp2_with fail
              exact bodyPost_ret (v := .tuple #[.agg #[.slice none 0 0], .int .i64 3]) (by simp [results, Try.results10, go_sem, x5]) rfl ⟨none, 0, by rw [eT.out, eC.out]; rfl, by rw [eT.out]; exact World.ownsRow_nil _ _ _ _, b5'⟩
            · by_cases hn0 : n = 0
              · have eT := Lib.hid (show mapF rs ws = [] by rw [HF'.out, if_neg hbig, if_pos (.inl hn0)])
                have eC := Lib.hid (show mapC rs ws = 0 by rw [HC'.out, if_neg hbig, if_pos (.inl hn0)])
                obtain ⟨_, _, _, x5, b5'⟩ := Shut_.out wr M1.out
                have i00 : i = 0 := by omega
                subst i00
                go_wp2_with fail
                exact bodyPost_ret (v := .tuple #[.agg #[.slice none 0 0], .int .i64 0]) (by simp [results, Try.results10, go_sem, x5]) rfl ⟨none, 0, by rw [eT.out, eC.out]; rfl, by rw [eT.out]; exact World.ownsRow_nil _ _ _ _, b5'⟩
              · have hi0 : ((i : Int) == 0) = false := by simp; omega
                have hlb := Lib.hid (show -1 ≤ lastI s2.2 ∧ lastI s2.2 < (n1 : Int) by
                  have := HI2.out.1.b (i - 1) (by omega)
                  rw [hs2.out] at this
                  unfold lastI; rw [HI2.out.1.st]; exact this)
                have hst := Lib.hid HI2.out.1.st
                have RS := Lib.hid (Rd.of_own (enc := intE) (fun x _ => rfl) hst.out O1.out)
                have LC := Lib.hid (fun W (h : Below wr.heap.size wr W) => last_any A2 i c2 s2.2 W (by omega) (RS.out.next h))
                generalize lastI s2.2 = sl at *
                obtain ⟨hlb0, hlb1⟩ := hlb.out
                by_cases hsl0 : sl < 0
                · have eT := Lib.hid (show mapF rs ws = [] by rw [HF'.out, if_neg hbig, if_pos (.inr hsl0)])
                  have eC := Lib.hid (show mapC rs ws = 0 by rw [HC'.out, if_neg hbig, if_pos (.inr hsl0)])
                  go_wp2_with fail
                  refine (LC.out _ (Below.refl _ _)).mono ?_
                  rintro e w4 ⟨rfl, hb4'⟩
                  obtain ⟨o4, f4, l4, x5, b5'⟩ := Shut_.out w4 (M1.out.next hb4')
                  go_wp2_with fail
                  exact bodyPost_ret (v := .tuple #[.agg #[.slice none 0 0], .int .i64 0]) (by simp [results, Try.results10, go_sem, x5]) rfl ⟨none, 0, by rw [eT.out, eC.out]; rfl, by rw [eT.out]; exact World.ownsRow_nil _ _ _ _, b5'⟩
                · have eT0 := Lib.hid (show mapF rs ws = limF (trimL (s2.1.take (sl.toNat + 1))) by rw [HF'.out, if_neg hbig, if_neg (by omega), HT'.out])
                  have eC0 := Lib.hid (show mapC rs ws = limC (trimL (s2.1.take (sl.toNat + 1))) by rw [HC'.out, if_neg hbig, if_neg (by omega), HT'.out])
                  have hwt := Lib.hid (wf_take HI2.out.1.wf (sl.toNat + 1))
                  have hsz := Lib.hid (trimL_sz hwt.out)
                  go_wp2_with fail
                  refine (LC.out _ (Below.refl _ _)).mono ?_
                  rintro e w4 ⟨rfl, hb4'⟩
                  have M4 := Lib.hid (M1.out.next hb4')
                  have g4 := M4.out.g.cell 0
                  have l4 := M4.out.g.lt
                  clear o1 f1 l1 g1 lg1
                  go_wp2_with fail
                  have M3 := Lib.hid M4.out.drew
                  have LC2 := Lib.hid (fun W (h : Below w4.heap.size w4 W) => LC.out W (hb4'.trans (h.mono hb4'.size)))
                  have RO := Lib.hid (Rd.of_own (fun x _ => fac_len x) hs2.out M4.out.q)
                  have RT := Lib.hid (rd_take RO.out (k := sl.toNat + 1) (by omega))
                  have u1 : IntKind.i64.wrap (sl + 1) = sl + 1 := IntWalk.i64_in _ (by omega)
                  have j0 : (0 : Int) ≤ sl + 1 := by omega
                  have hc1 : n1 ≤ c1 := by
                    obtain ⟨g1', cp1, hv1, _, _⟩ := M4.out.q.form (by omega)
                    have h2 := M4.out.q.2
                    rcases h2 with ⟨hnil, hz⟩ | ⟨g2, cap2, cur2, hv2, _, _, h3, _⟩
                    · omega
                    · injection hv2 with _ _ h4; omega
                  have j1 : sl + 1 ≤ (c1 : Int) := by omega
                  have jn : (sl + 1).toNat = sl.toNat + 1 := by omega
                  have TC := Lib.hid (fun W (h : Below w4.heap.size w4 W) => trimmed_any A1 (sl.toNat + 1) c1 (s2.1.take (sl.toNat + 1)) W (by omega) (RT.out.next h) hwt.out)
                  have htl : (trimL (s2.1.take (sl.toNat + 1))).length ≤ 9000 := by
                    have h1 := trimL_le (s2.1.take (sl.toNat + 1))
                    rw [List.length_take, hs2.out] at h1
                    omega
                  have Htl := Lib.hid htl
                  unfold RetG at TC
                  have hok5 := Lib.hid (fun f (hf : f ∈ trimL (s2.1.take (sl.toNat + 1))) => show f.l.size ≤ maxLen from by have := hsz.out f hf; unfold maxLen; omega)
                  generalize trimL (s2.1.take (sl.toNat + 1)) = T at *
                  obtain ⟨L, hL⟩ : ∃ L, T.length = L := ⟨_, rfl⟩
                  rw [hL] at TC htl
                  have HL := Lib.hid hL
                  have OC := Lib.hid (fun (A5 : Option Addr) (c5 : Nat) W (h : Rd W W.heap.size A5 L 3 Fac.cells T) => orLimit_any A5 L c5 T W (by omega) h hok5.out)
                  clear hL hsl0 hlb0 hlb1
                  rcases hb : (gOk T).isSome with _ | _
                  all_goals
                    have Hb := Lib.hid hb
                    rw [hb] at OC
                    have eT : mapF rs ws = _ := eT0.out
                    have eC : mapC rs ws = _ := eC0.out
                    unfold limF at eT
                    unfold limC at eC
                    rw [hb] at eT eC
                    have HeT := Lib.hid eT
                    have HeC := Lib.hid eC
                    unfold orLim at OC
                    simp only [cond_false, cond_true] at OC
                    clear hb eT eC
                    go_region_law
                      (first
                        | (go_simp
                           go_wp2_with (go_at_call 34; refine (OC.out A5 c5 _ R5.out).mono ?_; rintro e w7 ⟨rfl, hb7⟩)
                           have M7 := Lib.hid (M6'.out.next hb7)
                           have O7 := Lib.hid (own_next O6.out hb7)
                           have o7 := M7.out.o.cell 0
                           have f7 := M7.out.o.frozen
                           have l7 := M7.out.o.lt)
                        | (go_simp
                           go_wp2_with (go_at_call 35; refine (TC.out _ b5x.out).mono ?_; rintro e w6' ⟨A5, c5, rfl, own5, hb6'⟩)
                           have M6' := Lib.hid (M5.out.next hb6')
                           have R5 := Lib.hid (Rd.of_own (fun y _ => fac_len y) HL.out own5)
                           have O6 := Lib.hid (own5.mono M5.out.e.size)
                           clear own5)
                        | (go_simp
                           go_wp2_with (go_at_call 33; refine (LC2.out _ (Below.refl _ _).drew).mono ?_; rintro e w5' ⟨rfl, hb5'⟩)
                           have b5x := Lib.hid (show Below w4.heap.size w4 w5' from (Below.refl _ _).drew.trans hb5')
                           have M5 := Lib.hid (M4.out.next b5x.out)
                           have g5 := M5.out.g.cell 0
                           have l5 := M5.out.g.lt))
                    all_goals
                      first
                        | (have B5 := M7.out.o.set_ 0 (.slice none 0 0)
                           have x5 : (w7.setCell ⟨w.heap.size + 1, 0, none⟩ (.slice none 0 0)).cell? ⟨w.heap.size + 1, 0, none⟩ = some (.slice none 0 0) := by rw [B5.cell 0]; rfl
                           have b5' := M7.out.e.setCell (p := ⟨w.heap.size + 1, 0, none⟩) (by simp) (.slice none 0 0)
                           clear B5
                           go_wp2_with fail
                           exact bodyPost_ret (v := .tuple #[.agg #[.slice none 0 0], .int .i64 3]) (by simp [results, Try.results10, go_sem, x5]) rfl ⟨none, 0, by rw [HeT.out, HeC.out]; rfl, by rw [HeT.out]; exact World.ownsRow_nil _ _ _ _, b5'⟩)
                        | (have B5 := M7.out.o.set_ 0 (.slice A5 L c5)
                           have x5 : (w7.setCell ⟨w.heap.size + 1, 0, none⟩ (.slice A5 L c5)).cell? ⟨w.heap.size + 1, 0, none⟩ = some (.slice A5 L c5) := by rw [B5.cell 0]; rfl
                           have b5' := M7.out.e.setCell (p := ⟨w.heap.size + 1, 0, none⟩) (by simp) (.slice A5 L c5)
                           have O8 := Lib.hid (own_kept' (i := 0) O7.out M7.out.o (by decide) (.slice A5 L c5))
                           clear B5
                           go_wp2_with fail
                           exact bodyPost_ret (v := .tuple #[.agg #[.slice A5 L c5], .int .i64 0]) (by simp [results, Try.results10, go_sem, x5]) rfl ⟨A5, c5, by rw [HeT.out, HeC.out]; simp [HL.out], by rw [HeT.out]; simpa [HL.out] using O8.out, b5'⟩)
end Go.Proofs.Ytfanphhlagjkdaa


/-
  All places of a word at which another one begins, in the reference.
-/
namespace Go.Proofs.Ytfanphhlagjkdaa
open Go.RowKit

/-- the places before one at which a word begins -/
def fndT (p s : ByteArray) (k : Nat) : List Int := ((List.range k).filter (fun i => decide (s.extract i (i + p.size) = p))).map (fun (i : Nat) => (i : Int))
def fndL (p s : ByteArray) : List Int := fndT p s (s.size + 1 - p.size)
theorem fndT_yes {p s : ByteArray} {k : Nat} (h : s.extract k (k + p.size) = p) : fndT p s (k + 1) = fndT p s k ++ [(k : Int)] := by
  simp [fndT, List.range_succ, h]
theorem fndT_no {p s : ByteArray} {k : Nat} (h : ¬ s.extract k (k + p.size) = p) : fndT p s (k + 1) = fndT p s k := by
  simp [fndT, List.range_succ, h]
theorem fndT_len (p s : ByteArray) (k : Nat) : (fndT p s k).length ≤ k := by
  unfold fndT
  rw [List.length_map]
  exact Nat.le_trans (List.length_filter_le _ _) (by simp)
set_option maxHeartbeats 1000000 in
set_option maxRecDepth 100000 in
theorem l01Found_any (p s : ByteArray) (w : World) (hp : p.size ≤ 1048576) (hs : s.size ≤ 1048576) :
    Calls Try.prog 76 #[.string p, .string s] w (RetNew w 2 1 intE (fndL p s)) := by
  go_enter Try.func76, Try.ntmps76
  go_wp2_with fail
  go_loopw [5, 6] (fun o_ i_ w' => ∃ (k n : Nat) (A' : Option Addr) (c' : Nat), i_ = .int .i64 k ∧ o_ = .slice A' n c' ∧ k ≤ s.size + 1 - p.size ∧ n ≤ k ∧ Hid ((fndT p s k).length = n) ∧
      Hid (w'.ownsRow w.heap.size 2 1 (.slice A' n c') n ((fndT p s k).flatMap intE)) ∧ Below w.heap.size w w') (fun _ i_ _ => s.size + 1 - (intOf i_).toNat)
  case atStart =>
    exact ⟨0, 0, _, 0, rfl, rfl, by omega, by omega, Lib.hid rfl, Lib.hid (by simpa [fndT] using World.ownsRow_made (base := w.heap.size) (e := 2) (size := 1) w #[] 0 (by simp) (by unfold maxLen; omega) rfl), by (repeat first | exact Below.refl _ _ | assumption | refine Below.drew ?_ | refine Below.alloc ?_ (by first | exact Nat.le_refl _ | (simp; done) | omega | (simp; omega)) _ | refine Below.setCell ?_ (by first | exact Nat.le_refl _ | (simp; done) | omega | (simp; omega)) _)⟩
  case round =>
    obtain ⟨k, n, A', c', rfl, rfl, hk, hn, hl, hown, hb⟩ := hrel
    by_cases hlt : k + p.size ≤ s.size
    · by_cases he : s.extract k (k + p.size) = p
      · have hst := Lib.hid (fndT_yes he)
        have hq : ((s.extract k (k + p.size)).toList == p.toList) = true := by rw [tl_beq]; simpa using he
        clear he
        go_wp2_with
          (at_builtin
           refine wpList_push (w0 := w) rfl _ _ _ rfl w.heap.size 2 1 8 elem_int intE _ n c' (fndT p s k) rfl (hown.out.alloc _) wr.heap.size (k : Int) #[.int .i64 (k : Int)] 2 (0, 0) rfl (heap_alloc_new _ _) rfl rfl (by simp [intE, Value.oneCell']) (by omega) (by omega) (by unfold maxLen; omega) rfl (hb.alloc hb.size _) ?_
           intro A9 c9 w9 own9 hg9 hat9 hb9
           have O9 := Lib.hid own9; clear own9)
        go_roundw
        case rel => exact ⟨k + 1, n + 1, A9, c9, by go_num, rfl, by omega, by omega, Lib.hid (by rw [hst.out, List.length_append, hl.out]; rfl), Lib.hid (by rw [hst.out]; exact O9.out), hb9⟩
        case measure => simp [intOf]; omega
      · have hst := Lib.hid (fndT_no he)
        have hq : ((s.extract k (k + p.size)).toList == p.toList) = false := by rw [tl_beq]; simpa using he
        clear he
        go_wp2_with fail
        go_roundw
        case rel => exact ⟨k + 1, n, A', c', by go_num, rfl, by omega, by omega, Lib.hid (by rw [hst.out]; exact hl.out), Lib.hid (by rw [hst.out]; exact hown.out), hb⟩
        case measure => simp [intOf]; omega
    · have hkk : k = s.size + 1 - p.size := by omega
      have e := Lib.hid (show fndL p s = fndT p s k by unfold fndL; rw [hkk])
      clear hkk
      go_wp2_with fail
      go_ret
      refine ⟨A', c', ret_slice (by rw [e.out, hl.out]), ?_, hb⟩
      rw [e.out, hl.out]
      exact hown.out
end Go.Proofs.Ytfanphhlagjkdaa


/-
  The grammar of a plain word in the reference.
-/
namespace Go.Proofs.Ytfanphhlagjkdaa
open Go.RowKit

theorem fnd_one (u : UInt8) (s : ByteArray) : 0 < (fndL ⟨#[u]⟩ s).length ↔ u ∈ s.data.toList := by
  unfold fndL fndT
  rw [List.length_map, List.length_pos_iff_exists_mem]
  constructor
  · rintro ⟨i, hi⟩
    rw [List.mem_filter] at hi
    have h1 : i < s.size := by have := List.mem_range.1 hi.1; have : (⟨#[u]⟩ : ByteArray).size = 1 := rfl; omega
    have h2 : s.extract i (i + 1) = ⟨#[u]⟩ := of_decide_eq_true hi.2
    have h3 : (s.extract i (i + 1)).data.toList = [u] := by rw [h2]
    rw [ByteArray.data_extract, Array.toList_extract, List.extract_eq_take_drop, drop_cons (at_byte s i h1)] at h3
    simp only [Nat.add_sub_cancel_left, List.take_succ_cons, List.take_zero] at h3
    injection h3 with h4
    rw [← h4]; exact List.mem_of_getElem? (at_byte s i h1)
  · intro h
    obtain ⟨i, hi, he⟩ := List.mem_iff_getElem.1 h
    have hi' : i < s.size := by rw [byte_len] at hi; exact hi
    refine ⟨i, List.mem_filter.2 ⟨List.mem_range.2 ?_, decide_eq_true ?_⟩⟩
    · show i < s.size + 1 - 1; omega
    · show s.extract i (i + 1) = _
      apply ByteArray.ext
      rw [ByteArray.data_extract]
      apply Array.ext'
      rw [Array.toList_extract, List.extract_eq_take_drop, drop_cons (at_byte s i hi')]
      simp only [Nat.add_sub_cancel_left, List.take_succ_cons, List.take_zero]
      congr 1
theorem idx_ks (w : List UInt8) (u : UInt8) (h : letB u = true) (hm : u ∈ w) : (ksP w).idxOf u = (ksT w u.toNat).length := by
  have h : (97 : Int) ≤ u.toNat ∧ (u.toNat : Int) ≤ 100 := by simpa [letB] using h
  have h4 : u = 97 ∨ u = 98 ∨ u = 99 ∨ u = 100 := by
    simp only [← UInt8.toNat_inj]
    have : u.toNat = 97 ∨ u.toNat = 98 ∨ u.toNat = 99 ∨ u.toNat = 100 := by omega
    exact this
  unfold ksT ksP
  rcases h4 with rfl | rfl | rfl | rfl
  all_goals
    by_cases h1 : (97 : UInt8) ∈ w <;> by_cases h2 : (98 : UInt8) ∈ w <;> by_cases h3 : (99 : UInt8) ∈ w <;> by_cases h4 : (100 : UInt8) ∈ w <;> simp_all [List.idxOf_cons]

/-- 'l02Plain' under way -/
structure PsW (w W : World) (A : Option Addr) (n c : Nat) (rs : List Fac) (at_ : List Int) : Prop where
  q : W.ownsRow w.heap.size 65 3 (.slice A n c) n (rs.flatMap Fac.cells)
  o : Blk W w.heap.size 26 #[.slice none 0 0]
  g : Blk W (w.heap.size + 1) 26 #[.slice A n c]
  v : Blk W (w.heap.size + 2) 2 (intA at_)
  e : Below w.heap.size w W
section
variable {w W W' : World} {A : Option Addr} {n c : Nat} {rs : List Fac} {at_ : List Int}
theorem PsW.next (h : PsW w W A n c rs at_) (hb : Below W.heap.size W W') : PsW w W' A n c rs at_ :=
  ⟨own_next h.q hb, h.o.next hb, h.g.next hb, h.v.next hb, h.e.trans (hb.mono h.e.size)⟩
theorem PsW.alloc (h : PsW w W A n c rs at_) (o : Obj) : PsW w (W.alloc o) A n c rs at_ := h.next ((Below.refl _ _).alloc (Nat.le_refl _) _)
theorem PsW.push {A8 : Option Addr} {k8 c8 : Nat} {rs' : List Fac} (h : PsW w W A n c rs at_) (hq : W'.ownsRow w.heap.size 65 3 (.slice A8 k8 c8) k8 (rs'.flatMap Fac.cells)) (hg : W.grownBy W' (Value.slice A n c).ownBlock) :
    PsW w (W'.setCell ⟨w.heap.size + 1, 0, none⟩ (.slice A8 k8 c8)) A8 k8 c8 rs' at_ := by
  have ho' := h.o.grown hg (own_blk_ne h.q h.o (by decide))
  have hg' := h.g.grown hg (own_blk_ne h.q h.g (by decide))
  have hv' := h.v.grown hg (own_blk_ne h.q h.v (by decide))
  have he' := h.e.grown hg h.e.size (own_ge h.q)
  have hg2 := gb_set W' (w.heap.size + 1) 0 (.slice A8 k8 c8)
  exact ⟨own_kept' hq hg' (by decide) _, ho'.grown hg2 (by intro e; injection e with e; omega), hg'.set_ 0 _, hv'.grown hg2 (by intro e; injection e with e; omega), he'.setCell (by simp) _⟩
theorem PsW.tell (h : PsW w W A n c rs at_) (i : Nat) (z : Int) : PsW w (W.setCell ⟨w.heap.size + 2, i, none⟩ (.int .i64 z)) A n c rs (at_.set i z) := by
  have hg2 := gb_set W (w.heap.size + 2) i (.int .i64 z)
  have := h.v.set_ i (.int .i64 z)
  rw [intA_set] at this
  exact ⟨own_kept' h.q h.v (by decide) _, h.o.grown hg2 (by intro e; injection e with e; omega), h.g.grown hg2 (by intro e; injection e with e; omega), this, h.e.setCell (by simp) _⟩
end
set_option maxHeartbeats 4000000 in
set_option maxRecDepth 100000 in
theorem l02Plain_any (s : ByteArray) (w : World) (ho : okW s = true) : Calls Try.prog 50 #[.string s] w (RetG w (plainL s.data.toList)) := by
  have hs := okW_size ho
  have HL := Lib.hid (fun (i : Nat) (hi : i < s.size) => okW_at ho hi)
  have mkN := fun W => show (Instr.makeSlice 43 (.int .i64 4) (.int .i64 4)).run Try.prog W = .ok (.slice (some ⟨W.heap.size, 0, none⟩) 4 4) (W.alloc (.cells (intA (List.replicate 4 0)) 2)) from makeN 4 W (by omega)
  clear ho
  go_enter Try.func50, Try.ntmps50
  go_wp2_with fail
  refine named fun w0 H0 => ?_
  have P0 := Lib.hid (show PsW w w0 none 0 0 [] (List.replicate 4 0) by
    rw [H0.out]
    refine ⟨World.ownsRow_nil _ _ _ _, ?_, ?_, ?_, by (repeat first | exact Below.refl _ _ | assumption | refine Below.drew ?_ | refine Below.alloc ?_ (by first | exact Nat.le_refl _ | (simp; done) | omega | (simp; omega)) _ | refine Below.setCell ?_ (by first | exact Nat.le_refl _ | (simp; done) | omega | (simp; omega)) _)⟩
    · exact ((Blk.new w _ _).alloc _).alloc _
    · simpa using (Blk.new (w.alloc (.cells #[.slice none 0 0] 26)) 26 #[.slice none 0 0]).alloc _
    · simpa using Blk.new ((w.alloc (.cells #[.slice none 0 0] 26)).alloc (.cells #[.slice none 0 0] 26)) 2 (intA (List.replicate 4 0)))
  clear H0 mkN
  go_loopw [5] (fun c_ w' => ∃ (k : Nat) (A : Option Addr) (n cp : Nat) (at_ : List Int), c_ = .int .i64 k ∧ k ≤ 4 ∧ n ≤ 4 ∧ Hid ((ksT s.data.toList (97 + k)).length = n) ∧ Hid (PsW w w' A n cp ((ksT s.data.toList (97 + k)).map ruleC) at_) ∧
    Hid (at_.length = 4) ∧ Hid (∀ u : UInt8, letB u = true → (u.toNat : Int) < 97 + k → u ∈ s.data.toList → at_.getD (u.toNat - 97) 0 = atP s.data.toList u)) (fun c_ _ => (4 - intOf c_).toNat)
  case atStart => exact ⟨0, none, 0, 0, _, rfl, by omega, by omega, Lib.hid (by rw [show (97 : Int) + ((0 : Nat) : Int) = 97 from rfl, ksT_first]; rfl), by rw [show (97 : Int) + ((0 : Nat) : Int) = 97 from rfl, ksT_first]; exact P0, Lib.hid rfl, Lib.hid (fun u h1 h2 => by simp [letB] at h1; omega)⟩
  case round =>
    obtain ⟨k, A, n, cp, at_, rfl, hk4, hn4, hnl, P1, hal, hat⟩ := hrel
    by_cases hlt : k < 4
    · obtain ⟨u, hu⟩ : ∃ u : UInt8, u.toNat = 97 + k := ⟨UInt8.ofNat (97 + k), by simp; omega⟩
      have hlb : letB u = true := by simp [letB]; omega
      have hu' : (u.toNat : Int) = 97 + k := by omega
      have Hst0 := ksT_step s.data.toList u hlb
      rw [hu', show (97 : Int) + (k : Int) + 1 = 97 + ((k + 1 : Nat) : Int) by omega] at Hst0
      have Hst := Lib.hid Hst0
      have Hu := Lib.hid hu'
      have hcv := conv_letter (wr.alloc (.cells #[.int .u8 (97 + (k : Int))] 5)) wr.heap.size 1 u (by rw [hu']; simp)
      have P2 := Lib.hid (P1.out.alloc (.cells #[.int .u8 (97 + (k : Int))] 5))
      have HF := Lib.hid (fun W => l01Found_any ⟨#[u]⟩ s W (by show (1 : Nat) ≤ _; omega) (by omega))
      have hf1 := Lib.hid (fnd_one u s)
      have hlb' := Lib.hid hlb
      have hix := Lib.hid (idx_ks s.data.toList u hlb)
      clear Hst0 hu' hlb hu
      go_wp2_with fail
      refine (HF.out _).mono ?_
      rintro e w3 ⟨A3, c3, rfl, own3, hb3⟩
      have hlz := Lib.hid hb3.size
      have P3 := Lib.hid (P2.out.next hb3)
      have hl3 := fndT_len ⟨#[u]⟩ s (s.size + 1 - 1)
      have hl3' : (fndL ⟨#[u]⟩ s).length ≤ 2000 := by
        have : (fndL ⟨#[u]⟩ s).length ≤ s.size + 1 - 1 := fndT_len ⟨#[u]⟩ s (s.size + 1 - 1)
        omega
      generalize (fndL ⟨#[u]⟩ s).length = fl at *
      clear hl3 own3 hb3
      by_cases hz : 0 < fl
      · have hm := hf1.out.1 hz
        have Hm := Lib.hid hm
        have Hst2 := Lib.hid (show ksT s.data.toList (97 + ((k + 1 : Nat) : Int)) = ksT s.data.toList (97 + (k : Int)) ++ [u] by rw [Hst.out, if_pos hm])
        have hn4' : n + 1 ≤ 4 := by
          have h1 := ksT_le s.data.toList (97 + ((k + 1 : Nat) : Int))
          rw [Hst2.out, List.length_append, hnl.out] at h1; exact h1
        have d0 := P3.out.g.cell 0
        have l0 := P3.out.g.lt
        have v0 := P3.out.v.cell k
        rw [intA_at at_ (by rw [hal.out]; exact hlt)] at v0
        have vf := P3.out.v.frozen
        have P4 := Lib.hid (P3.out.tell k (n : Int))
        have d4 := P4.out.g.cell 0
        have l4 := P4.out.g.lt
        have P5 := Lib.hid (P4.out.alloc (.cells #[.string ⟨#[u]⟩, .int .i64 0, .int .i64 0] 65))
        have BN0 := Blk.new (w3.setCell ⟨w.heap.size + 2, k, none⟩ (.int .i64 (n : Int))) 65 #[.string (ruleC u).l, .int .i64 (ruleC u).a, .int .i64 (ruleC u).b]
        have sz4 : (w3.setCell ⟨w.heap.size + 2, k, none⟩ (.int .i64 (n : Int))).heap.size = w3.heap.size := by simp
        rw [sz4] at BN0
        have BN := Lib.hid BN0
        have i0 : (0 : Int) ≤ (k : Int) := by omega
        have i1 : (k : Int) < 4 := by omega
        clear hm BN0 sz4
        go_wp2_with
          (at_builtin
           refine wpList_app rfl _ _ _ rfl w.heap.size 65 3 32 elem_rule Fac.cells A n cp ((ksT s.data.toList (97 + (k : Int))).map ruleC) rfl P5.out.q ⟨w3.heap.size, 0, none⟩ 1 1 [ruleC u] rfl rfl (by omega) (news1 (y := ruleC u) BN.out) (fun x _ => fac_len x) (fun x _ => one_fac x) (by omega) (by omega) (by unfold maxLen; omega) P5.out.e.size ?_
           intro A9 c9 w9 own9 hg9 hat9
           have P6 := Lib.hid (P5.out.push own9 hg9)
           have G6 := P5.out.g.grown hg9 (own_blk_ne P5.out.q P5.out.g (by decide))
           have f9 := G6.frozen
           have d9 := G6.cell 0
           have l9 := G6.lt
           clear own9 G6)
        go_roundw
        case rel =>
          refine ⟨k + 1, A9, n + 1, c9, at_.set k (n : Int), by go_num, by omega, hn4', Lib.hid (by rw [Hst2.out, List.length_append, hnl.out]; rfl), Lib.hid (by rw [Hst2.out, List.map_append]; exact P6.out), Lib.hid (by rw [List.length_set, hal.out]), Lib.hid (fun u' h1 h2 h3 => ?_)⟩
          by_cases hq : (u'.toNat : Int) < 97 + (k : Int)
          · rw [List.getD_eq_getElem?_getD, List.getElem?_set_ne (by simp [letB] at h1; omega), ← List.getD_eq_getElem?_getD]
            exact hat.out u' h1 hq h3
          · obtain rfl : u' = u := UInt8.toNat_inj.1 (by have := Hu.out; omega)
            rw [show u'.toNat - 97 = k by have := Hu.out; omega, List.getD_eq_getElem?_getD, List.getElem?_set_self (by rw [hal.out]; exact hlt)]
            have h5 := hix.out Hm.out
            rw [Hu.out, hnl.out] at h5
            unfold atP
            rw [h5]; rfl
        case measure => simp [intOf]; omega
      · have Hm := Lib.hid (fun h => hz (hf1.out.2 h))
        have Hst2 := Lib.hid (show ksT s.data.toList (97 + ((k + 1 : Nat) : Int)) = ksT s.data.toList (97 + (k : Int)) by rw [Hst.out, if_neg Hm.out])
        obtain rfl : fl = 0 := by omega
        go_wp2_with fail
        go_roundw
        case rel =>
          refine ⟨k + 1, A, n, cp, at_, by go_num, by omega, hn4, by rw [Hst2.out]; exact hnl, by rw [Hst2.out]; exact P3, hal, Lib.hid (fun u' h1 h2 h3 => ?_)⟩
          by_cases hq : (u'.toNat : Int) < 97 + (k : Int)
          · exact hat.out u' h1 hq h3
          · obtain rfl : u' = u := UInt8.toNat_inj.1 (by have := Hu.out; omega)
            exact absurd h3 Hm.out
        case measure => simp [intOf]; omega
    · have hk5 : k = 4 := by omega
      have hK := ksT_last s.data.toList
      rw [hk5, show (97 : Int) + ((4 : Nat) : Int) = 101 from rfl, hK] at hnl P1
      clear hK hk5
      have Hat := Lib.hid (fun (j : Nat) (hj : j < s.size) => show at_.getD (s[j].toNat - 97) 0 = atP s.data.toList s[j] from hat.out s[j] (HL.out j hj) (by have := HL.out j hj; simp [letB] at this; omega) (List.mem_of_getElem? (at_byte s j hj)))
      clear hat
      have P2 := Lib.hid (show PsW w wr A n cp (lettersP s.data.toList) at_ from P1.out)
      have hll := Lib.hid (show (lettersP s.data.toList).length = n by rw [← hnl.out]; simp [lettersP])
      clear P1
      obtain ⟨bf0, hbf0, hpl0⟩ : ∃ bf : Int, ((∀ h : 0 < s.size, bf = atP s.data.toList s[0]) ∧ (s.size = 0 → bf = 0)) ∧ lettersP s.data.toList ++ pairsP s.data.toList (s.data.toList.drop 1) bf n = plainL s.data.toList := by
        by_cases h0 : 0 < s.size
        · refine ⟨atP s.data.toList s[0], ⟨fun _ => rfl, fun h => by omega⟩, ?_⟩
          have := drop_cons (at_byte s 0 h0)
          rw [List.drop_zero] at this
          generalize hq : s.data.toList.drop (0 + 1) = q at this
          unfold plainL
          rw [← hnl.out]
          split
          · rename_i h; rw [h] at this; cases this
          · rename_i c cs h
            have h2 := h.symm.trans this
            injection h2 with h3 h4
            rw [← h3, ← h4]
        · refine ⟨0, ⟨fun h => absurd h h0, fun _ => rfl⟩, ?_⟩
          have : s.data.toList = [] := List.eq_nil_of_length_eq_zero (by rw [byte_len]; omega)
          rw [this]; rfl
      have hk6 : ¬ (k : Int) < 4 := by omega
      clear hlt
      go_wp2_with fail
      clear hk6
      go_loopw [7] (fun i_ w' => ∃ (i : Nat) (A' : Option Addr) (n' cp' : Nat) (rs : List Fac) (bf : Int), i_ = .int .i64 i ∧ 1 ≤ i ∧ (i ≤ s.size ∨ i = 1) ∧ Hid (n' + 1 = n + i) ∧ Hid (rs.length = n') ∧
        Hid (PsW w w' A' n' cp' rs at_) ∧ Hid ((i = 1 → ∀ h : 0 < s.size, bf = atP s.data.toList s[0]) ∧ (i ≠ 1 → bf = (n' : Int) - 1)) ∧ Hid (rs ++ pairsP s.data.toList (s.data.toList.drop i) bf n' = plainL s.data.toList)) (fun i_ _ => s.size - (intOf i_).toNat)
      case atStart =>
        exact ⟨1, A, n, cp, _, bf0, rfl, by omega, by omega, Lib.hid rfl, hll, P2, Lib.hid ⟨fun _ h => hbf0.1 h, fun h => absurd rfl h⟩, Lib.hid hpl0⟩
      case round =>
        obtain ⟨i, A', n', cp', rs, bf, rfl, hi1, hi2, hn', hrl, PR, hbf, HQ⟩ := hrel
        have g1 := PR.out.g.cell 0
        have lg1 := PR.out.g.lt
        have o1 := PR.out.o.cell 0
        have f1 := PR.out.o.frozen
        by_cases hlt : i < s.size
        · clear hk4
          have hlb := HL.out i hlt
          have hlb0 := HL.out 0 (by omega)
          have hb1 : (97 : Int) ≤ s[i].toNat ∧ (s[i].toNat : Int) ≤ 100 := by simpa [letB] using hlb
          have hb0 : (97 : Int) ≤ s[0].toNat ∧ (s[0].toNat : Int) ≤ 100 := by simpa [letB] using hlb0
          have hat0 := atP_lt (List.mem_of_getElem? (at_byte s 0 (by omega))) hlb0
          have hati := atP_lt (List.mem_of_getElem? (at_byte s i hlt)) hlb
          have hkl : (ksP s.data.toList).length = n := hnl.out
          rw [hkl] at hat0 hati
          have hn1' : 1 ≤ n' := by have := hn'.out; omega
          have hn2' : n' ≤ 2010 := by have := hn'.out; omega
          have c0 := PR.out.v.cell (s[0].toNat - 97)
          rw [intA_at at_ (by rw [hal.out]; omega), Hat.out 0 (by omega)] at c0
          have c1 := PR.out.v.cell (s[i].toNat - 97)
          rw [intA_at at_ (by rw [hal.out]; omega), Hat.out i hlt] at c1
          have hstep := Lib.hid (show (rs ++ [⟨⟨#[]⟩, bf, atP s.data.toList s[i]⟩]) ++ pairsP s.data.toList (s.data.toList.drop (i + 1)) ((n' : Int)) (n' + 1) = plainL s.data.toList by
            rw [← HQ.out, drop_cons (at_byte s i hlt), List.append_assoc]; rfl)
          have Hbf := Lib.hid hbf.out
          have hbb : -1 ≤ bf ∧ bf ≤ 2010 := by
            by_cases h1 : i = 1
            · have := hbf.out.1 h1 (by omega); omega
            · have := hbf.out.2 h1; omega
          have hv := Lib.hid hati
          clear hkl hlb hlb0
          go_upto_if 49 with (fail)
          go_cut [8] (fun b_ wx => b_ = .int .i64 bf ∧ Hid (PsW w wx A' n' cp' rs at_))
          case first =>
            by_cases h1 : i = 1
            · subst h1
              have hb1' := Lib.hid (hbf.out.1 rfl (by omega))
              have hs0 : 0 < s.size := by omega
              go_wp2_with fail
              go_meet
              exact ⟨by rw [hb1'.out], PR⟩
            · have hb1' := Lib.hid (hbf.out.2 h1)
              have h1' : ((i : Int) == 1) = false := by simp; omega
              clear h1
              go_wp2_with fail
              go_meet
              exact ⟨by rw [hb1'.out], PR⟩
          case rest =>
            obtain ⟨rfl, PC⟩ := hcut
            have c2 := PC.out.v.cell (s[i].toNat - 97)
            rw [intA_at at_ (by rw [hal.out]; omega), Hat.out i hlt] at c2
            have lv2 := PC.out.v.lt
            clear c0 c1 g1 lg1 o1 f1 hat0 hati hb0
            generalize atP s.data.toList s[i] = v at *
            obtain ⟨y, hy⟩ : ∃ y : Fac, (⟨⟨#[]⟩, bf, v⟩ : Fac) = y := ⟨_, rfl⟩
            have P6 := Lib.hid (PC.out.alloc (.cells #[.string .empty, .int .i64 bf, .int .i64 v] 65))
            have P7 := Lib.hid (P6.out.next (Below.refl _ _).drew)
            have d6 := PC.out.g.cell 0
            have l6 := PC.out.g.lt
            have zk : (n' + 1) * 32 ≤ 140737488355328 := by omega
            have zkm : n' + 1 ≤ maxLen := by unfold maxLen; omega
            clear hy y
            have wz : IntKind.u8.wrap ((s[i].toNat : Int) - 97) = (s[i].toNat : Int) - 97 := by show ((s[i].toNat : Int) - 97) % 256 = _; omega
            have wn : ((s[i].toNat : Int) - 97).toNat = s[i].toNat - 97 := by omega
            have w4' : (s[i].toNat : Int) - 97 < 4 := by omega
            go_wp2_with fail
            go_region_law
              (refine step_push (by rfl) _ _ _ (by rfl) w.heap.size 65 3 32 elem_rule Fac.cells A' n' cp' rs (by rfl) P7.out.q _ ⟨⟨#[]⟩, bf, v⟩ #[.string .empty, .int .i64 bf, .int .i64 v] 65 (0, 0) (by rfl) (heap_alloc_new _ _) rfl rfl (one_fac _) (by omega) zk zkm P7.out.e.size ?_
               intro A8 c8 w8 own8 hg8 old8
               have P8 := Lib.hid (P7.out.push own8 hg8)
               have G8 := P7.out.g.grown hg8 (own_blk_ne P7.out.q P7.out.g (by decide))
               have d8 := G8.cell 0
               have f8 := G8.frozen
               have l8 := G8.lt)
            all_goals
              go_wp2_with fail
              go_roundw
              case rel =>
                exact ⟨i + 1, A8, n' + 1, c8, rs ++ [⟨⟨#[]⟩, bf, v⟩], (n' : Int), by go_num, by omega, by omega, Lib.hid (by have := hn'.out; omega), Lib.hid (by rw [List.length_append, hrl.out]; rfl), P8, Lib.hid ⟨fun h => by omega, fun _ => by omega⟩, hstep⟩
              case measure => simp [intOf]; omega
        · have he := Lib.hid (show plainL s.data.toList = rs by
            rw [← HQ.out, List.drop_of_length_le (by rw [byte_len]; omega)]; simp [pairsP])
          go_wp2_with fail
          have hg := gb_set wr w.heap.size 0 (.slice A' n' cp')
          have x9 := PR.out.o.set_ 0 (.slice A' n' cp')
          have x10 : (wr.setCell ⟨w.heap.size, 0, none⟩ (.slice A' n' cp')).cell? ⟨w.heap.size, 0, none⟩ = some (.slice A' n' cp') := by rw [x9.cell 0]; rfl
          refine bodyPost_ret (v := .agg #[.slice A' n' cp']) (by simp [results, Try.results50, go_sem, x10]) rfl ⟨A', cp', by rw [he.out, hrl.out], ?_, PR.out.e.grown hg PR.out.e.size (fun q hq => by injection hq with hq; omega)⟩
          rw [he.out, hrl.out]
          exact PR.out.q.kept hg (.inr fun e => own_blk_ne PR.out.q PR.out.o (by decide) e.symm)
end Go.Proofs.Ytfanphhlagjkdaa


/-
  The letters of a grammar replaced, in the reference.
-/
namespace Go.Proofs.Ytfanphhlagjkdaa
open Go.RowKit

section
variable {α : Type} {P : Program} {w : World} {ops : Array Oper} {o : Oper} {a : Act} {K : Act → World → Prop} {Q : Exit → Act → World → Prop} {E : Prop}
/-- one element more, as a step of a region that draws its order; where the row lies then -/
theorem step_pushH (hgd : o.guard = none) (s x : Operand) (t : TypeId) (ho : o.op = .call { callee := .builtin .append, args := #[s, x], argTypes := #[t, t] })
    (base : Nat) (e : TypeId) (sz bytes : Nat) (EI : Elem P t e sz bytes) (enc : α → List Value) (A : Option Addr) (n c : Nat) (xs : List α) (hs : a.eval s = .slice A n c)
    (hown : w.ownsRow base e sz (.slice A n c) n (xs.flatMap enc)) (g : Nat) (y : α) (cs : Array Value) (t' : TypeId) (fr : Nat × Nat) (hx : a.eval x = .slice (some ⟨g, 0, none⟩) 1 1) (hg : w.heap[g]? = some (.cells cs t' fr)) (hcs : cs.toList = enc y)
    (hlen : (enc y).length = sz) (hone : ∀ u ∈ enc y, u.oneCell' = true) (hsz : 0 < sz) (hbytes : (n + 1) * bytes ≤ 140737488355328) (hm : n + 1 ≤ maxLen) (hsize : base ≤ w.heap.size)
    (h : ∀ A' c' w', w'.ownsRow base e sz (.slice A' (n + 1) c') (n + 1) ((xs ++ [y]).flatMap enc) → w.grownBy w' (Value.slice A n c).ownBlock →
      ((Value.slice A' (n + 1) c').ownBlock = (Value.slice A n c).ownBlock ∨ (Value.slice A' (n + 1) c').ownBlock = some w.heap.size) →
      K (a.put o.dst (.slice A' (n + 1) c')) w') : if Region.wanted o (yielded ops a.tmps) = true then Oper.wp P o a w K Q else E := by
  obtain ⟨ht, i, z, hi, hz, h1, h2, hzs⟩ := EI
  have hnews : ∀ j u, (enc y)[j]? = some u → w.cell? ((⟨g, 0, none⟩ : Addr).add j) = some u := by rw [← hcs]; exact World.news_of_block hg
  obtain ⟨v', w', hr, r2, r3, _, r5⟩ := run_append_own_at (P := P) w base t o.type e i z sz bytes ht hi hz h1 h2 hzs hsz _ n _ hown ⟨g, 0, none⟩ 1 1 (enc y) (by rw [hlen]; omega) hnews hone hm hbytes hsize
  obtain ⟨g', cap, rfl, _, _⟩ := r2.form (by omega)
  have hw : Region.wanted o (yielded ops a.tmps) = true := by simp [Region.wanted, hgd]
  rw [if_pos hw]
  unfold Oper.wp execOp
  simp only [ho, resolve, invoke, builtin, Sem.run_bind, Sem.run_pure, Result.andThen_ok, List.map_toArray, List.map_cons, List.map_nil, hs, hx, hr]
  exact h _ _ w' (by rw [List.flatMap_append]; simpa using r2) r3 r5
end
/-- 'MapLetters' of the reference under way -/
structure MsW (w W : World) (G S : Nat) (ga gv : Value) (A : Option Addr) (n c : Nat) (out : List Fac) (st : List Int) : Prop where
  q : W.ownsRow w.heap.size 65 3 (.slice A n c) n (out.flatMap Fac.cells)
  i : Blk W w.heap.size 26 #[ga]
  o : Blk W (w.heap.size + 1) 26 #[.slice none 0 0]
  g : Blk W G 26 #[gv]
  s : Blk W S 2 (intA st)
  e : Below w.heap.size w W
  n0 : w.heap.size + 1 < G
  n1 : w.heap.size ≤ S
section
variable {w W W' : World} {G S : Nat} {ga gv : Value} {A : Option Addr} {n c : Nat} {out : List Fac} {st : List Int}
theorem MsW.next (h : MsW w W G S ga gv A n c out st) (hb : Below W.heap.size W W') : MsW w W' G S ga gv A n c out st :=
  ⟨own_next h.q hb, h.i.next hb, h.o.next hb, h.g.next hb, h.s.next hb, h.e.trans (hb.mono h.e.size), h.n0, h.n1⟩
theorem MsW.alloc (h : MsW w W G S ga gv A n c out st) (o : Obj) : MsW w (W.alloc o) G S ga gv A n c out st := h.next ((Below.refl _ _).alloc (Nat.le_refl _) _)
theorem MsW.drew (h : MsW w W G S ga gv A n c out st) : MsW w W.drew G S ga gv A n c out st := h.next (Below.refl _ _).drew
theorem MsW.app {A8 : Option Addr} {k8 c8 : Nat} {out' : List Fac} (h : MsW w W G S ga gv A n c out st) (hq : W'.ownsRow w.heap.size 65 3 (.slice A8 k8 c8) k8 (out'.flatMap Fac.cells)) (hg : W.grownBy W' (Value.slice A n c).ownBlock) :
    MsW w W' G S ga gv A8 k8 c8 out' st :=
  ⟨hq, h.i.grown hg (own_blk_ne h.q h.i (by decide)), h.o.grown hg (own_blk_ne h.q h.o (by decide)), h.g.grown hg (own_blk_ne h.q h.g (by decide)), h.s.grown hg (own_blk_ne h.q h.s (by decide)), h.e.grown hg h.e.size (own_ge h.q), h.n0, h.n1⟩
theorem MsW.put (h : MsW w W G S ga gv A n c out st) (u : Value) : MsW w (W.setCell ⟨G, 0, none⟩ u) G S ga u A n c out st := by
  have hg2 := gb_set W G 0 u
  have h0 := h.n0
  have hs : some S ≠ some G := fun e => by
    injection e with e
    have h1 := h.s; have h2 := h.g
    rw [e] at h1
    unfold Blk at h1 h2
    rw [h1] at h2
    injection h2 with h2; injection h2 with _ h2; exact absurd h2 (by decide)
  exact ⟨own_kept' h.q h.g (by decide) _, h.i.grown hg2 (by intro e; injection e with e; omega), h.o.grown hg2 (by intro e; injection e with e; omega), h.g.set_ 0 _, h.s.grown hg2 hs, h.e.setCell (by show w.heap.size ≤ G; omega) _, h.n0, h.n1⟩
/-- behind what writes a row of numbers made later -/
theorem MsW.far {v : Value} {k b : Nat} {xs : List Value} (h : MsW w W G S ga gv A n c out st) (ho : W.ownsRow b 2 1 v k xs) (hb : S < b) (hg : W.grownBy W' v.ownBlock) : MsW w W' G S ga gv A n c out st :=
  ⟨h.q.kept hg (own_ne h.q ho (by decide)), h.i.grown hg (own_blk_ne ho h.i (by decide)), h.o.grown hg (own_blk_ne ho h.o (by decide)), h.g.grown hg (own_blk_ne ho h.g (by decide)), h.s.grown hg (fun e => by have := own_ge ho S e.symm; omega), h.e.grown hg h.e.size (fun q hq => by have := own_ge ho q hq; have := h.n1; omega), h.n0, h.n1⟩
theorem MsW.tell (h : MsW w W G S ga gv A n c out st) (i : Nat) (z : Int) : MsW w (W.setCell ⟨S, i, none⟩ (.int .i64 z)) G S ga gv A n c out (st.set i z) := by
  have hg2 := gb_set W S i (.int .i64 z)
  have nt : ∀ {g : Nat} {cs : Array Value}, Blk W g 26 cs → some g ≠ some S := fun hB e => by
    injection e with e; subst e
    have := hB.symm.trans h.s
    injection this with this; injection this with _ this; exact absurd this (by decide)
  have := h.s.set_ i (.int .i64 z)
  rw [intA_set] at this
  exact ⟨own_kept' h.q h.s (by decide) _, h.i.grown hg2 (nt h.i), h.o.grown hg2 (nt h.o), h.g.grown hg2 (nt h.g), this, h.e.setCell h.n1 _, h.n0, h.n1⟩
end
theorem usedL_take {rs : List Fac} {k : Nat} {x : Fac} (h : rs[k]? = some x) (u : UInt8) : usedL (rs.take (k + 1)) u = (usedL (rs.take k) u || decide (x.l = ⟨#[u]⟩)) := by
  rw [take_succ_at h]; simp [usedL]
theorem raise_take {rs : List Fac} {k : Nat} {x : Fac} (h : rs[k]? = some x) (b : Int) : raiseL b (rs.take (k + 1)) = raiseL b (rs.take k) ++ [rsF b x] := by
  rw [take_succ_at h]; simp [raiseL]
set_option maxHeartbeats 4000000 in
set_option maxRecDepth 100000 in
theorem specMap_any (A : Option Addr) (n c : Nat) (rs : List Fac) (B : Option Addr) (m d : Nat) (ws : List ByteArray) (w : World) (hn : n ≤ 1048576) (hm : m ≤ 1048576) (hr : Rd w w.heap.size A n 3 Fac.cells rs) (hw : Rd w w.heap.size B m 1 strEM ws)
    (hok : ∀ f ∈ rs, f.l.size ≤ maxLen) (hs : ∀ s ∈ ws, s.size ≤ 1048576) :
    Calls Try.prog 21 #[.agg #[.slice A n c], .slice B m d] w (RetGC w (mapF rs ws) (mapC rs ws)) := by
  have HR := Lib.hid hr; clear hr
  have HW := Lib.hid hw; clear hw
  have HO := Lib.hid hok; clear hok
  have hs' : ∀ s ∈ ws, s.size ≤ maxLen := fun s hx => by have := hs s hx; unfold maxLen; omega
  have HS := Lib.hid hs'; clear hs hs'
  have hl := Lib.hid HR.out.len
  have hlw := Lib.hid HW.out.len
  have start : ∀ w3, Hid (w3 = (w.alloc (.cells #[.slice A n c] 26)).alloc (.cells #[.slice none 0 0] 26)) →
      Below w.heap.size w w3 ∧ Blk w3 w.heap.size 26 #[.slice A n c] ∧ Blk w3 (w.heap.size + 1) 26 #[.slice none 0 0] := fun w3 H3 => by
    rw [H3.out]
    refine ⟨by (repeat first | exact Below.refl _ _ | assumption | refine Below.drew ?_ | refine Below.alloc ?_ (by first | exact Nat.le_refl _ | (simp; done) | omega | (simp; omega)) _ | refine Below.setCell ?_ (by first | exact Nat.le_refl _ | (simp; done) | omega | (simp; omega)) _), (Blk.new _ _ _).alloc _, ?_⟩
    simpa using Blk.new (w.alloc (.cells #[.slice A n c] 26)) 26 #[.slice none 0 0]
  have Start := Lib.hid start; clear start
  have shut : ∀ w4, Below w.heap.size w w4 → Blk w4 (w.heap.size + 1) 26 #[.slice none 0 0] →
      (w4.cell? ⟨w.heap.size + 1, 0, none⟩ = some (.slice none 0 0)) ∧ (∀ i, w4.frozen? ⟨w.heap.size + 1, i, none⟩ = false) ∧ w.heap.size + 1 < w4.heap.size ∧
      (w4.setCell ⟨w.heap.size + 1, 0, none⟩ (.slice none 0 0)).cell? ⟨w.heap.size + 1, 0, none⟩ = some (.slice none 0 0) ∧ Below w.heap.size w (w4.setCell ⟨w.heap.size + 1, 0, none⟩ (.slice none 0 0)) := fun w4 hb B4 => by
    refine ⟨B4.cell 0, B4.frozen, B4.lt, ?_, hb.setCell (by simp) _⟩
    rw [(B4.set_ 0 (.slice none 0 0)).cell 0]; rfl
  have Shut_ := Lib.hid shut; clear shut
  rcases hg : (gOk rs).isSome with _ | _
  · have Hg := Lib.hid hg
    have hmo : mapOk rs ws = false := by unfold mapOk; rw [hg]; rfl
    have eT := Lib.hid (show mapF rs ws = [] by unfold mapF; rw [if_pos hmo])
    have eC := Lib.hid (show mapC rs ws = 1 by unfold mapC; rw [if_pos hmo])
    clear hg hmo
    go_enter Try.func21, Try.ntmps21
    go_wp2_with fail
    refine namedC fun w3 H3 => ?_
    obtain ⟨hb3, BG, BC⟩ := Start.out w3 H3
    clear H3
    refine (l02Ok_any w.heap.size A n c rs w3 BG.lt (BG.cell 0) (by omega) (HR.out.next hb3) HO.out false Hg.out).mono ?_
    rintro e1 w4 ⟨rfl, hb4⟩
    obtain ⟨d4, f4, l4, x5, b5⟩ := Shut_.out w4 (hb3.trans (hb4.mono hb3.size)) (BC.next hb4)
    clear BG BC
    go_wp2_with fail
    exact bodyPost_ret (v := .tuple #[.agg #[.slice none 0 0], .int .i64 1]) (by simp [results, Try.results21, go_sem, x5]) rfl ⟨none, 0, by rw [eT.out, eC.out]; rfl, by rw [eT.out]; exact World.ownsRow_nil _ _ _ _, b5⟩
  by_cases hm4 : m = 4
  · obtain ⟨ls, hls⟩ := Option.isSome_iff_exists.1 hg
    have hwf := Lib.hid (wf_of (gOk_lens hls).1)
    have hn4 : n ≤ 400 := by have := (gOk_lens hls).2.1; have := hl.out; omega
    have Hg := Lib.hid hg
    subst hm4
    have hmo := Lib.hid (show mapOk rs ws = ws.all okW by unfold mapOk; rw [hg, hlw.out]; rfl)
    clear hg hls
    go_enter Try.func21, Try.ntmps21
    go_wp2_with fail
    refine namedC fun w3 H3 => ?_
    obtain ⟨hb3, BG, BC⟩ := Start.out w3 H3
    clear H3
    refine (l02Ok_any w.heap.size A n c rs w3 BG.lt (BG.cell 0) (by omega) (HR.out.next hb3) HO.out true Hg.out).mono ?_
    rintro e1 w4 ⟨rfl, hb4⟩
    have b4 := hb3.trans (hb4.mono hb3.size)
    have BC4 := Lib.hid (BC.next hb4)
    have BG4 := Lib.hid (BG.next hb4)
    clear BG BC
    go_wp2_with fail
    go_loopw [6] (fun i_ w' => ∃ k : Nat, i_ = .int .i64 k ∧ k ≤ 4 ∧ Hid (Below w4.heap.size w4 w') ∧ Hid ((ws.take k).all okW = true)) (fun i_ _ => (4 - intOf i_).toNat)
    case atStart => exact ⟨0, rfl, by omega, Lib.hid (Below.refl _ _), Lib.hid rfl⟩
    case round =>
      obtain ⟨k, rfl, hk4, hb5, hall⟩ := hrel
      have b5 := b4.trans (hb5.out.mono b4.size)
      by_cases hlt : k < 4
      · obtain ⟨bw, ow, x, rfl, hBw, gx, c0⟩ := (show Rd wr w.heap.size B 4 1 (fun s => [.string s]) ws from HW.out.below b5).str (k := k) hlt
        have hxs := HS.out x (List.mem_of_getElem? gx)
        have k0 : (0 : Int) ≤ (k : Int) := by omega
        have k1 : (k : Int) < 4 := by omega
        rcases hx : okW x with _ | _
        · have Hx := Lib.hid hx
          have hmo2 : mapOk rs ws = false := by
            rw [hmo.out]
            rw [List.all_eq_false]
            exact ⟨x, List.mem_of_getElem? gx, by rw [hx]; simp⟩
          have eT := Lib.hid (show mapF rs ws = [] by unfold mapF; rw [if_pos hmo2])
          have eC := Lib.hid (show mapC rs ws = 1 by unfold mapC; rw [if_pos hmo2])
          clear hx hmo2 gx
          go_wp2_with fail
          refine (specOk_any x false _ hxs Hx.out).mono ?_
          rintro e1 w6 ⟨rfl, hb6⟩
          obtain ⟨d4, f4, l4, x5, b5'⟩ := Shut_.out w6 (b5.trans (hb6.mono b5.size)) ((BC4.out.next hb5.out).next hb6)
          go_wp2_with fail
          exact bodyPost_ret (v := .tuple #[.agg #[.slice none 0 0], .int .i64 1]) (by simp [results, Try.results21, go_sem, x5]) rfl ⟨none, 0, by rw [eT.out, eC.out]; rfl, by rw [eT.out]; exact World.ownsRow_nil _ _ _ _, b5'⟩
        · have Hx := Lib.hid hx
          have hall' := Lib.hid (show (ws.take (k + 1)).all okW = true by rw [take_succ_at gx, List.all_append, hall.out]; simp [hx])
          clear hx gx
          go_wp2_with fail
          refine (specOk_any x true _ hxs Hx.out).mono ?_
          rintro e1 w6 ⟨rfl, hb6⟩
          go_wp2_with fail
          go_roundw
          case rel => exact ⟨k + 1, by go_num, by omega, Lib.hid (hb5.out.trans (hb6.mono hb5.out.size)), hall'⟩
          case measure => simp [intOf]; omega
      · have hk5 : k = 4 := by omega
        have hA := hall.out
        rw [hk5, show ws.take 4 = ws from List.take_of_length_le (by rw [hlw.out]; omega)] at hA
        have Ha := Lib.hid hA
        have HMO := Lib.hid (show mapOk rs ws = true by rw [hmo.out]; exact hA)
        have BC5 := Lib.hid (BC4.out.next hb5.out)
        have BG5 := Lib.hid (BG4.out.next hb5.out)
        have l5 := BC5.out.lt
        clear hA hk5 hall hmo
        go_wp2_with fail
        refine named fun w6 H6 => ?_
        have M6 := Lib.hid (show MsW w w6 wr.heap.size (wr.heap.size + 1) (.slice A n c) (.slice none 0 0) none 0 0 [] [-1, -1, -1, -1] by
          rw [H6.out]
          refine ⟨World.ownsRow_nil _ _ _ _, (BG5.out.alloc _).alloc _, (BC5.out.alloc _).alloc _, (Blk.new _ _ _).alloc _, ?_, (b5.alloc b5.size _).alloc (Nat.le_trans b5.size (by simp)) _, l5, Nat.le_trans b5.size (by omega)⟩
          simpa [intA] using Blk.new (wr.alloc (.cells #[.slice none 0 0] 26)) 2 (intA [-1, -1, -1, -1]))
        have hGS : wr.heap.size < wr.heap.size + 1 := by omega
        clear H6 BC5 BG5 l5
        generalize wr.heap.size + 1 = S at *
        generalize wr.heap.size = G at *
        go_loopw [9] (fun i_ w' => ∃ (k : Nat) (A' : Option Addr) (n' c' : Nat) (s : List Fac × List Int), i_ = .int .i64 k ∧ k ≤ 4 ∧ n' ≤ 2004 * k ∧ Hid (mlGo rs 0 (ws.take k) ([], [-1, -1, -1, -1]) = s) ∧ Hid (MlI s k) ∧ Hid (s.1.length = n') ∧
          Hid (MsW w w' G S (.slice A n c) (.slice A' n' c') A' n' c' s.1 s.2)) (fun i_ _ => (4 - intOf i_).toNat)
        case atStart => exact ⟨0, none, 0, 0, _, rfl, by omega, by omega, Lib.hid rfl, Lib.hid MlI.nil, Lib.hid rfl, M6⟩
        case round =>
          obtain ⟨k, A', n', c', s, rfl, hk4, hn', HQ, HI, hsl, M1⟩ := hrel
          by_cases hlt : k < 4
          · obtain ⟨bw, ow, x, rfl, hBw, gx, _⟩ := (show Rd wr w.heap.size B 4 1 (fun s => [.string s]) ws from HW.out.below M1.out.e).str (k := k) hlt
            have HW1 := Lib.hid (fun (W : World) (h : Below w.heap.size w W) => show W.cell? ⟨bw, ow + k, none⟩ = some (.string x) from (by
              obtain ⟨bw', ow', x', hA', _, gx', c0'⟩ := (show Rd W w.heap.size (some ⟨bw, ow, none⟩) 4 1 (fun s => [.string s]) ws from HW.out.below h).str (k := k) hlt
              obtain ⟨rfl, rfl⟩ : bw = bw' ∧ ow = ow' := by injection hA' with hA'; injection hA' with h1 h2; exact ⟨h1, h2⟩
              obtain rfl : x = x' := by rw [gx] at gx'; exact Option.some.inj gx'
              exact c0'))
            have hx := Lib.hid (show okW x = true by have := Ha.out; rw [List.all_eq_true] at this; exact this x (List.mem_of_getElem? gx))
            have hstep : mlGo rs 0 (ws.take (k + 1)) ([], [-1, -1, -1, -1]) = mlStep rs k x s := by
              rw [take_succ_at gx, mlGo_take, HQ.out, List.length_take, hlw.out, Nat.min_eq_left hk4, Nat.zero_add]
            have Hstep := Lib.hid hstep
            have HI2 := Lib.hid (HI.out.step (rs := rs) hlt hx.out)
            have k0 : (0 : Int) ≤ (k : Int) := by omega
            have k1 : (k : Int) < 4 := by omega
            have hnum := lb_num hlt
            have Hnum := Lib.hid hnum
            clear gx hstep hnum
            go_wp2_with fail
            refine named fun w7 H7 => ?_
            have M7 := Lib.hid (show MsW w w7 G S (.slice A n c) (.slice A' n' c') A' n' c' s.1 s.2 by rw [H7.out]; exact M1.out)
            clear H7 M1
            obtain ⟨u, hu⟩ : ∃ u, lb k = u := ⟨_, rfl⟩
            rw [hu] at Hnum
            have HU := Lib.hid hu
            clear hu
            go_loopw [10, 11] (fun u_ i_ w' => ∃ (i : Nat) (b : Bool), i_ = .int .i64 i ∧ u_ = .bool b ∧ i ≤ n ∧ Hid (usedL (rs.take i) u = b) ∧ Hid (MsW w w' G S (.slice A n c) (.slice A' n' c') A' n' c' s.1 s.2)) (fun _ i_ _ => n - (intOf i_).toNat)
            case atStart => exact ⟨0, false, rfl, rfl, by omega, Lib.hid rfl, M7⟩
            case round =>
              obtain ⟨i, b, rfl, rfl, hin, Hb, M8⟩ := hrel
              have g0 := M8.out.i.cell 0
              have gl := M8.out.i.lt
              by_cases hlt2 : i < n
              · obtain ⟨bb, oo, y, rfl, hBr, gy, c0, c1', c2'⟩ := (HR.out.next M8.out.e).fac hlt2
                have Hst := Lib.hid (usedL_take gy u)
                have i0 : (0 : Int) ≤ (i : Int) := by omega
                have i1 : (i : Int) < (n : Int) := by omega
                clear gy
                cases b
                · have hcv0 := fun (W : World) (g : Nat) (h : W.cell? ⟨g, 0, none⟩ = some (.int .u8 (97 + (k : Int)))) => conv_letter W g 1 u (by rw [h, Hnum.out])
                  have M9 := Lib.hid ((M8.out.alloc (.cells #[.int .u8 (97 + (k : Int))] 5)).drew)
                  have hcv := hcv0 (wr.alloc (.cells #[.int .u8 (97 + (k : Int))] 5)) wr.heap.size (by simp)
                  have hcv' := hcv0 (wr.alloc (.cells #[.int .u8 (97 + (k : Int))] 5)).drew wr.heap.size (by simp)
                  clear hcv0
                  obtain ⟨b', hb'⟩ : ∃ b', decide (y.l = ⟨#[u]⟩) = b' := ⟨_, rfl⟩
                  have hq : (y.l.toList == [u]) = b' := by rw [show [u] = (⟨#[u]⟩ : ByteArray).toList by rw [ByteArray.toList_eq], tl_beq]; exact hb'
                  have Hb2 := Lib.hid (show usedL (rs.take (i + 1)) u = b' by rw [Hst.out, Hb.out, hb']; rfl)
                  clear hb'
                  have hwu : IntKind.i64.wrap (97 + (k : Int)) = 97 + (k : Int) := IntWalk.i64_in _ (by omega)
                  have hwv : IntKind.u8.wrap (97 + (k : Int)) = 97 + (k : Int) := by show (97 + (k : Int)) % 256 = _; omega
                  go_wp2_with fail
                  go_region
                  all_goals
                    go_wp2_with fail
                    go_roundw
                    case rel => exact ⟨i + 1, b', by go_num, rfl, by omega, Hb2, M9⟩
                    case measure => simp [intOf]; omega
                · have Hb2 := Lib.hid (show usedL (rs.take (i + 1)) u = true by rw [Hst.out, Hb.out]; rfl)
                  go_wp2_with fail
                  go_region
                  all_goals
                    go_wp2_with fail
                    go_roundw
                    case rel => exact ⟨i + 1, true, by go_num, rfl, by omega, Hb2, Lib.hid M8.out.drew⟩
                    case measure => simp [intOf]; omega
              · have hin' : i = n := by omega
                have hb0 := Hb.out
                rw [hin', show rs.take n = rs from List.take_of_length_le (by rw [hl.out]; omega), ← HU.out] at hb0
                clear hin' Hb
                have g1 := M8.out.i.cell 0
                have HM8 := HW1.out wr M8.out.e
                by_cases hx0 : x.size = 0
                · have e0 := size0 hx0
                  have E := Lib.hid (show mlStep rs k x s = s by unfold mlStep; rw [if_neg (fun h => h.1 hx0)])
                  clear hx0 hb0
                  cases b
                  all_goals
                    go_wp2_with fail
                    go_roundw
                    case rel => exact ⟨k + 1, A', n', c', s, by go_num, by omega, by omega, by rw [E.out] at Hstep; exact Hstep, by rw [E.out] at HI2; exact HI2, hsl, M8⟩
                    case measure => simp [intOf]; omega
                · have e0 := size1 hx0
                  have e1 := size1' hx0
                  cases b
                  · have E := Lib.hid (show mlStep rs k x s = s by unfold mlStep; rw [if_neg (fun h => by rw [hb0] at h; cases h.2)])
                    clear hx0 hb0
                    go_wp2_with fail
                    go_roundw
                    case rel => exact ⟨k + 1, A', n', c', s, by go_num, by omega, by omega, by rw [E.out] at Hstep; exact Hstep, by rw [E.out] at HI2; exact HI2, hsl, M8⟩
                    case measure => simp [intOf]; omega
                  · have E := Lib.hid (show mlStep rs k x s = (s.1 ++ raiseL s.1.length (plainL x.data.toList), s.2.set k (((s.1.length + (plainL x.data.toList).length : Nat) : Int) - 1)) by unfold mlStep; rw [if_pos ⟨hx0, hb0⟩])
                    obtain ⟨hlx, hsx⟩ := okW_let hx.out
                    have HTw := Lib.hid (wf_plain hlx)
                    have hTp := plainL_pos (w := x.data.toList) (fun e => hx0 (by rw [← byte_len, e]; rfl)) hlx
                    have hTl := plainL_len x.data.toList
                    rw [byte_len] at hTl
                    have PC := Lib.hid (fun W => l02Plain_any x W hx.out)
                    clear hb0 hx0 hlx
                    obtain ⟨T, hT⟩ : ∃ T, plainL x.data.toList = T := ⟨_, rfl⟩
                    obtain ⟨L, hL⟩ : ∃ L, T.length = L := ⟨_, rfl⟩
                    unfold RetG at PC
                    rw [hT] at E HTw hTp hTl PC
                    rw [hL] at E hTp hTl PC
                    rw [hsl.out] at E
                    have HL := Lib.hid hL
                    clear hT hL
                    go_wp2_with fail
                    refine (PC.out _).mono ?_
                    rintro e w4' ⟨A4, c4, rfl, own4, hb4'⟩
                    have M4 := Lib.hid (M8.out.next hb4')
                    obtain ⟨g4, cp4, hv4, hg40, _⟩ := own4.form hTp
                    obtain rfl : A4 = some ⟨g4, 0, none⟩ := by injection hv4
                    have d4' := (M4.out.alloc (.cells #[.slice (some ⟨g4, 0, none⟩) L c4] 26)).g.cell 0
                    have d4 := M4.out.g.cell 0
                    have l4' := M4.out.g.lt
                    have nb4 := Lib.hid (show (Value.slice A' n' c').ownBlock ≠ some g4 from fun e => by have := (M8.out.q.lt g4 e).2; omega)
                    have O4 := Lib.hid own4
                    clear hv4 own4 e0 e1 HM8 g1
                    go_wp2_with fail
                    refine named fun w5 H5 => ?_
                    have M5 := Lib.hid (show MsW w w5 G S (.slice A n c) (.slice A' n' c') A' n' c' s.1 s.2 by rw [H5.out]; exact M4.out.alloc _)
                    have O5 := Lib.hid (show w5.ownsRow wr.heap.size 65 3 (.slice (some ⟨g4, 0, none⟩) L c4) L (T.flatMap Fac.cells) by rw [H5.out]; exact O4.out.alloc _)
                    have BX := Lib.hid (show Blk w5 w4'.heap.size 26 #[.slice (some ⟨g4, 0, none⟩) L c4] by rw [H5.out]; exact Blk.new _ _ _)
                    have hGX : G < w4'.heap.size := l4'
                    clear H5 d4 d4' l4' M4 O4
                    generalize w4'.heap.size = X at *
                    generalize wr.heap.size = b4 at *
                    go_loopw [14] (fun j_ w' => ∃ (j : Nat) (A1 : Option Addr) (n1 c1 : Nat), j_ = .int .i64 j ∧ j ≤ L ∧ Hid (n1 = n' + j) ∧ Hid (MsW w w' G S (.slice A n c) (.slice A1 n1 c1) A1 n1 c1 (s.1 ++ raiseL n' (T.take j)) s.2) ∧
                      Hid (w'.ownsRow b4 65 3 (.slice (some ⟨g4, 0, none⟩) L c4) L (T.flatMap Fac.cells)) ∧ Hid (Blk w' X 26 #[.slice (some ⟨g4, 0, none⟩) L c4]) ∧ Hid ((Value.slice A1 n1 c1).ownBlock ≠ some g4)) (fun j_ _ => L - (intOf j_).toNat)
                    case atStart => exact ⟨0, A', n', c', rfl, by omega, Lib.hid rfl, Lib.hid (by simpa [raiseL] using M5.out), O5, BX, nb4⟩
                    case round =>
                      obtain ⟨j, A1, n1, c1, rfl, hj, hn1, M9, O9, X9, nb9⟩ := hrel
                      have x9 := X9.out.cell 0
                      have lx9 := X9.out.lt
                      have d9 := M9.out.g.cell 0
                      have l9 := M9.out.g.lt
                      by_cases hlt3 : j < L
                      · obtain ⟨y, hy⟩ : ∃ y, T[j]? = some y := ⟨_, List.getElem?_eq_getElem (by rw [HL.out]; exact hlt3)⟩
                        have hyd : T.getD j default = y := getD_of hy
                        have hyw := HTw.out j y hy
                        have Hrt := Lib.hid (raise_take hy (n' : Int))
                        have HC := Lib.hid (fun (W : World) (O : W.ownsRow b4 65 3 (.slice (some ⟨g4, 0, none⟩) L c4) L (T.flatMap Fac.cells)) (q : Nat) (hq : q < 3) => own_at (sz := 3) (enc := Fac.cells) (fun _ _ => rfl) O HL.out default j hlt3 q hq)
                        rw [hyd] at HC
                        have LC := Lib.hid (fun W => l02Raised_any y (n' : Int) W (fun h0 => by
                          rcases hyw with ⟨_, a0, a1, b0, b1⟩ | ⟨cc, _, hxl, _⟩
                          · exact ⟨a0, by omega, b0, by omega⟩
                          · rw [hxl] at h0; exact absurd h0 (show ¬ (1 : Nat) = 0 by omega)) (by omega) (by omega))
                        have n1b : n1 ≤ 10020 := by have := hn1.out; omega
                        have zk : (n1 + 1) * 32 ≤ 140737488355328 := by omega
                        have zkm : n1 + 1 ≤ maxLen := by unfold maxLen; omega
                        have j0 : (0 : Int) ≤ (j : Int) := by omega
                        have j1 : (j : Int) < (L : Int) := by omega
                        obtain ⟨z, hz⟩ : ∃ z, rsF (n' : Int) y = z := ⟨_, rfl⟩
                        rw [hz] at LC Hrt
                        have HS2 := Lib.hid (fun (W : World) (M : Blk W G 26 #[.slice A1 n1 c1]) (O : W.ownsRow b4 65 3 (.slice (some ⟨g4, 0, none⟩) L c4) L (T.flatMap Fac.cells)) (Xb : Blk W X 26 #[.slice (some ⟨g4, 0, none⟩) L c4]) =>
                          show W.cell? ⟨G, 0, none⟩ = some (.slice A1 n1 c1) ∧ W.cell? ⟨X, 0, none⟩ = some (.slice (some ⟨g4, 0, none⟩) L c4) ∧ W.cell? ⟨g4, j * 3, none⟩ = some (.string y.l) ∧ W.cell? ⟨g4, j * 3 + 1, none⟩ = some (.int .i64 y.a) ∧ W.cell? ⟨g4, j * 3 + 2, none⟩ = some (.int .i64 y.b) from
                          ⟨M.cell 0, Xb.cell 0, HC.out W O 0 (by omega), HC.out W O 1 (by omega), HC.out W O 2 (by omega)⟩)
                        have hS0 := HS2.out wr.drew M9.out.g.drew (own_next O9.out (Below.refl _ _).drew) X9.out.drew
                        clear hy hyd hyw hz
                        go_wp2_with fail
                        clear x9 lx9 d9 l9
                        refine wp_region_N (fun W => W.cell? ⟨G, 0, none⟩ = some (.slice A1 n1 c1) ∧ W.cell? ⟨X, 0, none⟩ = some (.slice (some ⟨g4, 0, none⟩) L c4) ∧ W.cell? ⟨g4, j * 3, none⟩ = some (.string y.l) ∧ W.cell? ⟨g4, j * 3 + 1, none⟩ = some (.int .i64 y.a) ∧ W.cell? ⟨g4, j * 3 + 2, none⟩ = some (.int .i64 y.b)) [12] (by kernel_rfl) ?_
                        refine wpAnyN_take (i := 0) (v := ?_) rfl (by kernel_rfl) (fun _ _ _ h => h) (by rfl) (fun W hW => ?_) hS0 ?_
                        rotate_left
                        · obtain ⟨z0, z1, z2, z3, z4⟩ := hW
                          go_simp
                          try with_reducible rfl
                        try simp only [Act.put, List.setIfInBounds_toArray, List.set_cons_zero, List.set_cons_succ]
                        refine wpAnyN_take (i := 1) (v := ?_) rfl (by kernel_rfl) (fun _ _ _ h => h) (by rfl) (fun W hW => ?_) hS0 ?_
                        rotate_left
                        · obtain ⟨z0, z1, z2, z3, z4⟩ := hW
                          go_simp
                          try with_reducible rfl
                        try simp only [Act.put, List.setIfInBounds_toArray, List.set_cons_zero, List.set_cons_succ]
                        refine wpAnyN_take (i := 2) (v := ?_) rfl (by kernel_rfl) (fun _ _ _ h => h) (by rfl) (fun W hW => ?_) hS0 ?_
                        rotate_left
                        · obtain ⟨z0, z1, z2, z3, z4⟩ := hW
                          go_simp
                          try with_reducible rfl
                        try simp only [Act.put, List.setIfInBounds_toArray, List.set_cons_zero, List.set_cons_succ]
                        refine wpAnyN_take (i := 3) (v := ?_) rfl (by kernel_rfl) (fun _ _ _ h => h) (by rfl) (fun W hW => ?_) hS0 ?_
                        rotate_left
                        · obtain ⟨z0, z1, z2, z3, z4⟩ := hW
                          go_simp
                          try with_reducible rfl
                        try simp only [Act.put, List.setIfInBounds_toArray, List.set_cons_zero, List.set_cons_succ]
                        refine wpAnyN_take (i := 4) (v := ?_) rfl (by kernel_rfl) (fun _ _ _ h => h) (by rfl) (fun W hW => ?_) hS0 ?_
                        rotate_left
                        · obtain ⟨z0, z1, z2, z3, z4⟩ := hW
                          go_simp
                          try with_reducible rfl
                        try simp only [Act.put, List.setIfInBounds_toArray, List.set_cons_zero, List.set_cons_succ]
                        refine wpAnyN_take (i := 5) (v := ?_) rfl (by kernel_rfl) (fun _ _ _ h => h) (by rfl) (fun W hW => ?_) hS0 ?_
                        rotate_left
                        · obtain ⟨z0, z1, z2, z3, z4⟩ := hW
                          go_simp
                          try with_reducible rfl
                        try simp only [Act.put, List.setIfInBounds_toArray, List.set_cons_zero, List.set_cons_succ]
                        refine wpAnyN_take (i := 6) (v := ?_) rfl (by kernel_rfl) (fun _ _ _ h => h) (by rfl) (fun W hW => ?_) hS0 ?_
                        rotate_left
                        · obtain ⟨z0, z1, z2, z3, z4⟩ := hW
                          go_simp
                          try with_reducible rfl
                        try simp only [Act.put, List.setIfInBounds_toArray, List.set_cons_zero, List.set_cons_succ]
                        refine wpAnyN_take (i := 7) (v := ?_) rfl (by kernel_rfl) (fun _ _ _ h => h) (by rfl) (fun W hW => ?_) hS0 ?_
                        rotate_left
                        · obtain ⟨z0, z1, z2, z3, z4⟩ := hW
                          go_simp
                          try with_reducible rfl
                        try simp only [Act.put, List.setIfInBounds_toArray, List.set_cons_zero, List.set_cons_succ]
                        refine wpAnyN_next (i := 8) rfl (by kernel_rfl) (fun K hK => ?_)
                        go_simp
                        go_wp2_with (go_at_call 51; refine (LC.out _).mono ?_; rintro e w10 ⟨rfl, hb10⟩)
                        have bm : Below wr.heap.size wr w10 := (Below.refl _ _).drew.trans hb10
                        have M10 := Lib.hid (M9.out.next bm)
                        have O10 := Lib.hid (own_next O9.out bm)
                        have X10 := Lib.hid (X9.out.next bm)
                        have M11 := Lib.hid (M10.out.alloc (.cells #[.string z.l, .int .i64 z.a, .int .i64 z.b] 65))
                        have O11 := Lib.hid (O10.out.alloc (.cells #[.string z.l, .int .i64 z.a, .int .i64 z.b] 65))
                        have X11 := Lib.hid (X10.out.alloc (.cells #[.string z.l, .int .i64 z.a, .int .i64 z.b] 65))
                        refine hK.out _ _ (fun _ => HS2.out _ M10.out.g O10.out X10.out) ?_
                        clear hK K
                        try simp only [Act.put, List.setIfInBounds_toArray, List.set_cons_zero, List.set_cons_succ]
                        refine wpAnyN_next (i := 9) rfl (by kernel_rfl) (fun K hK => ?_)
                        go_simp
                        refine hK.out _ _ (fun _ => HS2.out _ M11.out.g O11.out X11.out) ?_
                        clear hK K hS0
                        try simp only [Act.put, List.setIfInBounds_toArray, List.set_cons_zero, List.set_cons_succ]
                        refine wpAnyN_next (i := 10) rfl (by kernel_rfl) (fun K hK => ?_)
                        refine step_pushH (by rfl) _ _ _ (by rfl) w.heap.size 65 3 32 elem_rule Fac.cells A1 n1 c1 (s.1 ++ raiseL n' (T.take j)) (by rfl) M11.out.q _ z #[.string z.l, .int .i64 z.a, .int .i64 z.b] 65 (0, 0) (by rfl) (heap_alloc_new _ _) rfl rfl (one_fac _) (by omega) zk zkm M11.out.e.size ?_
                        intro A8 c8 w8 own8 hg8 hat8
                        have M12 := Lib.hid (M11.out.app own8 hg8)
                        have nb12 := Lib.hid (show (Value.slice A8 (n1 + 1) c8).ownBlock ≠ some g4 from fun e => by
                          rcases hat8 with h | h
                          · rw [h] at e; exact nb9.out e
                          · rw [h] at e
                            injection e with e
                            have h5 := (O10.out.lt g4 rfl).2
                            simp at e; omega)
                        have O12 := Lib.hid (O11.out.kept hg8 (.inr fun e => nb9.out e.symm))
                        have X12 := Lib.hid (X11.out.grown hg8 (own_blk_ne M11.out.q X11.out (by decide)))
                        have d8 := M12.out.g.cell 0
                        have f8 := M12.out.g.frozen
                        have l8 := M12.out.g.lt
                        have hS1 := HS2.out _ M12.out.g O12.out X12.out
                        refine hK.out _ _ (fun _ => hS1) ?_
                        clear hK K own8 hg8 hat8
                        try simp only [Act.put, List.setIfInBounds_toArray, List.set_cons_zero, List.set_cons_succ]
                        refine wpAnyN_next (i := 11) rfl (by kernel_rfl) (fun K hK => ?_)
                        go_simp
                        refine hK.out _ _ (fun _ => hS1) ?_
                        clear hK K hS1
                        try simp only [Act.put, List.setIfInBounds_toArray, List.set_cons_zero, List.set_cons_succ]
                        refine wpAnyN_next (i := 12) rfl (by kernel_rfl) (fun K hK => ?_)
                        go_simp
                        refine hK.out _ _ (fun h => absurd h (by decide)) ?_
                        clear hK K
                        refine wpAnyN_done (by kernel_rfl) ?_ _
                        have M13 := Lib.hid (M12.out.put (.slice A8 (n1 + 1) c8))
                        have O13 := Lib.hid (own_kept' (i := 0) O12.out M12.out.g (by decide) (.slice A8 (n1 + 1) c8))
                        have X13 := Lib.hid (X12.out.far (p := ⟨G, 0, none⟩) (show X ≠ G by omega) (.slice A8 (n1 + 1) c8))
                        clear d8 f8 l8
                        go_wp2_with fail
                        go_roundw
                        case rel => exact ⟨j + 1, A8, n1 + 1, c8, by go_num, by omega, Lib.hid (by have := hn1.out; omega), Lib.hid (by rw [Hrt.out, ← List.append_assoc]; exact M13.out), O13, X13, nb12⟩
                        case measure => simp [intOf]; omega
                      · have hjL : j = L := by omega
                        have hM := M9.out
                        rw [hjL, show T.take L = T from List.take_of_length_le (by rw [HL.out]; omega)] at hM
                        have hn1' := hn1.out
                        rw [hjL] at hn1'
                        have HM := Lib.hid hM
                        have Hn1 := Lib.hid hn1'
                        have s9 := M9.out.s.cell k
                        rw [intA_at s.2 (by rw [HI.out.st]; exact hlt)] at s9
                        have fs9 := M9.out.s.frozen
                        have ls9 := M9.out.s.lt
                        have n1b : n1 ≤ 10020 := by omega
                        have n1c : 1 ≤ n1 := by omega
                        have u1 : IntKind.i64.wrap ((n1 : Int) - 1) = (n1 : Int) - 1 := IntWalk.i64_in _ (by omega)
                        clear hM hn1' hn1 hjL
                        go_wp2_with fail
                        go_roundw
                        case rel =>
                          refine ⟨k + 1, A1, n1, c1, (s.1 ++ raiseL n' T, s.2.set k ((n1 : Int) - 1)), by go_num, by omega, by have := Hn1.out; omega, by rw [E.out, ← Hn1.out] at Hstep; exact Hstep, by rw [E.out, ← Hn1.out] at HI2; exact HI2, Lib.hid (by rw [List.length_append, raiseL_len, hsl.out, HL.out, Hn1.out]), Lib.hid ?_⟩
                          exact HM.out.tell k _
                        case measure => simp [intOf]; omega
          · have hk5 : k = 4 := by omega
            have hQ := HQ.out
            rw [hk5, show ws.take 4 = ws from List.take_of_length_le (by rw [hlw.out]; omega)] at hQ
            have HS1 := Lib.hid (show mapS1 rs ws = s from hQ)
            have hst4 := Lib.hid HI.out.b
            have hsl4 : n' ≤ 8016 := by omega
            have HI0 := Lib.hid (show MrI (s.1, []) s.1.length 0 from ⟨HI.out.wf, rfl, fun i hi => by omega, by simp⟩)
            clear hQ hk5 HQ
            go_wp2_with fail
            refine named fun w2 H2 => ?_
            have M2 := Lib.hid (show MsW w w2 G S (.slice A n c) (.slice A' n' c') A' n' c' s.1 s.2 by rw [H2.out]; exact M1.out.alloc _)
            have O2 := Lib.hid (show w2.ownsRow wr.heap.size 2 1 (.slice (some ⟨wr.heap.size, 0, none⟩) 0 0) 0 (([] : List Int).flatMap intE) by
              rw [H2.out]; simpa using World.ownsRow_made (base := wr.heap.size) (e := 2) (size := 1) wr #[] 0 (Nat.le_refl _) (by unfold maxLen; omega) rfl)
            have hSb := Lib.hid (show S < wr.heap.size from M1.out.s.lt)
            have hb20 := Lib.hid (show wr.heap.size ≤ w2.heap.size by rw [H2.out]; simp)
            clear H2 M1
            generalize wr.heap.size = b2 at *
            go_loopw [15, 16] (fun t_ i_ w' => ∃ (i : Nat) (A1 : Option Addr) (n1 c1 : Nat) (A2 : Option Addr) (c2 : Nat) (s2 : List Fac × List Int), i_ = .int .i64 i ∧ t_ = .slice A2 i c2 ∧ i ≤ n ∧ Hid (mrGo s.2 (rs.take i) (s.1, []) = s2) ∧ Hid (MrI s2 s.1.length i ∧ s.1.length ≤ s2.1.length) ∧ Hid (s2.1.length = n1) ∧
              Hid (MsW w w' G S (.slice A n c) (.slice A1 n1 c1) A1 n1 c1 s2.1 s.2) ∧ Hid (w'.ownsRow b2 2 1 (.slice A2 i c2) i (s2.2.flatMap intE)) ∧ Hid (b2 ≤ w'.heap.size)) (fun _ i_ _ => n - (intOf i_).toNat)
            case atStart => exact ⟨0, A', n', c', _, 0, _, rfl, rfl, by omega, Lib.hid rfl, Lib.hid ⟨HI0.out, Nat.le_refl _⟩, hsl, M2, O2, hb20⟩
            case round =>
              obtain ⟨i, A1, n1, c1, A2, c2, s2, rfl, rfl, hin, HQ, HI2, hs2, M1, O1, hb2⟩ := hrel
              have hn1 : n1 ≤ 8416 := by have := HI2.out.1.n; rw [hs2.out, hsl.out] at this; omega
              have g0 := M1.out.i.cell 0
              have gl := M1.out.i.lt
              by_cases hlt : i < n
              · obtain ⟨b, o, x, rfl, hBr, gx, c0, c1', c2'⟩ := (HR.out.next M1.out.e).fac hlt
                have hxw := hwf.out i x gx
                have Hst2 := Lib.hid (show mrGo s.2 (rs.take (i + 1)) (s.1, []) = mrStep s.2 x s2 by rw [take_succ_at gx, mrGo_snoc, HQ.out])
                have HI3 := Lib.hid (show MrI (mrStep s.2 x s2) s.1.length (i + 1) ∧ s.1.length ≤ (mrStep s.2 x s2).1.length from by
                  have h := HI2.out.1.step (st := s.2) (fun j hj => by have := hst4.out j hj; have := HI2.out.2; omega) hxw
                  exact ⟨h.1, Nat.le_trans HI2.out.2 h.2⟩)
                have zb := Lib.hid (show 0 ≤ wr.heap.size by omega)
                have i0 : (0 : Int) ≤ (i : Int) := by omega
                have i1 : (i : Int) < (n : Int) := by omega
                clear gx
                rcases hxw with ⟨h0, a0, a1, b0, b1⟩ | ⟨cc, hcc, hxl, hxa, hxb⟩
                · have e0 := size0 h0
                  have E0 := Lib.hid (show mrStep s.2 x s2 = (if s2.2.getD x.a.toNat 0 < 0 then (s2.1, s2.2 ++ [s2.2.getD x.b.toNat 0]) else if s2.2.getD x.b.toNat 0 < 0 then (s2.1, s2.2 ++ [s2.2.getD x.a.toNat 0]) else (s2.1 ++ [⟨⟨#[]⟩, s2.2.getD x.a.toNat 0, s2.2.getD x.b.toNat 0⟩], s2.2 ++ [(s2.1.length : Int)])) by unfold mrStep; rw [if_pos h0])
                  have hba := HI2.out.1.b x.a.toNat (by omega)
                  have hbb := HI2.out.1.b x.b.toNat (by omega)
                  rw [hs2.out] at hba hbb
                  have hst := Lib.hid HI2.out.1.st
                  obtain ⟨gs, cps, hvs, _, _⟩ := O1.out.form (by omega)
                  obtain rfl : A2 = some ⟨gs, 0, none⟩ := by injection hvs
                  have ea : wr.cell? ⟨gs, x.a.toNat, none⟩ = some (.int .i64 (s2.2.getD x.a.toNat 0)) := by simpa [intE] using own_at (enc := intE) (sz := 1) (fun _ _ => rfl) O1.out hst.out 0 x.a.toNat (by omega) 0 Nat.zero_lt_one
                  have eb : wr.cell? ⟨gs, x.b.toNat, none⟩ = some (.int .i64 (s2.2.getD x.b.toNat 0)) := by simpa [intE] using own_at (enc := intE) (sz := 1) (fun _ _ => rfl) O1.out hst.out 0 x.b.toNat (by omega) 0 Nat.zero_lt_one
                  have ha2 : x.a < (i : Int) := a1
                  have hb2' : x.b < (i : Int) := b1
                  generalize s2.2.getD x.a.toNat 0 = sa at *
                  generalize s2.2.getD x.b.toNat 0 = sb at *
                  obtain ⟨q1, q2⟩ := hba
                  obtain ⟨q3, q4⟩ := hbb
                  clear hvs h0 a1 b1
                  by_cases hsa : sa < 0
                  · have E := Lib.hid (show mrStep s.2 x s2 = (s2.1, s2.2 ++ [sb]) by rw [E0.out, if_pos hsa])
                    go_wp2_with
                      (at_builtin
                       refine wpList_pushG rfl _ _ _ rfl b2 2 1 8 elem_int intE _ i c2 s2.2 rfl (O1.out.alloc _) wr.heap.size sb #[.int .i64 sb] 2 (0, 0) rfl (heap_alloc_new _ _) rfl rfl (by simp [intE, Value.oneCell']) (by omega) (by omega) (by unfold maxLen; omega) (Nat.le_trans hb2.out (by have := zb.out; simp)) ?_
                       intro A9 c9 w9 own9 hg9 hat9
                       have M9 := Lib.hid ((M1.out.alloc (.cells #[.int .i64 sb] 2)).far (O1.out.alloc _) hSb.out hg9)
                       have O9 := Lib.hid own9; clear own9)
                    go_roundw
                    case rel => exact ⟨i + 1, A1, n1, c1, A9, c9, (s2.1, s2.2 ++ [sb]), by go_num, rfl, by omega, by rw [E.out] at Hst2; exact Hst2, by rw [E.out] at HI3; exact HI3, hs2, M9, O9, Lib.hid (Nat.le_trans hb2.out (by have := hg9.size; simp at this; omega))⟩
                    case measure => simp [intOf]; omega
                  · by_cases hsb : sb < 0
                    · have E := Lib.hid (show mrStep s.2 x s2 = (s2.1, s2.2 ++ [sa]) by rw [E0.out, if_neg hsa, if_pos hsb])
                      go_wp2_with
                        (at_builtin
                         refine wpList_pushG rfl _ _ _ rfl b2 2 1 8 elem_int intE _ i c2 s2.2 rfl (O1.out.alloc _) wr.heap.size sa #[.int .i64 sa] 2 (0, 0) rfl (heap_alloc_new _ _) rfl rfl (by simp [intE, Value.oneCell']) (by omega) (by omega) (by unfold maxLen; omega) (Nat.le_trans hb2.out (by have := zb.out; simp)) ?_
                         intro A9 c9 w9 own9 hg9 hat9
                         have M9 := Lib.hid ((M1.out.alloc (.cells #[.int .i64 sa] 2)).far (O1.out.alloc _) hSb.out hg9)
                         have O9 := Lib.hid own9; clear own9)
                      go_roundw
                      case rel => exact ⟨i + 1, A1, n1, c1, A9, c9, (s2.1, s2.2 ++ [sa]), by go_num, rfl, by omega, by rw [E.out] at Hst2; exact Hst2, by rw [E.out] at HI3; exact HI3, hs2, M9, O9, Lib.hid (Nat.le_trans hb2.out (by have := hg9.size; simp at this; omega))⟩
                      case measure => simp [intOf]; omega
                    · have E := Lib.hid (show mrStep s.2 x s2 = (s2.1 ++ [⟨⟨#[]⟩, sa, sb⟩], s2.2 ++ [(n1 : Int)]) by rw [E0.out, if_neg hsa, if_neg hsb, hs2.out])
                      have gw1 := M1.out.g.cell 0
                      have gl1 := M1.out.g.lt
                      have zk : (n1 + 1) * 32 ≤ 140737488355328 := by omega
                      have zkm : n1 + 1 ≤ maxLen := by unfold maxLen; omega
                      have M5 := Lib.hid (M1.out.alloc (.cells #[.string .empty, .int .i64 sa, .int .i64 sb] 65))
                      have O5 := Lib.hid (O1.out.alloc (.cells #[.string .empty, .int .i64 sa, .int .i64 sb] 65))
                      go_wp2_with
                        (first
                          | (at_builtin
                             refine wpList_pushG rfl _ _ _ rfl w.heap.size 65 3 32 elem_rule Fac.cells A1 n1 c1 s2.1 rfl M5.out.q wr.heap.size ⟨⟨#[]⟩, sa, sb⟩ #[.string .empty, .int .i64 sa, .int .i64 sb] 65 (0, 0) rfl (heap_alloc_new _ _) rfl rfl (one_fac _) (by omega) zk zkm M5.out.e.size ?_
                             intro A8 c8 w8 own8 hg8 hat8
                             have M8 := Lib.hid (M5.out.app own8 hg8)
                             have O8 := Lib.hid (O5.out.kept hg8 (own_ne O5.out M5.out.q (by decide)))
                             have d8 := M8.out.g.cell 0
                             have f8 := M8.out.g.frozen
                             have l8 := M8.out.g.lt
                             have M6' := Lib.hid (M8.out.put (.slice A8 (n1 + 1) c8))
                             have O6' := Lib.hid (own_kept' (i := 0) O8.out M8.out.g (by decide) (.slice A8 (n1 + 1) c8))
                             have g9 := M6'.out.g.cell 0
                             have l9 := M6'.out.g.lt
                             have um : IntKind.i64.wrap (((n1 + 1 : Nat) : Int) - 1) = (n1 : Int) := by rw [IntWalk.i64_in _ (by omega)]; omega
                             have BN0 := Blk.new (w8.setCell ⟨G, 0, none⟩ (.slice A8 (n1 + 1) c8)) 2 #[.int .i64 (n1 : Int)]
                             rw [show (w8.setCell ⟨G, 0, none⟩ (.slice A8 (n1 + 1) c8)).heap.size = w8.heap.size by simp] at BN0
                             have BN := Lib.hid BN0
                             have sz8 := Lib.hid (show b2 ≤ w8.heap.size from Nat.le_trans hb2.out (by have := hg8.size; simp at this; omega))
                             clear own8 BN0 hg8)
                          | (at_builtin
                             refine wpList_pushG rfl _ _ _ rfl b2 2 1 8 elem_int intE _ i c2 s2.2 rfl (O6'.out.alloc _) w8.heap.size (n1 : Int) #[.int .i64 (n1 : Int)] 2 (0, 0) rfl BN.out rfl rfl (by simp [intE, Value.oneCell']) (by omega) (by omega) (by unfold maxLen; omega) (Nat.le_trans sz8.out (by simp)) ?_
                             intro A9 c9 w9 own9 hg9 hat9
                             have M9 := Lib.hid ((M6'.out.alloc (.cells #[.int .i64 (n1 : Int)] 2)).far (O6'.out.alloc _) hSb.out hg9)
                             have O9 := Lib.hid own9; clear own9))
                      go_roundw
                      case rel => exact ⟨i + 1, A8, n1 + 1, c8, A9, c9, (s2.1 ++ [⟨⟨#[]⟩, sa, sb⟩], s2.2 ++ [(n1 : Int)]), by go_num, rfl, by omega, by rw [E.out] at Hst2; exact Hst2, by rw [E.out] at HI3; exact HI3, Lib.hid (by rw [List.length_append, hs2.out]; rfl), M9, O9, Lib.hid (Nat.le_trans sz8.out (by have := hg9.size; simp at this; omega))⟩
                      case measure => simp [intOf]; omega
                · obtain ⟨xl, xa, xb⟩ := x
                  simp only at hxl hxa hxb
                  subst hxl hxa hxb
                  obtain ⟨hl0, hl1⟩ := letB_num hcc
                  have E := Lib.hid (show mrStep s.2 ⟨⟨#[cc]⟩, 0, 0⟩ s2 = (s2.1, s2.2 ++ [s.2.getD (cc.toNat - 97) 0]) from rfl)
                  have hq0 : (0 : Nat) < ByteArray.size ⟨#[cc]⟩ := Nat.zero_lt_one
                  have hl2 : (97 : Int) ≤ (((⟨#[cc]⟩ : ByteArray)[0]'hq0).toNat : Int) := hl0
                  have hl3 : (((⟨#[cc]⟩ : ByteArray)[0]'hq0).toNat : Int) ≤ 100 := hl1
                  have s9 := M1.out.s.cell (((⟨#[cc]⟩ : ByteArray)[0]'hq0).toNat - 97)
                  rw [intA_at s.2 (by rw [HI.out.st]; omega)] at s9
                  have e9 : s.2.getD (((⟨#[cc]⟩ : ByteArray)[0]'hq0).toNat - 97) 0 = s.2.getD (cc.toNat - 97) 0 := rfl
                  rw [e9] at s9
                  clear e9
                  have ls9 := M1.out.s.lt
                  generalize s.2.getD (cc.toNat - 97) 0 = sv at *
                  go_wp2_with
                    (at_builtin
                     refine wpList_pushG rfl _ _ _ rfl b2 2 1 8 elem_int intE _ i c2 s2.2 rfl (O1.out.alloc _) wr.heap.size sv #[.int .i64 sv] 2 (0, 0) rfl (heap_alloc_new _ _) rfl rfl (by simp [intE, Value.oneCell']) (by omega) (by omega) (by unfold maxLen; omega) (Nat.le_trans hb2.out (by have := zb.out; simp)) ?_
                     intro A9 c9 w9 own9 hg9 hat9
                     have M9 := Lib.hid ((M1.out.alloc (.cells #[.int .i64 sv] 2)).far (O1.out.alloc _) hSb.out hg9)
                     have O9 := Lib.hid own9; clear own9)
                  go_roundw
                  case rel => exact ⟨i + 1, A1, n1, c1, A9, c9, (s2.1, s2.2 ++ [sv]), by go_num, rfl, by omega, by rw [E.out] at Hst2; exact Hst2, by rw [E.out] at HI3; exact HI3, hs2, M9, O9, Lib.hid (Nat.le_trans hb2.out (by have := hg9.size; simp at this; omega))⟩
                  case measure => simp [intOf]; omega
              · have hin' : i = n := by omega
                have hQ := HQ.out
                rw [hin', show rs.take n = rs from List.take_of_length_le (by rw [hl.out]; omega)] at hQ
                have HS2 := Lib.hid (show mapS2 rs ws = s2 by unfold mapS2; rw [HS1.out]; exact hQ)
                have HF := show mapF rs ws = (if 400 < s2.1.length then [] else if s2.2.length = 0 ∨ lastI s2.2 < 0 then [] else limF (mapT rs ws)) by unfold mapF; rw [HMO.out, HS2.out]; rfl
                have HC := show mapC rs ws = (if 400 < s2.1.length then 3 else if s2.2.length = 0 ∨ lastI s2.2 < 0 then 0 else limC (mapT rs ws)) by unfold mapC; rw [HMO.out, HS2.out]; rfl
                have HT := show mapT rs ws = trimL (s2.1.take ((lastI s2.2).toNat + 1)) by unfold mapT; rw [HS2.out]
                rw [hs2.out, HI2.out.1.st, hin'] at HF HC
                clear hQ HQ HS2
                have HF' := Lib.hid HF
                have HC' := Lib.hid HC
                have HT' := Lib.hid HT
                have g1 := M1.out.g.cell 0
                have lg1 := M1.out.g.lt
                clear HF HC HT hin'
                by_cases hbig : 400 < n1
                · have eT := Lib.hid (show mapF rs ws = [] by rw [HF'.out, if_pos hbig])
                  have eC := Lib.hid (show mapC rs ws = 3 by rw [HC'.out, if_pos hbig])
                  obtain ⟨o4, f4, l4, x5, b5'⟩ := Shut_.out wr M1.out.e M1.out.o
                  go_wp2_with fail
                  exact bodyPost_ret (v := .tuple #[.agg #[.slice none 0 0], .int .i64 3]) (by simp [results, Try.results21, go_sem, x5]) rfl ⟨none, 0, by rw [eT.out, eC.out]; rfl, by rw [eT.out]; exact World.ownsRow_nil _ _ _ _, b5'⟩
                · by_cases hn0 : n = 0
                  · have eT := Lib.hid (show mapF rs ws = [] by rw [HF'.out, if_neg hbig, if_pos (.inl hn0)])
                    have eC := Lib.hid (show mapC rs ws = 0 by rw [HC'.out, if_neg hbig, if_pos (.inl hn0)])
                    obtain ⟨o4, f4, l4, x5, b5'⟩ := Shut_.out wr M1.out.e M1.out.o
                    have i00 : i = 0 := by omega
                    subst i00
                    go_wp2_with fail
                    exact bodyPost_ret (v := .tuple #[.agg #[.slice none 0 0], .int .i64 0]) (by simp [results, Try.results21, go_sem, x5]) rfl ⟨none, 0, by rw [eT.out, eC.out]; rfl, by rw [eT.out]; exact World.ownsRow_nil _ _ _ _, b5'⟩
                  · have hi0 : ((i : Int) == 0) = false := by simp; omega
                    have hlb := Lib.hid (show -1 ≤ lastI s2.2 ∧ lastI s2.2 < (n1 : Int) by
                      have := HI2.out.1.b (i - 1) (by omega)
                      rw [hs2.out] at this
                      unfold lastI; rw [HI2.out.1.st]; exact this)
                    have hst := Lib.hid HI2.out.1.st
                    obtain ⟨gs, cps, hvs, _, hgs⟩ := O1.out.form (by omega)
                    obtain rfl : A2 = some ⟨gs, 0, none⟩ := by injection hvs
                    have el : wr.cell? ⟨gs, i - 1, none⟩ = some (.int .i64 (lastI s2.2)) := by
                      unfold lastI
                      rw [hst.out]
                      simpa [intE] using own_at (enc := intE) (sz := 1) (fun _ _ => rfl) O1.out hst.out 0 (i - 1) (by omega) 0 Nat.zero_lt_one
                    have ui : IntKind.i64.wrap ((i : Int) - 1) = (i : Int) - 1 := IntWalk.i64_in _ (by omega)
                    have ui0 : (0 : Int) ≤ (i : Int) - 1 := by omega
                    have ui1 : (i : Int) - 1 < (i : Int) := by omega
                    have uin : ((i : Int) - 1).toNat = i - 1 := by omega
                    clear hvs
                    generalize lastI s2.2 = sl at *
                    obtain ⟨hlb0, hlb1⟩ := hlb.out
                    by_cases hsl0 : sl < 0
                    · have eT := Lib.hid (show mapF rs ws = [] by rw [HF'.out, if_neg hbig, if_pos (.inr hsl0)])
                      have eC := Lib.hid (show mapC rs ws = 0 by rw [HC'.out, if_neg hbig, if_pos (.inr hsl0)])
                      obtain ⟨o4, f4, l4, x5, b5'⟩ := Shut_.out wr M1.out.e M1.out.o
                      go_wp2_with fail
                      exact bodyPost_ret (v := .tuple #[.agg #[.slice none 0 0], .int .i64 0]) (by simp [results, Try.results21, go_sem, x5]) rfl ⟨none, 0, by rw [eT.out, eC.out]; rfl, by rw [eT.out]; exact World.ownsRow_nil _ _ _ _, b5'⟩
                    · have eT0 := Lib.hid (show mapF rs ws = limF (trimL (s2.1.take (sl.toNat + 1))) by rw [HF'.out, if_neg hbig, if_neg (by omega), HT'.out])
                      have eC0 := Lib.hid (show mapC rs ws = limC (trimL (s2.1.take (sl.toNat + 1))) by rw [HC'.out, if_neg hbig, if_neg (by omega), HT'.out])
                      have hwt := Lib.hid (wf_take HI2.out.1.wf (sl.toNat + 1))
                      have hsz := Lib.hid (trimL_sz hwt.out)
                      have RO := Lib.hid (Rd.of_own (fun x _ => fac_len x) hs2.out M1.out.q)
                      have hc1 : n1 ≤ c1 := by
                        rcases M1.out.q.2 with ⟨hnil, hz⟩ | ⟨g2, cap2, cur2, hv2, _, _, h3, _⟩
                        · omega
                        · injection hv2 with _ _ h4; omega
                      have u1 : IntKind.i64.wrap (sl + 1) = sl + 1 := IntWalk.i64_in _ (by omega)
                      have j0 : (0 : Int) ≤ sl + 1 := by omega
                      have j1 : sl + 1 ≤ (c1 : Int) := by omega
                      have jn : (sl + 1).toNat = sl.toNat + 1 := by omega
                      have hfz := M1.out.g.frozen
                      have MZ := Lib.hid ((M1.out.put (.slice A1 (sl.toNat + 1) c1)).drew)
                      have RZ := Lib.hid (show Rd (wr.setCell ⟨G, 0, none⟩ (.slice A1 (sl.toNat + 1) c1)).drew (wr.setCell ⟨G, 0, none⟩ (.slice A1 (sl.toNat + 1) c1)).drew.heap.size A1 (sl.toNat + 1) 3 Fac.cells (s2.1.take (sl.toNat + 1)) from
                        rd_take (Rd.of_own (fun x _ => fac_len x) hs2.out MZ.out.q) (by omega))
                      go_wp2_with fail
                      go_region
                      all_goals
                        go_wp2_with fail
                        refine namedC fun w7 H7 => ?_
                        have M7 := Lib.hid (show MsW w w7 G S (.slice A n c) (.slice A1 (sl.toNat + 1) c1) A1 n1 c1 s2.1 s.2 by rw [H7.out]; exact MZ.out)
                        have R7 := Lib.hid (show Rd w7 w7.heap.size A1 (sl.toNat + 1) 3 Fac.cells (s2.1.take (sl.toNat + 1)) by rw [H7.out]; exact RZ.out)
                        clear H7 MZ RZ g1 lg1 hfz el
                        refine (l02Trim_any G A1 (sl.toNat + 1) c1 (s2.1.take (sl.toNat + 1)) w7 M7.out.g.lt (M7.out.g.cell 0) (by omega) R7.out hwt.out).mono ?_
                        rintro e w8 ⟨A5, c5, rfl, own5, hb8⟩
                        have M8 := Lib.hid (M7.out.next hb8)
                        have O8 := Lib.hid (own5.mono M7.out.e.size)
                        have htl : (trimL (s2.1.take (sl.toNat + 1))).length ≤ 9000 := by
                          have h1 := trimL_le (s2.1.take (sl.toNat + 1))
                          rw [List.length_take, hs2.out] at h1
                          omega
                        have hok5 := Lib.hid (fun f (hf : f ∈ trimL (s2.1.take (sl.toNat + 1))) => show f.l.size ≤ maxLen from by have := hsz.out f hf; unfold maxLen; omega)
                        generalize trimL (s2.1.take (sl.toNat + 1)) = T at *
                        have R8 := Lib.hid (Rd.of_own (fun y _ => fac_len y) rfl own5)
                        clear own5
                        rcases hb : (gOk T).isSome with _ | _
                        · have Hb := Lib.hid hb
                          have HeT := Lib.hid (show mapF rs ws = [] by rw [eT0.out]; unfold limF; rw [hb]; rfl)
                          have HeC := Lib.hid (show mapC rs ws = 3 by rw [eC0.out]; unfold limC; rw [hb]; rfl)
                          clear hb
                          go_wp2_with fail
                          refine (l02Told_no A5 _ c5 T w8 (by omega) R8.out hok5.out Hb.out).mono ?_
                          rintro e w9 ⟨rfl, hb9⟩
                          obtain ⟨o4, f4, l4, x5, b5'⟩ := Shut_.out w9 (M8.out.next hb9).e (M8.out.next hb9).o
                          go_wp2_with fail
                          exact bodyPost_ret (v := .tuple #[.agg #[.slice none 0 0], .int .i64 3]) (by simp [results, Try.results21, go_sem, x5]) rfl ⟨none, 0, by rw [HeT.out, HeC.out]; rfl, by rw [HeT.out]; exact World.ownsRow_nil _ _ _ _, b5'⟩
                        · have Hb := Lib.hid hb
                          have HeT := Lib.hid (show mapF rs ws = T by rw [eT0.out]; unfold limF; rw [hb]; rfl)
                          have HeC := Lib.hid (show mapC rs ws = 0 by rw [eC0.out]; unfold limC; rw [hb]; rfl)
                          clear hb
                          go_wp2_with fail
                          refine (l02Told_yes A5 _ c5 T w8 (by omega) R8.out hok5.out Hb.out).mono ?_
                          rintro e w9 ⟨rfl, hb9⟩
                          have M9 := Lib.hid (M8.out.next hb9)
                          have O9 := Lib.hid (own_next O8.out hb9)
                          have o9 := M9.out.o.cell 0
                          have f9 := M9.out.o.frozen
                          have l9 := M9.out.o.lt
                          have B5 := M9.out.o.set_ 0 (.slice A5 T.length c5)
                          have x5 : (w9.setCell ⟨w.heap.size + 1, 0, none⟩ (.slice A5 T.length c5)).cell? ⟨w.heap.size + 1, 0, none⟩ = some (.slice A5 T.length c5) := by rw [B5.cell 0]; rfl
                          have b5' := M9.out.e.setCell (p := ⟨w.heap.size + 1, 0, none⟩) (by simp) (.slice A5 T.length c5)
                          have Of := Lib.hid (own_kept' (i := 0) O9.out M9.out.o (by decide) (.slice A5 T.length c5))
                          clear B5
                          go_wp2_with fail
                          exact bodyPost_ret (v := .tuple #[.agg #[.slice A5 T.length c5], .int .i64 0]) (by simp [results, Try.results21, go_sem, x5]) rfl ⟨A5, c5, by rw [HeT.out, HeC.out], by rw [HeT.out]; exact Of.out, b5'⟩
  · have Hg := Lib.hid hg
    have hmo : mapOk rs ws = false := by unfold mapOk; rw [hg, hlw.out, decide_eq_false hm4]; rfl
    have eT := Lib.hid (show mapF rs ws = [] by unfold mapF; rw [if_pos hmo])
    have eC := Lib.hid (show mapC rs ws = 1 by unfold mapC; rw [if_pos hmo])
    have hm4' : ((m : Int) == 4) = false := by simp; omega
    have hm5' : ((m : Int) != 4) = true := by simp; omega
    clear hg hmo hm4
    go_enter Try.func21, Try.ntmps21
    go_wp2_with fail
    refine namedC fun w3 H3 => ?_
    obtain ⟨hb3, BG, BC⟩ := Start.out w3 H3
    clear H3
    refine (l02Ok_any w.heap.size A n c rs w3 BG.lt (BG.cell 0) (by omega) (HR.out.next hb3) HO.out true Hg.out).mono ?_
    rintro e1 w4 ⟨rfl, hb4⟩
    obtain ⟨d4, f4, l4, x5, b5⟩ := Shut_.out w4 (hb3.trans (hb4.mono hb3.size)) (BC.next hb4)
    clear BG BC
    go_wp2_with fail
    exact bodyPost_ret (v := .tuple #[.agg #[.slice none 0 0], .int .i64 1]) (by simp [results, Try.results21, go_sem, x5]) rfl ⟨none, 0, by rw [eT.out, eC.out]; rfl, by rw [eT.out]; exact World.ownsRow_nil _ _ _ _, b5⟩
end Go.Proofs.Ytfanphhlagjkdaa
