/-
  How often a word is scattered, one behind the other: in the program.
-/
import Derived.Test.YtlokofafojepdaaFoldV
import Derived.Test.YtlokofafojepdaaFoldL
import Derived.Test.YtlokofafojepdaaFoldT
import Derived.Test.YtlokofafojepdaaGramV
import Derived.Test.YtlokofafojepdaaGramL
import Derived.Test.YtlokofafojepdaaMake
import Derived.Test.YtlokofafojepdaaLetg
namespace Go.Proofs.Ytlokofafojepdaa
open Go.RowKit

def spI (p : ByteArray) (l i : Nat) : Int := if (p.data.toList.getD i 0).toNat - 97 = l then 1 else 0
def spF (p : ByteArray) (l : Nat) : List Int := (List.range p.size).map (spI p l)
def spJ (n : Nat) (x y : List Int) (i : Nat) : Int := x.getD i 0 + y.getD (((i : Int) + x.getD i 0) % (n : Int)).toNat 0
def spG (n : Nat) (x y : List Int) (_ : Fac) : List Int := (List.range n).map (spJ n x y)
abbrev spAll (p : ByteArray) (rs : List Fac) : List (List Int) := full [] (spF p) (spG p.size) rs
def SB (n : Nat) (m : Int) (x : List Int) : Prop := x.length = n ∧ ∀ i, i < n → 0 ≤ x.getD i 0 ∧ x.getD i 0 ≤ m
theorem rng_len {α : Type} (f : Nat → α) (n : Nat) : ((List.range n).map f).length = n := by simp
theorem rng_at (f : Nat → Int) {n i : Nat} (h : i < n) : ((List.range n).map f).getD i 0 = f i := by
  rw [List.getD_eq_getElem?_getD, List.getElem?_map, List.getElem?_range h]; rfl
theorem rng_succ {α : Type} (f : Nat → α) (n : Nat) : (List.range (n + 1)).map f = (List.range n).map f ++ [f n] := by rw [List.range_succ, List.map_append]; rfl
theorem spI_b (p : ByteArray) (l i : Nat) : 0 ≤ spI p l i ∧ spI p l i ≤ 1 := by unfold spI; split <;> omega
theorem sp_mod {n : Nat} (h0 : 0 < n) {i : Nat} {a : Int} : 0 ≤ ((i : Int) + a) % (n : Int) ∧ ((i : Int) + a) % (n : Int) < n := ⟨Int.emod_nonneg _ (by omega), Int.emod_lt_of_pos _ (by omega)⟩
theorem sp_bound {p : ByteArray} {rs : List Fac} {ls : List Int} (hls : gLens rs [] = some ls) (h0 : 0 < p.size) {k : Nat} (hk : k < rs.length) : SB p.size (ls.getD k 0) ((spAll p rs).getD k []) := by
  refine full_ind [] (spF p) (spG p.size) (wf_of hls) (fun k x => SB p.size (ls.getD k 0) x) (fun k r hr h => ?_) (fun k r a b hr h0' h1 h2 h3 h4 ha hb => ?_) k hk
  · have hn : r.l.size ≠ 0 := by
      obtain ⟨c, _, e⟩ := letT_one h
      rw [e]; show (1 : Nat) ≠ 0; omega
    show SB p.size (ls.getD k 0) (spF p _)
    rw [lens_let hls hr hn]
    refine ⟨rng_len _ _, fun i hi => ?_⟩
    unfold spF
    rw [rng_at _ hi]
    exact spI_b _ _ _
  · show SB p.size (ls.getD k 0) (spG p.size a b r)
    rw [lens_pair hls hr h0']
    refine ⟨rng_len _ _, fun i hi => ?_⟩
    unfold spG
    rw [rng_at _ hi]
    have q1 := ha.2 i hi
    have q2 := sp_mod h0 (i := i) (a := a.getD i 0)
    have q3 := hb.2 (((i : Int) + a.getD i 0) % (p.size : Int)).toNat (by omega)
    unfold spJ
    omega
theorem sp_b15 {p : ByteArray} {rs : List Fac} {ls : List Int} (hls : gLens rs [] = some ls) (h0 : 0 < p.size) {k : Nat} (hk : k < rs.length) : SB p.size 1000000000000000 ((spAll p rs).getD k []) := by
  have h := sp_bound hls h0 hk
  have h2 := lens_bound hls hk
  exact ⟨h.1, fun i hi => by have := h.2 i hi; omega⟩

set_option maxHeartbeats 1000000 in
set_option maxRecDepth 100000 in
theorem sp1_any (l nb pb : Nat) (p : ByteArray) (w : World) (hnb : nb < w.heap.size) (hpb : pb < w.heap.size) (dn : w.cell? ⟨nb, 0, none⟩ = some (.int .i64 (p.size : Int))) (dp : w.cell? ⟨pb, 0, none⟩ = some (.string p)) (hp : okW p = true) (hl : l < 4) :
    Calls Try.prog 75 #[.int .i64 (l : Int), .pointer (some ⟨nb, 0, none⟩), .pointer (some ⟨pb, 0, none⟩)] w (RetRep RepI (spF p l) w) := by
  obtain ⟨i0, hi, hz0, hz1, hz2⟩ := info_parts info_i64
  have hps := (okW_b hp).1
  have HP := Lib.hid (okW_b hp).2; clear hp
  have hmk := run_make_rowN (P := Try.prog) 25 2 i0 _ Try.underlying25 hi hz0 .i64 .i64 p.size p.size (Nat.le_refl _) (by rw [hz2]; omega) (by omega)
  rw [hz1] at hmk
  go_enter Try.func75, Try.ntmps75
  go_wp2_with fail
  go_loopw [11] (fun i_ w' => ∃ (k : Nat) (cs : Array Value), i_ = .int .i64 k ∧ k ≤ p.size ∧ Below w.heap.size w w' ∧ Hid (Blk w' w.heap.size 2 cs) ∧ Hid (cs.size = p.size) ∧
      Hid (∀ j, j < p.size → cs[j]? = some (.int .i64 (if j < k then spI p l j else 0)))) (fun i_ _ => p.size - (intOf i_).toNat)
  case atStart =>
    refine ⟨0, _, rfl, by omega, (Below.refl _ _).alloc (Nat.le_refl _) _, Lib.hid (Blk.new _ _ _), Lib.hid (by rw [size_madeCells]), Lib.hid (fun j hj => ?_)⟩
    rw [if_neg (by omega)]
    simpa [Value.cells] using made_at hj
  case round =>
    obtain ⟨k, cs, rfl, hk, hb, hB, hs, hc⟩ := hrel
    have en := (hb.cell (p := ⟨nb, 0, none⟩) hnb).trans dn
    have ep := (hb.cell (p := ⟨pb, 0, none⟩) hpb).trans dp
    have ln : nb < wr.heap.size := by have := hb.size; omega
    have lp : pb < wr.heap.size := by have := hb.size; omega
    by_cases hlt : k < p.size
    · obtain ⟨k0, k1⟩ := letB_num (HP.out k hlt)
      have v1 : IntKind.u8.wrap (((p[k]'hlt).toNat : Int) - 97) = (((p[k]'hlt).toNat - 97 : Nat) : Int) := by show (((p[k]'hlt).toNat : Int) - 97) % 256 = _; omega
      have hsz := hB.out.lt
      have s0 : wr.cell? ⟨w.heap.size, k, none⟩ = some (.int .i64 0) := (hB.out.cell k).trans ((hc.out k hlt).trans (by rw [if_neg (by omega)]))
      have f0 := hB.out.frozen
      have eI := Lib.hid (show spI p l k = if (p[k]'hlt).toNat - 97 = l then 1 else 0 by unfold spI; rw [List.getD_eq_getElem?_getD, at_byte p k hlt]; rfl)
      have hnx := Lib.hid (fun (v : Int) (hv : spI p l k = v) => fillc (f := spI p l) hs.out hlt hc.out v hv)
      generalize hq : (p[k]'hlt).toNat - 97 = q at *
      have hq3 : (q : Int) ≤ 3 := by omega
      clear hq
      by_cases he : q = l
      · rw [if_pos he] at eI
        have hN := Lib.hid (hnx.out 1 eI.out)
        have he1 : ((q : Int) == (l : Int)) = true := by simp; omega
        clear he hnx
        go_wp2_with fail
        go_roundw
        case rel => exact ⟨k + 1, _, by go_num, by omega, hb.setCell (Nat.le_refl _) _, Lib.hid (hB.out.set_ _ _), Lib.hid hN.out.1, Lib.hid hN.out.2⟩
        case measure => simp [intOf]; omega
      · rw [if_neg he] at eI
        have hN := Lib.hid (keepc (f := spI p l) hlt hc.out eI.out)
        have he1 : ((q : Int) == (l : Int)) = false := by simp; omega
        clear he hnx
        go_wp2_with fail
        go_roundw
        case rel => exact ⟨k + 1, cs, by go_num, by omega, hb, hB, hs, hN⟩
        case measure => simp [intOf]; omega
    · have hlen := Lib.hid (show (spF p l).length = p.size from rng_len _ _)
      go_wp2_with fail
      go_ret
      refine ⟨.slice (some ⟨w.heap.size, 0, none⟩) p.size p.size, rfl, ⟨w.heap.size, p.size, cs, by rw [hlen.out], hB.out, fun j hj => ?_⟩, hb⟩
      rw [hlen.out] at hj
      rw [hc.out j hj, if_pos (by omega)]
      unfold spF
      rw [rng_at _ hj]
set_option maxHeartbeats 1000000 in
set_option maxRecDepth 100000 in
theorem sp2_any (x y : List Int) (vx vy : Value) (r : Fac) (nb n : Nat) (w : World) (hnb : nb < w.heap.size) (dn : w.cell? ⟨nb, 0, none⟩ = some (.int .i64 (n : Int))) (h0 : 0 < n) (hn : n ≤ 2000)
    (hx : SB n 1000000000000000 x) (hy : SB n 1000000000000000 y) (rx : RepI w vx x) (ry : RepI w vy y) :
    Calls Try.prog 76 #[vx, vy, r.val, .pointer (some ⟨nb, 0, none⟩)] w (RetRep RepI (spG n x y r) w) := by
  obtain ⟨hxl, hxb⟩ := hx
  obtain ⟨hyl, hyb⟩ := hy
  obtain ⟨A1, n1, c1, rfl⟩ := (repI_ok (E := 25) (by decide)).sl rx
  obtain ⟨A2, n2, c2, rfl⟩ := (repI_ok (E := 25) (by decide)).sl ry
  obtain ⟨e1, r1⟩ := rx.rd
  obtain ⟨e2, r2⟩ := ry.rd
  obtain rfl : n1 = n := e1.trans hxl
  obtain rfl : n2 = n1 := e2.trans hyl
  have X := Lib.hid hxb; have Y := Lib.hid hyb
  have R1 := Lib.hid r1; have R2 := Lib.hid r2
  clear rx ry r1 r2 e1 e2 hxb hyb hxl hyl
  unfold Fac.val
  go_enter Try.func76, Try.ntmps76
  go_wp2_with fail
  go_loopw [8, 14] (fun o_ i_ w' => ∃ (k : Nat) (A' : Option Addr) (c' : Nat), i_ = .int .i64 k ∧ o_ = .slice A' k c' ∧ k ≤ n2 ∧ Below w.heap.size w w' ∧
      Hid (w'.ownsRow w.heap.size 2 1 (.slice A' k c') k (((List.range k).map (spJ n2 x y)).flatMap intE))) (fun _ i_ _ => n2 - (intOf i_).toNat)
  case atStart =>
    exact ⟨0, _, 0, rfl, rfl, by omega, by (repeat first | exact Below.refl _ _ | assumption | refine Below.drew ?_ | refine Below.alloc ?_ (by first | exact Nat.le_refl _ | (simp; done) | omega | (simp; omega)) _ | refine Below.setCell ?_ (by first | exact Nat.le_refl _ | (simp; done) | omega | (simp; omega)) _), Lib.hid (by simpa using World.ownsRow_made (base := w.heap.size) (e := 2) (size := 1) (w.alloc (.cells #[.string r.l, .int .i64 r.a, .int .i64 r.b] 85)) #[] 0 (by simp) (by unfold maxLen; omega) rfl)⟩
  case round =>
    obtain ⟨k, A', c', rfl, rfl, hk, hb, hown⟩ := hrel
    have en := (hb.cell (p := ⟨nb, 0, none⟩) hnb).trans dn
    have ln : nb < wr.heap.size := by have := hb.size; omega
    by_cases hlt : k < n2
    · obtain ⟨p1, o1, rfl, hB1, s1⟩ := (R1.out.next hb).n64 (k := k) hlt
      have q1 := X.out k hlt
      have q2 := sp_mod h0 (i := k) (a := x.getD k 0)
      have eJ := Lib.hid (show spJ n2 x y k = x.getD k 0 + y.getD (((k : Int) + x.getD k 0) % (n2 : Int)).toNat 0 from rfl)
      generalize x.getD k 0 = m at *
      have ht : ((k : Int) + m).tmod (n2 : Int) = ((k : Int) + m) % (n2 : Int) := Int.tmod_eq_emod_of_nonneg (by omega)
      obtain ⟨q20, q21⟩ := q2
      obtain ⟨q10, q11⟩ := q1
      have u1 : IntKind.i64.wrap ((k : Int) + m) = (k : Int) + m := IntWalk.i64_in _ (by omega)
      generalize hq : ((k : Int) + m) % (n2 : Int) = q at *
      obtain ⟨p2, o2, rfl, hB2, s2⟩ := (R2.out.next hb).n64 (k := q.toNat) (by omega)
      obtain ⟨q30, q31⟩ := Y.out q.toNat (by omega)
      generalize y.getD q.toNat 0 = z at *
      go_wp2_with
        (at_builtin
         refine wpList_push (w0 := w) rfl _ _ _ rfl w.heap.size 2 1 8 elem_int intE _ k c' ((List.range k).map (spJ n2 x y)) rfl (hown.out.alloc _) wr.heap.size (m + z) #[.int .i64 (m + z)] 2 (0, 0) rfl (heap_alloc_new _ _) rfl rfl (by simp [intE, Value.oneCell']) (by omega) (by omega) (by unfold maxLen; omega) rfl (hb.alloc hb.size _) ?_
         intro A9 c9 w9 own9 hg9 hat9 hb9
         have O9 := Lib.hid own9
         clear own9 hg9 hat9)
      go_roundw
      case rel =>
        refine ⟨k + 1, A9, c9, by go_num, rfl, by omega, hb9, Lib.hid ?_⟩
        rw [rng_succ, eJ.out]
        exact O9.out
      case measure => simp [intOf]; omega
    · obtain rfl : k = n2 := by omega
      have hlen := Lib.hid (show (spG k x y r).length = k from rng_len _ _)
      go_wp2_with fail
      go_ret
      refine ⟨.slice A' k c', rfl, ?_, hb⟩
      have := RepI.of_own (w := wr) (base := w.heap.size) (A := A') (c := c') (y := spG k x y r) (by rw [hlen.out]; exact h0) (by rw [hlen.out]; exact hown.out)
      rw [hlen.out] at this
      exact this
def spTop (rs : List Fac) (p : ByteArray) : Int := if rs.length = 0 then 0 else ((spAll p rs).getD (rs.length - 1) []).getD 0 0
def spareV (rs : List Fac) (p : ByteArray) : Value :=
  if (gOk rs).isSome = false then tup2 0 1 else if okW p = false then tup2 0 1 else if p.size = 0 then tup2 0 4 else tup2 (spTop rs p / (p.size : Int)) 0
theorem spareV_form (rs : List Fac) (p : ByteArray) : ∃ b k, spareV rs p = .tuple #[.int .i64 b, .int .i64 k] := by
  unfold spareV
  split
  · exact ⟨_, _, rfl⟩
  split
  · exact ⟨_, _, rfl⟩
  split
  · exact ⟨_, _, rfl⟩
  · exact ⟨_, _, rfl⟩
theorem spareV1 {rs : List Fac} {p : ByteArray} (h : (gOk rs).isSome = false) : spareV rs p = tup2 0 1 := by unfold spareV; rw [if_pos h]
theorem spareV2 {rs : List Fac} {p : ByteArray} (h : (gOk rs).isSome = true) (h2 : okW p = false) : spareV rs p = tup2 0 1 := by unfold spareV; rw [if_neg (by rw [h]; decide), if_pos h2]
theorem spareV3 {rs : List Fac} {p : ByteArray} (h : (gOk rs).isSome = true) (h2 : okW p = true) (h3 : p.size = 0) : spareV rs p = tup2 0 4 := by unfold spareV; rw [if_neg (by rw [h]; decide), if_neg (by rw [h2]; decide), if_pos h3]
theorem spareV4 {rs : List Fac} {p : ByteArray} (h : (gOk rs).isSome = true) (h2 : okW p = true) (h3 : p.size ≠ 0) : spareV rs p = tup2 (spTop rs p / (p.size : Int)) 0 := by
  unfold spareV; rw [if_neg (by rw [h]; decide), if_neg (by rw [h2]; decide), if_neg h3]
def zerosI (n : Nat) : List Int := (List.range n).map fun _ => 0
theorem spTop_eq (rs : List Fac) (p : ByteArray) (h0 : p.size ≠ 0) : ((foldAll [] (spF p) (spG p.size) (zerosI p.size) rs).getD ((foldAll [] (spF p) (spG p.size) (zerosI p.size) rs).length - 1) []).getD 0 0 = spTop rs p := by
  rw [foldAll_top]
  unfold spTop
  split
  · exact rng_at _ (by omega)
  · rfl
theorem spTop_b {rs : List Fac} {p : ByteArray} {ls : List Int} (hls : gLens rs [] = some ls) (h0 : 0 < p.size) : 0 ≤ spTop rs p ∧ spTop rs p ≤ 1000000000000000 := by
  unfold spTop
  split
  · omega
  · exact (sp_b15 hls h0 (k := rs.length - 1) (by omega)).2 0 h0
theorem foldAll_SB {rs : List Fac} {p : ByteArray} {ls : List Int} (hls : gLens rs [] = some ls) (h0 : 0 < p.size) : ((foldAll [] (spF p) (spG p.size) (zerosI p.size) rs).getD ((foldAll [] (spF p) (spG p.size) (zerosI p.size) rs).length - 1) []).length = p.size := by
  rw [foldAll_top]
  split
  · exact rng_len _ _
  · exact (sp_b15 hls h0 (k := rs.length - 1) (by omega)).1
theorem topV_any (A : Option Addr) (n c : Nat) (v : Value) (w : World) (hn : n ≤ 1048577) (h0 : 0 < n) (b : Nat) (hA : A = some ⟨b, 0, none⟩) (hb : b < w.heap.size) (hc : w.cell? ⟨b, n - 1, none⟩ = some v) (hv : ∃ p m d, v = .slice p m d) :
    Calls Try.prog 77 #[.slice A n c] w (Ret v w) := by
  subst hA
  obtain ⟨p, m, d, rfl⟩ := hv
  go_enter Try.func77, Try.ntmps77
  go_wp2_with fail
  go_ret
  exact ⟨rfl, Below.refl _ _⟩
theorem size_any (s : ByteArray) (w : World) (hs : s.size ≤ 100000000) : Calls Try.prog 73 #[.string s] w (Ret (.int .i64 (s.size : Int)) w) := by
  go_enter Try.func73, Try.ntmps73
  go_wp2
  go_ret
  exact ⟨rfl, Below.refl _ _⟩
theorem repI_zeros (w : World) (n c : Nat) (h : 0 < n) : RepI (w.alloc (.cells (madeCells (Value.int .i64 0).cells (n * 1)) 2)) (.slice (some ⟨w.heap.size, 0, none⟩) n c) (zerosI n) := by
  refine ⟨w.heap.size, c, _, by rw [show (zerosI n).length = n from rng_len _ _], Blk.new _ _ _, fun j hj => ?_⟩
  rw [show (zerosI n).length = n from rng_len _ _] at hj
  rw [made_at hj, show (zerosI n).getD j 0 = 0 from rng_at _ hj]
set_option maxHeartbeats 2000000 in
set_option maxRecDepth 100000 in
theorem implSpare_any (A : Option Addr) (n c : Nat) (rs : List Fac) (s : ByteArray) (w : World) (hn : n ≤ 1048576) (hr : Rd w w.heap.size A n 3 Fac.cells rs) (hok : ∀ f ∈ rs, f.l.size ≤ maxLen) (hs : s.size ≤ maxLen) :
    Calls Try.prog 31 #[.agg #[.slice A n c], .string s] w (Ret (spareV rs s) w) := by
  have hl := Lib.hid hr.len
  have HR := Lib.hid hr; clear hr
  have HO := Lib.hid hok; clear hok
  rcases hg : (gOk rs).isSome with _ | _
  · have e := Lib.hid (spareV1 (p := s) hg)
    have Hg := Lib.hid hg; clear hg
    go_enter Try.func31, Try.ntmps31
    go_wp2_with fail
    refine namedC fun w0 H0 => ?_
    have hb0 : Below w.heap.size w w0 := by rw [H0.out]; (repeat first | exact Below.refl _ _ | assumption | refine Below.drew ?_ | refine Below.alloc ?_ (by first | exact Nat.le_refl _ | (simp; done) | omega | (simp; omega)) _ | refine Below.setCell ?_ (by first | exact Nat.le_refl _ | (simp; done) | omega | (simp; omega)) _)
    clear H0
    refine (validG_any A n c rs w0 (by omega) (HR.out.next hb0) HO.out false Hg.out).mono ?_
    rintro e1 w1 ⟨rfl, hb1⟩
    go_wp2_with fail
    go_ret2
    exact ⟨by rw [e.out]; rfl, hb0.trans (hb1.mono hb0.size)⟩
  have HG := Lib.hid hg
  obtain ⟨ls, hls⟩ := Option.isSome_iff_exists.1 hg
  have HL := Lib.hid (gOk_lens hls).1
  have hn4 : n ≤ 400 := by have := (gOk_lens hls).2.1; have := hl.out; omega
  clear hg hls
  rcases hp : okW s with _ | _
  · have e := Lib.hid (spareV2 HG.out hp)
    have Hp := Lib.hid hp; clear hp
    go_enter Try.func31, Try.ntmps31
    go_wp2_with fail
    refine namedC fun w0 H0 => ?_
    have hb0 : Below w.heap.size w w0 := by rw [H0.out]; (repeat first | exact Below.refl _ _ | assumption | refine Below.drew ?_ | refine Below.alloc ?_ (by first | exact Nat.le_refl _ | (simp; done) | omega | (simp; omega)) _ | refine Below.setCell ?_ (by first | exact Nat.le_refl _ | (simp; done) | omega | (simp; omega)) _)
    have BP := Lib.hid (show Blk w0 (w.heap.size + 1) 9 #[.string s] by rw [H0.out]; simpa using Blk.new (w.alloc _) _ _)
    clear H0
    refine (validG_any A n c rs w0 (by omega) (HR.out.next hb0) HO.out true HG.out).mono ?_
    rintro e1 w1 ⟨rfl, hb1⟩
    have b1 := hb0.trans (hb1.mono hb0.size)
    have c1 := (BP.out.next hb1).cell 0
    have l1 := (BP.out.next hb1).lt
    go_wp2_with fail
    refine (validWord_any s false w1 hs Hp.out).mono ?_
    rintro e2 w2 ⟨rfl, hb2⟩
    go_wp2_with fail
    go_ret2
    exact ⟨by rw [e.out]; rfl, b1.trans (hb2.mono b1.size)⟩
  have Hp := Lib.hid hp
  have hps := (okW_b hp).1
  clear hp
  by_cases h0 : s.size = 0
  · have e := Lib.hid (spareV3 HG.out Hp.out h0)
    have e0 := size0 h0
    clear h0
    go_enter Try.func31, Try.ntmps31
    go_wp2_with fail
    refine namedC fun w0 H0 => ?_
    have hb0 : Below w.heap.size w w0 := by rw [H0.out]; (repeat first | exact Below.refl _ _ | assumption | refine Below.drew ?_ | refine Below.alloc ?_ (by first | exact Nat.le_refl _ | (simp; done) | omega | (simp; omega)) _ | refine Below.setCell ?_ (by first | exact Nat.le_refl _ | (simp; done) | omega | (simp; omega)) _)
    have BP := Lib.hid (show Blk w0 (w.heap.size + 1) 9 #[.string s] by rw [H0.out]; simpa using Blk.new (w.alloc _) _ _)
    clear H0
    refine (validG_any A n c rs w0 (by omega) (HR.out.next hb0) HO.out true HG.out).mono ?_
    rintro e1 w1 ⟨rfl, hb1⟩
    have b1 := hb0.trans (hb1.mono hb0.size)
    have c1 := (BP.out.next hb1).cell 0
    have l1 := (BP.out.next hb1).lt
    go_wp2_with fail
    refine (validWord_any s true w1 hs Hp.out).mono ?_
    rintro e2 w2 ⟨rfl, hb2⟩
    have c2 := ((BP.out.next hb1).next hb2).cell 0
    have l2 := ((BP.out.next hb1).next hb2).lt
    clear c1 l1
    go_wp2_with fail
    go_ret2
    exact ⟨by rw [e.out]; rfl, b1.trans (hb2.mono b1.size)⟩
  have e := Lib.hid (spareV4 HG.out Hp.out h0)
  have e0 := size1 h0
  have e1 := size1' h0
  have h1 : 0 < s.size := by omega
  have H0' := Lib.hid h0; clear h0
  obtain ⟨i0, hi, hz0, hz1, hz2⟩ := info_parts info_i64
  have hmk := run_make_rowN (P := Try.prog) 25 2 i0 _ Try.underlying25 hi hz0 .i64 .i64 s.size s.size (Nat.le_refl _) (by rw [hz2]; omega) (by omega)
  rw [hz1] at hmk
  have Hmk := Lib.hid hmk; clear hmk
  go_enter Try.func31, Try.ntmps31
  go_wp2_with fail
  refine namedC fun w0 H0 => ?_
  have hb0 : Below w.heap.size w w0 := by rw [H0.out]; (repeat first | exact Below.refl _ _ | assumption | refine Below.drew ?_ | refine Below.alloc ?_ (by first | exact Nat.le_refl _ | (simp; done) | omega | (simp; omega)) _ | refine Below.setCell ?_ (by first | exact Nat.le_refl _ | (simp; done) | omega | (simp; omega)) _)
  have BG := Lib.hid (show Blk w0 w.heap.size 31 #[.slice A n c] by rw [H0.out]; simpa using (Blk.new w _ _).alloc _)
  have BP := Lib.hid (show Blk w0 (w.heap.size + 1) 9 #[.string s] by rw [H0.out]; simpa using Blk.new (w.alloc _) _ _)
  clear H0
  refine (validG_any A n c rs w0 (by omega) (HR.out.next hb0) HO.out true HG.out).mono ?_
  rintro e1 w1 ⟨rfl, hb1⟩
  have b1 := hb0.trans (hb1.mono hb0.size)
  have c1 := (BP.out.next hb1).cell 0
  have l1 := (BP.out.next hb1).lt
  go_wp2_with fail
  refine (validWord_any s true w1 hs Hp.out).mono ?_
  rintro e2 w2 ⟨rfl, hb2⟩
  have b2 := b1.trans (hb2.mono b1.size)
  have BP2 := Lib.hid ((BP.out.next hb1).next hb2)
  have BG2 := Lib.hid ((BG.out.next hb1).next hb2)
  have c2 := BP2.out.cell 0
  have l2 := BP2.out.lt
  clear c1 l1
  go_wp2_with fail
  refine (size_any s w2 (by omega)).mono ?_
  rintro e3 w3 ⟨rfl, hb3⟩
  have b3 := b2.trans (hb3.mono b2.size)
  have BP3 := Lib.hid (BP2.out.next hb3)
  have BG3 := Lib.hid (BG2.out.next hb3)
  clear c2 l2
  have hmk := Hmk.out
  go_wp2_with fail
  refine named fun w4 H4 => ?_
  have hb4 : Below w3.heap.size w3 w4 := by rw [H4.out]; (repeat first | exact Below.refl _ _ | assumption | refine Below.drew ?_ | refine Below.alloc ?_ (by first | exact Nat.le_refl _ | (simp; done) | omega | (simp; omega)) _ | refine Below.setCell ?_ (by first | exact Nat.le_refl _ | (simp; done) | omega | (simp; omega)) _)
  have BN4 := Lib.hid (show Blk w4 w3.heap.size 2 #[.int .i64 (s.size : Int)] by rw [H4.out]; exact Blk.new _ _ _)
  clear H4
  have b4 := b3.trans (hb4.mono b3.size)
  have BP4 := Lib.hid (BP3.out.next hb4)
  have BG4 := Lib.hid (BG3.out.next hb4)
  have c4 := BG4.out.cell 0
  have l4 := BG4.out.lt
  have d4 := BN4.out.cell 0
  have m4 := BN4.out.lt
  go_wp2_with fail
  have hz5 := Lib.hid (show RepI (w4.alloc (Obj.cells (madeCells #[Value.int .i64 0] s.size) 2)).drew (.slice (some ⟨w4.heap.size, 0, none⟩) s.size s.size) (zerosI s.size) from by
    have h := repI_zeros w4 s.size s.size h1
    simp only [Value.cells, Nat.mul_one] at h
    exact h)
  have hb5 := Lib.hid (show Below w4.heap.size w4 (w4.alloc (Obj.cells (madeCells #[Value.int .i64 0] s.size) 2)).drew by (repeat first | exact Below.refl _ _ | assumption | refine Below.drew ?_ | refine Below.alloc ?_ (by first | exact Nat.le_refl _ | (simp; done) | omega | (simp; omega)) _ | refine Below.setCell ?_ (by first | exact Nat.le_refl _ | (simp; done) | omega | (simp; omega)) _))
  have hfold := Lib.hid (fun (w' : World) (hz : RepI w' (.slice (some ⟨w4.heap.size, 0, none⟩) s.size s.size) (zerosI s.size)) (hb' : Below w4.heap.size w4 w') =>
    foldV_any [] RepI (repI_ok (E := 25) (by decide)) 75 76 (enterOk Try.func75 (by kernel_rfl) (by kernel_rfl)) (enterOk Try.func76 (by kernel_rfl) (by kernel_rfl))
      #[.pointer (some ⟨w3.heap.size, 0, none⟩), .pointer (some ⟨w.heap.size + 1, 0, none⟩)] #[.pointer (some ⟨w3.heap.size, 0, none⟩)] (spF s) (spG s.size) (zerosI s.size) (.slice (some ⟨w4.heap.size, 0, none⟩) s.size s.size) A n c rs w' hn
      (HR.out.next (b4.trans (hb'.mono b4.size))) (wf_of HL.out) hz
      (fun k r hr h0 w2 hb2 => by
        have hB := hb'.trans (hb2.mono hb'.size)
        rcases wf_of HL.out k r hr with ⟨h0', _⟩ | ⟨cc, hcc, hxl, _⟩
        · exact absurd h0' h0
        · have h := sp1_any (letN r.l) w3.heap.size (w.heap.size + 1) s w2 (BN4.out.next hB).lt (BP4.out.next hB).lt ((BN4.out.next hB).cell 0) ((BP4.out.next hB).cell 0) Hp.out (letN_lt (by rw [hxl]; exact hcc))
          simpa using h)
      (fun k r hr h0 w2 va vb hb2 ha hb => by
        have hB := hb'.trans (hb2.mono hb'.size)
        have hk : k < rs.length := (List.getElem?_eq_some_iff.1 hr).1
        rcases wf_of HL.out k r hr with ⟨_, ha0, ha1, hb0, hb1⟩ | ⟨cc, _, hxl, _⟩
        · rw [outs_full [] (spF s) (spG s.size) (k := k) (i := r.a.toNat) (by omega) (by omega)] at ha ⊢
          rw [outs_full [] (spF s) (spG s.size) (k := k) (i := r.b.toNat) (by omega) (by omega)] at hb ⊢
          have h := sp2_any _ _ va vb r w3.heap.size s.size w2 (BN4.out.next hB).lt ((BN4.out.next hB).cell 0) h1 hps (sp_b15 HL.out h1 (k := r.a.toNat) (by omega)) (sp_b15 HL.out h1 (k := r.b.toNat) (by omega)) ha hb
          simpa using h
        · rw [hxl] at h0; exact absurd h0 (show ¬ (1 : Nat) = 0 by omega)))
  go_region_held3 (fun w' => w'.cell? ⟨w.heap.size, 0, none⟩ = some (.slice A n c) ∧ w'.cell? ⟨w3.heap.size, 0, none⟩ = some (.int .i64 (s.size : Int)))
    (first | exact ⟨s0, s1⟩ | go_keep)
    (first
      | (go_at_call 74
         refine (hfold.out _ hz5.out hb5.out).mono ?_
         rintro e5 w6 ⟨A6, c6, vs, rfl, own6, reps6, hb6⟩
         have b46 := Lib.hid (hb5.out.trans (hb6.mono hb5.out.size))
         have s0 := (BG4.out.next b46.out).cell 0
         have s1 := (BN4.out.next b46.out).cell 0)
      | fail)
  all_goals
    clear hmk
    have b6 := b4.trans (b46.out.mono b4.size)
    have hL := foldAll_len [] (spF s) (spG s.size) (zerosI s.size) rs
    have hlr := hl.out
    have hR := reps6.at_ undef (show (foldAll [] (spF s) (spG s.size) (zerosI s.size) rs).length - 1 < vs.length by rw [reps6.1]; omega)
    have hvl := Lib.hid reps6.1
    have eT := Lib.hid (spTop_eq rs s H0'.out)
    have eL := Lib.hid (foldAll_SB HL.out h1)
    have eB := spTop_b HL.out h1
    obtain ⟨g, cap, hv, hg0, hg1⟩ := own6.form (by omega)
    obtain rfl : A6 = some ⟨g, 0, none⟩ := by injection hv
    have cv := own_at (enc := encV) (sz := 1) (fun _ _ => rfl) own6 hvl.out undef ((foldAll [] (spF s) (spG s.size) (zerosI s.size) rs).length - 1) (by omega) 0 Nat.zero_lt_one
    obtain ⟨g3, c3, cs3, ev, hB3, hcs3⟩ := hR
    rw [eL.out] at ev hcs3
    have cz := (hB3.cell 0).trans (hcs3 0 h1)
    rw [eT.out] at cz
    have hg3 := hB3.lt
    have cv' : w6.cell? ⟨g, (foldAll [] (spF s) (spG s.size) (zerosI s.size) rs).length - 1, none⟩ = some (.slice (some ⟨g3, 0, none⟩) s.size c3) := by
      rw [← ev]; simpa [encV] using cv
    have hLn : (foldAll [] (spF s) (spG s.size) (zerosI s.size) rs).length ≤ 401 := by omega
    obtain ⟨hL0, _⟩ := hL
    have cn := (BN4.out.next b46.out).cell 0
    have ln := (BN4.out.next b46.out).lt
    clear ev cv hv hcs3 hB3 own6 reps6 hlr s0 s1
    generalize (foldAll [] (spF s) (spG s.size) (zerosI s.size) rs).length = L at *
    obtain ⟨eB0, eB1⟩ := eB
    have ht : (spTop rs s).tdiv (s.size : Int) = spTop rs s / (s.size : Int) := Int.tdiv_eq_ediv_of_nonneg eB0
    have hq := Int.ediv_nonneg eB0 (show (0 : Int) ≤ (s.size : Int) by omega)
    have hq1 := Int.ediv_le_self (b := (s.size : Int)) eB0
    generalize hT : spTop rs s = T at *
    clear hT eL eT hvl cap hg0
    have u1 : IntKind.i64.wrap (T / (s.size : Int)) = T / (s.size : Int) := IntWalk.i64_in _ (by omega)
    go_wp2_with fail
    have hsn : ¬ s.size = 0 := H0'.out
    have hT7 := Lib.hid (fun (w' : World) (h : Below w6.heap.size w6 w') => topV_any (some ⟨g, 0, none⟩) L c6 _ w' (by omega) (by omega) g rfl (Nat.lt_of_lt_of_le hg1 h.size) ((h.cell (p := ⟨g, L - 1, none⟩) hg1).trans cv') ⟨_, _, _, rfl⟩)
    go_region_held3 (fun w' => w'.cell? ⟨g3, 0, none⟩ = some (.int .i64 T) ∧ w'.cell? ⟨w3.heap.size, 0, none⟩ = some (.int .i64 (s.size : Int)))
      (first | exact ⟨t0, t1⟩ | exact ⟨cz, cn⟩ | go_keep)
      (first
        | (go_at_call 77
           refine (hT7.out _ (Below.refl _ _).drew).mono ?_
           rintro e7 w7 ⟨rfl, hb7⟩
           have hb67 : Below w6.heap.size w6 w7 := (Below.refl _ _).drew.trans hb7
           have t0 : w7.cell? ⟨g3, 0, none⟩ = some (.int .i64 T) := (hb67.cell (p := ⟨g3, 0, none⟩) hg3).trans cz
           have t1 : w7.cell? ⟨w3.heap.size, 0, none⟩ = some (.int .i64 (s.size : Int)) := (hb67.cell (p := ⟨w3.heap.size, 0, none⟩) ln).trans cn)
        | fail)
    all_goals
      go_wp2_with fail
      go_ret2
      exact ⟨by rw [e.out]; rfl, b6.trans (hb67.mono b6.size)⟩
end Go.Proofs.Ytlokofafojepdaa
