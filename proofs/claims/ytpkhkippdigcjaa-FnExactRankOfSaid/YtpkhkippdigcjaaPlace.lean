/-
  PlaceSum in the program and in the reference.
-/
import Derived.Test.YtpkhkippdigcjaaCens
import Derived.Test.YtpkhkippdigcjaaLet
import Derived.Test.YtpkhkippdigcjaaFoldT
import Derived.Test.YtpkhkippdigcjaaPieces
namespace Go.Proofs.Ytpkhkippdigcjaa
open Go.RowKit

theorem emod_b {a m : Int} (hm : 0 < m) : 0 ≤ a % m ∧ a % m < m := ⟨Int.emod_nonneg a (by omega), Int.emod_lt_of_pos a hm⟩
theorem mul_b {a b : Int} (h0 : 0 ≤ a) (h1 : a ≤ 1000000000) (h2 : 0 ≤ b) (h3 : b ≤ 1000000000) : 0 ≤ a * b ∧ a * b ≤ 1000000000000000000 := by
  refine ⟨Int.mul_nonneg h0 h2, ?_⟩
  have := Int.mul_le_mul h1 h3 h2 (show (0 : Int) ≤ 1000000000 by omega)
  omega
def plF (_ : Nat) : Int := 0
def plG (ls : List Int) (cs : List Q4) (l : Nat) (m : Int) (x y : Int) (r : Fac) : Int := (x + y + (ls.getD r.a.toNat 0) % m * (((cs.getD r.b.toNat Q4.nil).at_ l) % m)) % m
theorem pl_prod {rs : List Fac} {ls : List Int} (hls : gLens rs [] = some ls) {m : Int} (h1 : 1 ≤ m) (h2 : m ≤ 1000000000) {i j : Nat} (hi : i < rs.length) (hj : j < rs.length) (l : Nat) :
    0 ≤ (ls.getD i 0) % m * ((((cnts rs).getD j Q4.nil).at_ l) % m) ∧ (ls.getD i 0) % m * ((((cnts rs).getD j Q4.nil).at_ l) % m) ≤ 1000000000000000000 := by
  have a1 := lens_bound hls hi
  have a2 := cnt_at hls hj l
  have b1 := emod_b (a := ls.getD i 0) (m := m) (by omega)
  have b2 := emod_b (a := ((cnts rs).getD j Q4.nil).at_ l) (m := m) (by omega)
  exact mul_b b1.1 (by omega) b2.1 (by omega)
theorem pl_bound {rs : List Fac} {ls : List Int} (hls : gLens rs [] = some ls) {l : Nat} {m : Int} (h1 : 1 ≤ m) (h2 : m ≤ 1000000000) {k : Nat} (hk : k < rs.length) :
    0 ≤ (full 0 plF (plG ls (cnts rs) l m) rs).getD k 0 ∧ (full 0 plF (plG ls (cnts rs) l m) rs).getD k 0 ≤ 1000000000 := by
  refine full_ind 0 plF (plG ls (cnts rs) l m) (wf_of hls) (fun _ x => 0 ≤ x ∧ x ≤ 1000000000) (fun k r _ _ => ?_) (fun k r a b hr h0 ha0 ha1 hb0 hb1 ha hb => ?_) k hk
  · show (0 : Int) ≤ 0 ∧ (0 : Int) ≤ 1000000000
    omega
  · have hk : k < rs.length := (List.getElem?_eq_some_iff.1 hr).1
    have p := pl_prod hls h1 h2 (i := r.a.toNat) (j := r.b.toNat) (by omega) (by omega) l
    have q := emod_b (a := a + b + (ls.getD r.a.toNat 0) % m * ((((cnts rs).getD r.b.toNat Q4.nil).at_ l) % m)) (m := m) (by omega)
    exact ⟨q.1, by show (a + b + _) % m ≤ _; omega⟩
def topI (F : Nat → Int) (G : Int → Int → Fac → Int) (rs : List Fac) : Int := if rs.length = 0 then 0 else (full 0 F G rs).getD (rs.length - 1) 0
def placeV (rs : List Fac) (s : ByteArray) (m : Int) : Value :=
  if (gOk rs).isSome = false then tup2 0 1 else if letT s = false then tup2 0 1 else if inB m 1 1000000000 = false then tup2 0 2
  else tup2 (topI plF (plG ((gLens rs []).getD []) (cnts rs) (letN s) m) rs) 0
theorem placeV_form (rs : List Fac) (s : ByteArray) (m : Int) : ∃ b k, placeV rs s m = .tuple #[.int .i64 b, .int .i64 k] := by
  unfold placeV
  split
  · exact ⟨_, _, rfl⟩
  split
  · exact ⟨_, _, rfl⟩
  split
  · exact ⟨_, _, rfl⟩
  · exact ⟨_, _, rfl⟩
theorem Rd.q4 {w : World} {B n : Nat} {A : Option Addr} {xs : List Q4} {k : Nat} (h : Rd w B A n 4 encQ4 xs) (hk : k < n) {l : Nat} (hl : l < 4) :
    ∃ b o, A = some ⟨b, o, none⟩ ∧ b < B ∧ w.cell? ⟨b, o + k * 4 + l, none⟩ = some (.int .i64 ((xs.getD k Q4.nil).at_ l)) := by
  obtain ⟨b, o, hA, hb, x, hx, hc⟩ := h.at_ hk
  refine ⟨b, o, hA, hb, ?_⟩
  rw [hc l _ (encQ4_at x hl), List.getD_eq_getElem?_getD, hx]; rfl
theorem pl1_any (l : Int) (w : World) : Calls Try.prog 57 #[.int .i64 l] w (Ret (.int .i64 0) w) := by
  go_enter Try.func57, Try.ntmps57
  go_wp2
  go_ret
  exact ⟨rfl, Below.refl _ _⟩
set_option maxHeartbeats 1000000 in
set_option maxRecDepth 100000 in
theorem pl2_any (x y : Int) (r : Fac) (cb mb lb : Nat) (A2 A3 A : Option Addr) (c n3 c2 c3 n : Nat) (l : Nat) (m : Int) (ls : List Int) (cs : List Q4) (w : World) (hcb : cb < w.heap.size) (hmb : mb < w.heap.size) (hlb : lb < w.heap.size)
    (d0 : w.cell? ⟨cb, 0, none⟩ = some (.slice A n c)) (d1 : w.cell? ⟨cb, 1, none⟩ = some (.slice A2 n c2)) (d2 : w.cell? ⟨cb, 2, none⟩ = some (.slice A3 n3 c3)) (dm : w.cell? ⟨mb, 0, none⟩ = some (.int .i64 m)) (dl : w.cell? ⟨lb, 0, none⟩ = some (.int .u8 (l : Int)))
    (hl : l < 4) (h1 : 1 ≤ m) (h2 : m ≤ 1000000000) (hL : Rd w w.heap.size A2 n 1 intE ls) (hC : Rd w w.heap.size A3 n3 4 encQ4 cs) (hra0 : 0 ≤ r.a) (hra : r.a < n) (hrb0 : 0 ≤ r.b) (hrb : r.b < n3)
    (hx : 0 ≤ x ∧ x ≤ 1000000000) (hy : 0 ≤ y ∧ y ≤ 1000000000) (hp : 0 ≤ (ls.getD r.a.toNat 0) % m * (((cs.getD r.b.toNat Q4.nil).at_ l) % m) ∧ (ls.getD r.a.toNat 0) % m * (((cs.getD r.b.toNat Q4.nil).at_ l) % m) ≤ 1000000000000000000)
    (hla : 0 ≤ ls.getD r.a.toNat 0 ∧ ls.getD r.a.toNat 0 ≤ 1000000000000000) (hcb' : 0 ≤ (cs.getD r.b.toNat Q4.nil).at_ l ∧ (cs.getD r.b.toNat Q4.nil).at_ l ≤ 1000000000000000) :
    Calls Try.prog 58 #[.int .i64 x, .int .i64 y, r.val, .pointer (some ⟨cb, 0, none⟩), .pointer (some ⟨mb, 0, none⟩), .pointer (some ⟨lb, 0, none⟩)] w (Ret (.int .i64 (plG ls cs l m x y r)) w) := by
  obtain ⟨p2, o2, rfl, hB2, e2⟩ := hL.i64 (k := r.a.toNat) (by omega)
  obtain ⟨p3, o3, rfl, hB3, e3⟩ := hC.q4 (k := r.b.toNat) (by omega) hl
  have e := Lib.hid (show plG ls cs l m x y r = (x + y + (ls.getD r.a.toNat 0) % m * (((cs.getD r.b.toNat Q4.nil).at_ l) % m)) % m from rfl)
  rw [e.out]
  clear hL hC e
  generalize ls.getD r.a.toNat 0 = u at *
  generalize (cs.getD r.b.toNat Q4.nil).at_ l = v at *
  obtain ⟨x0, x1⟩ := hx
  obtain ⟨y0, y1⟩ := hy
  obtain ⟨p0, p1⟩ := hp
  obtain ⟨u0, u1⟩ := hla
  obtain ⟨v0, v1⟩ := hcb'
  have t1 := emod_b (a := u) (m := m) (by omega)
  have t2 := emod_b (a := v) (m := m) (by omega)
  have t3 := emod_b (a := x + y + u % m * (v % m)) (m := m) (by omega)
  obtain ⟨t10, t11⟩ := t1
  obtain ⟨t20, t21⟩ := t2
  obtain ⟨t30, t31⟩ := t3
  unfold Fac.val
  go_enter Try.func58, Try.ntmps58
  go_wp2_with fail
  refine named fun w3 H3 => ?_
  have B3 : Blk w3 w.heap.size 57 #[.string r.l, .int .i64 r.a, .int .i64 r.b] := by rw [H3.out]; exact Blk.new _ _ _
  have hb3 : Below w.heap.size w w3 := by rw [H3.out]; (repeat first | exact Below.refl _ _ | assumption | refine Below.drew ?_ | refine Below.alloc ?_ (by first | exact Nat.le_refl _ | (simp; done) | omega | (simp; omega)) _ | refine Below.setCell ?_ (by first | exact Nat.le_refl _ | (simp; done) | omega | (simp; omega)) _)
  obtain ⟨g0, g1, g2⟩ := B3.three
  have hz3 := B3.lt
  have f0 := (hb3.cell (p := ⟨cb, 0, none⟩) hcb).trans d0
  have f1 := (hb3.cell (p := ⟨cb, 1, none⟩) hcb).trans d1
  have f2 := (hb3.cell (p := ⟨cb, 2, none⟩) hcb).trans d2
  have f3 := (hb3.cell (p := ⟨mb, 0, none⟩) hmb).trans dm
  have f4 := (hb3.cell (p := ⟨lb, 0, none⟩) hlb).trans dl
  have f5 := (hb3.cell (p := ⟨p2, o2 + r.a.toNat, none⟩) hB2).trans e2
  have f6 := (hb3.cell (p := ⟨p3, o3 + r.b.toNat * 4 + l, none⟩) hB3).trans e3
  have s1 : cb < w3.heap.size := by omega
  have s2 : mb < w3.heap.size := by omega
  have s3 : lb < w3.heap.size := by omega
  have s4 : p2 < w3.heap.size := by omega
  have s5 : p3 < w3.heap.size := by omega
  have hup := upc w3.heap.size w3
  have w1' : IntKind.i64.wrap (x + y) = x + y := IntWalk.i64_in _ (by omega)
  have w2' : IntKind.i64.wrap (u % m) = u % m := IntWalk.i64_in _ (by omega)
  have w3' : IntKind.i64.wrap (v % m) = v % m := IntWalk.i64_in _ (by omega)
  have w4' : IntKind.i64.wrap (u % m * (v % m)) = u % m * (v % m) := IntWalk.i64_in _ (by clear w1' w2' w3'; omega)
  have w5' : IntKind.i64.wrap (x + y + u % m * (v % m)) = x + y + u % m * (v % m) := IntWalk.i64_in _ (by clear w1' w2' w3' w4'; omega)
  have w6' : IntKind.i64.wrap ((x + y + u % m * (v % m)) % m) = (x + y + u % m * (v % m)) % m := IntWalk.i64_in _ (by clear w1' w2' w3' w4' w5'; omega)
  have hm0 : ¬ m = 0 := by omega
  have ht : (x + y + u % m * (v % m)).tmod m = (x + y + u % m * (v % m)) % m := Int.tmod_eq_emod_of_nonneg (by omega)
  have i0 : (0 : Int) ≤ (l : Int) := by omega
  have i1 : (l : Int) < 4 := by omega
  clear d0 d1 d2 dm dl e2 e3
  refine wp_region_up w3.heap.size (by kernel_rfl) (by kernel_rfl) ?_
  repeat (go_big_quiet_step (fail))
  refine wpQuiet_nil ?_
  intro w4 hup_w4
  have hb4 := up_of hup_w4
  have hb34 := hb3.trans (hb4.mono hb3.size)
  clear w1' w2' w3' w4' w5' w6'
  go_wp2_with fail
  go_ret
  exact ⟨rfl, hb34⟩
theorem placeV1 {rs : List Fac} {s : ByteArray} {m : Int} (h : (gOk rs).isSome = false) : placeV rs s m = tup2 0 1 := by unfold placeV; rw [if_pos h]
theorem placeV2 {rs : List Fac} {s : ByteArray} {m : Int} (h : (gOk rs).isSome = true) (h2 : letT s = false) : placeV rs s m = tup2 0 1 := by unfold placeV; rw [if_neg (by rw [h]; decide), if_pos h2]
theorem placeV3 {rs : List Fac} {s : ByteArray} {m : Int} (h : (gOk rs).isSome = true) (h2 : letT s = true) (h3 : inB m 1 1000000000 = false) : placeV rs s m = tup2 0 2 := by unfold placeV; rw [if_neg (by rw [h]; decide), if_neg (by rw [h2]; decide), if_pos h3]
theorem placeV4 {rs : List Fac} {ls : List Int} {s : ByteArray} {m : Int} (hls : gLens rs [] = some ls) (h : (gOk rs).isSome = true) (h2 : letT s = true) (h3 : inB m 1 1000000000 = true) : placeV rs s m = tup2 (topI plF (plG ls (cnts rs) (letN s) m) rs) 0 := by
  unfold placeV; rw [if_neg (by rw [h]; decide), if_neg (by rw [h2]; decide), if_neg (by rw [h3]; decide), hls]; rfl
theorem top_topI (F : Nat → Int) (G : Int → Int → Fac → Int) (rs : List Fac) : (foldAll 0 F G 0 rs).getD ((foldAll 0 F G 0 rs).length - 1) 0 = topI F G rs := foldAll_top _ _ _ _ rs
theorem isMod_any (m : Int) (b : Bool) (w : World) (hb : inB m 1 1000000000 = b) : Calls Try.prog 54 #[.int .i64 m] w (Ret (.bool b) w) := by
  have Hb := Lib.hid hb; clear hb
  go_enter Try.func54, Try.ntmps54
  go_wp2_with fail
  refine (within_any m 1 1000000000 b _ Hb.out).mono ?_
  rintro e w1 ⟨rfl, hb1⟩
  go_wp2_with fail
  go_ret
  exact ⟨rfl, hb1⟩
theorem topI_any (A : Option Addr) (n c : Nat) (xs : List Int) (w : World) (hn : n ≤ 1048577) (h0 : 0 < n) (hr : Rd w w.heap.size A n 1 intE xs) :
    Calls Try.prog 55 #[.slice A n c] w (Ret (.int .i64 (xs.getD (n - 1) 0)) w) := by
  obtain ⟨b, o, rfl, hB, c0⟩ := hr.i64 (k := n - 1) (by omega)
  generalize xs.getD (n - 1) 0 = y at *
  clear hr
  go_enter Try.func55, Try.ntmps55
  go_wp2_with fail
  go_ret
  exact ⟨rfl, Below.refl _ _⟩
set_option maxHeartbeats 2000000 in
set_option maxRecDepth 100000 in
theorem implPlace_any (A : Option Addr) (n c : Nat) (rs : List Fac) (s : ByteArray) (m : Int) (w : World) (hn : n ≤ 1048576) (hr : Rd w w.heap.size A n 3 Fac.cells rs) (hok : ∀ f ∈ rs, f.l.size ≤ maxLen) (hs : s.size ≤ maxLen) (hm : -9223372036854775808 ≤ m ∧ m ≤ 9223372036854775807) :
    Calls Try.prog 19 #[.agg #[.slice A n c], .string s, .int .i64 m] w (Ret (placeV rs s m) w) := by
  have hl := Lib.hid hr.len
  have HR := Lib.hid hr; clear hr
  have HO := Lib.hid hok; clear hok
  obtain ⟨m0, m1⟩ := hm
  go_enter Try.func19, Try.ntmps19
  go_wp2_with fail
  refine namedC fun w0 H0 => ?_
  have hb0 : Below w.heap.size w w0 := by rw [H0.out]; (repeat first | exact Below.refl _ _ | assumption | refine Below.drew ?_ | refine Below.alloc ?_ (by first | exact Nat.le_refl _ | (simp; done) | omega | (simp; omega)) _ | refine Below.setCell ?_ (by first | exact Nat.le_refl _ | (simp; done) | omega | (simp; omega)) _)
  have BG := Lib.hid (show Blk w0 w.heap.size 30 #[.slice A n c] by rw [H0.out]; exact (Blk.new w _ _).alloc _)
  have BM := Lib.hid (show Blk w0 (w.heap.size + 1) 2 #[.int .i64 m] by rw [H0.out]; simpa using Blk.new (w.alloc _) _ _)
  clear H0
  refine (census_any A n c rs w0 hn (HR.out.next hb0) HO.out).mono ?_
  rintro e w1 ⟨hb1, ⟨ls, A2, c2, A3, c3, hg, rfl, own2, own3⟩ | ⟨hg, rfl⟩⟩
  case inr =>
    have e := Lib.hid (placeV1 (s := s) (m := m) (show (gOk rs).isSome = false by rw [hg]; rfl))
    clear hg
    go_wp2_with fail
    go_ret2
    exact ⟨by rw [e.out]; rfl, (hb0.trans (hb1.mono hb0.size)).alloc (by have := hb0.size; have := hb1.size; omega) _⟩
  have HG := Lib.hid (show (gOk rs).isSome = true by rw [hg]; rfl)
  have HL := Lib.hid (gOk_lens hg).1
  have hll := Lib.hid ((gOk_lens hg).2.2.trans hl.out)
  clear hg
  have b1 := hb0.trans (hb1.mono hb0.size)
  have r2 := Lib.hid (Rd.of_own (enc := intE) (fun _ _ => rfl) hll.out own2)
  have r3 := Lib.hid (Rd.of_own (fun y _ => lenQ4 y) rfl own3)
  clear own2 own3
  generalize hN : (foldAll Q4.nil cntF cntG Q4.nil rs).length = N at *
  have HN := Lib.hid hN; clear hN
  go_wp2_with fail
  refine namedC fun w2 H2 => ?_
  have hb2 : Below w1.heap.size w1 w2 := by rw [H2.out]; (repeat first | exact Below.refl _ _ | assumption | refine Below.drew ?_ | refine Below.alloc ?_ (by first | exact Nat.le_refl _ | (simp; done) | omega | (simp; omega)) _ | refine Below.setCell ?_ (by first | exact Nat.le_refl _ | (simp; done) | omega | (simp; omega)) _)
  have BC := Lib.hid (show Blk w2 w1.heap.size 78 #[.slice A n c, .slice A2 n c2, .slice A3 N c3] by rw [H2.out]; exact Blk.new _ _ _)
  clear H2
  have b2 := b1.trans (hb2.mono b1.size)
  rcases h2 : letT s with _ | _
  · have e := Lib.hid (placeV2 (m := m) HG.out h2)
    have H2 := Lib.hid h2; clear h2
    refine (isLetterText_any s false _ hs H2.out).mono ?_
    rintro e1 w3 ⟨rfl, hb3⟩
    go_wp2_with fail
    go_ret2
    exact ⟨by rw [e.out]; rfl, b2.trans (hb3.mono b2.size)⟩
  have H2 := Lib.hid h2
  obtain ⟨cc, hcc, rfl⟩ := letT_one h2
  obtain ⟨k0, k1⟩ := letB_num hcc
  clear h2 hcc
  refine (isLetterText_any ⟨#[cc]⟩ true _ hs H2.out).mono ?_
  rintro e1 w3 ⟨rfl, hb3⟩
  have b3 := b2.trans (hb3.mono b2.size)
  have BM3 := Lib.hid (((BM.out.next hb1).next hb2).next hb3)
  have cm3 := BM3.out.cell 0
  have lm3 := BM3.out.lt
  rcases h3 : inB m 1 1000000000 with _ | _
  · have e := Lib.hid (placeV3 HG.out H2.out h3)
    have H3 := Lib.hid h3; clear h3
    go_wp2_with fail
    refine (isMod_any m false _ H3.out).mono ?_
    rintro e1 w4 ⟨rfl, hb4⟩
    go_wp2_with fail
    go_ret2
    exact ⟨by rw [e.out]; rfl, b3.trans (hb4.mono b3.size)⟩
  have e := Lib.hid (placeV4 HL.out HG.out H2.out h3)
  have hm : 1 ≤ m ∧ m ≤ 1000000000 := by simpa [inB] using h3
  obtain ⟨n1, n2⟩ := hm
  have H3 := Lib.hid h3; clear h3
  go_wp2_with fail
  refine (isMod_any m true _ H3.out).mono ?_
  rintro e1 w4 ⟨rfl, hb4⟩
  have b4 := b3.trans (hb4.mono b3.size)
  have hb14 := hb2.trans ((hb3.trans (hb4.mono hb3.size)).mono hb2.size)
  have cg4 := ((BG.out.next hb1).next hb14).cell 0
  have lg4 := ((BG.out.next hb1).next hb14).lt
  clear cm3 lm3
  have z1 : (0 : Nat) < (⟨#[cc]⟩ : ByteArray).size := show 0 < 1 by omega
  have v1 : IntKind.u8.wrap ((((⟨#[cc]⟩ : ByteArray)[0]'z1).toNat : Int) - 97) = (cc.toNat : Int) - 97 := by show ((cc.toNat : Int) - 97) % 256 = _; omega
  go_wp2_with fail
  refine namedC fun w5 H5 => ?_
  have hb5 : Below w4.heap.size w4 w5 := by rw [H5.out]; (repeat first | exact Below.refl _ _ | assumption | refine Below.drew ?_ | refine Below.alloc ?_ (by first | exact Nat.le_refl _ | (simp; done) | omega | (simp; omega)) _ | refine Below.setCell ?_ (by first | exact Nat.le_refl _ | (simp; done) | omega | (simp; omega)) _)
  have BL := Lib.hid (show Blk w5 w4.heap.size 5 #[.int .u8 ((cc.toNat - 97 : Nat) : Int)] by rw [H5.out, show ((cc.toNat - 97 : Nat) : Int) = (cc.toNat : Int) - 97 by omega]; exact Blk.new _ _ _)
  clear H5 v1 z1
  have b5 := b4.trans (hb5.mono b4.size)
  have BC5 := Lib.hid (((BC.out.next hb3).next hb4).next hb5)
  have BM5 := Lib.hid ((BM3.out.next hb4).next hb5)
  have hb15 := hb14.trans (hb5.mono hb14.size)
  have r25 := Lib.hid (r2.out.next hb15)
  have r35 := Lib.hid (r3.out.next hb15)
  have eN := Lib.hid (show letN ⟨#[cc]⟩ = cc.toNat - 97 from rfl)
  have HT := Lib.hid (top_topI plF (plG ls (cnts rs) (letN ⟨#[cc]⟩) m) rs)
  have HM := Lib.hid (foldAll_len 0 plF (plG ls (cnts rs) (letN ⟨#[cc]⟩) m) 0 rs)
  have hl4 : cc.toNat - 97 < 4 := by omega
  refine (foldI_any 57 58 (enterOk Try.func57 (by kernel_rfl) (by kernel_rfl)) (enterOk Try.func58 (by kernel_rfl) (by kernel_rfl)) #[] #[.pointer (some ⟨w1.heap.size, 0, none⟩), .pointer (some ⟨w.heap.size + 1, 0, none⟩), .pointer (some ⟨w4.heap.size, 0, none⟩)]
    plF (plG ls (cnts rs) (letN ⟨#[cc]⟩) m) 0 A n c rs w5 hn (HR.out.next b5) (wf_of HL.out) ?_ ?_).mono ?_
  · intro k r hr h0 w' hb'
    exact pl1_any _ w'
  · intro k r hr h0 w' hb'
    have hk : k < rs.length := (List.getElem?_eq_some_iff.1 hr).1
    have hfa := foldAll_pos Q4.nil cntF cntG Q4.nil (rs := rs) (by omega)
    have hNn : N = n := by rw [← HN.out, hfa, full_len]; exact hl.out
    subst hNn
    have hln := hl.out
    rcases wf_of HL.out k r hr with ⟨_, ha0, ha1, hb0', hb1'⟩ | ⟨cc, _, hxl, _⟩
    · rw [outs_full 0 plF _ (k := k) (i := r.a.toNat) (by omega) (by omega), outs_full 0 plF _ (k := k) (i := r.b.toNat) (by omega) (by omega)]
      have r36 := r35.out.next hb'
      rw [hfa] at r36
      have q1 := pl_bound HL.out (l := letN ⟨#[cc]⟩) n1 n2 (k := r.a.toNat) (by omega)
      have q2 := pl_bound HL.out (l := letN ⟨#[cc]⟩) n1 n2 (k := r.b.toNat) (by omega)
      have q3 := pl_prod HL.out n1 n2 (i := r.a.toNat) (j := r.b.toNat) (by omega) (by omega) (letN ⟨#[cc]⟩)
      have q4 := lens_bound HL.out (i := r.a.toNat) (by omega)
      have q5 := cnt_at HL.out (k := r.b.toNat) (by omega) (letN ⟨#[cc]⟩)
      have h := pl2_any _ _ r w1.heap.size (w.heap.size + 1) w4.heap.size A2 A3 A c N c2 c3 N (letN ⟨#[cc]⟩) m ls (cnts rs) w' (BC5.out.next hb').lt (BM5.out.next hb').lt (BL.out.next hb').lt ((BC5.out.next hb').cell 0) ((BC5.out.next hb').cell 1) ((BC5.out.next hb').cell 2) ((BM5.out.next hb').cell 0) ((BL.out.next hb').cell 0)
        hl4 n1 n2 (r25.out.next hb') r36 ha0 (by omega) hb0' (by omega) q1 q2 q3 ⟨by omega, by omega⟩ q5
      simpa using h
    · rw [hxl] at h0; exact absurd h0 (show ¬ (1 : Nat) = 0 by omega)
  rintro e6 w6 ⟨A6, c6, rfl, own6, hb6⟩
  have r6 := Lib.hid (Rd.of_own (enc := intE) (fun _ _ => rfl) rfl own6)
  clear own6
  have b6 := b5.trans (hb6.mono b5.size)
  go_wp2_with fail
  refine (topI_any A6 _ c6 _ w6 (by have := HM.out; have := hl.out; omega) (by have := HM.out; omega) r6.out).mono ?_
  rintro e7 w7 ⟨rfl, hb7⟩
  rw [HT.out]
  go_wp2_with fail
  go_ret2
  exact ⟨by rw [e.out]; rfl, b6.trans (hb7.mono b6.size)⟩
theorem elemI : Elem Try.prog 41 2 1 8 := Elem.mk' (z := .int .i64 0) Try.underlying41 (by kernel_rfl) rfl
set_option maxHeartbeats 4000000 in
set_option maxRecDepth 100000 in
theorem specPlace_any (A : Option Addr) (n c : Nat) (rs : List Fac) (s : ByteArray) (m : Int) (w : World) (hn : n ≤ 1048576) (hr : Rd w w.heap.size A n 3 Fac.cells rs) (hok : ∀ f ∈ rs, f.l.size ≤ maxLen) (hs : s.size ≤ maxLen) (hm : -9223372036854775808 ≤ m ∧ m ≤ 9223372036854775807) :
    Calls Try.prog 18 #[.agg #[.slice A n c], .string s, .int .i64 m] w (Ret (placeV rs s m) w) := by
  have hb0 : Below w.heap.size w (w.alloc (.cells #[.slice A n c] 30)) := by (repeat first | exact Below.refl _ _ | assumption | refine Below.drew ?_ | refine Below.alloc ?_ (by first | exact Nat.le_refl _ | (simp; done) | omega | (simp; omega)) _ | refine Below.setCell ?_ (by first | exact Nat.le_refl _ | (simp; done) | omega | (simp; omega)) _)
  have hB0 := Lib.hid (Blk.new w 30 #[.slice A n c])
  have hl := Lib.hid hr.len
  have HR := Lib.hid hr; clear hr
  have HO := Lib.hid hok; clear hok
  obtain ⟨m0, m1⟩ := hm
  rcases hg : (gOk rs).isSome with _ | _
  · have e := Lib.hid (placeV1 (s := s) (m := m) hg)
    have Hg := Lib.hid hg; clear hg
    go_enter Try.func18, Try.ntmps18
    go_wp2_with fail
    refine (l02Ok_any w.heap.size A n c rs _ hB0.out.lt (hB0.out.cell 0) (by omega) (HR.out.next hb0) HO.out false Hg.out).mono ?_
    rintro e1 w1 ⟨rfl, hb1⟩
    go_wp2_with fail
    go_ret2
    exact ⟨by rw [e.out]; rfl, hb0.trans (hb1.mono hb0.size)⟩
  have HG := Lib.hid hg
  obtain ⟨ls, hls⟩ := Option.isSome_iff_exists.1 hg
  have Hk := Lib.hid hls
  have HL := Lib.hid (gOk_lens hls).1
  have hll := Lib.hid ((gOk_lens hls).2.2.trans hl.out)
  have hn4 : n ≤ 400 := by have := (gOk_lens hls).2.1; have := hl.out; omega
  clear hg hls
  rcases h2 : letT s with _ | _
  · have e := Lib.hid (placeV2 (m := m) HG.out h2)
    have H2 := Lib.hid h2; clear h2
    go_enter Try.func18, Try.ntmps18
    go_wp2_with fail
    refine (l02Ok_any w.heap.size A n c rs _ hB0.out.lt (hB0.out.cell 0) (by omega) (HR.out.next hb0) HO.out true HG.out).mono ?_
    rintro e1 w1 ⟨rfl, hb1⟩
    go_wp2_with fail
    refine (specLetter_any s false _ hs H2.out).mono ?_
    rintro e1 w2 ⟨rfl, hb2⟩
    go_wp2_with fail
    go_ret2
    exact ⟨by rw [e.out]; rfl, hb0.trans ((hb1.trans (hb2.mono hb1.size)).mono hb0.size)⟩
  have H2 := Lib.hid h2
  obtain ⟨cc, hcc, rfl⟩ := letT_one h2
  have Hcc := Lib.hid hcc
  obtain ⟨k0, k1⟩ := letB_num hcc
  clear h2 hcc
  rcases h3 : inB m 1 1000000000 with _ | _
  · have e := Lib.hid (placeV3 HG.out H2.out h3)
    have H3 := Lib.hid h3; clear h3
    go_enter Try.func18, Try.ntmps18
    go_wp2_with fail
    refine (l02Ok_any w.heap.size A n c rs _ hB0.out.lt (hB0.out.cell 0) (by omega) (HR.out.next hb0) HO.out true HG.out).mono ?_
    rintro e1 w1 ⟨rfl, hb1⟩
    go_wp2_with fail
    refine (specLetter_any ⟨#[cc]⟩ true _ hs H2.out).mono ?_
    rintro e1 w2 ⟨rfl, hb2⟩
    go_wp2_with fail
    refine (specIn_any m 1 1000000000 false _ H3.out).mono ?_
    rintro e1 w3 ⟨rfl, hb3⟩
    go_wp2_with fail
    go_ret2
    exact ⟨by rw [e.out]; rfl, hb0.trans ((hb1.trans ((hb2.trans (hb3.mono hb2.size)).mono hb1.size)).mono hb0.size)⟩
  have e := Lib.hid (placeV4 HL.out HG.out H2.out h3)
  have hm : 1 ≤ m ∧ m ≤ 1000000000 := by simpa [inB] using h3
  obtain ⟨n1, n2⟩ := hm
  have H3 := Lib.hid h3; clear h3
  have hl4 : cc.toNat - 97 < 4 := by omega
  have eN := Lib.hid (show letN ⟨#[cc]⟩ = cc.toNat - 97 from rfl)
  go_enter Try.func18, Try.ntmps18
  go_wp2_with fail
  refine (l02Ok_any w.heap.size A n c rs _ hB0.out.lt (hB0.out.cell 0) (by omega) (HR.out.next hb0) HO.out true HG.out).mono ?_
  rintro e1 w1 ⟨rfl, hb1⟩
  go_wp2_with fail
  refine (specLetter_any ⟨#[cc]⟩ true _ hs H2.out).mono ?_
  rintro e1 w2 ⟨rfl, hb2⟩
  go_wp2_with fail
  refine (specIn_any m 1 1000000000 true _ H3.out).mono ?_
  rintro e1 w3 ⟨rfl, hb3⟩
  have b3 := hb0.trans ((hb1.trans ((hb2.trans (hb3.mono hb2.size)).mono hb1.size)).mono hb0.size)
  have B3 := Lib.hid (((hB0.out.next hb1).next hb2).next hb3)
  have cg3 := B3.out.cell 0
  have lg3 := B3.out.lt
  go_wp2_with fail
  refine (l02Lengths_any w.heap.size A n c rs w3 lg3 cg3 (by omega) (HR.out.next b3) HO.out).mono ?_
  rintro e1 w4 ⟨hb4, ⟨ls', A2, c2, hg2, rfl, hown2⟩ | ⟨hg2, _⟩⟩
  case inr => exact absurd (hg2.symm.trans Hk.out) (by simp)
  obtain rfl : ls' = ls := Option.some.inj (hg2.symm.trans Hk.out)
  have r4 := Lib.hid (Rd.of_own (enc := intE) (fun _ _ => rfl) rfl hown2)
  have b4 := b3.trans (hb4.mono b3.size)
  have B4 := Lib.hid (B3.out.next hb4)
  rw [hll.out] at r4 ⊢
  clear cg3 lg3 hown2 hg2
  have cg4 := B4.out.cell 0
  have lg4 := B4.out.lt
  go_wp2_with fail
  refine (l05Counts_any w.heap.size A n c rs ls' w4 lg4 cg4 hn (HR.out.next b4) HL.out).mono ?_
  rintro e1 w5 ⟨A5, c5, gs, rfl, own5, rows5, hb5⟩
  have hcl := Lib.hid ((full_len Q4.nil cntF cntG (rs := rs)).trans hl.out)
  rw [hcl.out] at own5 ⊢
  have T5 := Lib.hid (Tab.of hcl.out own5 rows5)
  have b5 := b4.trans (hb5.mono b4.size)
  have B5 := Lib.hid (B4.out.next hb5)
  have r5 := Lib.hid (r4.out.next hb5)
  clear cg4 lg4 own5 rows5
  go_wp2_with fail
  refine (l04Letter_any cc Hcc.out _).mono ?_
  rintro e w6 ⟨rfl, hb6⟩
  have b6 := b5.trans (hb6.mono b5.size)
  have B6 := Lib.hid (B5.out.next hb6)
  have r6 := Lib.hid (r5.out.next hb6)
  have T6 := Lib.hid (T5.out.next hb6)
  have R6 := Lib.hid (HR.out.next b6)
  have HW := Lib.hid (wf_of HL.out)
  have cg6 := B6.out.cell 0
  have lg6 := B6.out.lt
  rw [show (cc.toNat : Int) - 97 = ((cc.toNat - 97 : Nat) : Int) by omega]
  rw [eN.out] at e
  generalize cc.toNat - 97 = l at *
  clear k0 k1 H2 Hcc eN
  go_wp2_with fail
  go_loopw [12, 13] (fun o_ i_ w' => ∃ (k : Nat) (A' : Option Addr) (c' : Nat), i_ = .int .i64 k ∧ o_ = .slice A' k c' ∧ k ≤ n ∧
      Hid (w'.ownsRow w6.heap.size 2 1 (.slice A' k c') k ((outs 0 plF (plG ls' (cnts rs) l m) rs k).flatMap intE)) ∧ Below w6.heap.size w6 w') (fun _ i_ _ => n - (intOf i_).toNat)
  case atStart =>
    exact ⟨0, _, 0, rfl, rfl, by omega, Lib.hid (by simpa [outs, foldG] using World.ownsRow_made (base := w6.heap.size) (e := 2) (size := 1) w6 #[] 0 (Nat.le_refl _) (by unfold maxLen; omega) rfl), by (repeat first | exact Below.refl _ _ | assumption | refine Below.drew ?_ | refine Below.alloc ?_ (by first | exact Nat.le_refl _ | (simp; done) | omega | (simp; omega)) _ | refine Below.setCell ?_ (by first | exact Nat.le_refl _ | (simp; done) | omega | (simp; omega)) _)⟩
  case round =>
    obtain ⟨k, A', c', rfl, rfl, hk, hown, hb⟩ := hrel
    have cg := (B6.out.next hb).cell 0
    have lg := (B6.out.next hb).lt
    by_cases hlt : k < n
    · obtain ⟨b, o, x, rfl, hB, gx, c0, c1, c2⟩ := (R6.out.next hb).fac hlt
      have Hst := Lib.hid (outs_step 0 plF (plG ls' (cnts rs) l m) gx)
      have Hol := Lib.hid (outs_len 0 plF (plG ls' (cnts rs) l m) rs k (by rw [hl.out]; exact hk))
      rcases HW.out k x gx with ⟨h0, ha0, ha1, hb0', hb1'⟩ | ⟨cc, hcc, hxl, hxa, hxb⟩
      · have e0 := size0 h0
        have hkr : k ≤ rs.length := by rw [hl.out]; exact hk
        have hln := hl.out
        have q1 := pl_bound HL.out (l := l) n1 n2 (k := x.a.toNat) (by omega)
        have q2 := pl_bound HL.out (l := l) n1 n2 (k := x.b.toNat) (by omega)
        rw [← outs_full 0 plF (plG ls' (cnts rs) l m) (k := k) (i := x.a.toNat) (by omega) hkr] at q1
        rw [← outs_full 0 plF (plG ls' (cnts rs) l m) (k := k) (i := x.b.toNat) (by omega) hkr] at q2
        have q3 := pl_prod HL.out n1 n2 (i := x.a.toNat) (j := x.b.toNat) (by omega) (by omega) l
        have q4 := lens_bound HL.out (i := x.a.toNat) (by omega)
        have q5 := cnt_at HL.out (k := x.b.toNat) (by omega) l
        have hfs := Lib.hid (show fStep 0 plF (plG ls' (cnts rs) l m) (outs 0 plF (plG ls' (cnts rs) l m) rs k) x = ((outs 0 plF (plG ls' (cnts rs) l m) rs k).getD x.a.toNat 0 + (outs 0 plF (plG ls' (cnts rs) l m) rs k).getD x.b.toNat 0 + (ls'.getD x.a.toNat 0) % m * ((((cnts rs).getD x.b.toNat Q4.nil).at_ l) % m)) % m by
          unfold fStep; rw [if_pos h0]; rfl)
        obtain ⟨g, rfl, hg0, hg1, e1⟩ := own_int hown.out Hol.out x.a ha0 (by omega)
        obtain ⟨g', hgg, _, _, e2⟩ := own_int hown.out Hol.out x.b hb0' (by omega)
        obtain rfl : g = g' := by injection hgg with hgg; injection hgg
        obtain ⟨p2, o2, rfl, hB2, e3⟩ := (r6.out.next hb).i64 (k := x.a.toNat) (by omega)
        obtain ⟨p3, o3, gq, rfl, hB3, hgq, e4, e5⟩ := (T6.out.next hb).2 x.b.toNat (by omega)
        have e6 := e5 l hl4
        clear e5 hgg gx h0
        generalize (outs 0 plF (plG ls' (cnts rs) l m) rs k).getD x.a.toNat 0 = y1 at *
        generalize (outs 0 plF (plG ls' (cnts rs) l m) rs k).getD x.b.toNat 0 = y2 at *
        generalize ls'.getD x.a.toNat 0 = u at *
        generalize ((cnts rs).getD x.b.toNat Q4.nil).at_ l = v at *
        go_wp2_with fail
        refine named fun w1 H1 => ?_
        have BX : Blk w1 wr.heap.size 57 #[.string x.l, .int .i64 x.a, .int .i64 x.b] := by rw [H1.out]; exact Blk.new _ _ _
        have hb1 : Below wr.heap.size wr w1 := by rw [H1.out]; (repeat first | exact Below.refl _ _ | assumption | refine Below.drew ?_ | refine Below.alloc ?_ (by first | exact Nat.le_refl _ | (simp; done) | omega | (simp; omega)) _ | refine Below.setCell ?_ (by first | exact Nat.le_refl _ | (simp; done) | omega | (simp; omega)) _)
        obtain ⟨d0, d1, d2⟩ := BX.three
        have hz1 := BX.lt
        have f1 := (hb1.cell (p := ⟨g, x.a.toNat, none⟩) hg1).trans e1
        have f2 := (hb1.cell (p := ⟨g, x.b.toNat, none⟩) hg1).trans e2
        have f3 := (hb1.cell (p := ⟨p2, o2 + x.a.toNat, none⟩) hB2).trans e3
        have f4 := (hb1.cell (p := ⟨p3, o3 + x.b.toNat, none⟩) hB3).trans e4
        have f6 := (hb1.cell (p := ⟨gq, l, none⟩) hgq).trans e6
        have s1 : g < w1.heap.size := by omega
        have s2 : p2 < w1.heap.size := by omega
        have s3 : p3 < w1.heap.size := by omega
        have s4 : gq < w1.heap.size := by omega
        have hown1 := Lib.hid (own_next hown.out hb1)
        have cb1 := hb.trans (hb1.mono hb.size)
        clear e1 e2 e3 e4 e6 H1 BX hown
        have hup := upc w1.heap.size w1
        have t1 := emod_b (a := u) (m := m) (by omega)
        have t2 := emod_b (a := v) (m := m) (by omega)
        have t3 := emod_b (a := y1 + y2 + u % m * (v % m)) (m := m) (by omega)
        have w1' : IntKind.i64.wrap (y1 + y2) = y1 + y2 := IntWalk.i64_in _ (by omega)
        have w2' : IntKind.i64.wrap (u % m) = u % m := IntWalk.i64_in _ (by omega)
        have w3' : IntKind.i64.wrap (v % m) = v % m := IntWalk.i64_in _ (by omega)
        have w4' : IntKind.i64.wrap (u % m * (v % m)) = u % m * (v % m) := IntWalk.i64_in _ (by clear w1' w2' w3'; omega)
        have w5' : IntKind.i64.wrap (y1 + y2 + u % m * (v % m)) = y1 + y2 + u % m * (v % m) := IntWalk.i64_in _ (by clear w1' w2' w3' w4'; omega)
        have w6' : IntKind.i64.wrap ((y1 + y2 + u % m * (v % m)) % m) = (y1 + y2 + u % m * (v % m)) % m := IntWalk.i64_in _ (by clear w1' w2' w3' w4' w5'; omega)
        have hm0 : ¬ m = 0 := by omega
        have ht : (y1 + y2 + u % m * (v % m)).tmod m = (y1 + y2 + u % m * (v % m)) % m := Int.tmod_eq_emod_of_nonneg (by omega)
        have hq6 : 0 ≤ u := by omega
        have hq7 : 0 ≤ v := by omega
        have i0 : (0 : Int) ≤ (l : Int) := by omega
        have i1 : (l : Int) < 4 := by omega
        have i2 : x.a < (n : Int) := by omega
        have i3 : x.b < (n : Int) := by omega
        refine wp_region_up w1.heap.size (by kernel_rfl) (by kernel_rfl) ?_
        repeat (go_big_quiet_step (fail))
        refine wpQuiet_nil ?_
        intro w2 hup_w2
        have hb2 := up_of hup_w2
        have hown2 := Lib.hid (own_next hown1.out hb2)
        have cb2 := cb1.trans (hb2.mono cb1.size)
        clear w1' w2' w3' w4' w5' w6' ht
        rw [hfs.out] at Hst
        generalize (y1 + y2 + u % m * (v % m)) % m = res at *
        clear t1 t2 t3 f1 f2 f3 f4 f6 hup_w2 hup q1 q2 q3 q4 q5 d0 d1 d2
        go_wp2_with
          (at_builtin
           refine wpList_push (w0 := w6) rfl _ _ _ rfl w6.heap.size 2 1 8 elemI intE _ k c' (outs 0 plF (plG ls' (cnts rs) l m) rs k) rfl (hown2.out.alloc _) w2.heap.size res #[.int .i64 res] 2 (0, 0) rfl (heap_alloc_new _ _) rfl rfl (by simp [intE, Value.oneCell']) (by omega) (by omega) (by unfold maxLen; omega) rfl (cb2.alloc cb2.size _) ?_
           intro A9 c9 w9 own9 hg9 hat9 hb9
           have O9 := Lib.hid own9; clear own9)
        go_roundw
        case rel =>
          refine ⟨k + 1, A9, c9, by go_num, rfl, by omega, Lib.hid ?_, hb9⟩
          rw [Hst.out]; exact O9.out
        case measure => simp [intOf]; omega
      · have h0 : x.l.size ≠ 0 := by rw [hxl]; show (1 : Nat) ≠ 0; omega
        have e1 := size1 h0
        have e2 := size1' h0
        have hfs := Lib.hid (show fStep 0 plF (plG ls' (cnts rs) l m) (outs 0 plF (plG ls' (cnts rs) l m) rs k) x = 0 by unfold fStep; rw [if_neg h0]; rfl)
        rw [hfs.out] at Hst
        clear gx hxl hxa hxb h0
        go_wp2_with
          (at_builtin
           refine wpList_push (w0 := w6) rfl _ _ _ rfl w6.heap.size 2 1 8 elemI intE _ k c' (outs 0 plF (plG ls' (cnts rs) l m) rs k) rfl ((hown.out.alloc _).alloc _) (wr.heap.size + 1) 0 #[.int .i64 0] 2 (0, 0) rfl (by simpa using heap_alloc_new (wr.alloc _) _) rfl rfl (by simp [intE, Value.oneCell']) (by omega) (by omega) (by unfold maxLen; omega) rfl ((hb.alloc hb.size _).alloc (by have := hb.size; simp; omega) _) ?_
           intro A9 c9 w9 own9 hg9 hat9 hb9
           have O9 := Lib.hid own9; clear own9)
        go_roundw
        case rel =>
          refine ⟨k + 1, A9, c9, by go_num, rfl, by omega, Lib.hid ?_, hb9⟩
          rw [Hst.out]; exact O9.out
        case measure => simp [intOf]; omega
    · obtain rfl : k = n := by omega
      have e1 := Lib.hid (show outs 0 plF (plG ls' (cnts rs) l m) rs k = full 0 plF (plG ls' (cnts rs) l m) rs from outs_all _ _ _ rs k (by rw [hl.out]; omega))
      have e2 := Lib.hid (outs_len 0 plF (plG ls' (cnts rs) l m) rs k (by rw [hl.out]; omega))
      have hln := hl.out
      by_cases h0 : k = 0
      · have e3 := Lib.hid (show topI plF (plG ls' (cnts rs) l m) rs = 0 by unfold topI; rw [if_pos (by omega)])
        have hk0 : ((k : Int) == 0) = true := by simp [h0]
        clear hlt hk
        go_wp2_with fail
        go_ret2
        exact ⟨by rw [e.out, e3.out]; rfl, b6.trans (hb.mono b6.size)⟩
      · have e3 := Lib.hid (show topI plF (plG ls' (cnts rs) l m) rs = (outs 0 plF (plG ls' (cnts rs) l m) rs k).getD (k - 1) 0 by unfold topI; rw [if_neg (by omega), e1.out, hln])
        have hk0 : ((k : Int) == 0) = false := by simp [h0]
        obtain ⟨g, rfl, hg0, hg1, v1⟩ := own_int hown.out e2.out ((k : Int) - 1) (by omega) (by omega)
        rw [show ((k : Int) - 1).toNat = k - 1 by omega] at v1
        have hj : ((k : Int) - 1).toNat = k - 1 := by omega
        have u0 : IntKind.i64.wrap ((k : Int) - 1) = (k : Int) - 1 := IntWalk.i64_in _ (by omega)
        have j0 : (0 : Int) ≤ (k : Int) - 1 := by omega
        rw [← e3.out] at v1
        generalize topI plF (plG ls' (cnts rs) l m) rs = y at *
        clear hlt hk
        go_wp2_with fail
        go_ret2
        exact ⟨by rw [e.out]; rfl, b6.trans (hb.mono b6.size)⟩
end Go.Proofs.Ytpkhkippdigcjaa
