/-
  InversionCount in the program and in the reference.
-/
import Derived.Test.YtpkhkippdigcjaaPlace
namespace Go.Proofs.Ytpkhkippdigcjaa
open Go.RowKit

def invP (p q : Q4) (m : Int) (k l : Nat) : Int := p.at_ k % m * (q.at_ l % m)
def invT (p q : Q4) (m : Int) (k : Nat) : Nat → Int
  | 0 => 0
  | l + 1 => invT p q m k l + (if l < k then invP p q m k l % m else 0)
def invS (p q : Q4) (m : Int) : Nat → Int
  | 0 => 0
  | k + 1 => invS p q m k + invT p q m k 4
def invG (cs : List Q4) (m : Int) (x y : Int) (r : Fac) : Int := (x + y + invS (cs.getD r.a.toNat Q4.nil) (cs.getD r.b.toNat Q4.nil) m 4) % m
theorem invT_b (p q : Q4) {m : Int} (h1 : 1 ≤ m) (h2 : m ≤ 1000000000) (k : Nat) : ∀ l : Nat, 0 ≤ invT p q m k l ∧ invT p q m k l ≤ 1000000000 * l
  | 0 => by simp [invT]
  | l + 1 => by
    have := invT_b p q h1 h2 k l
    have e := emod_b (a := invP p q m k l) (m := m) (by omega)
    unfold invT
    split <;> omega
theorem invS_b (p q : Q4) {m : Int} (h1 : 1 ≤ m) (h2 : m ≤ 1000000000) : ∀ k : Nat, 0 ≤ invS p q m k ∧ invS p q m k ≤ 4000000000 * k
  | 0 => by simp [invS]
  | k + 1 => by
    have := invS_b p q h1 h2 k
    have := invT_b p q h1 h2 k 4
    unfold invS
    omega
theorem invT_stop (p q : Q4) (m : Int) (k : Nat) : ∀ d : Nat, invT p q m k (k + d) = invT p q m k k
  | 0 => rfl
  | d + 1 => by
    rw [show k + (d + 1) = (k + d) + 1 by omega, invT, if_neg (by omega), invT_stop p q m k d]; omega
theorem invT_four (p q : Q4) (m : Int) {k : Nat} (h : k ≤ 4) : invT p q m k 4 = invT p q m k k := by
  rw [show 4 = k + (4 - k) by omega, invT_stop]
theorem inv_mod (a p m : Int) : (a % m + p) % m = (a + p % m) % m := by
  rw [Int.emod_add_emod, Int.add_emod_emod]
theorem inv_bound {rs : List Fac} {ls : List Int} (hls : gLens rs [] = some ls) {m : Int} (h1 : 1 ≤ m) (h2 : m ≤ 1000000000) {k : Nat} (hk : k < rs.length) :
    0 ≤ (full 0 plF (invG (cnts rs) m) rs).getD k 0 ∧ (full 0 plF (invG (cnts rs) m) rs).getD k 0 ≤ 1000000000 := by
  refine full_ind 0 plF (invG (cnts rs) m) (wf_of hls) (fun _ x => 0 ≤ x ∧ x ≤ 1000000000) (fun k r _ _ => ?_) (fun k r a b hr h0 ha0 ha1 hb0 hb1 ha hb => ?_) k hk
  · show (0 : Int) ≤ 0 ∧ (0 : Int) ≤ 1000000000
    omega
  · have q := emod_b (a := a + b + invS ((cnts rs).getD r.a.toNat Q4.nil) ((cnts rs).getD r.b.toNat Q4.nil) m 4) (m := m) (by omega)
    exact ⟨q.1, by show (a + b + _) % m ≤ _; omega⟩
def invV (rs : List Fac) (m : Int) : Value :=
  if (gOk rs).isSome = false then tup2 0 1 else if inB m 1 1000000000 = false then tup2 0 2 else tup2 (topI plF (invG (cnts rs) m) rs) 0
theorem invV_form (rs : List Fac) (m : Int) : ∃ b k, invV rs m = .tuple #[.int .i64 b, .int .i64 k] := by
  unfold invV
  split
  · exact ⟨_, _, rfl⟩
  split
  · exact ⟨_, _, rfl⟩
  · exact ⟨_, _, rfl⟩
theorem invV1 {rs : List Fac} {m : Int} (h : (gOk rs).isSome = false) : invV rs m = tup2 0 1 := by unfold invV; rw [if_pos h]
theorem invV3 {rs : List Fac} {m : Int} (h : (gOk rs).isSome = true) (h3 : inB m 1 1000000000 = false) : invV rs m = tup2 0 2 := by unfold invV; rw [if_neg (by rw [h]; decide), if_pos h3]
theorem invV4 {rs : List Fac} {m : Int} (h : (gOk rs).isSome = true) (h3 : inB m 1 1000000000 = true) : invV rs m = tup2 (topI plF (invG (cnts rs) m) rs) 0 := by
  unfold invV; rw [if_neg (by rw [h]; decide), if_neg (by rw [h3]; decide)]
theorem ix_i64 (q : Q4) {l : Nat} (h : l < 4) (w : World) : (Instr.index 85 (.agg #[.int .i64 q.a, .int .i64 q.b, .int .i64 q.c, .int .i64 q.d]) (.int .i64 (l : Int))).run Try.prog w = .ok (.int .i64 (q.at_ l)) w := by
  rcases (show l = 0 ∨ l = 1 ∨ l = 2 ∨ l = 3 by omega) with rfl | rfl | rfl | rfl
  all_goals kernel_rfl
theorem Rd.q4c {w : World} {B n : Nat} {A : Option Addr} {xs : List Q4} {k : Nat} (h : Rd w B A n 4 encQ4 xs) (hk : k < n) :
    ∃ b o x, A = some ⟨b, o, none⟩ ∧ b < B ∧ xs.getD k Q4.nil = x ∧ w.cell? ⟨b, o + k * 4, none⟩ = some (.int .i64 x.a) ∧ w.cell? ⟨b, o + k * 4 + 1, none⟩ = some (.int .i64 x.b) ∧
      w.cell? ⟨b, o + k * 4 + 2, none⟩ = some (.int .i64 x.c) ∧ w.cell? ⟨b, o + k * 4 + 3, none⟩ = some (.int .i64 x.d) := by
  obtain ⟨b, o, hA, hb, x, hx, hc⟩ := h.at_ hk
  exact ⟨b, o, x, hA, hb, by rw [List.getD_eq_getElem?_getD, hx]; rfl, hc 0 _ rfl, hc 1 _ rfl, hc 2 _ rfl, hc 3 _ rfl⟩
theorem inv1_any (l : Int) (w : World) : Calls Try.prog 60 #[.int .i64 l] w (Ret (.int .i64 0) w) := by
  go_enter Try.func60, Try.ntmps60
  go_wp2
  go_ret
  exact ⟨rfl, Below.refl _ _⟩
set_option maxHeartbeats 2000000 in
set_option maxRecDepth 100000 in
theorem inv2_any (x y : Int) (r : Fac) (cb mb : Nat) (A2 A3 A : Option Addr) (c n3 c2 c3 n : Nat) (m : Int) (cs : List Q4) (w : World) (hcb : cb < w.heap.size) (hmb : mb < w.heap.size)
    (d0 : w.cell? ⟨cb, 0, none⟩ = some (.slice A n c)) (_d1 : w.cell? ⟨cb, 1, none⟩ = some (.slice A2 n c2)) (d2 : w.cell? ⟨cb, 2, none⟩ = some (.slice A3 n3 c3)) (dm : w.cell? ⟨mb, 0, none⟩ = some (.int .i64 m))
    (h1 : 1 ≤ m) (h2 : m ≤ 1000000000) (hC : Rd w w.heap.size A3 n3 4 encQ4 cs) (hra0 : 0 ≤ r.a) (hra : r.a < n3) (hrb0 : 0 ≤ r.b) (hrb : r.b < n3)
    (hx : 0 ≤ x ∧ x ≤ 1000000000) (hy : 0 ≤ y ∧ y ≤ 1000000000) (hca : ∀ j, 0 ≤ (cs.getD r.a.toNat Q4.nil).at_ j ∧ (cs.getD r.a.toNat Q4.nil).at_ j ≤ 1000000000000000) (hcb' : ∀ j, 0 ≤ (cs.getD r.b.toNat Q4.nil).at_ j ∧ (cs.getD r.b.toNat Q4.nil).at_ j ≤ 1000000000000000) :
    Calls Try.prog 61 #[.int .i64 x, .int .i64 y, r.val, .pointer (some ⟨cb, 0, none⟩), .pointer (some ⟨mb, 0, none⟩)] w (Ret (.int .i64 (invG cs m x y r)) w) := by
  have e := Lib.hid (show invG cs m x y r = (x + y + invS (cs.getD r.a.toNat Q4.nil) (cs.getD r.b.toNat Q4.nil) m 4) % m from rfl)
  obtain ⟨p3, o3, qa, rfl, hB3, ea, a0, a1, a2, a3⟩ := hC.q4c (k := r.a.toNat) (by omega)
  obtain ⟨p4, o4, qb, hA4, hB4, eb, b0, b1, b2, b3⟩ := hC.q4c (k := r.b.toNat) (by omega)
  obtain ⟨rfl, rfl⟩ : p3 = p4 ∧ o3 = o4 := by injection hA4 with hA4; injection hA4 with h1 h2; exact ⟨h1, h2⟩
  rw [e.out]
  rw [ea] at hca ⊢
  rw [eb] at hcb' ⊢
  clear hC e ea eb hA4
  obtain ⟨x0, x1⟩ := hx
  obtain ⟨y0, y1⟩ := hy
  have Hca := Lib.hid hca
  have Hcb := Lib.hid hcb'
  clear hca hcb'
  unfold Fac.val
  go_enter Try.func61, Try.ntmps61
  go_wp2_with fail
  refine named fun w3 H3 => ?_
  have B3 : Blk w3 w.heap.size 57 #[.string r.l, .int .i64 r.a, .int .i64 r.b] := by rw [H3.out]; exact Blk.new _ _ _
  have hb3 : Below w.heap.size w w3 := by rw [H3.out]; (repeat first | exact Below.refl _ _ | assumption | refine Below.drew ?_ | refine Below.alloc ?_ (by first | exact Nat.le_refl _ | (simp; done) | omega | (simp; omega)) _ | refine Below.setCell ?_ (by first | exact Nat.le_refl _ | (simp; done) | omega | (simp; omega)) _)
  have B3' := Lib.hid B3; clear B3 H3
  go_loopw [9, 23] (fun o_ k_ w' => ∃ (k : Nat), k_ = .int .i64 k ∧ o_ = .int .i64 (x + y + invS qa qb m k) ∧ k ≤ 4 ∧ Below w3.heap.size w3 w') (fun _ k_ _ => 4 - (intOf k_).toNat)
  case atStart => exact ⟨0, rfl, by simp [invS], by omega, Below.refl _ _⟩
  case round =>
    obtain ⟨k, rfl, rfl, hk, hb⟩ := hrel
    rename World => wo
    have hbw := hb3.trans (hb.mono hb3.size)
    have s0 := invS_b qa qb h1 h2 k
    obtain ⟨s1, s2⟩ := s0
    by_cases hlt : k < 4
    · have f0 := (hbw.cell (p := ⟨cb, 0, none⟩) hcb).trans d0
      have f1 := (hbw.cell (p := ⟨cb, 2, none⟩) hcb).trans d2
      have f2 := (hbw.cell (p := ⟨p3, o3 + r.b.toNat * 4, none⟩) hB3).trans b0
      have f3 := (hbw.cell (p := ⟨p3, o3 + r.b.toNat * 4 + 1, none⟩) hB3).trans b1
      have f4 := (hbw.cell (p := ⟨p3, o3 + r.b.toNat * 4 + 2, none⟩) hB3).trans b2
      have f5 := (hbw.cell (p := ⟨p3, o3 + r.b.toNat * 4 + 3, none⟩) hB3).trans b3
      have BR := B3'.out.next hb
      obtain ⟨g0, g1, g2⟩ := BR.three
      have ix1 := ix_i64 qa hlt
      clear BR
      go_wp2_with fail
      clear ix1 f0 f1 f2 f3 f4 f5 g0 g1 g2
      go_loopw [9, 33] (fun o_ l_ w' => ∃ (l : Nat), l_ = .int .i64 l ∧ o_ = .int .i64 (x + y + invS qa qb m k + invT qa qb m k l) ∧ l ≤ 4 ∧ Below wo.heap.size wo w') (fun _ l_ _ => 4 - (intOf l_).toNat)
      case atStart => exact ⟨0, rfl, by simp [invT], by omega, Below.refl _ _⟩
      case round =>
        obtain ⟨l, rfl, rfl, hl, hb4⟩ := hrel
        have t0 := invT_b qa qb h1 h2 k l
        obtain ⟨t1, t2⟩ := t0
        by_cases hl4 : l < 4
        · have ix2 := ix_i64 qb hl4
          by_cases hlk : l < k
          · have fm := (hb4.cell (p := ⟨mb, 0, none⟩) (by have := hbw.size; show mb < _; omega)).trans ((hbw.cell (p := ⟨mb, 0, none⟩) hmb).trans dm)
            have lm : mb < wr.heap.size := by have := hbw.size; have := hb4.size; omega
            have eT := Lib.hid (show invT qa qb m k (l + 1) = invT qa qb m k l + (qa.at_ k % m * (qb.at_ l % m)) % m by rw [invT, if_pos hlk]; rfl)
            obtain ⟨u0, u1⟩ := Hca.out k
            obtain ⟨v0, v1⟩ := Hcb.out l
            generalize qa.at_ k = u at *
            generalize qb.at_ l = v at *
            have p1 := emod_b (a := u) (m := m) (by omega)
            have p2 := emod_b (a := v) (m := m) (by omega)
            have p3 := mul_b p1.1 (by omega) p2.1 (by omega)
            have p4 := emod_b (a := u % m * (v % m)) (m := m) (by omega)
            obtain ⟨p30, p31⟩ := p3
            obtain ⟨p40, p41⟩ := p4
            have w2' : IntKind.i64.wrap (u % m) = u % m := IntWalk.i64_in _ (by omega)
            have w3' : IntKind.i64.wrap (v % m) = v % m := IntWalk.i64_in _ (by omega)
            have w4' : IntKind.i64.wrap (u % m * (v % m)) = u % m * (v % m) := IntWalk.i64_in _ (by clear w2' w3'; omega)
            have w5' : IntKind.i64.wrap (u % m * (v % m) % m) = u % m * (v % m) % m := IntWalk.i64_in _ (by clear w2' w3' w4'; omega)
            have w6' : IntKind.i64.wrap (x + y + invS qa qb m k + invT qa qb m k l + u % m * (v % m) % m) = x + y + invS qa qb m k + invT qa qb m k l + u % m * (v % m) % m := IntWalk.i64_in _ (by clear w2' w3' w4' w5'; omega)
            have hm0 : ¬ m = 0 := by omega
            have ht : (u % m * (v % m)).tmod m = (u % m * (v % m)) % m := Int.tmod_eq_emod_of_nonneg p30
            go_wp2_with fail
            have hup := upc wr.heap.size wr
            refine wp_region_up wr.heap.size (by kernel_rfl) (by kernel_rfl) ?_
            repeat (go_big_quiet_step (fail))
            refine wpQuiet_nil ?_
            intro w6 hup_w6
            have hb6 := up_of hup_w6
            clear w2' w3' w4' w5' w6' ht
            go_wp2_with fail
            go_roundw
            case rel => exact ⟨l + 1, by go_num, by rw [eT.out]; go_num, by omega, hb4.trans (hb6.mono hb4.size)⟩
            case measure => simp [intOf]; omega
          · have eT := Lib.hid (show invT qa qb m k (l + 1) = invT qa qb m k l by rw [invT, if_neg hlk]; omega)
            go_wp2_with fail
            go_roundw
            case rel => exact ⟨l + 1, by go_num, by rw [eT.out], by omega, hb4⟩
            case measure => simp [intOf]; omega
        · obtain rfl : l = 4 := by omega
          have eS := Lib.hid (show invS qa qb m (k + 1) = invS qa qb m k + invT qa qb m k 4 from rfl)
          go_wp2_with fail
          go_roundw
          case rel => exact ⟨k + 1, by go_num, by rw [eS.out]; go_num, by omega, hb.trans (hb4.mono hb.size)⟩
          case measure => simp [intOf]; omega
    · obtain rfl : k = 4 := by omega
      have fm := (hbw.cell (p := ⟨mb, 0, none⟩) hmb).trans dm
      have hm0 : ¬ m = 0 := by omega
      generalize invS qa qb m 4 = S at *
      have p4 := emod_b (a := x + y + S) (m := m) (by omega)
      obtain ⟨p40, p41⟩ := p4
      have ht : (x + y + S).tmod m = (x + y + S) % m := Int.tmod_eq_emod_of_nonneg (by omega)
      have w2' : IntKind.i64.wrap ((x + y + S) % m) = (x + y + S) % m := IntWalk.i64_in _ (by omega)
      go_wp2_with fail
      go_ret
      exact ⟨rfl, hbw⟩
set_option maxHeartbeats 2000000 in
set_option maxRecDepth 100000 in
theorem implInv_any (A : Option Addr) (n c : Nat) (rs : List Fac) (m : Int) (w : World) (hn : n ≤ 1048576) (hr : Rd w w.heap.size A n 3 Fac.cells rs) (hok : ∀ f ∈ rs, f.l.size ≤ maxLen) (hm : -9223372036854775808 ≤ m ∧ m ≤ 9223372036854775807) :
    Calls Try.prog 21 #[.agg #[.slice A n c], .int .i64 m] w (Ret (invV rs m) w) := by
  have hl := Lib.hid hr.len
  have HR := Lib.hid hr; clear hr
  have HO := Lib.hid hok; clear hok
  obtain ⟨m0, m1⟩ := hm
  go_enter Try.func21, Try.ntmps21
  go_wp2_with fail
  refine namedC fun w0 H0 => ?_
  have hb0 : Below w.heap.size w w0 := by rw [H0.out]; (repeat first | exact Below.refl _ _ | assumption | refine Below.drew ?_ | refine Below.alloc ?_ (by first | exact Nat.le_refl _ | (simp; done) | omega | (simp; omega)) _ | refine Below.setCell ?_ (by first | exact Nat.le_refl _ | (simp; done) | omega | (simp; omega)) _)
  have BG := Lib.hid (show Blk w0 w.heap.size 30 #[.slice A n c] by rw [H0.out]; exact (Blk.new w _ _).alloc _)
  have BM := Lib.hid (show Blk w0 (w.heap.size + 1) 2 #[.int .i64 m] by rw [H0.out]; simpa using Blk.new (w.alloc _) _ _)
  clear H0
  refine (census_any A n c rs w0 hn (HR.out.next hb0) HO.out).mono ?_
  rintro e w1 ⟨hb1, ⟨ls, A2, c2, A3, c3, hg, rfl, own2, own3⟩ | ⟨hg, rfl⟩⟩
  case inr =>
    have e := Lib.hid (invV1 (m := m) (show (gOk rs).isSome = false by rw [hg]; rfl))
    clear hg
    go_wp2_with fail
    go_ret2
    exact ⟨by rw [e.out]; rfl, (hb0.trans (hb1.mono hb0.size)).alloc (by have := hb0.size; have := hb1.size; omega) _⟩
  have HG := Lib.hid (show (gOk rs).isSome = true by rw [hg]; rfl)
  have HL := Lib.hid (gOk_lens hg).1
  have hll := Lib.hid ((gOk_lens hg).2.2.trans hl.out)
  clear hg
  have b1 := hb0.trans (hb1.mono hb0.size)
  have r3 := Lib.hid (Rd.of_own (fun y _ => lenQ4 y) rfl own3)
  clear own2 own3
  generalize hN : (foldAll Q4.nil cntF cntG Q4.nil rs).length = N at *
  have HN := Lib.hid hN; clear hN
  have BM1 := BM.out.next hb1
  have cm1 := BM1.cell 0
  have lm1 := BM1.lt
  clear BM1
  go_wp2_with fail
  refine namedC fun w2 H2 => ?_
  have hb2 : Below w1.heap.size w1 w2 := by rw [H2.out]; (repeat first | exact Below.refl _ _ | assumption | refine Below.drew ?_ | refine Below.alloc ?_ (by first | exact Nat.le_refl _ | (simp; done) | omega | (simp; omega)) _ | refine Below.setCell ?_ (by first | exact Nat.le_refl _ | (simp; done) | omega | (simp; omega)) _)
  have BC := Lib.hid (show Blk w2 w1.heap.size 78 #[.slice A n c, .slice A2 n c2, .slice A3 N c3] by rw [H2.out]; exact Blk.new _ _ _)
  clear H2 cm1 lm1
  have b2 := b1.trans (hb2.mono b1.size)
  rcases h3 : inB m 1 1000000000 with _ | _
  · have e := Lib.hid (invV3 HG.out h3)
    have H3 := Lib.hid h3; clear h3
    refine (isMod_any m false _ H3.out).mono ?_
    rintro e1 w4 ⟨rfl, hb4⟩
    go_wp2_with fail
    go_ret2
    exact ⟨by rw [e.out]; rfl, b2.trans (hb4.mono b2.size)⟩
  have e := Lib.hid (invV4 HG.out h3)
  have hm : 1 ≤ m ∧ m ≤ 1000000000 := by simpa [inB] using h3
  obtain ⟨n1, n2⟩ := hm
  have H3 := Lib.hid h3; clear h3
  refine (isMod_any m true _ H3.out).mono ?_
  rintro e1 w4 ⟨rfl, hb4⟩
  have b4 := b2.trans (hb4.mono b2.size)
  have hb14 := hb2.trans (hb4.mono hb2.size)
  have cg4 := ((BG.out.next hb1).next hb14).cell 0
  have lg4 := ((BG.out.next hb1).next hb14).lt
  have BC5 := Lib.hid (BC.out.next hb4)
  have BM5 := Lib.hid ((BM.out.next hb1).next hb14)
  have r35 := Lib.hid (r3.out.next hb14)
  have HT := Lib.hid (top_topI plF (invG (cnts rs) m) rs)
  have HM := Lib.hid (foldAll_len 0 plF (invG (cnts rs) m) 0 rs)
  go_wp2_with fail
  refine (foldI_any 60 61 (enterOk Try.func60 (by kernel_rfl) (by kernel_rfl)) (enterOk Try.func61 (by kernel_rfl) (by kernel_rfl)) #[] #[.pointer (some ⟨w1.heap.size, 0, none⟩), .pointer (some ⟨w.heap.size + 1, 0, none⟩)]
    plF (invG (cnts rs) m) 0 A n c rs w4 hn (HR.out.next b4) (wf_of HL.out) ?_ ?_).mono ?_
  · intro k r hr h0 w' hb'
    exact inv1_any _ w'
  · intro k r hr h0 w' hb'
    have hk : k < rs.length := (List.getElem?_eq_some_iff.1 hr).1
    have hfa := foldAll_pos Q4.nil cntF cntG Q4.nil (rs := rs) (by omega)
    have hNn : N = n := by rw [← HN.out, hfa, full_len]; exact hl.out
    subst hNn
    have hln := hl.out
    rcases wf_of HL.out k r hr with ⟨_, ha0, ha1, hb0', hb1'⟩ | ⟨cc, _, hxl, _⟩
    · rw [outs_full 0 plF _ (k := k) (i := r.a.toNat) (by omega) (by omega), outs_full 0 plF _ (k := k) (i := r.b.toNat) (by omega) (by omega)]
      have r36 := r35.out.next hb'
      rw [hfa] at r36
      have q1 := inv_bound HL.out n1 n2 (k := r.a.toNat) (by omega)
      have q2 := inv_bound HL.out n1 n2 (k := r.b.toNat) (by omega)
      have q4 := fun j => cnt_at HL.out (k := r.a.toNat) (by omega) j
      have q5 := fun j => cnt_at HL.out (k := r.b.toNat) (by omega) j
      have h := inv2_any _ _ r w1.heap.size (w.heap.size + 1) A2 A3 A c N c2 c3 N m (cnts rs) w' (BC5.out.next hb').lt (BM5.out.next hb').lt ((BC5.out.next hb').cell 0) ((BC5.out.next hb').cell 1) ((BC5.out.next hb').cell 2) ((BM5.out.next hb').cell 0)
        n1 n2 r36 ha0 (by omega) hb0' (by omega) q1 q2 q4 q5
      simpa using h
    · rw [hxl] at h0; exact absurd h0 (show ¬ (1 : Nat) = 0 by omega)
  rintro e6 w6 ⟨A6, c6, rfl, own6, hb6⟩
  have r6 := Lib.hid (Rd.of_own (enc := intE) (fun _ _ => rfl) rfl own6)
  clear own6
  have b6 := b4.trans (hb6.mono b4.size)
  go_wp2_with fail
  refine (topI_any A6 _ c6 _ w6 (by have := HM.out; have := hl.out; omega) (by have := HM.out; omega) r6.out).mono ?_
  rintro e7 w7 ⟨rfl, hb7⟩
  rw [HT.out]
  go_wp2_with fail
  go_ret2
  exact ⟨by rw [e.out]; rfl, b6.trans (hb7.mono b6.size)⟩
def modC (rs : List Fac) (p : ByteArray) (m : Int) : Int := if (gOk rs).isSome = false then 1 else if okW p = false then 1 else if inB m 1 1000000000 = false then 2 else 0
theorem l05Mod_any (gb : Nat) (A : Option Addr) (n c : Nat) (rs : List Fac) (p : ByteArray) (m : Int) (w : World) (hg : gb < w.heap.size) (hc : w.cell? ⟨gb, 0, none⟩ = some (.slice A n c)) (hn : n ≤ 1048576) (hr : Rd w w.heap.size A n 3 Fac.cells rs)
    (hok : ∀ f ∈ rs, f.l.size ≤ maxLen) (hp : p.size ≤ maxLen) : Calls Try.prog 59 #[.pointer (some ⟨gb, 0, none⟩), .string p, .int .i64 m] w (Ret (.int .i64 (modC rs p m)) w) := by
  have HR := Lib.hid hr; clear hr
  have HO := Lib.hid hok; clear hok
  rcases hgk : (gOk rs).isSome with _ | _
  · have Hg := Lib.hid hgk; clear hgk
    have e := Lib.hid (show modC rs p m = 1 by unfold modC; rw [if_pos Hg.out])
    go_enter Try.func59, Try.ntmps59
    go_wp2_with fail
    refine (l02Ok_any gb A n c rs _ hg hc (by omega) HR.out HO.out false Hg.out).mono ?_
    rintro e1 w1 ⟨rfl, hb1⟩
    go_wp2_with fail
    go_ret
    exact ⟨ret_int e.out.symm, hb1⟩
  have Hg := Lib.hid hgk; clear hgk
  rcases h2 : okW p with _ | _
  · have H2 := Lib.hid h2; clear h2
    have e := Lib.hid (show modC rs p m = 1 by unfold modC; rw [if_neg (by rw [Hg.out]; decide), if_pos H2.out])
    go_enter Try.func59, Try.ntmps59
    go_wp2_with fail
    refine (l02Ok_any gb A n c rs _ hg hc (by omega) HR.out HO.out true Hg.out).mono ?_
    rintro e1 w1 ⟨rfl, hb1⟩
    go_wp2_with fail
    refine (specOk_any p false _ hp H2.out).mono ?_
    rintro e1 w2 ⟨rfl, hb2⟩
    go_wp2_with fail
    go_ret
    exact ⟨ret_int e.out.symm, hb1.trans (hb2.mono hb1.size)⟩
  have H2 := Lib.hid h2; clear h2
  rcases h3 : inB m 1 1000000000 with _ | _
  all_goals
    have H3 := Lib.hid h3; clear h3
    have e := Lib.hid (show modC rs p m = if inB m 1 1000000000 = false then 2 else 0 by unfold modC; rw [if_neg (by rw [Hg.out]; decide), if_neg (by rw [H2.out]; decide)])
    rw [H3.out] at e
    go_enter Try.func59, Try.ntmps59
    go_wp2_with fail
    refine (l02Ok_any gb A n c rs _ hg hc (by omega) HR.out HO.out true Hg.out).mono ?_
    rintro e1 w1 ⟨rfl, hb1⟩
    go_wp2_with fail
    refine (specOk_any p true _ hp H2.out).mono ?_
    rintro e1 w2 ⟨rfl, hb2⟩
    go_wp2_with fail
    refine (specIn_any m 1 1000000000 _ _ H3.out).mono ?_
    rintro e1 w3 ⟨rfl, hb3⟩
    go_wp2_with fail
    go_ret
    exact ⟨ret_int e.out.symm, hb1.trans ((hb2.trans (hb3.mono hb2.size)).mono hb1.size)⟩
end Go.Proofs.Ytpkhkippdigcjaa
