/-
  Level grammars in the reference: a rule, found or made.
-/
import Derived.Test.YtikhjoianbndhaaLvU
import Derived.Test.YtikhjoianbndhaaLvR
namespace Go.Proofs.Ytikhjoianbndhaa
open Go.RowKit

theorem fac_ext' {x y : Fac} (h1 : x.l.toList = y.l.toList) (h2 : x.a = y.a) (h3 : x.b = y.b) : x = y := by
  obtain ⟨xl, xa, xb⟩ := x
  obtain ⟨yl, ya, yb⟩ := y
  simp only at h1 h2 h3
  rw [tl_inj] at h1
  rw [h1, h2, h3]
theorem idx_first : ∀ (rs : List Fac) (r : Fac) (j : Nat), rs[j]? = some r → (∀ q, q < j → rs[q]? ≠ some r) → rs.idxOf r = j
  | [], r, j, h, _ => by simp at h
  | x :: rs, r, 0, h, _ => by
    simp at h; subst h; simp
  | x :: rs, r, j + 1, h, hn => by
    have h0 := hn 0 (by omega)
    simp at h0
    have hx : (x == r) = false := by simpa using h0
    rw [List.idxOf_cons, hx]
    have := idx_first rs r j (by simpa using h) (fun q hq => by have := hn (q + 1) (by omega); simpa using this)
    simp [this]
/-- the reference's maker under way -/
structure LsP (w0 W : World) (X : Nat) (A : Option Addr) (n c : Nat) (B : Option Addr) (d : Nat) (t : LvS × Bool) : Prop where
  g : LvG 74 w0 W X (.bool t.2) A n c B n d t.1.rs t.1.ds
  hr : t.1.rs.length = n
  hd : t.1.ds.length = n
theorem LsP.next {w0 W W' : World} {X : Nat} {A : Option Addr} {n c : Nat} {B : Option Addr} {d : Nat} {t : LvS × Bool} (h : LsP w0 W X A n c B d t) (hb : Below W.heap.size W W') : LsP w0 W' X A n c B d t := ⟨h.g.next hb, h.hr, h.hd⟩
/-- what a call answers -/
def LsQ (w0 W : World) (X : Nat) (v u : Value) (t : (LvS × Bool) × Int) (e : Ending) (W' : World) : Prop :=
  e = .returned (.int .i64 t.2) ∧ ∃ A n c B d, LsP w0 W' X A n c B d t.1 ∧ LvF W W' X X v (.slice A n c) u (.slice B n d)
theorem LsP.rd {w0 W : World} {X : Nat} {A : Option Addr} {n c : Nat} {B : Option Addr} {d : Nat} {t : LvS × Bool} (h : LsP w0 W X A n c B d t) (hn : 0 < n) : ∃ ga gb, A = some ⟨ga, 0, none⟩ ∧ B = some ⟨gb, 0, none⟩ ∧ ga < W.heap.size ∧ gb < W.heap.size ∧
    ∀ k : Nat, k < n → W.cell? ⟨gb, k, none⟩ = some (.int .i64 (lvD t.1 k)) ∧ W.cell? ⟨ga, k * 3, none⟩ = some (.string (lvR t.1 k).l) ∧ W.cell? ⟨ga, k * 3 + 1, none⟩ = some (.int .i64 (lvR t.1 k).a) ∧ W.cell? ⟨ga, k * 3 + 2, none⟩ = some (.int .i64 (lvR t.1 k).b) :=
  h.g.red h.hr h.hd hn
set_option maxHeartbeats 8000000 in
set_option maxRecDepth 100000 in
theorem rfMake_any (w0 : World) (X : Nat) (r : Fac) (t : LvS × Bool) (A : Option Addr) (n c : Nat) (B : Option Addr) (d : Nat) (W : World) (hi : RfI t) (ho : t.2 = false → RuleOk t.1 r) (h : LsP w0 W X A n c B d t) :
    Calls Try.prog 44 #[.pointer (some ⟨X, 0, none⟩), r.val] W (LsQ w0 W X (.slice A n c) (.slice B n d) (rfMake t r)) := by
  have HI := Lib.hid hi
  have HO := Lib.hid ho
  have hn4 : n ≤ 401 := by have := hi.len; have := h.hr; omega
  have P0 := Lib.hid (h.next ((Below.refl _ _).alloc (Nat.le_refl _) (.cells #[.string r.l, .int .i64 r.a, .int .i64 r.b] 44)))
  have F0 := Lib.hid (LvF.of_below (X := X) (M := X) (v := .slice A n c) (u := .slice B n d) ((Below.refl W.heap.size W).alloc (Nat.le_refl _) (.cells #[.string r.l, .int .i64 r.a, .int .i64 r.b] 44)))
  have BX0 := Lib.hid (Blk.new W 44 #[.string r.l, .int .i64 r.a, .int .i64 r.b])
  have neX : W.heap.size ≠ X := by have := h.g.x.lt; omega
  have neA : some W.heap.size ≠ (Value.slice A n c).ownBlock := fun e => by have := (h.g.q.lt _ e.symm).2; omega
  have neB : some W.heap.size ≠ (Value.slice B n d).ownBlock := fun e => by have := (h.g.k.lt _ e.symm).2; omega
  have hwx : W.heap.size ≤ W.heap.size := Nat.le_refl _
  have HW0 := Lib.hid h.g.e.size
  have HR := Lib.hid h.hr
  have HDl := Lib.hid h.hd
  clear hi ho h
  go_enter Try.func44, Try.ntmps44
  go_wp2_with fail
  go_loopw [5] (fun i_ w' => ∃ j : Nat, i_ = .int .i64 j ∧ j ≤ n ∧ Hid (LsP w0 w' X A n c B d t) ∧ Hid (LvF W w' X X (.slice A n c) (.slice A n c) (.slice B n d) (.slice B n d)) ∧ Hid (Blk w' W.heap.size 44 #[.string r.l, .int .i64 r.a, .int .i64 r.b]) ∧ Hid (∀ q, q < j → t.1.rs[q]? ≠ some r)) (fun i_ _ => n - (intOf i_).toNat)
  case atStart => exact ⟨0, rfl, by omega, P0, F0, BX0, Lib.hid (fun q hq => by omega)⟩
  case round =>
    obtain ⟨j, rfl, hj, P1, F1, BX1, HN⟩ := hrel
    clear P0 F0 BX0
    have xc0 := P1.out.g.x.cell 0
    have xl := P1.out.g.x.lt
    by_cases hlt : j < n
    · obtain ⟨ga, gb, rfl, rfl, hga, hgb, hrd⟩ := P1.out.rd (by omega)
      obtain ⟨-, c0, c1, c2⟩ := hrd j hlt
      have HX := Lib.hid (show t.1.rs[j]? = some (lvR t.1 j) from by
        have h := HI.out.i.get (k := (j : Int)) ⟨by omega, by rw [P1.out.hr]; omega⟩
        rwa [Int.toNat_natCast] at h)
      generalize lvR t.1 j = x at *
      obtain ⟨e0, e1, e2⟩ := BX1.out.three
      have j0 : (0 : Int) ≤ (j : Int) := by omega
      have j1 : (j : Int) < (n : Int) := by omega
      clear hrd
      by_cases hxy : x = r
      · subst hxy
        have eR := Lib.hid (show rfMake t x = (t, (j : Int)) by
          unfold rfMake
          rw [if_pos (List.mem_of_getElem? HX.out), idx_first t.1.rs x j HX.out HN.out])
        go_wp2_with fail
        go_region
        all_goals
          go_wp2_with fail
          go_ret
          rw [eR.out]
          exact ⟨rfl, _, n, c, _, d, P1.out.next (Below.refl _ _).drew, F1.out.trans (LvF.of_below (Below.refl _ _).drew)⟩
      · have hcase : x.l.toList ≠ r.l.toList ∨ (x.l.toList = r.l.toList ∧ x.a ≠ r.a) ∨ (x.l.toList = r.l.toList ∧ x.a = r.a ∧ x.b ≠ r.b) := by
          by_cases h1 : x.l.toList = r.l.toList
          · by_cases h2 : x.a = r.a
            · by_cases h3 : x.b = r.b
              · exact absurd (fac_ext' h1 h2 h3) hxy
              · exact .inr (.inr ⟨h1, h2, h3⟩)
            · exact .inr (.inl ⟨h1, h2⟩)
          · exact .inl h1
        have HXY := Lib.hid hxy
        clear hxy
        rcases hcase with h1 | ⟨h1, h2⟩ | ⟨h1, h2, h3⟩
        all_goals
          go_wp2_with fail
          go_region
          all_goals
            go_wp2_with fail
            go_roundw
            case rel =>
              refine ⟨j + 1, by go_num, by omega, Lib.hid (P1.out.next (Below.refl _ _).drew), Lib.hid (F1.out.trans (LvF.of_below (Below.refl _ _).drew)), Lib.hid BX1.out.drew, Lib.hid (fun q hq => ?_)⟩
              rcases Nat.lt_or_ge q j with h | h
              · exact HN.out q h
              · obtain rfl : q = j := by omega
                intro hh
                exact HXY.out (by have := HX.out.symm.trans hh; injection this)
            case measure => first | (simp [intOf]; done) | (simp [intOf]; omega)
    · obtain rfl : j = n := by omega
      have hmem : r ∉ t.1.rs := fun h => by
        obtain ⟨q, hq, e⟩ := List.getElem_of_mem h
        exact HN.out q (by have := P1.out.hr; omega) (by rw [List.getElem?_eq_getElem hq, e])
      have HM := Lib.hid hmem
      clear hmem HN
      by_cases h400 : 400 < j
      · have eR := Lib.hid (show rfMake t r = ((t.1, true), 0) by unfold rfMake; rw [if_neg HM.out, if_pos (by rw [P1.out.hr]; exact h400)])
        have xc2 := P1.out.g.x.cell 2
        have xf := P1.out.g.x.frozen
        have n4c : (400 : Int) < (j : Int) := by omega
        have P2 := Lib.hid (show LsP w0 (wr.setCell ⟨X, 2, none⟩ (.bool true)) X A j c B d (t.1, true) from ⟨(P1.out.g.open.set2 (.bool true)).shut, P1.out.hr, P1.out.hd⟩)
        have F2 := Lib.hid (F1.out.setX 2 (.bool true))
        go_wp2_with fail
        go_ret
        rw [eR.out]
        exact ⟨rfl, A, j, c, B, d, P2.out, F2.out⟩
      · have hf : t.2 = false := by
          cases e : t.2 with
          | false => rfl
          | true => exact absurd (HI.out.full e) (by rw [P1.out.hr]; exact h400)
        have hok := Lib.hid (HO.out hf)
        have eR := Lib.hid (show rfMake t r = ((⟨t.1.rs ++ [r], t.1.ds ++ [lvDep t.1 r]⟩, t.2), (j : Int)) by
          unfold rfMake
          rw [if_neg HM.out, if_neg (by rw [P1.out.hr]; exact h400), P1.out.hr])
        have n4c : ¬ (400 : Int) < (j : Int) := by omega
        have hl0 := Lib.hid (show 0 < j → ∀ k : Nat, k < j → 1 ≤ lvD t.1 k ∧ lvD t.1 k ≤ (k : Int) + 1 from fun _ k hk => HI.out.i.lo k (by rw [P1.out.hr]; exact hk))
        clear HI HO HM hf hwx
        obtain ⟨e0, e1, e2⟩ := BX1.out.three
        have xc1 := P1.out.g.x.cell 1
        go_upto_if 37 with fail
        go_cut [6] (fun d_ wx => d_ = .int .i64 (lvDep t.1 r) ∧ Hid (LsP w0 wx X A j c B d t) ∧ Hid (LvF W wx X X (.slice A j c) (.slice A j c) (.slice B j d) (.slice B j d)) ∧ Hid (Blk wx W.heap.size 44 #[.string r.l, .int .i64 r.a, .int .i64 r.b]))
        case first =>
          rcases hok.out with ⟨h0, ha, hb⟩ | ⟨cc, _, hl, ha, hb⟩
          · obtain ⟨a, hae⟩ : ∃ a : Nat, r.a = a := ⟨r.a.toNat, by have := ha.1; omega⟩
            obtain ⟨b, hbe⟩ : ∃ b : Nat, r.b = b := ⟨r.b.toNat, by have := hb.1; omega⟩
            have han : a < j := by have := ha.2; rw [hae, P1.out.hr] at this; omega
            have hbn : b < j := by have := hb.2; rw [hbe, P1.out.hr] at this; omega
            obtain ⟨ga, gb, rfl, rfl, hga, hgb, hrd⟩ := P1.out.rd (by omega)
            obtain ⟨z1, -, -, -⟩ := hrd a han
            obtain ⟨z2, -, -, -⟩ := hrd b hbn
            have la := hl0.out (by omega) a han
            have lb := hl0.out (by omega) b hbn
            have HD := Lib.hid (show lvDep t.1 r = max (lvD t.1 a) (lvD t.1 b) + 1 by unfold lvDep; rw [if_pos h0, hae, hbe])
            generalize lvD t.1 a = y1 at *
            generalize lvD t.1 b = y2 at *
            have e1' : wr.cell? ⟨W.heap.size, 1, none⟩ = some (.int .i64 (a : Int)) := by rw [← hae]; exact e1
            have e2' : wr.cell? ⟨W.heap.size, 2, none⟩ = some (.int .i64 (b : Int)) := by rw [← hbe]; exact e2
            have e0' := size0 h0
            have wrl := BX1.out.lt
            have hup := upc wr.heap.size wr
            have m1 : max y1 y2 ≤ 1048576 := by omega
            have m0 : 1 ≤ max y1 y2 := by omega
            have a0 : (0 : Int) ≤ (a : Int) := by omega
            have b0 : (0 : Int) ≤ (b : Int) := by omega
            have a1 : (a : Int) < (j : Int) := by omega
            have b1 : (b : Int) < (j : Int) := by omega
            have he : r.l.toList.isEmpty = true := by rw [e0']; rfl
            simp only [he]
            clear hrd e1 e2 hae hbe ha hb h0 la lb han hbn hl0 hok he
            go_wp2_with fail
            refine wp_region_up wr.heap.size (by kernel_rfl) (by kernel_rfl) ?_
            repeat (go_big_quiet_step ((go_at_call 64; exact Calls.up (Nat.le_refl _) (l00Max_any y1 y2 _))))
            refine wpQuiet_nil ?_
            intro w4 hup_w4
            have hb4 := up_of hup_w4
            go_wp2_with fail
            go_meet
            exact ⟨by rw [HD.out]; congr 1; omega, Lib.hid (P1.out.next hb4), Lib.hid (F1.out.trans (LvF.of_below hb4)), Lib.hid (BX1.out.next hb4)⟩
          · have HD := Lib.hid (show lvDep t.1 r = 1 by unfold lvDep; rw [if_neg (by rw [hl]; show ¬ (1 : Nat) = 0; omega)])
            have hl1 : r.l.size ≠ 0 := by rw [hl]; show (1 : Nat) ≠ 0; omega
            have e1' := size1 hl1
            have e2' := size1' hl1
            have he : r.l.toList.isEmpty = false := by rw [List.isEmpty_eq_false_iff]; exact e1'
            simp only [he]
            clear hl ha hb hok hl1 he
            go_wp2_with fail
            go_meet
            exact ⟨by rw [HD.out], P1, F1, BX1⟩
        case rest =>
          obtain ⟨rfl, P2, F2, BX2⟩ := hcut
          generalize lvDep t.1 r = dd at *
          clear P1 F1 BX1 e0 e1 e2 xc0 xc1 xl hl0 hok
          have zk : (j + 1) * 32 ≤ 140737488355328 := by omega
          have zkm : j + 1 ≤ maxLen := by unfold maxLen; omega
          have zk8 : (j + 1) * 8 ≤ 140737488355328 := by omega
          obtain ⟨e0, e1, e2⟩ := BX2.out.three
          have el := BX2.out.lt
          have x0 := P2.out.g.x.cell 0
          have xl := P2.out.g.x.lt
          obtain ⟨f0, f1, f2⟩ := (BX2.out.next (Below.refl wc.heap.size wc).drew).three
          have fl := (BX2.out.next (Below.refl wc.heap.size wc).drew).lt
          have y0 := (P2.out.next (Below.refl wc.heap.size wc).drew).g.x.cell 0
          have yl := (P2.out.next (Below.refl wc.heap.size wc).drew).g.x.lt
          have G5 := Lib.hid ((P2.out.g.open.alloc (.cells #[.string r.l, .int .i64 r.a, .int .i64 r.b] 44)).drew)
          have F5 := Lib.hid (F2.out.trans (LvF.of_below (X := X) (M := X) (v := .slice A j c) (u := .slice B j d) ((Below.refl wc.heap.size wc).alloc (Nat.le_refl _) (.cells #[.string r.l, .int .i64 r.a, .int .i64 r.b] 44)).drew))
          have hb5 := heap_alloc_new wc (.cells #[.string r.l, .int .i64 r.a, .int .i64 r.b] 44)
          have HB5 := Lib.hid (show (((wc.alloc (.cells #[.string r.l, .int .i64 r.a, .int .i64 r.b] 44)).drew).heap[wc.heap.size]? = some (.cells #[.string r.l, .int .i64 r.a, .int .i64 r.b] 44)) from hb5)
          have q0 := G5.out.x.cell 0
          have ql := G5.out.x.lt
          clear hb5
          go_wp2_with fail
          go_region_law
            (refine step_pushL (by rfl) _ _ _ (by rfl) w0.heap.size 44 3 32 elem_rule Fac.cells A j c t.1.rs (by rfl) G5.out.q _ r #[.string r.l, .int .i64 r.a, .int .i64 r.b] 44 (0, 0) (by rfl) HB5.out rfl rfl (one_fac _) (by omega) zk zkm G5.out.e.size ?_
             intro A8 c8 w8 own8 hg8 at8
             have G6 := Lib.hid (G5.out.pushR own8 hg8)
             have F6 := Lib.hid (F5.out.trans (LvF.of_grown (X := X) (M := X) (u := .slice B j d) hg8 at8))
             have z0 := G6.out.x.cell 0
             have zf := G6.out.x.frozen
             have zl := G6.out.x.lt)
          all_goals
            have G7 := Lib.hid (G6.out.set0 (.slice A8 (j + 1) c8))
            have F7 := Lib.hid (F6.out.setX 0 (.slice A8 (j + 1) c8))
            clear z0 zf zl x0 xl y0 yl q0 ql f0 f1 f2 fl e0 e1 e2 el G6 F6 G5 F5 HB5 P2 F2 BX2
            generalize w8.setCell ⟨X, 0, none⟩ (.slice A8 (j + 1) c8) = wy at *
            have p1 := G7.out.x.cell 1
            have pl := G7.out.x.lt
            have G8 := Lib.hid (G7.out.alloc (.cells #[.int .i64 dd] 2))
            have F8 := Lib.hid (F7.out.trans (LvF.of_below (X := X) (M := X) (v := .slice A8 (j + 1) c8) (u := .slice B j d) ((Below.refl wy.heap.size wy).alloc (Nat.le_refl _) (.cells #[.int .i64 dd] 2))))
            go_wp2_with
              (at_builtin
               refine wpList_push (w0 := w0) rfl _ _ _ rfl w0.heap.size 2 1 8 elem_int intE B j d t.1.ds rfl G8.out.k wy.heap.size dd #[.int .i64 dd] 2 (0, 0) rfl (heap_alloc_new _ _) rfl rfl (by simp [intE, Value.oneCell']) (by omega) (by omega) (by unfold maxLen; omega) rfl G8.out.e ?_
               intro B9 c9 w9 own9 hg9 at9 hb9
               have G9 := Lib.hid ((G8.out.pushD own9 hg9).set1 (.slice B9 (j + 1) c9))
               have F9 := Lib.hid ((F8.out.trans (LvF.of_grown' (X := X) (M := X) (v := .slice A8 (j + 1) c8) hg9 at9)).setX 1 (.slice B9 (j + 1) c9))
               have GQ := (G8.out.pushD own9 hg9).x
               have o1 := GQ.cell 1
               have of := GQ.frozen
               have ol := GQ.lt
               have s0 := G9.out.x.cell 0
               have sl := G9.out.x.lt)
            go_ret
            rw [eR.out]
            refine ⟨rfl, A8, j + 1, c8, B9, c9, ⟨G9.out.shut, ?_, ?_⟩, F9.out⟩
            · simp only [List.length_append, List.length_singleton, HR.out]
            · simp only [List.length_append, List.length_singleton, HDl.out]
end Go.Proofs.Ytikhjoianbndhaa
