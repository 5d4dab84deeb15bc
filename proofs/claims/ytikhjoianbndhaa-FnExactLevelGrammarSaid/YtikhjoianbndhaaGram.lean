/-
  Rules and lengths: is a grammar valid, and how long are the words of its rules.
-/
import Derived.Test.YtikhjoianbndhaaLet
import Derived.Test.YtikhjoianbndhaaOwn
namespace Go.Proofs.Ytikhjoianbndhaa
open Go.RowKit

def intE (z : Int) : List Value := [.int .i64 z]
/-- the length of one rule more; none if it is not right -/
def gStep (out : List Int) (r : Fac) : Option Int :=
  if r.l.size = 0 then
    (if 0 ≤ r.a ∧ r.a < out.length ∧ 0 ≤ r.b ∧ r.b < out.length ∧ out.getD r.a.toNat 0 + out.getD r.b.toNat 0 ≤ 1000000000000000 then some (out.getD r.a.toNat 0 + out.getD r.b.toNat 0) else none)
  else if letT r.l = true ∧ r.a = 0 ∧ r.b = 0 then some 1 else none
def gLens : List Fac → List Int → Option (List Int)
  | [], out => some out
  | r :: rs, out => (gStep out r).bind fun n => gLens rs (out ++ [n])
/-- the lengths of the words of all rules, if the grammar is valid -/
def gOk (rs : List Fac) : Option (List Int) := if 400 < rs.length then none else gLens rs []

theorem gLens_len : ∀ (rs : List Fac) (out ls : List Int), gLens rs out = some ls → ls.length = out.length + rs.length
  | [], out, ls, h => by obtain rfl := Option.some.inj h; simp
  | r :: rs, out, ls, h => by
    unfold gLens at h
    obtain ⟨n, _, h2⟩ := Option.bind_eq_some_iff.1 h
    have := gLens_len rs _ _ h2
    simp at this ⊢
    omega
theorem gStep_bound {out : List Int} {r : Fac} {n : Int} (h0 : ∀ x ∈ out, 1 ≤ x ∧ x ≤ 1000000000000000) (h : gStep out r = some n) : 1 ≤ n ∧ n ≤ 1000000000000000 := by
  unfold gStep at h
  split at h
  · split at h
    · rename_i hc
      obtain rfl := Option.some.inj h
      have ha : out.getD r.a.toNat 0 ∈ out := by rw [List.getD_eq_getElem?_getD, List.getElem?_eq_getElem (by omega)]; simp
      have hb : out.getD r.b.toNat 0 ∈ out := by rw [List.getD_eq_getElem?_getD, List.getElem?_eq_getElem (by omega)]; simp
      have := h0 _ ha
      have := h0 _ hb
      omega
    · cases h
  · split at h
    · obtain rfl := Option.some.inj h; omega
    · cases h

theorem elem_int : Elem Try.prog 37 2 1 8 := Elem.mk' (z := .int .i64 0) Try.underlying37 (by kernel_rfl) rfl

def isP (r : Fac) : Bool := decide (r.l.size = 0)
theorem isPair_any (r : Fac) (b : Bool) (w : World) (hb : isP r = b) :
    Calls Try.prog 49 #[r.val] w (Ret (.bool b) w) := by
  unfold isP at hb
  by_cases h : r.l.size = 0
  · have h0 := size0 h
    obtain rfl : b = true := by rw [← hb]; simpa using h
    clear hb h
    go_enter Try.func49, Try.ntmps49
    go_wp2
    go_ret
    exact ⟨rfl, by (repeat first | exact Below.refl _ _ | assumption | refine Below.drew ?_ | refine Below.alloc ?_ (by first | exact Nat.le_refl _ | (simp; done) | omega | (simp; omega)) _ | refine Below.setCell ?_ (by first | exact Nat.le_refl _ | (simp; done) | omega | (simp; omega)) _)⟩
  · have h0 := size1 h
    have h1 := size1' h
    obtain rfl : b = false := by rw [← hb]; simpa using h
    clear hb h
    go_enter Try.func49, Try.ntmps49
    go_wp2
    go_ret
    exact ⟨rfl, by (repeat first | exact Below.refl _ _ | assumption | refine Below.drew ?_ | refine Below.alloc ?_ (by first | exact Nat.le_refl _ | (simp; done) | omega | (simp; omega)) _ | refine Below.setCell ?_ (by first | exact Nat.le_refl _ | (simp; done) | omega | (simp; omega)) _)⟩

theorem gStep_no_a {out : List Int} {x : Fac} (h0 : x.l.size = 0) (ha : inB x.a 0 ((out.length : Int) - 1) = false) : gStep out x = none := by
  unfold gStep; rw [if_pos h0, if_neg (by simp [inB] at ha; omega)]
theorem gStep_no_b {out : List Int} {x : Fac} (h0 : x.l.size = 0) (hb : inB x.b 0 ((out.length : Int) - 1) = false) : gStep out x = none := by
  unfold gStep; rw [if_pos h0, if_neg (by simp [inB] at hb; omega)]
theorem gStep_no_c {out : List Int} {x : Fac} (h0 : x.l.size = 0) (hc : 1000000000000000 < out.getD x.a.toNat 0 + out.getD x.b.toNat 0) : gStep out x = none := by
  unfold gStep; rw [if_pos h0, if_neg (by omega)]
theorem gStep_pair {out : List Int} {x : Fac} (h0 : x.l.size = 0) (ha : inB x.a 0 ((out.length : Int) - 1) = true) (hb : inB x.b 0 ((out.length : Int) - 1) = true) (hc : out.getD x.a.toNat 0 + out.getD x.b.toNat 0 ≤ 1000000000000000) :
    gStep out x = some (out.getD x.a.toNat 0 + out.getD x.b.toNat 0) := by
  simp [inB] at ha hb
  unfold gStep; rw [if_pos h0, if_pos (by omega)]
theorem gStep_no_l {out : List Int} {x : Fac} (h0 : x.l.size ≠ 0) (h : ¬ (letT x.l = true ∧ x.a = 0 ∧ x.b = 0)) : gStep out x = none := by
  unfold gStep; rw [if_neg h0, if_neg h]
theorem gStep_let {out : List Int} {x : Fac} (h0 : x.l.size ≠ 0) (h : letT x.l = true ∧ x.a = 0 ∧ x.b = 0) : gStep out x = some 1 := by
  unfold gStep; rw [if_neg h0, if_pos h]
/-- an element of a list of numbers of the call's own -/
theorem own_int {w : World} {base e n c : Nat} {A : Option Addr} {out : List Int} (h : w.ownsRow base e 1 (.slice A n c) n (out.flatMap intE)) (hl : out.length = n) (i : Int) (h0 : 0 ≤ i) (h1 : i < n) :
    ∃ g, A = some ⟨g, 0, none⟩ ∧ base ≤ g ∧ g < w.heap.size ∧ w.cell? ⟨g, i.toNat, none⟩ = some (.int .i64 (out.getD i.toNat 0)) := by
  obtain ⟨g, cap, hv, hg, hs⟩ := h.form (by omega)
  injection hv with hA _ _
  subst hA
  refine ⟨g, rfl, hg, hs, ?_⟩
  rw [h.cellAt i.toNat (by omega)]
  have hx : out[i.toNat]? = some (out[i.toNat]'(by omega)) := List.getElem?_eq_getElem _
  have := flat_at (enc := intE) (sz := 1) out (fun _ _ => rfl) i.toNat _ hx 0 (by omega)
  rw [Nat.mul_one, Nat.add_zero] at this
  rw [this, List.getD_eq_getElem?_getD, hx]; rfl
theorem ret_sliceB {A : Option Addr} {n m c : Nat} {k : Bool} (h : n = m) : Ending.returned (.tuple #[.slice A n c, .bool k]) = .returned (.tuple #[.slice A m c, .bool k]) := by rw [h]
/-- what 'lengths' leaves -/
def LenPost (rs : List Fac) (w : World) (e : Ending) (w' : World) : Prop :=
  Below w.heap.size w w' ∧ ((∃ ls A c, gOk rs = some ls ∧ e = .returned (.tuple #[.slice A ls.length c, .bool true]) ∧ w'.ownsRow w.heap.size 2 1 (.slice A ls.length c) ls.length (ls.flatMap intE)) ∨
    (gOk rs = none ∧ ∃ A n c, e = .returned (.tuple #[.slice A n c, .bool false])))
theorem LenPost.no {rs : List Fac} {w w' : World} {A : Option Addr} {n c : Nat} (h : gOk rs = none) (hb : Below w.heap.size w w') : LenPost rs w (.returned (.tuple #[.slice A n c, .bool false])) w' :=
  ⟨hb, .inr ⟨h, A, n, c, rfl⟩⟩
theorem gOk_none {rs : List Fac} (h : gLens rs [] = none) : gOk rs = none := by unfold gOk; split <;> first | rfl | exact h

set_option maxHeartbeats 4000000 in
set_option maxRecDepth 100000 in
theorem lengths_any (A : Option Addr) (n c : Nat) (rs : List Fac) (w : World) (hn : n ≤ 100000000) (hr : Rd w w.heap.size A n 3 Fac.cells rs) (hok : ∀ f ∈ rs, f.l.size ≤ maxLen) :
    Calls Try.prog 69 #[.agg #[.slice A n c]] w (LenPost rs w) := by
  have hl := Lib.hid hr.len
  go_enter Try.func69, Try.ntmps69
  go_wp2
  go_loopw [4, 12] (fun o_ i_ w' => ∃ (k : Nat) (out : List Int) (A' : Option Addr) (c' : Nat), i_ = .int .i64 k ∧ o_ = .slice A' k c' ∧ k ≤ n ∧ Hid (out.length = k) ∧
      Hid (w'.ownsRow w.heap.size 2 1 (.slice A' k c') k (out.flatMap intE)) ∧ Hid (∀ x ∈ out, 1 ≤ x ∧ x ≤ 1000000000000000) ∧ Hid (Blk w' w.heap.size 24 #[.slice A n c]) ∧
      Below w.heap.size w w' ∧ Hid (gLens (rs.drop k) out = gLens rs [])) (fun _ i_ _ => n - (intOf i_).toNat)
  case atStart =>
    exact ⟨0, [], _, 0, rfl, rfl, by omega, Lib.hid rfl, Lib.hid (by simpa using World.ownsRow_made (base := w.heap.size) (e := 2) (size := 1) (w.alloc (.cells #[.slice A n c] 24)) #[] 0 (by simp) (by unfold maxLen; omega) rfl), Lib.hid (by simp), Lib.hid ((Blk.new _ _ _).alloc _), by (repeat first | exact Below.refl _ _ | assumption | refine Below.drew ?_ | refine Below.alloc ?_ (by first | exact Nat.le_refl _ | (simp; done) | omega | (simp; omega)) _ | refine Below.setCell ?_ (by first | exact Nat.le_refl _ | (simp; done) | omega | (simp; omega)) _), Lib.hid rfl⟩
  case round =>
    obtain ⟨k, out, A', c', rfl, rfl, hk, ho, hown, hbd, hblk, hb, H⟩ := hrel
    by_cases hlt : k < n
    · obtain ⟨b, o, x, rfl, hB, gx, c0, c1, c2⟩ := (hr.next hb).fac hlt
      have hxm : x.l.size ≤ maxLen := hok x (List.mem_of_getElem? gx)
      have H' := Lib.hid (show ((gStep out x).bind fun m => gLens (rs.drop (k + 1)) (out ++ [m])) = gLens rs [] by rw [← H.out, drop_cons gx]; rfl)
      clear gx H
      by_cases h0 : x.l.size = 0
      · go_wp2_with fail
        refine (isPair_any x true _ (by simpa [isP] using h0)).mono ?_
        rintro e w1 ⟨rfl, hb1⟩
        obtain ⟨d0, d1, d2⟩ := ((Blk.new wr _ _).next hb1).three
        have b1 := (hb.alloc hb.size _).trans (hb1.mono (by have := hb.size; simp; omega))
        rcases ha : inB x.a 0 ((k : Int) - 1) with _ | _
        · have Ha := Lib.hid ha; clear ha
          go_wp2_with (go_at_call 74; refine (within_any _ _ _ false _ Ha.out).mono ?_; rintro e w2 ⟨rfl, hb2⟩)
          go_ret2
          exact LenPost.no (gOk_none (by rw [← H'.out, gStep_no_a h0 (by rw [ho.out]; exact Ha.out)]; rfl)) (b1.trans (hb2.mono b1.size))
        · have ha' : 0 ≤ x.a ∧ x.a ≤ (k : Int) - 1 := by simpa [inB] using ha
          have ha0 := ha'.1; have ha1 := ha'.2; clear ha'
          have Ha := Lib.hid ha; clear ha
          rcases hbb : inB x.b 0 ((k : Int) - 1) with _ | _
          · have Hb := Lib.hid hbb; clear hbb
            go_wp2_with fail
            refine (within_any _ _ _ true _ Ha.out).mono ?_
            rintro e w2 ⟨rfl, hb2⟩
            obtain ⟨f0, f1, f2⟩ := (((Blk.new wr _ _).next hb1).next hb2).three
            clear d0 d1 d2
            have b2 := b1.trans (hb2.mono b1.size)
            go_wp2_with fail
            refine (within_any _ _ _ false _ Hb.out).mono ?_
            rintro e w3 ⟨rfl, hb3⟩
            go_wp2_with fail
            go_ret2
            exact LenPost.no (gOk_none (by rw [← H'.out, gStep_no_b h0 (by rw [ho.out]; exact Hb.out)]; rfl)) (b2.trans (hb3.mono b2.size))
          · have hb' : 0 ≤ x.b ∧ x.b ≤ (k : Int) - 1 := by simpa [inB] using hbb
            have hb0 := hb'.1; have hb1' := hb'.2; clear hb'
            have Hb := Lib.hid hbb; clear hbb
            go_wp2_with fail
            refine (within_any _ _ _ true _ Ha.out).mono ?_
            rintro e w2 ⟨rfl, hb2⟩
            obtain ⟨f0, f1, f2⟩ := (((Blk.new wr _ _).next hb1).next hb2).three
            clear d0 d1 d2
            have b2 := b1.trans (hb2.mono b1.size)
            go_wp2_with fail
            refine (within_any _ _ _ true _ Hb.out).mono ?_
            rintro e w3 ⟨rfl, hb3⟩
            obtain ⟨p0, p1, p2⟩ := ((((Blk.new wr _ _).next hb1).next hb2).next hb3).three
            clear f0 f1 f2
            have b3 := b2.trans (hb3.mono b2.size)
            have hz3 : wr.heap.size < w3.heap.size := ((((Blk.new wr _ _).next hb1).next hb2).next hb3).lt
            have own3 := Lib.hid (own_next (own_next (own_next (hown.out.alloc _) hb1) hb2) hb3)
            have blk3 := Lib.hid ((((hblk.out.alloc _).next hb1).next hb2).next hb3)
            obtain ⟨g, rfl, hg0, hg1, e1⟩ := own_int own3.out ho.out x.a ha0 (by omega)
            obtain ⟨g', hgg, _, _, e2⟩ := own_int own3.out ho.out x.b hb0 (by omega)
            obtain rfl : g = g' := by injection hgg with hgg; injection hgg
            clear hgg
            have bd1 := hbd.out (out.getD x.a.toNat 0) (by rw [List.getD_eq_getElem?_getD, List.getElem?_eq_getElem (by rw [ho.out]; omega)]; simp)
            have bd2 := hbd.out (out.getD x.b.toNat 0) (by rw [List.getD_eq_getElem?_getD, List.getElem?_eq_getElem (by rw [ho.out]; omega)]; simp)
            have Hc := Lib.hid (fun h => gStep_no_c (out := out) (x := x) h0 h)
            have Hp := Lib.hid (fun h => gStep_pair (out := out) (x := x) h0 (by rw [ho.out]; exact Ha.out) (by rw [ho.out]; exact Hb.out) h)
            generalize out.getD x.a.toNat 0 = y1 at *
            generalize out.getD x.b.toNat 0 = y2 at *
            have hup := upc w3.heap.size w3
            have i1 : x.a < (k : Int) := by omega
            have i2 : x.b < (k : Int) := by omega
            have bd10 := bd1.1; have bd11 := bd1.2; have bd20 := bd2.1; have bd21 := bd2.2
            clear bd1 bd2
            go_wp2_with fail
            refine wp_region_up w3.heap.size (by kernel_rfl) (by kernel_rfl) ?_
            repeat (go_big_quiet_step (fail))
            refine wpQuiet_nil ?_
            intro w4 hup_w4
            have hb4 := up_of hup_w4
            have b4 := b3.trans (hb4.mono b3.size)
            have own4 := Lib.hid (own_next own3.out hb4)
            have blk4 := Lib.hid (blk3.out.next hb4)
            by_cases hc : 1000000000000000 < y1 + y2
            · go_wp2_with fail
              go_ret2
              exact LenPost.no (gOk_none (by rw [← H'.out, Hc.out hc]; rfl)) b4
            · go_wp2_with
              (at_builtin
               refine wpList_push (w0 := w) rfl _ _ _ rfl w.heap.size 2 1 8 elem_int intE _ k c' out rfl (own4.out.alloc _) w4.heap.size (y1 + y2) #[.int .i64 (y1 + y2)] 2 (0, 0) rfl (heap_alloc_new _ _) rfl rfl (by simp [intE, Value.oneCell']) (by omega) (by omega) (by unfold maxLen; omega) rfl (b4.alloc b4.size _) ?_
               intro A9 c9 w9 own9 hg9 hat9 hb9
               have O9 := Lib.hid own9; clear own9)
              go_roundw
              case rel => exact ⟨k + 1, out ++ [y1 + y2], A9, c9, by go_num, rfl, by omega, Lib.hid (by rw [List.length_append, ho.out]; rfl), O9, Lib.hid (fun z hz => by
                rcases List.mem_append.1 hz with hz | hz
                · exact hbd.out z hz
                · simp at hz; omega), Lib.hid ((blk4.out.alloc _).grown hg9 (own_blk_ne own4.out blk4.out (by decide))), hb9, Lib.hid (by rw [← H'.out, Hp.out (by omega)]; rfl)⟩
              case measure => simp [intOf]; omega
      · have hisp : isP x = false := by simpa [isP] using h0
        have Hisp := Lib.hid hisp; clear hisp
        by_cases hs1 : x.l.size = 1
        · obtain ⟨cc, hcc⟩ := one_byte hs1
          obtain ⟨xl, xa, xb⟩ := x
          simp only at hcc c0 c1 c2 hs1 h0 hxm
          subst hcc
          clear hs1
          have hlT : letT ⟨#[cc]⟩ = letB cc := rfl
          rcases hlb : letB cc with _ | _
          · have HlT := Lib.hid (hlT.trans hlb)
            have Hlb := Lib.hid hlb; clear hlb hlT
            go_wp2_with fail
            refine (isPair_any _ false _ Hisp.out).mono ?_
            rintro e w1 ⟨rfl, hb1⟩
            obtain ⟨d0, d1, d2⟩ := ((Blk.new wr _ _).next hb1).three
            have b1 := (hb.alloc hb.size _).trans (hb1.mono (by have := hb.size; simp; omega))
            go_wp2_with fail
            refine (isLetter_any cc false _ Hlb.out).mono ?_
            rintro e w2 ⟨rfl, hb2⟩
            go_wp2_with fail
            go_ret2
            exact LenPost.no (gOk_none (by rw [← H'.out, gStep_no_l h0 (by rw [HlT.out]; simp)]; rfl)) (b1.trans (hb2.mono b1.size))
          · have HlT := Lib.hid (hlT.trans hlb)
            have Hlb := Lib.hid hlb; clear hlb hlT
            have H0 := Lib.hid h0; clear h0
            go_wp2_with fail
            refine (isPair_any _ false _ Hisp.out).mono ?_
            rintro e w1 ⟨rfl, hb1⟩
            obtain ⟨d0, d1, d2⟩ := ((Blk.new wr _ _).next hb1).three
            have b1 := (hb.alloc hb.size _).trans (hb1.mono (by have := hb.size; simp; omega))
            go_wp2_with fail
            refine (isLetter_any cc true _ Hlb.out).mono ?_
            rintro e w2 ⟨rfl, hb2⟩
            obtain ⟨f0, f1, f2⟩ := (((Blk.new wr _ _).next hb1).next hb2).three
            clear d0 d1 d2
            have b2 := b1.trans (hb2.mono b1.size)
            have own2 := Lib.hid (own_next (own_next (hown.out.alloc _) hb1) hb2)
            have blk2 := Lib.hid (((hblk.out.alloc _).next hb1).next hb2)
            by_cases ha : xa = 0
            · have ha' : (xa != 0) = false := by simp [ha]
              have Ha := Lib.hid ha; clear ha
              by_cases hbb : xb = 0
              · have hb' : (xb != 0) = false := by simp [hbb]
                have Hb := Lib.hid hbb; clear hbb
                have Hp := Lib.hid (gStep_let (out := out) (x := ⟨⟨#[cc]⟩, xa, xb⟩) H0.out ⟨HlT.out, Ha.out, Hb.out⟩)
                go_wp2_with
                  (at_builtin
                   refine wpList_push (w0 := w) rfl _ _ _ rfl w.heap.size 2 1 8 elem_int intE _ k c' out rfl (own2.out.alloc _) w2.heap.size 1 #[.int .i64 1] 2 (0, 0) rfl (heap_alloc_new _ _) rfl rfl (by simp [intE, Value.oneCell']) (by omega) (by omega) (by unfold maxLen; omega) rfl (b2.alloc b2.size _) ?_
                   intro A9 c9 w9 own9 hg9 hat9 hb9
                   have O9 := Lib.hid own9; clear own9)
                go_roundw
                case rel => exact ⟨k + 1, out ++ [1], A9, c9, by go_num, rfl, by omega, Lib.hid (by rw [List.length_append, ho.out]; rfl), O9, Lib.hid (fun z hz => by
                  rcases List.mem_append.1 hz with hz | hz
                  · exact hbd.out z hz
                  · simp at hz; omega), Lib.hid ((blk2.out.alloc _).grown hg9 (own_blk_ne own2.out blk2.out (by decide))), hb9, Lib.hid (by rw [← H'.out, Hp.out]; rfl)⟩
                case measure => simp [intOf]; omega
              · have hb' : (xb != 0) = true := by simp [hbb]
                have Hb := Lib.hid hbb; clear hbb
                go_wp2_with fail
                go_ret2
                exact LenPost.no (gOk_none (by rw [← H'.out, gStep_no_l H0.out (fun q => Hb.out q.2.2)]; rfl)) b2
            · have ha' : (xa != 0) = true := by simp [ha]
              have Ha := Lib.hid ha; clear ha
              go_wp2_with fail
              go_ret2
              exact LenPost.no (gOk_none (by rw [← H'.out, gStep_no_l H0.out (fun q => Ha.out q.2.1)]; rfl)) b2
        · have hs2 : ((x.l.size : Int) != 1) = true := by simp; omega
          have Hs := Lib.hid hs1; clear hs1
          go_wp2_with fail
          refine (isPair_any x false _ Hisp.out).mono ?_
          rintro e w1 ⟨rfl, hb1⟩
          obtain ⟨d0, d1, d2⟩ := ((Blk.new wr _ _).next hb1).three
          have b1 := (hb.alloc hb.size _).trans (hb1.mono (by have := hb.size; simp; omega))
          go_wp2_with fail
          go_ret2
          exact LenPost.no (gOk_none (by rw [← H'.out, gStep_no_l h0 (by rw [letT_not Hs.out]; simp)]; rfl)) b1
    · have c0 : wr.cell? ⟨w.heap.size, 0, none⟩ = some (.slice A n c) := hblk.out.cell 0
      have hz := hblk.out.lt
      have hfin : gLens rs [] = some out := by rw [← H.out, List.drop_of_length_le (by rw [hl.out]; omega)]; rfl
      have hkn : k = n := by omega
      have Hf := Lib.hid hfin; clear hfin
      have Hk := Lib.hid hkn; clear hkn
      have hup := upc wr.heap.size wr
      by_cases h4 : n ≤ 400
      · have hg : gOk rs = some out := by unfold gOk; rw [hl.out, if_neg (by omega)]; exact Hf.out
        have Hg := Lib.hid hg; clear hg
        have d4 : decide ((n : Int) ≤ 400) = true := decide_eq_true (by omega)
        go_wp2_with fail
        refine wp_region_up wr.heap.size (by kernel_rfl) (by kernel_rfl) ?_
        repeat (go_big_quiet_step (fail))
        refine wpQuiet_nil ?_
        intro w2 hup_w2
        have hb2 := up_of hup_w2
        go_wp2_with fail
        go_ret2
        refine ⟨hb.trans (hb2.mono hb.size), .inl ⟨out, A', c', Hg.out, ret_sliceB ho.out.symm, ?_⟩⟩
        rw [ho.out]
        exact own_next hown.out hb2
      · have hg : gOk rs = none := by unfold gOk; rw [hl.out, if_pos (by omega)]
        have Hg := Lib.hid hg; clear hg
        have d4 : decide ((n : Int) ≤ 400) = false := decide_eq_false (by omega)
        go_wp2_with fail
        refine wp_region_up wr.heap.size (by kernel_rfl) (by kernel_rfl) ?_
        repeat (go_big_quiet_step (fail))
        refine wpQuiet_nil ?_
        intro w2 hup_w2
        have hb2 := up_of hup_w2
        go_wp2_with fail
        go_ret2
        exact LenPost.no Hg.out (hb.trans (hb2.mono hb.size))
end Go.Proofs.Ytikhjoianbndhaa
