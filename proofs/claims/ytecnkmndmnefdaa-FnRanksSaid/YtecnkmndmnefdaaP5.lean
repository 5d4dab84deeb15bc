/-
  Texts of this claim, merged: JoinM Pow PlainP MapI IdxR Ints StrS IdxS MapP Found PlainS MapS Join P6Word.
-/
import Derived.Test.YtecnkmndmnefdaaP4
import Derived.Laws.BitsLemmas
import Derived.Laws.Bits64
import Derived.Deep.RegionLaw
import Derived.Deep.DeepCutAuto


/-
  Grammars joined, turned and repeated: the plain part.
-/
namespace Go.Proofs.Ytecnkmndmnefdaa

theorem wdN_pos {rs : List Fac} (h : 0 < rs.length) : wdN rs = (wds rs).getD (rs.length - 1) [] := by
  unfold wdN
  rw [if_neg (by intro e; rw [e] at h; simp at h)]
def joinL (gs hs : List Fac) : List Fac :=
  if gs.length = 0 then hs else if hs.length = 0 then gs else (gs ++ raiseL gs.length hs) ++ [⟨⟨#[]⟩, (gs.length : Int) - 1, (gs.length : Int) + hs.length - 1⟩]
theorem join_wf {gs hs : List Fac} (hg : WF gs) (hh : WF hs) : WF (joinL gs hs) := by
  unfold joinL
  split
  · exact hh
  · split
    · exact hg
    · exact wf_snoc (wf_raise hg hh) ⟨by omega, by simp only [List.length_append, raiseL_len]; omega⟩ ⟨by omega, by simp only [List.length_append, raiseL_len]; omega⟩
theorem join_word {gs hs : List Fac} (hg : WF gs) (hh : WF hs) : wdN (joinL gs hs) = wdN gs ++ wdN hs := by
  unfold joinL
  split
  · rename_i h
    have : gs = [] := List.eq_nil_of_length_eq_zero h
    subst this; rfl
  · rename_i h0
    split
    · rename_i h
      have : hs = [] := List.eq_nil_of_length_eq_zero h
      subst this
      rw [show wdN [] = [] from rfl, List.append_nil]
    · rename_i h1
      have hw := wf_raise hg hh
      have hl : (gs ++ raiseL gs.length hs).length = gs.length + hs.length := by simp [raiseL_len]
      have e := wds_snoc (rs := gs ++ raiseL gs.length hs) (a := (gs.length : Int) - 1) (b := (gs.length : Int) + hs.length - 1) ⟨by omega, by rw [hl]; omega⟩ ⟨by omega, by rw [hl]; omega⟩ hw
      rw [wdN_pos (by simp only [List.length_append, List.length_singleton]; omega), List.length_append, List.length_singleton, Nat.add_sub_cancel, e, wdN_pos (by omega), wdN_pos (by omega)]
      rw [show ((gs.length : Int) - 1).toNat = gs.length - 1 by omega, show ((gs.length : Int) + hs.length - 1).toNat = gs.length + (hs.length - 1) by omega, wds_pre _ _ (by omega), wds_raise hg hh _ (by omega)]
/-- turned -/
def turnL (rs : List Fac) : List Fac := rs.map fun r => ⟨r.l, r.b, r.a⟩
theorem turn_len (rs : List Fac) : (turnL rs).length = rs.length := by simp [turnL]
theorem turn_at {rs : List Fac} {k : Nat} {r : Fac} (h : rs[k]? = some r) : (turnL rs)[k]? = some ⟨r.l, r.b, r.a⟩ := by unfold turnL; rw [List.getElem?_map, h]; rfl
theorem turn_wf {rs : List Fac} (hwf : WF rs) : WF (turnL rs) := fun k r hr => by
  unfold turnL at hr
  rw [List.getElem?_map] at hr
  obtain ⟨x, hx, rfl⟩ := Option.map_eq_some_iff.1 hr
  rcases hwf k x hx with ⟨h0, a0, a1, b0, b1⟩ | ⟨c, hc, hl, ha, hb⟩
  · exact .inl ⟨h0, b0, b1, a0, a1⟩
  · exact .inr ⟨c, hc, hl, hb, ha⟩
theorem turn_wds {rs : List Fac} (hwf : WF rs) : ∀ k, k < rs.length → (wds (turnL rs)).getD k [] = ((wds rs).getD k []).reverse := by
  intro k
  induction k using Nat.strongRecOn with
  | ind k ih =>
    intro hk
    have hr : rs[k]? = some rs[k] := List.getElem?_eq_getElem hk
    have ht := turn_at hr
    rcases hwf k _ hr with ⟨h0, a0, a1, b0, b1⟩ | ⟨c, hc, hl, ha, hb⟩
    · rw [wds_pair (turn_wf hwf) ht h0, wds_pair hwf hr h0, List.reverse_append]
      simp only
      rw [ih _ (by omega) (by omega), ih _ (by omega) (by omega)]
    · rw [wds_one ht hl, wds_one hr hl]; rfl
theorem turn_word {rs : List Fac} (hwf : WF rs) : wdN (turnL rs) = (wdN rs).reverse := by
  by_cases h : rs.length = 0
  · have : rs = [] := List.eq_nil_of_length_eq_zero h
    subst this; rfl
  · rw [wdN_pos (by rw [turn_len]; omega), wdN_pos (by omega), turn_len, turn_wds hwf _ (by omega)]
/-- one digit more of the number of times -/
def powS (root : Int) (rs : List Fac) (b : Bool) : List Fac :=
  if b then (rs ++ [⟨⟨#[]⟩, (rs.length : Int) - 1, (rs.length : Int) - 1⟩]) ++ [⟨⟨#[]⟩, (rs.length : Int), root⟩] else rs ++ [⟨⟨#[]⟩, (rs.length : Int) - 1, (rs.length : Int) - 1⟩]
def rep (u : List Nat) : Nat → List Nat
  | 0 => []
  | n + 1 => rep u n ++ u
theorem rep_add (u : List Nat) (m : Nat) : ∀ n, rep u (m + n) = rep u m ++ rep u n
  | 0 => by simp [rep]
  | n + 1 => by
    show rep u (m + n) ++ u = rep u m ++ (rep u n ++ u)
    rw [rep_add u m n, List.append_assoc]
theorem rep_len (u : List Nat) : ∀ n, (rep u n).length = n * u.length
  | 0 => by simp [rep]
  | n + 1 => by show (rep u n ++ u).length = _; rw [List.length_append, rep_len u n, Nat.succ_mul]
/-- what holds under way: n times the word -/
structure PowI (gs rs : List Fac) (n : Nat) : Prop where
  wf : WF rs
  pre : ∃ e, rs = gs ++ e
  pos : 0 < gs.length
  w : wdN rs = rep (wdN gs) n
theorem PowI.first {gs : List Fac} (hg : WF gs) (h0 : 0 < gs.length) : PowI gs gs 1 := ⟨hg, ⟨[], by simp⟩, h0, by simp [rep]⟩
theorem PowI.step {gs rs : List Fac} {n : Nat} (h : PowI gs rs n) (b : Bool) : PowI gs (powS ((gs.length : Int) - 1) rs b) (2 * n + b.toNat) := by
  obtain ⟨e, he⟩ := h.pre
  have hp := h.pos
  have hl : gs.length ≤ rs.length := by rw [he, List.length_append]; omega
  have ha : 0 ≤ (rs.length : Int) - 1 ∧ (rs.length : Int) - 1 < rs.length := ⟨by omega, by omega⟩
  have w1 := wf_snoc h.wf ha ha
  have e1 := wds_snoc (rs := rs) ha ha h.wf
  have hlast : (wds rs).getD ((rs.length : Int) - 1).toNat [] = rep (wdN gs) n := by rw [← h.w, wdN_pos (by omega), show ((rs.length : Int) - 1).toNat = rs.length - 1 by omega]
  rw [hlast, ← rep_add, show n + n = 2 * n by omega] at e1
  cases b with
  | false =>
    refine ⟨w1, ⟨e ++ [⟨⟨#[]⟩, (rs.length : Int) - 1, (rs.length : Int) - 1⟩], by show rs ++ _ = _; rw [he, List.append_assoc]⟩, hp, ?_⟩
    show wdN (rs ++ [_]) = _
    rw [wdN_pos (by simp), List.length_append, List.length_singleton, Nat.add_sub_cancel, e1]; rfl
  | true =>
    have hl2 : (rs ++ [(⟨⟨#[]⟩, (rs.length : Int) - 1, (rs.length : Int) - 1⟩ : Fac)]).length = rs.length + 1 := by simp
    have hb1 : 0 ≤ (rs.length : Int) ∧ (rs.length : Int) < (rs ++ [(⟨⟨#[]⟩, (rs.length : Int) - 1, (rs.length : Int) - 1⟩ : Fac)]).length := ⟨by omega, by rw [hl2]; omega⟩
    have hb2 : 0 ≤ (gs.length : Int) - 1 ∧ (gs.length : Int) - 1 < (rs ++ [(⟨⟨#[]⟩, (rs.length : Int) - 1, (rs.length : Int) - 1⟩ : Fac)]).length := ⟨by omega, by rw [hl2]; omega⟩
    refine ⟨wf_snoc w1 hb1 hb2, ⟨e ++ [⟨⟨#[]⟩, (rs.length : Int) - 1, (rs.length : Int) - 1⟩] ++ [⟨⟨#[]⟩, (rs.length : Int), (gs.length : Int) - 1⟩], by show (rs ++ _) ++ _ = _; rw [he]; simp only [List.append_assoc]⟩, hp, ?_⟩
    have e2 := wds_snoc (rs := rs ++ [(⟨⟨#[]⟩, (rs.length : Int) - 1, (rs.length : Int) - 1⟩ : Fac)]) hb1 hb2 w1
    show wdN ((rs ++ [_]) ++ [_]) = _
    rw [wdN_pos (by simp), List.length_append, List.length_singleton, Nat.add_sub_cancel, e2, Int.toNat_natCast, e1]
    have e3 : (wds (rs ++ [(⟨⟨#[]⟩, (rs.length : Int) - 1, (rs.length : Int) - 1⟩ : Fac)])).getD ((gs.length : Int) - 1).toNat [] = wdN gs := by
      rw [wds_pre _ _ (by omega), he, wds_pre _ _ (by omega), wdN_pos hp, show ((gs.length : Int) - 1).toNat = gs.length - 1 by omega]
    rw [e3]; rfl
end Go.Proofs.Ytecnkmndmnefdaa


/-
  The power of a grammar in the reference: what it hands back is valid.
-/
namespace Go.Proofs.Ytecnkmndmnefdaa
open Go.RowKit

/-- a grammar that is right and has rules, in memory of its own -/
structure GrIn (w : World) (B : Nat) (A : Option Addr) (c : Nat) (rs : List Fac) : Prop where
  wf : WF rs
  pos : 0 < rs.length
  ok : (gOk rs).isSome = true
  own : w.ownsRow B 69 3 (.slice A rs.length c) rs.length (rs.flatMap Fac.cells)
/-- such a one and the code 0, or none and the code 3 -/
def GrCode (w : World) (e : Ending) (w' : World) : Prop :=
  (∃ A c rs, e = .returned (.tuple #[.agg #[.slice A rs.length c], .int .i64 0]) ∧ GrIn w' w.heap.size A c rs ∧ Below w.heap.size w w') ∨
  (e = .returned (.tuple #[.agg #[.slice none 0 0], .int .i64 3]) ∧ Below w.heap.size w w')
/-- a grammar under way: R is the result's block, G the grammar's -/
structure PwW (w W : World) (R G : Nat) (A : Option Addr) (n c : Nat) (rs : List Fac) : Prop where
  q : W.ownsRow w.heap.size 69 3 (.slice A n c) n (rs.flatMap Fac.cells)
  r : Blk W R 26 #[.slice none 0 0]
  x : Blk W G 26 #[.slice A n c]
  e : Below w.heap.size w W
  hr : w.heap.size ≤ R
  hg : R < G
section
variable {w W W' : World} {R G : Nat} {A : Option Addr} {n c : Nat} {rs : List Fac}
theorem PwW.next (h : PwW w W R G A n c rs) (hb : Below W.heap.size W W') : PwW w W' R G A n c rs := ⟨own_next h.q hb, h.r.next hb, h.x.next hb, h.e.trans (hb.mono h.e.size), h.hr, h.hg⟩
theorem PwW.alloc (h : PwW w W R G A n c rs) (o : Obj) : PwW w (W.alloc o) R G A n c rs := h.next ((Below.refl _ _).alloc (Nat.le_refl _) _)
theorem PwW.drew (h : PwW w W R G A n c rs) : PwW w W.drew R G A n c rs := h.next (Below.refl _ _).drew
theorem PwW.app {A' : Option Addr} {n' c' : Nat} {rs' : List Fac} (h : PwW w W R G A n c rs) (hq : W'.ownsRow w.heap.size 69 3 (.slice A' n' c') n' (rs'.flatMap Fac.cells)) (hg : W.grownBy W' (Value.slice A n c).ownBlock) :
    W'.ownsRow w.heap.size 69 3 (.slice A' n' c') n' (rs'.flatMap Fac.cells) ∧ Blk W' R 26 #[.slice none 0 0] ∧ Blk W' G 26 #[.slice A n c] ∧ Below w.heap.size w W' :=
  ⟨hq, h.r.grown hg (own_blk_ne h.q h.r (by decide)), h.x.grown hg (own_blk_ne h.q h.x (by decide)), h.e.grown hg h.e.size (own_ge h.q)⟩
theorem PwW.push {A' : Option Addr} {n' c' : Nat} {rs' : List Fac} (h : PwW w W R G A n c rs) (hq : W'.ownsRow w.heap.size 69 3 (.slice A' n' c') n' (rs'.flatMap Fac.cells)) (hg : W.grownBy W' (Value.slice A n c).ownBlock) :
    PwW w (W'.setCell ⟨G, 0, none⟩ (.slice A' n' c')) R G A' n' c' rs' := by
  obtain ⟨h1, h2, h3, h4⟩ := h.app hq hg
  have hg2 := gb_set W' G 0 (.slice A' n' c')
  have h0 := h.hg; have h00 := h.hr
  exact ⟨own_kept' hq h3 (by decide) _, h2.grown hg2 (by intro e; injection e with e; omega), h3.set_ 0 _, h4.setCell (by show w.heap.size ≤ G; omega) _, h00, h0⟩
end
theorem shr_pos {t : Int} {d : Nat} (h0 : 1 ≤ t) (h1 : t ≤ 1000000000000000) (h : 0 < t / 2 ^ d) : d < 50 := by
  rcases Nat.lt_or_ge d 50 with h2 | h2
  · exact h2
  · exfalso
    have h3 : (2 : Int) ^ 50 ≤ 2 ^ d := by have := Int.ofNat_le.2 (Nat.pow_le_pow_right (show 2 > 0 by decide) h2); rwa [Int.natCast_pow, Int.natCast_pow] at this
    have h4 : (2 : Int) ^ 50 = 1125899906842624 := by decide
    have : t / 2 ^ d = 0 := Int.ediv_eq_zero_of_lt (by omega) (by omega)
    omega
set_option maxHeartbeats 4000000 in
set_option maxRecDepth 100000 in
theorem powerG_any (A : Option Addr) (n c : Nat) (gs : List Fac) (t : Int) (w : World) (hn0 : 0 < n) (hn : n ≤ 400) (hr : Rd w w.heap.size A n 3 Fac.cells gs) (hwf : WF gs) (hg : (gOk gs).isSome = true) (ht0 : 1 ≤ t) (ht1 : t ≤ 1000000000000000) :
    Calls Try.prog 77 #[.agg #[.slice A n c], .int .i64 t] w (GrCode w) := by
  have hl := hr.len
  have HR := Lib.hid hr; clear hr
  have HG := Lib.hid hg; clear hg
  have HW := Lib.hid hwf; clear hwf
  have HO := Lib.hid (wf_sz HW.out)
  have hin : inB t 0 1000000000000000 = true := by unfold inB; simp; omega
  have Hin := Lib.hid hin; clear hin
  have HL := Lib.hid hl; clear hl
  go_enter Try.func77, Try.ntmps77
  go_wp2_with fail
  refine namedC fun w1 H1 => ?_
  have hb1 : Below w.heap.size w w1 := by rw [H1.out]; (repeat first | exact Below.refl _ _ | assumption | refine Below.drew ?_ | refine Below.alloc ?_ (by first | exact Nat.le_refl _ | (simp; done) | omega | (simp; omega)) _ | refine Below.setCell ?_ (by first | exact Nat.le_refl _ | (simp; done) | omega | (simp; omega)) _)
  have BG := Lib.hid (show Blk w1 w.heap.size 26 #[.slice A n c] by rw [H1.out]; exact (Blk.new _ _ _).alloc _)
  have BR := Lib.hid (show Blk w1 (w.heap.size + 1) 26 #[.slice none 0 0] by rw [H1.out]; simpa using Blk.new (w.alloc (.cells #[.slice A n c] 26)) 26 #[.slice none 0 0])
  clear H1
  refine (l02Ok_any w.heap.size A n c gs w1 BG.out.lt (BG.out.cell 0) (by omega) (HR.out.next hb1) HO.out true HG.out).mono ?_
  rintro e w2 ⟨rfl, hb2⟩
  have b2 := Lib.hid (hb1.trans (hb2.mono hb1.size))
  have BG2 := Lib.hid (BG.out.next hb2)
  have BR2 := Lib.hid (BR.out.next hb2)
  clear BG BR hb1 hb2
  go_wp2_with fail
  refine (specIn_any t 0 1000000000000000 true w2 Hin.out).mono ?_
  rintro e w3 ⟨rfl, hb3⟩
  have b3 := Lib.hid (b2.out.trans (hb3.mono b2.out.size))
  have BG3 := Lib.hid (BG2.out.next hb3)
  have BR3 := Lib.hid (BR2.out.next hb3)
  have g3 := BG3.out.cell 0
  have l3 := BG3.out.lt
  have n1 : ((n : Int) == 0) = false := by simp; omega
  have t1 : (t == 0) = false := by simp; omega
  clear BG2 BR2 hb3 b2
  go_wp2_with fail
  refine (l02Own_any w.heap.size A n c gs w3 l3 g3 (by omega) hn0 (HR.out.next b3.out)).mono ?_
  rintro e w4 ⟨A4, c4, rfl, own4, hb4⟩
  rw [HL.out] at own4 ⊢
  have b4 := Lib.hid (b3.out.trans (hb4.mono b3.out.size))
  have O4 := Lib.hid (own4.mono b3.out.size)
  have BG4 := Lib.hid (BG3.out.next hb4)
  have BR4 := Lib.hid (BR3.out.next hb4)
  clear own4 hb4 b3 BG3 BR3 g3 l3
  have P5 := Lib.hid (show PwW w (w4.alloc (.cells #[.slice A4 n c4] 26)) (w.heap.size + 1) w4.heap.size A4 n c4 gs from
    ⟨O4.out.alloc _, BR4.out.alloc _, Blk.new _ _ _, b4.out.alloc b4.out.size _, by omega, BR4.out.lt⟩)
  have BG5 := BG4.out.alloc (.cells #[.slice A4 n c4] 26)
  have g5 := BG5.cell 0
  have l5 := BG5.lt
  clear BG5
  go_wp2_with fail
  go_loopw [8] (fun d_ w' => ∃ d : Nat, d_ = .int .i64 d ∧ d ≤ 50 ∧ Hid (PwW w w' (w.heap.size + 1) w4.heap.size A4 n c4 gs)) (fun d_ _ => 50 - (intOf d_).toNat)
  case atStart => exact ⟨0, rfl, by omega, P5⟩
  case round =>
    obtain ⟨d, rfl, hd, P⟩ := hrel
    clear P5 g5 l5
    by_cases hpos : 0 < t / 2 ^ d
    · have hd5 := shr_pos ht0 ht1 hpos
      have um : IntKind.i64.wrap ((d : Int) + 1) = ((d + 1 : Nat) : Int) := by rw [IntWalk.i64_in _ (by omega)]; omega
      go_wp2_with fail
      go_roundw
      case rel => exact ⟨d + 1, by go_num, by omega, P⟩
      case measure => simp [intOf]; omega
    · have um : IntKind.i64.wrap ((d : Int) - 2) = (d : Int) - 2 := by rw [IntWalk.i64_in _ (by omega)]
      go_wp2_with fail
      generalize w4.heap.size = G at *
      go_loopw [9] (fun k_ w' => ∃ (k : Int) (A : Option Addr) (n' c' : Nat) (cur : List Fac), k_ = .int .i64 k ∧ -2 ≤ k ∧ k ≤ 48 ∧ n ≤ n' ∧ (n' : Int) ≤ n + 2 * (48 - k) ∧ Hid (cur.length = n') ∧ Hid (WF cur) ∧ Hid (PwW w w' (w.heap.size + 1) G A n' c' cur)) (fun k_ _ => (intOf k_ + 1).toNat)
      case atStart => exact ⟨(d : Int) - 2, A4, n, c4, gs, rfl, by omega, by omega, by omega, by omega, HL, HW, P⟩
      case round =>
        obtain ⟨k, A9, n', c', cur, rfl, hk0, hk1, hn1, hn2, hcl, hcw, Q⟩ := hrel
        clear P
        have d0 := Q.out.x.cell 0
        have dl := Q.out.x.lt
        by_cases hk : 0 ≤ k
        · have k1 := decide_eq_true hk
          have kk : ((k.toNat : Nat) : Int) = k := by omega
          have ua : IntKind.i64.wrap ((n' : Int) - 1) = (n' : Int) - 1 := by rw [IntWalk.i64_in _ (by omega)]
          have uk : IntKind.i64.wrap (k - 1) = k - 1 := by rw [IntWalk.i64_in _ (by omega)]
          have Q3 := Lib.hid (Q.out.alloc (.cells #[.string ⟨#[]⟩, .int .i64 ((n' : Int) - 1), .int .i64 ((n' : Int) - 1)] 69))
          have BN := Lib.hid (Blk.new wr 69 #[.string ⟨#[]⟩, .int .i64 ((n' : Int) - 1), .int .i64 ((n' : Int) - 1)])
          have w1 := Lib.hid (wf_snoc hcw.out (a := (n' : Int) - 1) (b := (n' : Int) - 1) ⟨by omega, by rw [hcl.out]; omega⟩ ⟨by omega, by rw [hcl.out]; omega⟩)
          have e1 := Lib.hid (show (cur ++ [(⟨⟨#[]⟩, (n' : Int) - 1, (n' : Int) - 1⟩ : Fac)]).length = n' + 1 by rw [List.length_append, hcl.out]; rfl)
          have ub : IntKind.i64.wrap ((n' : Int) - 1 + 1) = (n' : Int) := by rw [IntWalk.i64_in _ (by omega)]; omega
          rcases hbt : (bits BinOp.and IntKind.i64 (t / 2 ^ k.toNat) 1 == 1) with _ | _
          · go_wp2_with
              (at_builtin
               refine wpList_pushG rfl _ _ _ rfl w.heap.size 69 3 32 elem_rule Fac.cells A9 n' c' cur rfl Q3.out.q wr.heap.size ⟨⟨#[]⟩, (n' : Int) - 1, (n' : Int) - 1⟩ #[.string ⟨#[]⟩, .int .i64 ((n' : Int) - 1), .int .i64 ((n' : Int) - 1)] 69 (0, 0) rfl BN.out rfl rfl (one_fac _) (by omega) (by omega) (by unfold maxLen; omega) (by have := Q3.out.e.size; omega) ?_
               intro A8 c8 w8 own8 hg8 hat8
               have Q8 := Lib.hid (Q3.out.push own8 hg8)
               have G8 := (Q3.out.app own8 hg8).2.2.1
               have f8 := G8.frozen
               have d8 := G8.cell 0
               have l8 := G8.lt
               clear own8 hg8 hat8 G8)
            go_roundw
            case rel => exact ⟨k - 1, A8, n' + 1, c8, _, by go_num, by omega, by omega, by omega, by omega, e1, w1, Q8⟩
            case measure => simp [intOf]; omega
          · have w2 := Lib.hid (wf_snoc w1.out (a := (n' : Int)) (b := (n : Int) - 1) ⟨by omega, by rw [e1.out]; omega⟩ ⟨by omega, by rw [e1.out]; omega⟩)
            have e2 := Lib.hid (show ((cur ++ [(⟨⟨#[]⟩, (n' : Int) - 1, (n' : Int) - 1⟩ : Fac)]) ++ [(⟨⟨#[]⟩, (n' : Int), (n : Int) - 1⟩ : Fac)]).length = n' + 2 by rw [List.length_append, e1.out]; rfl)
            go_wp2_with
              (at_builtin
               first
                 | (refine wpList_pushG rfl _ _ _ rfl w.heap.size 69 3 32 elem_rule Fac.cells A9 n' c' cur rfl Q3.out.q wr.heap.size ⟨⟨#[]⟩, (n' : Int) - 1, (n' : Int) - 1⟩ #[.string ⟨#[]⟩, .int .i64 ((n' : Int) - 1), .int .i64 ((n' : Int) - 1)] 69 (0, 0) rfl BN.out rfl rfl (one_fac _) (by omega) (by omega) (by unfold maxLen; omega) (by have := Q3.out.e.size; omega) ?_
                    intro A8 c8 w8 own8 hg8 hat8
                    have Q8 := Lib.hid (Q3.out.push own8 hg8)
                    have G8 := (Q3.out.app own8 hg8).2.2.1
                    have f8 := G8.frozen
                    have d8 := G8.cell 0
                    have l8 := G8.lt
                    clear own8 hg8 hat8 G8)
                 | (refine wpList_pushG rfl _ _ _ rfl w.heap.size 69 3 32 elem_rule Fac.cells A8 (n' + 1) c8 (cur ++ [⟨⟨#[]⟩, (n' : Int) - 1, (n' : Int) - 1⟩]) rfl ((Q8.out.alloc (.cells #[.string ⟨#[]⟩, .int .i64 (n' : Int), .int .i64 ((n : Int) - 1)] 69)).q) w8.heap.size ⟨⟨#[]⟩, (n' : Int), (n : Int) - 1⟩ #[.string ⟨#[]⟩, .int .i64 (n' : Int), .int .i64 ((n : Int) - 1)] 69 (0, 0) rfl (by have h := Blk.new (w8.setCell ⟨G, 0, none⟩ (.slice A8 (n' + 1) c8)) 69 #[.string ⟨#[]⟩, .int .i64 (n' : Int), .int .i64 ((n : Int) - 1)]; rw [show (w8.setCell ⟨G, 0, none⟩ (.slice A8 (n' + 1) c8)).heap.size = w8.heap.size by simp] at h; exact h) rfl rfl (one_fac _) (by omega) (by omega) (by unfold maxLen; omega) (by have := (Q8.out.alloc (.cells #[.string ⟨#[]⟩, .int .i64 (n' : Int), .int .i64 ((n : Int) - 1)] 69)).e.size; omega) ?_
                    intro A7 c7 w7 own7 hg7 hat7
                    have Q7 := Lib.hid ((Q8.out.alloc (.cells #[.string ⟨#[]⟩, .int .i64 (n' : Int), .int .i64 ((n : Int) - 1)] 69)).push own7 hg7)
                    have G7 := ((Q8.out.alloc (.cells #[.string ⟨#[]⟩, .int .i64 (n' : Int), .int .i64 ((n : Int) - 1)] 69)).app own7 hg7).2.2.1
                    have f7 := G7.frozen
                    have d7 := G7.cell 0
                    have l7 := G7.lt
                    clear own7 hg7 hat7 G7))
            go_roundw
            case rel => exact ⟨k - 1, A7, n' + 2, c7, _, by go_num, by omega, by omega, by omega, by omega, e2, w2, Q7⟩
            case measure => simp [intOf]; omega
        · have k1 := decide_eq_false hk
          have T := Lib.hid (wf_sz hcw.out)
          have RR := Lib.hid (Rd.of_own (fun x _ => fac_len x) hcl.out Q.out.q)
          rcases hok : (gOk cur).isSome with _ | _
          · have Hok := Lib.hid hok; clear hok
            go_wp2_with fail
            refine (l02Told_no A9 n' c' cur wr (by omega) RR.out T.out Hok.out).mono ?_
            rintro e w7 ⟨rfl, hb7⟩
            have Q7 := Lib.hid (Q.out.next hb7)
            have r7 := Q7.out.r.cell 0
            have f7 := Q7.out.r.frozen
            have l7 := Q7.out.r.lt
            have B8 := Q7.out.r.set_ 0 (.slice none 0 0)
            have x8 : (w7.setCell ⟨w.heap.size + 1, 0, none⟩ (.slice none 0 0)).cell? ⟨w.heap.size + 1, 0, none⟩ = some (.slice none 0 0) := by rw [B8.cell 0]; rfl
            have b8 := Q7.out.e.setCell (p := ⟨w.heap.size + 1, 0, none⟩) (by simp) (.slice none 0 0)
            clear B8 d0 dl
            go_wp2_with fail
            exact bodyPost_ret (v := .tuple #[.agg #[.slice none 0 0], .int .i64 3]) (by simp [results, Try.results77, go_sem, x8]) rfl (.inr ⟨rfl, b8⟩)
          · have Hok := Lib.hid hok; clear hok
            go_wp2_with fail
            refine (l02Told_yes A9 n' c' cur wr (by omega) RR.out T.out Hok.out).mono ?_
            rintro e w7 ⟨rfl, hb7⟩
            have Q7 := Lib.hid (Q.out.next hb7)
            have r7 := Q7.out.r.cell 0
            have f7 := Q7.out.r.frozen
            have l7 := Q7.out.r.lt
            have B8 := Q7.out.r.set_ 0 (.slice A9 n' c')
            have x8 : (w7.setCell ⟨w.heap.size + 1, 0, none⟩ (.slice A9 n' c')).cell? ⟨w.heap.size + 1, 0, none⟩ = some (.slice A9 n' c') := by rw [B8.cell 0]; rfl
            have b8 := Q7.out.e.setCell (p := ⟨w.heap.size + 1, 0, none⟩) (by simp) (.slice A9 n' c')
            have O8 := Lib.hid (own_kept' (i := 0) Q7.out.q Q7.out.r (by decide) (.slice A9 n' c'))
            have hcl' := hcl.out
            subst hcl'
            clear B8 d0 dl
            go_wp2_with fail
            exact bodyPost_ret (v := .tuple #[.agg #[.slice A9 cur.length c'], .int .i64 0]) (by simp [results, Try.results77, go_sem, x8]) rfl (.inl ⟨A9, c', cur, rfl, ⟨hcw.out, by omega, Hok.out, O8.out⟩, b8⟩)
end Go.Proofs.Ytecnkmndmnefdaa


/-
  The grammar of a plain word in the program.
-/
namespace Go.Proofs.Ytecnkmndmnefdaa
open Go.RowKit

/-- a slice of the call's own that is the beginning of one which is appended to -/
theorem own_prefix {W W' : World} {base E sz k n c0 c : Nat} {A0 A : Option Addr} {xs0 ys : List Value} (hsz : 0 < sz) (hL : W.ownsRow base E sz (.slice A0 k c0) k xs0) (hA : W.ownsRow base E sz (.slice A n c) n (xs0 ++ ys))
    (hA' : W'.ownsRow base E sz (.slice A n c) n (xs0 ++ ys)) (hg : W.grownBy W' (Value.slice A n c).ownBlock) : W'.ownsRow base E sz (.slice A0 k c0) k xs0 := by
  rcases hL.2 with ⟨hnil, hk⟩ | ⟨g0, cap0, cur0, hv0, hb0, hh0, hk0, hm0, hs0, ht0⟩
  · rw [hnil] at hL ⊢
    exact ⟨hL.1, .inl ⟨rfl, hk⟩⟩
  · by_cases hne : (Value.slice A n c).ownBlock = some g0
    · rcases hA'.2 with ⟨hnil, _⟩ | ⟨g1, cap1, cur1, hv1, hb1, hh1, hk1, hm1, hs1, ht1⟩
      · rw [hnil] at hne; cases hne
      · rcases hA.2 with ⟨hnil, _⟩ | ⟨g2, cap2, cur2, hv2, hb2, hh2, hk2, hm2, hs2, ht2⟩
        · rw [hnil] at hne; cases hne
        · rw [hv1] at hne
          have e1 : g1 = g0 := by simpa [Value.ownBlock] using hne
          have e2 : g1 = g2 ∧ cap1 = cap2 := by
            rw [hv1] at hv2; injection hv2 with q1 q2 q3; injection q1 with q1; injection q1 with q1; exact ⟨q1, q3⟩
          obtain ⟨e2, e3⟩ := e2
          subst e1 e2 e3
          have ec : cur0 = cur2 := by
            rw [hh0] at hh2; injection hh2 with q; injection q with q
          subst ec
          have ecap : cap0 = cap1 := by
            have := hs0.symm.trans hs2
            exact Nat.eq_of_mul_eq_mul_right hsz this
          subst ecap
          refine ⟨hL.1, .inr ⟨g1, cap0, cur1, hv0, hb0, hh1, hk0, hm0, hs1, ?_⟩⟩
          have hkn : k * sz ≤ n * sz := by
            have h1 := hA.1
            have h2 := hL.1
            rw [List.length_append] at h1; omega
          have e5 : cur1.toList.take (k * sz) = (cur1.toList.take (n * sz)).take (k * sz) := by rw [List.take_take, Nat.min_eq_left hkn]
          rw [e5, ht1, ← hL.1]
          exact List.take_left
    · refine hL.kept hg (.inr ?_)
      rw [hv0]
      intro e; exact hne e.symm

/-- the letters up to one -/
def ksT (w : List UInt8) (c : Int) : List UInt8 := [97, 98, 99, 100].filter (fun u => decide (u ∈ w) && decide ((u.toNat : Int) < c))
theorem ksT_first (w : List UInt8) : ksT w 97 = [] := by simp [ksT]
theorem ksT_last (w : List UInt8) : ksT w 101 = ksP w := by
  unfold ksT ksP
  apply List.filter_congr
  intro u hu
  have : (u.toNat : Int) < 101 := by
    simp only [List.mem_cons, List.not_mem_nil, or_false] at hu
    rcases hu with rfl | rfl | rfl | rfl <;> decide
  simp [this]
theorem ksT_step (w : List UInt8) (u : UInt8) (h : letB u = true) : ksT w ((u.toNat : Int) + 1) = if u ∈ w then ksT w u.toNat ++ [u] else ksT w u.toNat := by
  have h : (97 : Int) ≤ u.toNat ∧ (u.toNat : Int) ≤ 100 := by simpa [letB] using h
  have h4 : u = 97 ∨ u = 98 ∨ u = 99 ∨ u = 100 := by
    simp only [← UInt8.toNat_inj]
    have : u.toNat = 97 ∨ u.toNat = 98 ∨ u.toNat = 99 ∨ u.toNat = 100 := by omega
    exact this
  unfold ksT
  rcases h4 with rfl | rfl | rfl | rfl
  all_goals
    by_cases h1 : (97 : UInt8) ∈ w <;> by_cases h2 : (98 : UInt8) ∈ w <;> by_cases h3 : (99 : UInt8) ∈ w <;> by_cases h4 : (100 : UInt8) ∈ w <;> simp [h1, h2, h3, h4]
theorem ksT_le (w : List UInt8) (c : Int) : (ksT w c).length ≤ 4 := by
  unfold ksT; exact Nat.le_trans (List.length_filter_le _ _) (by simp)

theorem okW_at {s : ByteArray} (h : okW s = true) {i : Nat} (hi : i < s.size) : letB s[i] = true := by
  unfold okW at h
  simp only [Bool.and_eq_true, List.all_eq_true] at h
  exact h.2 _ (List.mem_of_getElem? (at_byte s i hi))
theorem okW_size {s : ByteArray} (h : okW s = true) : s.size ≤ 2000 := by
  unfold okW at h
  simp only [Bool.and_eq_true, decide_eq_true_eq] at h
  exact h.1
/-- 'plain' under way -/
structure PlW (w W : World) (s : ByteArray) (A : Option Addr) (n c : Nat) (rs : List Fac) : Prop where
  q : W.ownsRow w.heap.size 69 3 (.slice A n c) n (rs.flatMap Fac.cells)
  s : Blk W w.heap.size 9 #[.string s]
  o : Blk W (w.heap.size + 1) 26 #[.slice none 0 0]
  g : Blk W (w.heap.size + 2) 26 #[.slice A n c]
  e : Below w.heap.size w W
section
variable {w W W' : World} {s : ByteArray} {A : Option Addr} {n c : Nat} {rs : List Fac}
theorem PlW.next (h : PlW w W s A n c rs) (hb : Below W.heap.size W W') : PlW w W' s A n c rs :=
  ⟨own_next h.q hb, h.s.next hb, h.o.next hb, h.g.next hb, h.e.trans (hb.mono h.e.size)⟩
theorem PlW.alloc (h : PlW w W s A n c rs) (o : Obj) : PlW w (W.alloc o) s A n c rs := h.next ((Below.refl _ _).alloc (Nat.le_refl _) _)
theorem PlW.push {A8 : Option Addr} {k8 c8 : Nat} {rs' : List Fac} (h : PlW w W s A n c rs) (hq : W'.ownsRow w.heap.size 69 3 (.slice A8 k8 c8) k8 (rs'.flatMap Fac.cells)) (hg : W.grownBy W' (Value.slice A n c).ownBlock) :
    PlW w (W'.setCell ⟨w.heap.size + 2, 0, none⟩ (.slice A8 k8 c8)) s A8 k8 c8 rs' := by
  have hs' := h.s.grown hg (own_blk_ne h.q h.s (by decide))
  have ho' := h.o.grown hg (own_blk_ne h.q h.o (by decide))
  have hg' := h.g.grown hg (own_blk_ne h.q h.g (by decide))
  have he' := h.e.grown hg h.e.size (own_ge h.q)
  have hg2 := gb_set W' (w.heap.size + 2) 0 (.slice A8 k8 c8)
  exact ⟨own_kept' hq hg' (by decide) _, hs'.grown hg2 (by intro e; injection e with e; omega), ho'.grown hg2 (by intro e; injection e with e; omega), hg'.set_ 0 _, he'.setCell (by simp) _⟩
end
end Go.Proofs.Ytecnkmndmnefdaa


/-
  The letters of a grammar replaced: the small functions.
-/
namespace Go.Proofs.Ytecnkmndmnefdaa
open Go.RowKit

set_option maxHeartbeats 1000000 in
theorem l02Raised_any (x : Fac) (by_ : Int) (w : World) (hx : x.l.size = 0 → 0 ≤ x.a ∧ x.a ≤ 1048576 ∧ 0 ≤ x.b ∧ x.b ≤ 1048576) (h0 : 0 ≤ by_) (h1 : by_ ≤ 1048576) :
    Calls Try.prog 97 #[x.val, .int .i64 by_] w (Ret (rsF by_ x).val w) := by
  unfold Fac.val
  by_cases h : x.l.size = 0
  · have Hy := Lib.hid (show rsF by_ x = ⟨x.l, x.a + by_, x.b + by_⟩ by unfold rsF; rw [if_pos h])
    have e0 := size0 h
    obtain ⟨q0, q1, q2, q3⟩ := hx h
    rw [Hy.out]
    clear hx h
    go_enter Try.func97, Try.ntmps97
    go_wp2_with fail
    refine bodyPost_ret (v := .agg #[.string x.l, .int .i64 (x.a + by_), .int .i64 (x.b + by_)]) (by simp [results, Try.results97, go_sem]) rfl ⟨rfl, ?_⟩
    (repeat first | exact Below.refl _ _ | assumption | refine Below.drew ?_ | refine Below.alloc ?_ (by first | exact Nat.le_refl _ | (simp; done) | omega | (simp; omega)) _ | refine Below.setCell ?_ (by first | exact Nat.le_refl _ | (simp; done) | omega | (simp; omega)) _)
  · have Hy := Lib.hid (show rsF by_ x = x by unfold rsF; rw [if_neg h])
    have e0 := size1 h
    have e1 := size1' h
    rw [Hy.out]
    clear hx h
    go_enter Try.func97, Try.ntmps97
    go_wp2_with fail
    refine bodyPost_ret (v := .agg #[.string x.l, .int .i64 x.a, .int .i64 x.b]) (by simp [results, Try.results97, go_sem]) rfl ⟨rfl, ?_⟩
    (repeat first | exact Below.refl _ _ | assumption | refine Below.drew ?_ | refine Below.alloc ?_ (by first | exact Nat.le_refl _ | (simp; done) | omega | (simp; omega)) _ | refine Below.setCell ?_ (by first | exact Nat.le_refl _ | (simp; done) | omega | (simp; omega)) _)
theorem ixR_ge (f : Fac) : ∀ (rs : List Fac) (i : Int), 0 ≤ i → decide (0 ≤ ixR f rs i) = decide (f ∈ rs)
  | [], i, _ => by simp [ixR]
  | x :: r, i, h => by
    unfold ixR
    by_cases hx : f = x
    · simp [hx, h]
    · rw [if_neg hx, ixR_ge f r (i + 1) (by omega)]; simp [hx]
end Go.Proofs.Ytecnkmndmnefdaa


/-
  slices.IndexFunc and slices.ContainsFunc over rules, by the contract of the function that they are handed.
-/
namespace Go.Proofs.Ytecnkmndmnefdaa
open Go.RowKit

def findI {α : Type} (p : α → Bool) : List α → Int → Int
  | [], _ => -1
  | x :: r, i => if p x = true then i else findI p r (i + 1)
theorem findI_any {α : Type} (p : α → Bool) : ∀ (xs : List α) (i : Int), 0 ≤ i → (decide (0 ≤ findI p xs i) = xs.any p)
  | [], i, _ => rfl
  | x :: r, i, h => by
    unfold findI
    by_cases hp : p x = true
    · rw [if_pos hp]; simp [hp, h]
    · rw [if_neg hp, findI_any p r (i + 1) (by omega)]; simp [hp]

end Go.Proofs.Ytecnkmndmnefdaa


/-
  Lists of numbers copied and compared.
-/
namespace Go.Proofs.Ytecnkmndmnefdaa
open Go.RowKit

theorem fill1 {α : Type} {enc : α → List Value} {cs : Array Value} {n k : Nat} {xs : List α} {x : α} {v : Value} (hs : cs.size = n * 1) (hk : k < n) (hx : xs[k]? = some x) (he : enc x = [v])
    (hc : ∀ i y, i < k → xs[i]? = some y → ∀ j, j < 1 → cs[i * 1 + j]? = (enc y)[j]?) :
    (cs.setIfInBounds k v).size = n * 1 ∧ ∀ i y, i < k + 1 → xs[i]? = some y → ∀ j, j < 1 → (cs.setIfInBounds k v)[i * 1 + j]? = (enc y)[j]? := by
  refine ⟨by simpa using hs, fun i y hi hy j hj => ?_⟩
  obtain rfl : j = 0 := by omega
  by_cases h : i = k
  · subst h
    obtain rfl : x = y := by rw [hx] at hy; exact Option.some.inj hy
    rw [he]
    have : i < cs.size := by omega
    simp [this]
  · rw [← hc i y (by omega) hy 0 hj]
    rw [Array.getElem?_setIfInBounds_ne (by omega)]

def eqInts : List Int → List Int → Bool
  | x :: r, y :: s => decide (x = y) && eqInts r s
  | _, _ => true
theorem eqInts_eq : ∀ (a b : List Int), a.length = b.length → eqInts a b = decide (a = b)
  | [], [], _ => rfl
  | x :: r, y :: s, h => by
    rw [eqInts, eqInts_eq r s (by simpa using h)]
    by_cases h1 : x = y <;> by_cases h2 : r = s <;> simp [h1, h2]
end Go.Proofs.Ytecnkmndmnefdaa


/-
  Equality of lists of texts, and whether marks are still there.
-/
namespace Go.Proofs.Ytecnkmndmnefdaa
open Go.RowKit

def eqStrs : List ByteArray → List ByteArray → Bool
  | x :: r, y :: s => decide (x = y) && eqStrs r s
  | _, _ => true
theorem eqStrs_eq : ∀ (a b : List ByteArray), a.length = b.length → eqStrs a b = decide (a = b)
  | [], [], _ => rfl
  | x :: r, y :: s, h => by
    rw [eqStrs, eqStrs_eq r s (by simpa using h)]
    by_cases h1 : x = y <;> by_cases h2 : r = s <;> simp [h1, h2]

end Go.Proofs.Ytecnkmndmnefdaa


/-
  slices.IndexFunc and slices.ContainsFunc over texts; lists of texts measured and copied.
-/
namespace Go.Proofs.Ytecnkmndmnefdaa
open Go.RowKit

theorem info_str : (Try.prog.info? 9).map (fun i => (i.zero, i.size, i.bytes)) = some (some (.string .empty), 1, 16) := by kernel_rfl
/-- the rest of the measure of texts -/
def szStrs : Int → List ByteArray → Int
  | left, [] => left
  | left, s :: r => if left - s.size < 0 then -1 else szStrs (left - s.size) r
def szStrAll (left : Int) (ss : List ByteArray) : Int := if left < ss.length then -1 else szStrs (left - ss.length) ss
theorem szStrs_le : ∀ (ss : List ByteArray) (left : Int), 0 ≤ szStrs left ss → szStrs left ss ≤ left ∧ ∀ s ∈ ss, (s.size : Int) ≤ left
  | [], left, h => ⟨Int.le_refl _, by simp⟩
  | s :: r, left, h => by
    unfold szStrs at h ⊢
    split
    · rename_i h1; rw [if_pos h1] at h; omega
    · rename_i h1
      rw [if_neg h1] at h
      have ⟨h2, h3⟩ := szStrs_le r _ h
      refine ⟨by omega, fun x hx => ?_⟩
      rcases List.mem_cons.1 hx with rfl | hx
      · omega
      · have := h3 x hx; omega
theorem szStrAll_le {left : Int} {ss : List ByteArray} (h : 0 ≤ szStrAll left ss) : szStrAll left ss ≤ left ∧ (ss.length : Int) ≤ left ∧ ∀ s ∈ ss, (s.size : Int) ≤ left := by
  unfold szStrAll at h ⊢
  split
  · rename_i h1; rw [if_pos h1] at h; omega
  · rename_i h1
    rw [if_neg h1] at h
    have ⟨h2, h3⟩ := szStrs_le ss _ h
    exact ⟨by omega, by omega, fun s hs => by have := h3 s hs; omega⟩
end Go.Proofs.Ytecnkmndmnefdaa


/-
  The letters of a grammar replaced, in the program.
-/
namespace Go.Proofs.Ytecnkmndmnefdaa
open Go.RowKit

theorem trR_sz (at_ : List Int) {r : Fac} (h : r.l.size ≤ 1) : (trR at_ r).l.size ≤ 1 := by
  unfold trR
  split
  · show 0 ≤ 1; omega
  · exact h
theorem outT_sz (used : List Bool) : ∀ (ks : List Fac) (i : Nat) (out : List Fac) (at_ : List Int), (∀ f ∈ ks, f.l.size ≤ 1) → (∀ f ∈ out, f.l.size ≤ 1) → ∀ f ∈ outT used i ks out at_, f.l.size ≤ 1
  | [], i, out, at_, _, ho => ho
  | r :: ks, i, out, at_, hk, ho => by
    rw [outT]
    have hr := hk r (by simp)
    have hk' : ∀ f ∈ ks, f.l.size ≤ 1 := fun f hf => hk f (by simp [hf])
    split
    · refine outT_sz used ks _ _ _ hk' fun f hf => ?_
      rcases List.mem_append.1 hf with h | h
      · exact ho f h
      · obtain rfl : f = trR at_ r := by simpa using h
        exact trR_sz _ hr
    · exact outT_sz used ks _ _ _ hk' ho
theorem trimL_sz {rs : List Fac} (hwf : WF rs) : ∀ f ∈ trimL rs, f.l.size ≤ 1 := by
  unfold trimL
  split
  · simp
  · refine outT_sz _ _ _ _ _ (fun f hf => ?_) (by simp)
    obtain ⟨j, hj⟩ := List.mem_iff_getElem?.1 hf
    have := (trK_I hwf 0 [] [] TrI.nil rfl (by omega)).1.k j f (by simpa using hj)
    rcases this with ⟨h0, _⟩ | ⟨c, _, hl, _⟩
    · omega
    · rw [hl]; show 1 ≤ 1; omega
theorem trK_len' : ∀ (rs kept : List Fac) (same : List Int), (trK rs kept same).1.length = kept.length + rs.length
  | [], kept, same => by simp [trK]
  | r :: rs, kept, same => by
    rw [trK, trK_len' rs]; simp; omega
theorem trimL_le (rs : List Fac) : (trimL rs).length ≤ rs.length := by
  unfold trimL
  split
  · simp
  · have h1 := outT_len (useT (trK rs [] []).1 rs.length (use0 rs.length (trK rs [] []).2)) (trK rs [] []).1 0 [] (List.replicate rs.length 0)
    have h2 := trK_len' rs [] []
    simp only [List.length_nil, Nat.zero_add] at h1 h2
    omega
theorem rd_take {α : Type} {w : World} {B n sz : Nat} {A : Option Addr} {enc : α → List Value} {xs : List α} (h : Rd w B A n sz enc xs) {k : Nat} (hk : k ≤ n) : Rd w B A k sz enc (xs.take k) := by
  refine ⟨by rw [List.length_take, h.1]; omega, fun hp => ?_⟩
  obtain ⟨b, o, hA, hb, hc⟩ := h.2 (by omega)
  refine ⟨b, o, hA, hb, fun i x hx j v hv => hc i x ?_ j v hv⟩
  rw [List.getElem?_take] at hx
  split at hx
  · exact hx
  · cases hx
/-- 'MapLetters' under way -/
structure MpW (w W : World) (G S : Nat) (ga gv : Value) (A : Option Addr) (n c : Nat) (out : List Fac) (st : List Int) : Prop where
  q : W.ownsRow w.heap.size 69 3 (.slice A n c) n (out.flatMap Fac.cells)
  i : Blk W w.heap.size 26 #[ga]
  o : Blk W (w.heap.size + 1) 26 #[.slice none 0 0]
  g : Blk W G 26 #[gv]
  s : Blk W S 87 (intA st)
  e : Below w.heap.size w W
  n0 : w.heap.size + 1 < G
  n1 : w.heap.size ≤ S
section
variable {w W W' : World} {G S : Nat} {ga gv : Value} {A : Option Addr} {n c : Nat} {out : List Fac} {st : List Int}
theorem MpW.next (h : MpW w W G S ga gv A n c out st) (hb : Below W.heap.size W W') : MpW w W' G S ga gv A n c out st :=
  ⟨own_next h.q hb, h.i.next hb, h.o.next hb, h.g.next hb, h.s.next hb, h.e.trans (hb.mono h.e.size), h.n0, h.n1⟩
theorem MpW.alloc (h : MpW w W G S ga gv A n c out st) (o : Obj) : MpW w (W.alloc o) G S ga gv A n c out st := h.next ((Below.refl _ _).alloc (Nat.le_refl _) _)
theorem MpW.drew (h : MpW w W G S ga gv A n c out st) : MpW w W.drew G S ga gv A n c out st := h.next (Below.refl _ _).drew
/-- behind an append -/
theorem MpW.app {A8 : Option Addr} {k8 c8 : Nat} {out' : List Fac} (h : MpW w W G S ga gv A n c out st) (hq : W'.ownsRow w.heap.size 69 3 (.slice A8 k8 c8) k8 (out'.flatMap Fac.cells)) (hg : W.grownBy W' (Value.slice A n c).ownBlock) :
    MpW w W' G S ga gv A8 k8 c8 out' st :=
  ⟨hq, h.i.grown hg (own_blk_ne h.q h.i (by decide)), h.o.grown hg (own_blk_ne h.q h.o (by decide)), h.g.grown hg (own_blk_ne h.q h.g (by decide)), h.s.grown hg (own_blk_ne h.q h.s (by decide)), h.e.grown hg h.e.size (own_ge h.q), h.n0, h.n1⟩
/-- the new slice told -/
theorem MpW.put (h : MpW w W G S ga gv A n c out st) (u : Value) : MpW w (W.setCell ⟨G, 0, none⟩ u) G S ga u A n c out st := by
  have hg2 := gb_set W G 0 u
  have h0 := h.n0
  have hs : some S ≠ some G := fun e => by
    injection e with e
    have h1 := h.s; have h2 := h.g
    rw [e] at h1
    unfold Blk at h1 h2
    rw [h1] at h2
    injection h2 with h2; injection h2 with _ h2; exact absurd h2 (by decide)
  exact ⟨own_kept' h.q h.g (by decide) _, h.i.grown hg2 (by intro e; injection e with e; omega), h.o.grown hg2 (by intro e; injection e with e; omega), h.g.set_ 0 _, h.s.grown hg2 hs, h.e.setCell (by show w.heap.size ≤ G; omega) _, h.n0, h.n1⟩
/-- behind what writes a row of numbers -/
theorem MpW.far {v : Value} {k : Nat} {xs : List Value} (h : MpW w W G S ga gv A n c out st) (ho : W.ownsRow w.heap.size 2 1 v k xs) (hg : W.grownBy W' v.ownBlock) : MpW w W' G S ga gv A n c out st :=
  ⟨h.q.kept hg (own_ne h.q ho (by decide)), h.i.grown hg (own_blk_ne ho h.i (by decide)), h.o.grown hg (own_blk_ne ho h.o (by decide)), h.g.grown hg (own_blk_ne ho h.g (by decide)), h.s.grown hg (own_blk_ne ho h.s (by decide)), h.e.grown hg h.e.size (own_ge ho), h.n0, h.n1⟩
/-- a number told -/
theorem MpW.tell (h : MpW w W G S ga gv A n c out st) (i : Nat) (z : Int) : MpW w (W.setCell ⟨S, i, none⟩ (.int .i64 z)) G S ga gv A n c out (st.set i z) := by
  have hg2 := gb_set W S i (.int .i64 z)
  have nt : ∀ {g : Nat} {cs : Array Value}, Blk W g 26 cs → some g ≠ some S := fun hB e => by
    injection e with e; subst e
    have := hB.symm.trans h.s
    injection this with this; injection this with _ this; exact absurd this (by decide)
  have := h.s.set_ i (.int .i64 z)
  rw [intA_set] at this
  exact ⟨own_kept' h.q h.s (by decide) _, h.i.grown hg2 (nt h.i), h.o.grown hg2 (nt h.o), h.g.grown hg2 (nt h.g), this, h.e.setCell h.n1 _, h.n0, h.n1⟩
end
theorem getD_of {α : Type} {xs : List α} {k : Nat} {x d : α} (h : xs[k]? = some x) : xs.getD k d = x := by rw [List.getD_eq_getElem?_getD, h]; rfl
theorem mlGo_take (rs : List Fac) : ∀ (ws : List ByteArray) (w : ByteArray) (k : Nat) (s : List Fac × List Int), mlGo rs k (ws ++ [w]) s = mlStep rs (k + ws.length) w (mlGo rs k ws s)
  | [], _, _, _ => rfl
  | x :: ws, w, k, s => by
    show mlGo rs (k + 1) (ws ++ [w]) (mlStep rs k x s) = _
    rw [mlGo_take rs ws w (k + 1)]
    simp only [List.length_cons]
    rw [show k + 1 + ws.length = k + (ws.length + 1) by omega]; rfl
end Go.Proofs.Ytecnkmndmnefdaa


/-
  All places of a word at which another one begins, in the reference.
-/
namespace Go.Proofs.Ytecnkmndmnefdaa
open Go.RowKit

/-- the places before one at which a word begins -/
def fndT (p s : ByteArray) (k : Nat) : List Int := ((List.range k).filter (fun i => decide (s.extract i (i + p.size) = p))).map (fun (i : Nat) => (i : Int))
def fndL (p s : ByteArray) : List Int := fndT p s (s.size + 1 - p.size)
theorem fndT_yes {p s : ByteArray} {k : Nat} (h : s.extract k (k + p.size) = p) : fndT p s (k + 1) = fndT p s k ++ [(k : Int)] := by
  simp [fndT, List.range_succ, h]
theorem fndT_no {p s : ByteArray} {k : Nat} (h : ¬ s.extract k (k + p.size) = p) : fndT p s (k + 1) = fndT p s k := by
  simp [fndT, List.range_succ, h]
theorem fndT_len (p s : ByteArray) (k : Nat) : (fndT p s k).length ≤ k := by
  unfold fndT
  rw [List.length_map]
  exact Nat.le_trans (List.length_filter_le _ _) (by simp)
end Go.Proofs.Ytecnkmndmnefdaa


/-
  The grammar of a plain word in the reference.
-/
namespace Go.Proofs.Ytecnkmndmnefdaa
open Go.RowKit

theorem fnd_one (u : UInt8) (s : ByteArray) : 0 < (fndL ⟨#[u]⟩ s).length ↔ u ∈ s.data.toList := by
  unfold fndL fndT
  rw [List.length_map, List.length_pos_iff_exists_mem]
  constructor
  · rintro ⟨i, hi⟩
    rw [List.mem_filter] at hi
    have h1 : i < s.size := by have := List.mem_range.1 hi.1; have : (⟨#[u]⟩ : ByteArray).size = 1 := rfl; omega
    have h2 : s.extract i (i + 1) = ⟨#[u]⟩ := of_decide_eq_true hi.2
    have h3 : (s.extract i (i + 1)).data.toList = [u] := by rw [h2]
    rw [ByteArray.data_extract, Array.toList_extract, List.extract_eq_take_drop, drop_cons (at_byte s i h1)] at h3
    simp only [Nat.add_sub_cancel_left, List.take_succ_cons, List.take_zero] at h3
    injection h3 with h4
    rw [← h4]; exact List.mem_of_getElem? (at_byte s i h1)
  · intro h
    obtain ⟨i, hi, he⟩ := List.mem_iff_getElem.1 h
    have hi' : i < s.size := by rw [byte_len] at hi; exact hi
    refine ⟨i, List.mem_filter.2 ⟨List.mem_range.2 ?_, decide_eq_true ?_⟩⟩
    · show i < s.size + 1 - 1; omega
    · show s.extract i (i + 1) = _
      apply ByteArray.ext
      rw [ByteArray.data_extract]
      apply Array.ext'
      rw [Array.toList_extract, List.extract_eq_take_drop, drop_cons (at_byte s i hi')]
      simp only [Nat.add_sub_cancel_left, List.take_succ_cons, List.take_zero]
      congr 1
theorem idx_ks (w : List UInt8) (u : UInt8) (h : letB u = true) (hm : u ∈ w) : (ksP w).idxOf u = (ksT w u.toNat).length := by
  have h : (97 : Int) ≤ u.toNat ∧ (u.toNat : Int) ≤ 100 := by simpa [letB] using h
  have h4 : u = 97 ∨ u = 98 ∨ u = 99 ∨ u = 100 := by
    simp only [← UInt8.toNat_inj]
    have : u.toNat = 97 ∨ u.toNat = 98 ∨ u.toNat = 99 ∨ u.toNat = 100 := by omega
    exact this
  unfold ksT ksP
  rcases h4 with rfl | rfl | rfl | rfl
  all_goals
    by_cases h1 : (97 : UInt8) ∈ w <;> by_cases h2 : (98 : UInt8) ∈ w <;> by_cases h3 : (99 : UInt8) ∈ w <;> by_cases h4 : (100 : UInt8) ∈ w <;> simp_all [List.idxOf_cons]

/-- 'l02Plain' under way -/
structure PsW (w W : World) (A : Option Addr) (n c : Nat) (rs : List Fac) (at_ : List Int) : Prop where
  q : W.ownsRow w.heap.size 69 3 (.slice A n c) n (rs.flatMap Fac.cells)
  o : Blk W w.heap.size 26 #[.slice none 0 0]
  g : Blk W (w.heap.size + 1) 26 #[.slice A n c]
  v : Blk W (w.heap.size + 2) 2 (intA at_)
  e : Below w.heap.size w W
section
variable {w W W' : World} {A : Option Addr} {n c : Nat} {rs : List Fac} {at_ : List Int}
theorem PsW.next (h : PsW w W A n c rs at_) (hb : Below W.heap.size W W') : PsW w W' A n c rs at_ :=
  ⟨own_next h.q hb, h.o.next hb, h.g.next hb, h.v.next hb, h.e.trans (hb.mono h.e.size)⟩
theorem PsW.alloc (h : PsW w W A n c rs at_) (o : Obj) : PsW w (W.alloc o) A n c rs at_ := h.next ((Below.refl _ _).alloc (Nat.le_refl _) _)
theorem PsW.push {A8 : Option Addr} {k8 c8 : Nat} {rs' : List Fac} (h : PsW w W A n c rs at_) (hq : W'.ownsRow w.heap.size 69 3 (.slice A8 k8 c8) k8 (rs'.flatMap Fac.cells)) (hg : W.grownBy W' (Value.slice A n c).ownBlock) :
    PsW w (W'.setCell ⟨w.heap.size + 1, 0, none⟩ (.slice A8 k8 c8)) A8 k8 c8 rs' at_ := by
  have ho' := h.o.grown hg (own_blk_ne h.q h.o (by decide))
  have hg' := h.g.grown hg (own_blk_ne h.q h.g (by decide))
  have hv' := h.v.grown hg (own_blk_ne h.q h.v (by decide))
  have he' := h.e.grown hg h.e.size (own_ge h.q)
  have hg2 := gb_set W' (w.heap.size + 1) 0 (.slice A8 k8 c8)
  exact ⟨own_kept' hq hg' (by decide) _, ho'.grown hg2 (by intro e; injection e with e; omega), hg'.set_ 0 _, hv'.grown hg2 (by intro e; injection e with e; omega), he'.setCell (by simp) _⟩
theorem PsW.tell (h : PsW w W A n c rs at_) (i : Nat) (z : Int) : PsW w (W.setCell ⟨w.heap.size + 2, i, none⟩ (.int .i64 z)) A n c rs (at_.set i z) := by
  have hg2 := gb_set W (w.heap.size + 2) i (.int .i64 z)
  have := h.v.set_ i (.int .i64 z)
  rw [intA_set] at this
  exact ⟨own_kept' h.q h.v (by decide) _, h.o.grown hg2 (by intro e; injection e with e; omega), h.g.grown hg2 (by intro e; injection e with e; omega), this, h.e.setCell (by simp) _⟩
end
end Go.Proofs.Ytecnkmndmnefdaa


/-
  The letters of a grammar replaced, in the reference.
-/
namespace Go.Proofs.Ytecnkmndmnefdaa
open Go.RowKit

section
variable {α : Type} {P : Program} {w : World} {ops : Array Oper} {o : Oper} {a : Act} {K : Act → World → Prop} {Q : Exit → Act → World → Prop} {E : Prop}
/-- one element more, as a step of a region that draws its order; where the row lies then -/
theorem step_pushH (hgd : o.guard = none) (s x : Operand) (t : TypeId) (ho : o.op = .call { callee := .builtin .append, args := #[s, x], argTypes := #[t, t] })
    (base : Nat) (e : TypeId) (sz bytes : Nat) (EI : Elem P t e sz bytes) (enc : α → List Value) (A : Option Addr) (n c : Nat) (xs : List α) (hs : a.eval s = .slice A n c)
    (hown : w.ownsRow base e sz (.slice A n c) n (xs.flatMap enc)) (g : Nat) (y : α) (cs : Array Value) (t' : TypeId) (fr : Nat × Nat) (hx : a.eval x = .slice (some ⟨g, 0, none⟩) 1 1) (hg : w.heap[g]? = some (.cells cs t' fr)) (hcs : cs.toList = enc y)
    (hlen : (enc y).length = sz) (hone : ∀ u ∈ enc y, u.oneCell' = true) (hsz : 0 < sz) (hbytes : (n + 1) * bytes ≤ 140737488355328) (hm : n + 1 ≤ maxLen) (hsize : base ≤ w.heap.size)
    (h : ∀ A' c' w', w'.ownsRow base e sz (.slice A' (n + 1) c') (n + 1) ((xs ++ [y]).flatMap enc) → w.grownBy w' (Value.slice A n c).ownBlock →
      ((Value.slice A' (n + 1) c').ownBlock = (Value.slice A n c).ownBlock ∨ (Value.slice A' (n + 1) c').ownBlock = some w.heap.size) →
      K (a.put o.dst (.slice A' (n + 1) c')) w') : if Region.wanted o (yielded ops a.tmps) = true then Oper.wp P o a w K Q else E := by
  obtain ⟨ht, i, z, hi, hz, h1, h2, hzs⟩ := EI
  have hnews : ∀ j u, (enc y)[j]? = some u → w.cell? ((⟨g, 0, none⟩ : Addr).add j) = some u := by rw [← hcs]; exact World.news_of_block hg
  obtain ⟨v', w', hr, r2, r3, _, r5⟩ := run_append_own_at (P := P) w base t o.type e i z sz bytes ht hi hz h1 h2 hzs hsz _ n _ hown ⟨g, 0, none⟩ 1 1 (enc y) (by rw [hlen]; omega) hnews hone hm hbytes hsize
  obtain ⟨g', cap, rfl, _, _⟩ := r2.form (by omega)
  have hw : Region.wanted o (yielded ops a.tmps) = true := by simp [Region.wanted, hgd]
  rw [if_pos hw]
  unfold Oper.wp execOp
  simp only [ho, resolve, invoke, builtin, Sem.run_bind, Sem.run_pure, Result.andThen_ok, List.map_toArray, List.map_cons, List.map_nil, hs, hx, hr]
  exact h _ _ w' (by rw [List.flatMap_append]; simpa using r2) r3 r5
end
/-- 'MapLetters' of the reference under way -/
structure MsW (w W : World) (G S : Nat) (ga gv : Value) (A : Option Addr) (n c : Nat) (out : List Fac) (st : List Int) : Prop where
  q : W.ownsRow w.heap.size 69 3 (.slice A n c) n (out.flatMap Fac.cells)
  i : Blk W w.heap.size 26 #[ga]
  o : Blk W (w.heap.size + 1) 26 #[.slice none 0 0]
  g : Blk W G 26 #[gv]
  s : Blk W S 2 (intA st)
  e : Below w.heap.size w W
  n0 : w.heap.size + 1 < G
  n1 : w.heap.size ≤ S
section
variable {w W W' : World} {G S : Nat} {ga gv : Value} {A : Option Addr} {n c : Nat} {out : List Fac} {st : List Int}
theorem MsW.next (h : MsW w W G S ga gv A n c out st) (hb : Below W.heap.size W W') : MsW w W' G S ga gv A n c out st :=
  ⟨own_next h.q hb, h.i.next hb, h.o.next hb, h.g.next hb, h.s.next hb, h.e.trans (hb.mono h.e.size), h.n0, h.n1⟩
theorem MsW.alloc (h : MsW w W G S ga gv A n c out st) (o : Obj) : MsW w (W.alloc o) G S ga gv A n c out st := h.next ((Below.refl _ _).alloc (Nat.le_refl _) _)
theorem MsW.drew (h : MsW w W G S ga gv A n c out st) : MsW w W.drew G S ga gv A n c out st := h.next (Below.refl _ _).drew
theorem MsW.app {A8 : Option Addr} {k8 c8 : Nat} {out' : List Fac} (h : MsW w W G S ga gv A n c out st) (hq : W'.ownsRow w.heap.size 69 3 (.slice A8 k8 c8) k8 (out'.flatMap Fac.cells)) (hg : W.grownBy W' (Value.slice A n c).ownBlock) :
    MsW w W' G S ga gv A8 k8 c8 out' st :=
  ⟨hq, h.i.grown hg (own_blk_ne h.q h.i (by decide)), h.o.grown hg (own_blk_ne h.q h.o (by decide)), h.g.grown hg (own_blk_ne h.q h.g (by decide)), h.s.grown hg (own_blk_ne h.q h.s (by decide)), h.e.grown hg h.e.size (own_ge h.q), h.n0, h.n1⟩
theorem MsW.put (h : MsW w W G S ga gv A n c out st) (u : Value) : MsW w (W.setCell ⟨G, 0, none⟩ u) G S ga u A n c out st := by
  have hg2 := gb_set W G 0 u
  have h0 := h.n0
  have hs : some S ≠ some G := fun e => by
    injection e with e
    have h1 := h.s; have h2 := h.g
    rw [e] at h1
    unfold Blk at h1 h2
    rw [h1] at h2
    injection h2 with h2; injection h2 with _ h2; exact absurd h2 (by decide)
  exact ⟨own_kept' h.q h.g (by decide) _, h.i.grown hg2 (by intro e; injection e with e; omega), h.o.grown hg2 (by intro e; injection e with e; omega), h.g.set_ 0 _, h.s.grown hg2 hs, h.e.setCell (by show w.heap.size ≤ G; omega) _, h.n0, h.n1⟩
/-- behind what writes a row of numbers made later -/
theorem MsW.far {v : Value} {k b : Nat} {xs : List Value} (h : MsW w W G S ga gv A n c out st) (ho : W.ownsRow b 2 1 v k xs) (hb : S < b) (hg : W.grownBy W' v.ownBlock) : MsW w W' G S ga gv A n c out st :=
  ⟨h.q.kept hg (own_ne h.q ho (by decide)), h.i.grown hg (own_blk_ne ho h.i (by decide)), h.o.grown hg (own_blk_ne ho h.o (by decide)), h.g.grown hg (own_blk_ne ho h.g (by decide)), h.s.grown hg (fun e => by have := own_ge ho S e.symm; omega), h.e.grown hg h.e.size (fun q hq => by have := own_ge ho q hq; have := h.n1; omega), h.n0, h.n1⟩
theorem MsW.tell (h : MsW w W G S ga gv A n c out st) (i : Nat) (z : Int) : MsW w (W.setCell ⟨S, i, none⟩ (.int .i64 z)) G S ga gv A n c out (st.set i z) := by
  have hg2 := gb_set W S i (.int .i64 z)
  have nt : ∀ {g : Nat} {cs : Array Value}, Blk W g 26 cs → some g ≠ some S := fun hB e => by
    injection e with e; subst e
    have := hB.symm.trans h.s
    injection this with this; injection this with _ this; exact absurd this (by decide)
  have := h.s.set_ i (.int .i64 z)
  rw [intA_set] at this
  exact ⟨own_kept' h.q h.s (by decide) _, h.i.grown hg2 (nt h.i), h.o.grown hg2 (nt h.o), h.g.grown hg2 (nt h.g), this, h.e.setCell h.n1 _, h.n0, h.n1⟩
end
theorem usedL_take {rs : List Fac} {k : Nat} {x : Fac} (h : rs[k]? = some x) (u : UInt8) : usedL (rs.take (k + 1)) u = (usedL (rs.take k) u || decide (x.l = ⟨#[u]⟩)) := by
  rw [take_succ_at h]; simp [usedL]
theorem raise_take {rs : List Fac} {k : Nat} {x : Fac} (h : rs[k]? = some x) (b : Int) : raiseL b (rs.take (k + 1)) = raiseL b (rs.take k) ++ [rsF b x] := by
  rw [take_succ_at h]; simp [raiseL]
end Go.Proofs.Ytecnkmndmnefdaa


/-
  The join of two grammars in the reference.
-/
namespace Go.Proofs.Ytecnkmndmnefdaa
open Go.RowKit

set_option maxHeartbeats 4000000 in
set_option maxRecDepth 100000 in
theorem l02Join_any (gb hb : Nat) (A : Option Addr) (n c : Nat) (gs : List Fac) (Ah : Option Addr) (m ch : Nat) (hs : List Fac) (w : World) (hgb : gb < w.heap.size) (hgc : w.cell? ⟨gb, 0, none⟩ = some (.slice A n c)) (hhb : hb < w.heap.size) (hhc : w.cell? ⟨hb, 0, none⟩ = some (.slice Ah m ch))
    (hn0 : 0 < n) (hn : n ≤ 400) (hm0 : 0 < m) (hm : m ≤ 400) (hr : Rd w w.heap.size A n 3 Fac.cells gs) (hr2 : Rd w w.heap.size Ah m 3 Fac.cells hs) (hwf : WF hs) :
    Calls Try.prog 93 #[.pointer (some ⟨gb, 0, none⟩), .pointer (some ⟨hb, 0, none⟩)] w (RetG w (joinL gs hs)) := by
  have HL := Lib.hid hr.len
  have HM := Lib.hid hr2.len
  have HR := Lib.hid hr; clear hr
  have H2 := Lib.hid hr2; clear hr2
  have HW := Lib.hid hwf; clear hwf
  have HJ := Lib.hid (show joinL gs hs = (gs ++ raiseL gs.length hs) ++ [⟨⟨#[]⟩, (gs.length : Int) - 1, (gs.length : Int) + hs.length - 1⟩] by unfold joinL; rw [if_neg (by rw [HL.out]; omega), if_neg (by rw [HM.out]; omega)])
  have HC := Lib.hid (fun (W : World) (h : Below w.heap.size w W) => show W.cell? ⟨gb, 0, none⟩ = some (.slice A n c) ∧ W.cell? ⟨hb, 0, none⟩ = some (.slice Ah m ch) ∧ gb < W.heap.size ∧ hb < W.heap.size from ⟨(h.cell (p := ⟨gb, 0, none⟩) hgb).trans hgc, (h.cell (p := ⟨hb, 0, none⟩) hhb).trans hhc, by have := h.size; omega, by have := h.size; omega⟩)
  have n1 : ((n : Int) == 0) = false := by simp; omega
  have m1 : ((m : Int) == 0) = false := by simp; omega
  rw [HL.out, HM.out] at HJ
  go_enter Try.func93, Try.ntmps93
  have b1 : Below w.heap.size w (w.alloc (.cells #[.slice none 0 0] 26)) := by (repeat first | exact Below.refl _ _ | assumption | refine Below.drew ?_ | refine Below.alloc ?_ (by first | exact Nat.le_refl _ | (simp; done) | omega | (simp; omega)) _ | refine Below.setCell ?_ (by first | exact Nat.le_refl _ | (simp; done) | omega | (simp; omega)) _)
  have B1 := Lib.hid (Blk.new w 26 #[.slice none 0 0])
  obtain ⟨q0, q1, q2, q3⟩ := HC.out _ b1
  clear hgc hhc
  go_wp2_with fail
  refine (l02Own_any gb A n c gs _ q2 q0 (by omega) hn0 (HR.out.next b1)).mono ?_
  rintro e w4 ⟨A4, c4, rfl, own4, hb4⟩
  rw [HL.out] at own4 ⊢
  have b4 := Lib.hid (b1.trans (hb4.mono b1.size))
  have O4 := Lib.hid (own4.mono b1.size)
  have B4 := Lib.hid (B1.out.next hb4)
  clear own4 hb4 q0 q1 q2 q3 b1
  have P5 := Lib.hid (show PwW w (w4.alloc (.cells #[.slice A4 n c4] 26)) w.heap.size w4.heap.size A4 n c4 gs from
    ⟨O4.out.alloc _, B4.out.alloc _, Blk.new _ _ _, b4.out.alloc b4.out.size _, Nat.le_refl _, B4.out.lt⟩)
  obtain ⟨q0, q1, q2, q3⟩ := HC.out _ P5.out.e
  have b4 := b4.out
  obtain ⟨p0, p1, p2, p3⟩ := HC.out _ b4
  go_wp2_with fail
  clear q0 q1 q2 q3 p0 p1 p2 p3 B1 B4 O4 b4
  generalize w4.heap.size = G at *
  go_loopw [7] (fun j_ w' => ∃ (j : Nat) (A1 : Option Addr) (n1 c1 : Nat) (cur : List Fac), j_ = .int .i64 j ∧ j ≤ m ∧ Hid (n1 = n + j) ∧ Hid (gs ++ raiseL n (hs.take j) = cur) ∧ Hid (cur.length = n1) ∧ Hid (PwW w w' w.heap.size G A1 n1 c1 cur)) (fun j_ _ => m - (intOf j_).toNat)
  case atStart => exact ⟨0, A4, n, c4, gs, rfl, by omega, Lib.hid rfl, Lib.hid (by simp [raiseL]), HL, P5⟩
  case round =>
    obtain ⟨j, A1, n1, c1, cur, rfl, hj, hn1, hcur, hcl, P⟩ := hrel
    clear P5
    have n1b : n1 ≤ 800 := by have := hn1.out; omega
    obtain ⟨q0, q1, q2, q3⟩ := HC.out _ P.out.e
    by_cases hlt : j < m
    · obtain ⟨bh, oh, y, hAh, hBr, hy, c0, c1', c2'⟩ := H2.out.fac hlt
      subst hAh
      have hyw := HW.out j y hy
      have Hrt := Lib.hid (raise_take hy (n : Int))
      have LC := Lib.hid (fun W => l02Raised_any y (n : Int) W (fun h0 => by
        rcases hyw with ⟨_, a0, a1, b0, b1⟩ | ⟨cc, _, hxl, _⟩
        · exact ⟨a0, by omega, b0, by omega⟩
        · rw [hxl] at h0; exact absurd h0 (show ¬ (1 : Nat) = 0 by omega)) (by omega) (by omega))
      have j0 : (0 : Int) ≤ (j : Int) := by omega
      have j1 : (j : Int) < (m : Int) := by omega
      obtain ⟨z, hz⟩ : ∃ z, rsF (n : Int) y = z := ⟨_, rfl⟩
      rw [hz] at LC Hrt
      have HS2 := Lib.hid (fun (W : World) (M : Blk W G 26 #[.slice A1 n1 c1]) (he : Below w.heap.size w W) =>
        show W.cell? ⟨G, 0, none⟩ = some (.slice A1 n1 c1) ∧ W.cell? ⟨hb, 0, none⟩ = some (.slice (some ⟨bh, oh, none⟩) m ch) ∧ W.cell? ⟨bh, oh + j * 3, none⟩ = some (.string y.l) ∧ W.cell? ⟨bh, oh + j * 3 + 1, none⟩ = some (.int .i64 y.a) ∧ W.cell? ⟨bh, oh + j * 3 + 2, none⟩ = some (.int .i64 y.b) from
        ⟨M.cell 0, (HC.out W he).2.1, (he.cell (p := ⟨bh, oh + j * 3, none⟩) hBr).trans c0, (he.cell (p := ⟨bh, oh + j * 3 + 1, none⟩) hBr).trans c1', (he.cell (p := ⟨bh, oh + j * 3 + 2, none⟩) hBr).trans c2'⟩)
      have hS0 := HS2.out wr.drew P.out.drew.x P.out.drew.e
      clear hy hyw hz c0 c1' c2'
      go_wp2_with fail
      clear q0 q1 q2 q3
      refine wp_region_N (fun W => W.cell? ⟨G, 0, none⟩ = some (.slice A1 n1 c1) ∧ W.cell? ⟨hb, 0, none⟩ = some (.slice (some ⟨bh, oh, none⟩) m ch) ∧ W.cell? ⟨bh, oh + j * 3, none⟩ = some (.string y.l) ∧ W.cell? ⟨bh, oh + j * 3 + 1, none⟩ = some (.int .i64 y.a) ∧ W.cell? ⟨bh, oh + j * 3 + 2, none⟩ = some (.int .i64 y.b)) [14] (by kernel_rfl) ?_
      refine wpAnyN_take (i := 0) (v := ?_) rfl (by kernel_rfl) (fun _ _ _ h => h) (by rfl) (fun W hW => ?_) hS0 ?_
      rotate_left
      · obtain ⟨z0, z1, z2, z3, z4⟩ := hW
        go_simp
        try with_reducible rfl
      try simp only [List.getElem_toArray, List.getElem_cons_zero, List.getElem_cons_succ, Act.put, List.setIfInBounds_toArray, List.set_cons_zero, List.set_cons_succ]
      refine wpAnyN_take (i := 1) (v := ?_) rfl (by kernel_rfl) (fun _ _ _ h => h) (by rfl) (fun W hW => ?_) hS0 ?_
      rotate_left
      · obtain ⟨z0, z1, z2, z3, z4⟩ := hW
        go_simp
        try with_reducible rfl
      try simp only [List.getElem_toArray, List.getElem_cons_zero, List.getElem_cons_succ, Act.put, List.setIfInBounds_toArray, List.set_cons_zero, List.set_cons_succ]
      refine wpAnyN_take (i := 2) (v := ?_) rfl (by kernel_rfl) (fun _ _ _ h => h) (by rfl) (fun W hW => ?_) hS0 ?_
      rotate_left
      · obtain ⟨z0, z1, z2, z3, z4⟩ := hW
        go_simp
        try with_reducible rfl
      try simp only [List.getElem_toArray, List.getElem_cons_zero, List.getElem_cons_succ, Act.put, List.setIfInBounds_toArray, List.set_cons_zero, List.set_cons_succ]
      refine wpAnyN_take (i := 3) (v := ?_) rfl (by kernel_rfl) (fun _ _ _ h => h) (by rfl) (fun W hW => ?_) hS0 ?_
      rotate_left
      · obtain ⟨z0, z1, z2, z3, z4⟩ := hW
        go_simp
        try with_reducible rfl
      try simp only [List.getElem_toArray, List.getElem_cons_zero, List.getElem_cons_succ, Act.put, List.setIfInBounds_toArray, List.set_cons_zero, List.set_cons_succ]
      refine wpAnyN_take (i := 4) (v := ?_) rfl (by kernel_rfl) (fun _ _ _ h => h) (by rfl) (fun W hW => ?_) hS0 ?_
      rotate_left
      · obtain ⟨z0, z1, z2, z3, z4⟩ := hW
        go_simp
        try with_reducible rfl
      try simp only [List.getElem_toArray, List.getElem_cons_zero, List.getElem_cons_succ, Act.put, List.setIfInBounds_toArray, List.set_cons_zero, List.set_cons_succ]
      refine wpAnyN_take (i := 5) (v := ?_) rfl (by kernel_rfl) (fun _ _ _ h => h) (by rfl) (fun W hW => ?_) hS0 ?_
      rotate_left
      · obtain ⟨z0, z1, z2, z3, z4⟩ := hW
        go_simp
        try with_reducible rfl
      try simp only [List.getElem_toArray, List.getElem_cons_zero, List.getElem_cons_succ, Act.put, List.setIfInBounds_toArray, List.set_cons_zero, List.set_cons_succ]
      refine wpAnyN_take (i := 6) (v := ?_) rfl (by kernel_rfl) (fun _ _ _ h => h) (by rfl) (fun W hW => ?_) hS0 ?_
      rotate_left
      · obtain ⟨z0, z1, z2, z3, z4⟩ := hW
        go_simp
        try with_reducible rfl
      try simp only [List.getElem_toArray, List.getElem_cons_zero, List.getElem_cons_succ, Act.put, List.setIfInBounds_toArray, List.set_cons_zero, List.set_cons_succ]
      refine wpAnyN_take (i := 7) (v := ?_) rfl (by kernel_rfl) (fun _ _ _ h => h) (by rfl) (fun W hW => ?_) hS0 ?_
      rotate_left
      · obtain ⟨z0, z1, z2, z3, z4⟩ := hW
        go_simp
        try with_reducible rfl
      try simp only [List.getElem_toArray, List.getElem_cons_zero, List.getElem_cons_succ, Act.put, List.setIfInBounds_toArray, List.set_cons_zero, List.set_cons_succ]
      refine wpAnyN_take (i := 8) (v := ?_) rfl (by kernel_rfl) (fun _ _ _ h => h) (by rfl) (fun W hW => ?_) hS0 ?_
      rotate_left
      · obtain ⟨z0, z1, z2, z3, z4⟩ := hW
        go_simp
        try with_reducible rfl
      try simp only [List.getElem_toArray, List.getElem_cons_zero, List.getElem_cons_succ, Act.put, List.setIfInBounds_toArray, List.set_cons_zero, List.set_cons_succ]
      refine wpAnyN_take (i := 9) (v := ?_) rfl (by kernel_rfl) (fun _ _ _ h => h) (by rfl) (fun W hW => ?_) hS0 ?_
      rotate_left
      · obtain ⟨z0, z1, z2, z3, z4⟩ := hW
        go_simp
        try with_reducible rfl
      try simp only [List.getElem_toArray, List.getElem_cons_zero, List.getElem_cons_succ, Act.put, List.setIfInBounds_toArray, List.set_cons_zero, List.set_cons_succ]
      refine wpAnyN_next (i := 10) rfl (by kernel_rfl) (fun K hK => ?_)
      go_simp
      go_wp2_with (go_at_call 97; refine (LC.out _).mono ?_; rintro e w10 ⟨rfl, hb10⟩)
      have bm : Below wr.heap.size wr w10 := (Below.refl _ _).drew.trans hb10
      have M10 := Lib.hid (P.out.next bm)
      have M11 := Lib.hid (M10.out.alloc (.cells #[.string z.l, .int .i64 z.a, .int .i64 z.b] 69))
      refine hK.out _ _ (fun _ => HS2.out _ M10.out.x M10.out.e) ?_
      clear hK K
      try simp only [List.getElem_toArray, List.getElem_cons_zero, List.getElem_cons_succ, Act.put, List.setIfInBounds_toArray, List.set_cons_zero, List.set_cons_succ]
      refine wpAnyN_next (i := 11) rfl (by kernel_rfl) (fun K hK => ?_)
      go_simp
      refine hK.out _ _ (fun _ => HS2.out _ M11.out.x M11.out.e) ?_
      clear hK K hS0
      try simp only [List.getElem_toArray, List.getElem_cons_zero, List.getElem_cons_succ, Act.put, List.setIfInBounds_toArray, List.set_cons_zero, List.set_cons_succ]
      refine wpAnyN_next (i := 12) rfl (by kernel_rfl) (fun K hK => ?_)
      refine step_pushH (by rfl) _ _ _ (by rfl) w.heap.size 69 3 32 elem_rule Fac.cells A1 n1 c1 cur (by rfl) M11.out.q _ z #[.string z.l, .int .i64 z.a, .int .i64 z.b] 69 (0, 0) (by rfl) (heap_alloc_new _ _) rfl rfl (one_fac _) (by omega) (by omega) (by unfold maxLen; omega) M11.out.e.size ?_
      intro A8 c8 w8 own8 hg8 hat8
      have M12 := Lib.hid (M11.out.app own8 hg8)
      have M13 := Lib.hid (M11.out.push own8 hg8)
      have d8 := M12.out.2.2.1.cell 0
      have f8 := M12.out.2.2.1.frozen
      have l8 := M12.out.2.2.1.lt
      have hS1 := HS2.out _ M12.out.2.2.1 M12.out.2.2.2
      refine hK.out _ _ (fun _ => hS1) ?_
      clear hK K own8 hg8 hat8
      try simp only [List.getElem_toArray, List.getElem_cons_zero, List.getElem_cons_succ, Act.put, List.setIfInBounds_toArray, List.set_cons_zero, List.set_cons_succ]
      refine wpAnyN_next (i := 13) rfl (by kernel_rfl) (fun K hK => ?_)
      go_simp
      refine hK.out _ _ (fun _ => hS1) ?_
      clear hK K hS1
      try simp only [List.getElem_toArray, List.getElem_cons_zero, List.getElem_cons_succ, Act.put, List.setIfInBounds_toArray, List.set_cons_zero, List.set_cons_succ]
      refine wpAnyN_next (i := 14) rfl (by kernel_rfl) (fun K hK => ?_)
      go_simp
      refine hK.out _ _ (fun h => absurd h (by decide)) ?_
      clear hK K
      refine wpAnyN_done (by kernel_rfl) ?_ _
      clear d8 f8 l8
      go_wp2_with fail
      go_roundw
      case rel => exact ⟨j + 1, A8, n1 + 1, c8, cur ++ [z], by go_num, by omega, Lib.hid (by have := hn1.out; omega), Lib.hid (by rw [Hrt.out, ← List.append_assoc, hcur.out]), Lib.hid (by rw [List.length_append, hcl.out]; rfl), M13⟩
      case measure => simp [intOf]; omega
    · have hjm : j = m := by omega
      have hcur' := hcur.out
      rw [hjm, show hs.take m = hs from List.take_of_length_le (by rw [HM.out]; omega)] at hcur'
      clear hcur hjm
      have hcur := Lib.hid hcur'
      clear hcur'
      have HS2 := Lib.hid (fun (W : World) (M : Blk W G 26 #[.slice A1 n1 c1]) (he : Below w.heap.size w W) =>
        show W.cell? ⟨G, 0, none⟩ = some (.slice A1 n1 c1) ∧ W.cell? ⟨hb, 0, none⟩ = some (.slice Ah m ch) from ⟨M.cell 0, (HC.out W he).2.1⟩)
      have hS0 := HS2.out wr.drew P.out.drew.x P.out.drew.e
      have u1 : IntKind.i64.wrap ((n : Int) - 1) = (n : Int) - 1 := by rw [IntWalk.i64_in _ (by omega)]
      have u2 : IntKind.i64.wrap ((n : Int) + m) = (n : Int) + m := by rw [IntWalk.i64_in _ (by omega)]
      have u3 : IntKind.i64.wrap ((n : Int) + m - 1) = (n : Int) + m - 1 := by rw [IntWalk.i64_in _ (by omega)]
      go_wp2_with fail
      clear q0 q1 q2 q3
      refine wp_region_N (fun W => W.cell? ⟨G, 0, none⟩ = some (.slice A1 n1 c1) ∧ W.cell? ⟨hb, 0, none⟩ = some (.slice Ah m ch)) [16] (by kernel_rfl) ?_
      refine wpAnyN_take (i := 0) (v := ?_) rfl (by kernel_rfl) (fun _ _ _ h => h) (by rfl) (fun W hW => ?_) hS0 ?_
      rotate_left
      · obtain ⟨z0, z1⟩ := hW
        go_simp
        try with_reducible rfl
      try simp only [List.getElem_toArray, List.getElem_cons_zero, List.getElem_cons_succ, Act.put, List.setIfInBounds_toArray, List.set_cons_zero, List.set_cons_succ]
      refine wpAnyN_take (i := 1) (v := ?_) rfl (by kernel_rfl) (fun _ _ _ h => h) (by rfl) (fun W hW => ?_) hS0 ?_
      rotate_left
      · obtain ⟨z0, z1⟩ := hW
        go_simp
        try with_reducible rfl
      try simp only [List.getElem_toArray, List.getElem_cons_zero, List.getElem_cons_succ, Act.put, List.setIfInBounds_toArray, List.set_cons_zero, List.set_cons_succ]
      refine wpAnyN_take (i := 2) (v := ?_) rfl (by kernel_rfl) (fun _ _ _ h => h) (by rfl) (fun W hW => ?_) hS0 ?_
      rotate_left
      · obtain ⟨z0, z1⟩ := hW
        go_simp
        try with_reducible rfl
      try simp only [List.getElem_toArray, List.getElem_cons_zero, List.getElem_cons_succ, Act.put, List.setIfInBounds_toArray, List.set_cons_zero, List.set_cons_succ]
      refine wpAnyN_take (i := 3) (v := ?_) rfl (by kernel_rfl) (fun _ _ _ h => h) (by rfl) (fun W hW => ?_) hS0 ?_
      rotate_left
      · obtain ⟨z0, z1⟩ := hW
        go_simp
        try with_reducible rfl
      try simp only [List.getElem_toArray, List.getElem_cons_zero, List.getElem_cons_succ, Act.put, List.setIfInBounds_toArray, List.set_cons_zero, List.set_cons_succ]
      refine wpAnyN_take (i := 4) (v := ?_) rfl (by kernel_rfl) (fun _ _ _ h => h) (by rfl) (fun W hW => ?_) hS0 ?_
      rotate_left
      · obtain ⟨z0, z1⟩ := hW
        go_simp
        try with_reducible rfl
      try simp only [List.getElem_toArray, List.getElem_cons_zero, List.getElem_cons_succ, Act.put, List.setIfInBounds_toArray, List.set_cons_zero, List.set_cons_succ]
      refine wpAnyN_take (i := 5) (v := ?_) rfl (by kernel_rfl) (fun _ _ _ h => h) (by rfl) (fun W hW => ?_) hS0 ?_
      rotate_left
      · obtain ⟨z0, z1⟩ := hW
        go_simp
        try with_reducible rfl
      try simp only [List.getElem_toArray, List.getElem_cons_zero, List.getElem_cons_succ, Act.put, List.setIfInBounds_toArray, List.set_cons_zero, List.set_cons_succ]
      refine wpAnyN_take (i := 6) (v := ?_) rfl (by kernel_rfl) (fun _ _ _ h => h) (by rfl) (fun W hW => ?_) hS0 ?_
      rotate_left
      · obtain ⟨z0, z1⟩ := hW
        go_simp
        try with_reducible rfl
      try simp only [List.getElem_toArray, List.getElem_cons_zero, List.getElem_cons_succ, Act.put, List.setIfInBounds_toArray, List.set_cons_zero, List.set_cons_succ]
      refine wpAnyN_take (i := 7) (v := ?_) rfl (by kernel_rfl) (fun _ _ _ h => h) (by rfl) (fun W hW => ?_) hS0 ?_
      rotate_left
      · obtain ⟨z0, z1⟩ := hW
        go_simp
        try with_reducible rfl
      try simp only [List.getElem_toArray, List.getElem_cons_zero, List.getElem_cons_succ, Act.put, List.setIfInBounds_toArray, List.set_cons_zero, List.set_cons_succ]
      refine wpAnyN_take (i := 8) (v := ?_) rfl (by kernel_rfl) (fun _ _ _ h => h) (by rfl) (fun W hW => ?_) hS0 ?_
      rotate_left
      · obtain ⟨z0, z1⟩ := hW
        go_simp
        try with_reducible rfl
      try simp only [List.getElem_toArray, List.getElem_cons_zero, List.getElem_cons_succ, Act.put, List.setIfInBounds_toArray, List.set_cons_zero, List.set_cons_succ]
      refine wpAnyN_take (i := 9) (v := ?_) rfl (by kernel_rfl) (fun _ _ _ h => h) (by rfl) (fun W hW => ?_) hS0 ?_
      rotate_left
      · obtain ⟨z0, z1⟩ := hW
        go_simp
        try with_reducible rfl
      try simp only [List.getElem_toArray, List.getElem_cons_zero, List.getElem_cons_succ, Act.put, List.setIfInBounds_toArray, List.set_cons_zero, List.set_cons_succ]
      refine wpAnyN_take (i := 10) (v := ?_) rfl (by kernel_rfl) (fun _ _ _ h => h) (by rfl) (fun W hW => ?_) hS0 ?_
      rotate_left
      · obtain ⟨z0, z1⟩ := hW
        go_simp
        try with_reducible rfl
      try simp only [List.getElem_toArray, List.getElem_cons_zero, List.getElem_cons_succ, Act.put, List.setIfInBounds_toArray, List.set_cons_zero, List.set_cons_succ]
      refine wpAnyN_take (i := 11) (v := ?_) rfl (by kernel_rfl) (fun _ _ _ h => h) (by rfl) (fun W hW => ?_) hS0 ?_
      rotate_left
      · obtain ⟨z0, z1⟩ := hW
        go_simp
        try with_reducible rfl
      try simp only [List.getElem_toArray, List.getElem_cons_zero, List.getElem_cons_succ, Act.put, List.setIfInBounds_toArray, List.set_cons_zero, List.set_cons_succ]
      refine wpAnyN_take (i := 12) (v := ?_) rfl (by kernel_rfl) (fun _ _ _ h => h) (by rfl) (fun W hW => ?_) hS0 ?_
      rotate_left
      · obtain ⟨z0, z1⟩ := hW
        go_simp
        try with_reducible rfl
      try simp only [List.getElem_toArray, List.getElem_cons_zero, List.getElem_cons_succ, Act.put, List.setIfInBounds_toArray, List.set_cons_zero, List.set_cons_succ]
      refine wpAnyN_next (i := 13) rfl (by kernel_rfl) (fun K hK => ?_)
      go_simp
      have M11 := Lib.hid (P.out.drew.alloc (.cells #[.string ⟨#[]⟩, .int .i64 ((n : Int) - 1), .int .i64 ((n : Int) + m - 1)] 69))
      refine hK.out _ _ (fun _ => HS2.out _ M11.out.x M11.out.e) ?_
      clear hK K hS0
      try simp only [List.getElem_toArray, List.getElem_cons_zero, List.getElem_cons_succ, Act.put, List.setIfInBounds_toArray, List.set_cons_zero, List.set_cons_succ]
      refine wpAnyN_next (i := 14) rfl (by kernel_rfl) (fun K hK => ?_)
      refine step_pushH (by rfl) _ _ _ (by rfl) w.heap.size 69 3 32 elem_rule Fac.cells A1 n1 c1 cur (by rfl) M11.out.q _ ⟨⟨#[]⟩, (n : Int) - 1, (n : Int) + m - 1⟩ #[.string ⟨#[]⟩, .int .i64 ((n : Int) - 1), .int .i64 ((n : Int) + m - 1)] 69 (0, 0) (by rfl) (heap_alloc_new _ _) rfl rfl (one_fac _) (by omega) (by omega) (by unfold maxLen; omega) M11.out.e.size ?_
      intro A8 c8 w8 own8 hg8 hat8
      have M12 := Lib.hid (M11.out.app own8 hg8)
      have M13 := Lib.hid (M11.out.push own8 hg8)
      have d8 := M12.out.2.2.1.cell 0
      have f8 := M12.out.2.2.1.frozen
      have l8 := M12.out.2.2.1.lt
      have hS1 := HS2.out _ M12.out.2.2.1 M12.out.2.2.2
      refine hK.out _ _ (fun _ => hS1) ?_
      clear hK K own8 hg8 hat8
      try simp only [List.getElem_toArray, List.getElem_cons_zero, List.getElem_cons_succ, Act.put, List.setIfInBounds_toArray, List.set_cons_zero, List.set_cons_succ]
      refine wpAnyN_next (i := 15) rfl (by kernel_rfl) (fun K hK => ?_)
      go_simp
      refine hK.out _ _ (fun _ => hS1) ?_
      clear hK K hS1
      try simp only [List.getElem_toArray, List.getElem_cons_zero, List.getElem_cons_succ, Act.put, List.setIfInBounds_toArray, List.set_cons_zero, List.set_cons_succ]
      refine wpAnyN_next (i := 16) rfl (by kernel_rfl) (fun K hK => ?_)
      go_simp
      refine hK.out _ _ (fun h => absurd h (by decide)) ?_
      clear hK K
      refine wpAnyN_done (by kernel_rfl) ?_ _
      clear d8 f8 l8
      generalize hw13 : w8.setCell ⟨G, 0, none⟩ (.slice A8 (n1 + 1) c8) = w13 at *
      have r7 := M13.out.r.cell 0
      have f7 := M13.out.r.frozen
      have l7 := M13.out.r.lt
      have g7 := M13.out.x.cell 0
      have B8 := M13.out.r.set_ 0 (.slice A8 (n1 + 1) c8)
      have x8 : (w13.setCell ⟨w.heap.size, 0, none⟩ (.slice A8 (n1 + 1) c8)).cell? ⟨w.heap.size, 0, none⟩ = some (.slice A8 (n1 + 1) c8) := by rw [B8.cell 0]; rfl
      have b8 := M13.out.e.setCell (p := ⟨w.heap.size, 0, none⟩) (Nat.le_refl _) (.slice A8 (n1 + 1) c8)
      have O8 := Lib.hid (own_kept' (i := 0) M13.out.q M13.out.r (by decide) (.slice A8 (n1 + 1) c8))
      clear B8 hw13
      go_wp2_with fail
      refine bodyPost_ret (v := .agg #[.slice A8 (n1 + 1) c8]) (by simp [results, Try.results93, go_sem, x8]) rfl (show RetG w (joinL gs hs) _ _ from ⟨A8, c8, ?_, ?_, b8⟩)
      · rw [HJ.out, hcur.out, List.length_append, hcl.out]; rfl
      · rw [HJ.out, hcur.out, List.length_append, hcl.out]; exact O8.out
theorem join_sz {gs hs : List Fac} (hg : WF gs) (hh : WF hs) : ∀ f ∈ joinL gs hs, f.l.size ≤ maxLen := wf_sz (join_wf hg hh)
theorem join_len {gs hs : List Fac} (h0 : gs.length ≤ 400) (h1 : hs.length ≤ 400) : (joinL gs hs).length ≤ 801 := by
  unfold joinL
  split
  · omega
  · split
    · omega
    · simp only [List.length_append, raiseL_len, List.length_singleton]; omega
theorem join_pos {gs hs : List Fac} (h0 : 0 < gs.length) : 0 < (joinL gs hs).length := by
  unfold joinL
  split
  · omega
  · split
    · omega
    · simp only [List.length_append, List.length_singleton]; omega
set_option maxHeartbeats 4000000 in
set_option maxRecDepth 100000 in
theorem joinG_any (A : Option Addr) (n c : Nat) (gs : List Fac) (Ah : Option Addr) (m ch : Nat) (hs : List Fac) (w : World)
    (hn0 : 0 < n) (hm0 : 0 < m) (hr : Rd w w.heap.size A n 3 Fac.cells gs) (hr2 : Rd w w.heap.size Ah m 3 Fac.cells hs) (hg : WF gs) (hh : WF hs) (h1 : (gOk gs).isSome = true) (h2 : (gOk hs).isSome = true) :
    Calls Try.prog 78 #[.agg #[.slice A n c], .agg #[.slice Ah m ch]] w (RetGC w (limF (joinL gs hs)) (limC (joinL gs hs))) := by
  have hl1 := hr.len
  have hl2 := hr2.len
  have hn : n ≤ 400 := by obtain ⟨ls, hls⟩ := Option.isSome_iff_exists.1 h1; have := (gOk_lens hls).2.1; omega
  have hm : m ≤ 400 := by obtain ⟨ls, hls⟩ := Option.isSome_iff_exists.1 h2; have := (gOk_lens hls).2.1; omega
  have HR := Lib.hid hr; have H2 := Lib.hid hr2
  have HWg := Lib.hid hg; have HWh := Lib.hid hh
  have HS := Lib.hid (join_sz hg hh)
  have Hjl := Lib.hid (join_len (gs := gs) (hs := hs) (by omega) (by omega))
  have HO1 := Lib.hid h1; have HO2 := Lib.hid h2
  have Z1 := Lib.hid (wf_sz hg); have Z2 := Lib.hid (wf_sz hh)
  clear hr hr2 hl1 hl2 hg hh h1 h2
  go_enter Try.func78, Try.ntmps78
  go_wp2_with fail
  refine namedC fun w1 H1 => ?_
  have hb1 : Below w.heap.size w w1 := by rw [H1.out]; (repeat first | exact Below.refl _ _ | assumption | refine Below.drew ?_ | refine Below.alloc ?_ (by first | exact Nat.le_refl _ | (simp; done) | omega | (simp; omega)) _ | refine Below.setCell ?_ (by first | exact Nat.le_refl _ | (simp; done) | omega | (simp; omega)) _)
  have BG := Lib.hid (show Blk w1 w.heap.size 26 #[.slice A n c] by rw [H1.out]; exact ((Blk.new _ _ _).alloc _).alloc _)
  have BH := Lib.hid (show Blk w1 (w.heap.size + 1) 26 #[.slice Ah m ch] by rw [H1.out]; simpa using (Blk.new (w.alloc (.cells #[.slice A n c] 26)) 26 #[.slice Ah m ch]).alloc (.cells #[.slice none 0 0] 26))
  have BR := Lib.hid (show Blk w1 (w.heap.size + 2) 26 #[.slice none 0 0] by rw [H1.out]; simpa using Blk.new ((w.alloc (.cells #[.slice A n c] 26)).alloc (.cells #[.slice Ah m ch] 26)) 26 #[.slice none 0 0])
  clear H1
  refine (l02Ok_any w.heap.size A n c gs w1 BG.out.lt (BG.out.cell 0) (by omega) (HR.out.next hb1) Z1.out true HO1.out).mono ?_
  rintro e w2 ⟨rfl, hb2⟩
  have b2 := Lib.hid (hb1.trans (hb2.mono hb1.size))
  have BG2 := Lib.hid (BG.out.next hb2)
  have BH2 := Lib.hid (BH.out.next hb2)
  have BR2 := Lib.hid (BR.out.next hb2)
  clear BG BH BR hb1 hb2
  go_wp2_with fail
  refine (l02Ok_any (w.heap.size + 1) Ah m ch hs w2 BH2.out.lt (BH2.out.cell 0) (by omega) (H2.out.next b2.out) Z2.out true HO2.out).mono ?_
  rintro e w3 ⟨rfl, hb3⟩
  have b3 := Lib.hid (b2.out.trans (hb3.mono b2.out.size))
  have BG3 := Lib.hid (BG2.out.next hb3)
  have BH3 := Lib.hid (BH2.out.next hb3)
  have BR3 := Lib.hid (BR2.out.next hb3)
  clear BG2 BH2 BR2 hb3 b2
  go_wp2_with fail
  refine (l02Join_any w.heap.size (w.heap.size + 1) A n c gs Ah m ch hs w3 BG3.out.lt (BG3.out.cell 0) BH3.out.lt (BH3.out.cell 0) hn0 hn hm0 hm (HR.out.next b3.out) (H2.out.next b3.out) HWh.out).mono ?_
  generalize joinL gs hs = J at *
  rintro e w4 ⟨A4, c4, rfl, own4, hb4⟩
  have b4 := Lib.hid (b3.out.trans (hb4.mono b3.out.size))
  have O4 := Lib.hid (own4.mono b3.out.size)
  have BR4 := Lib.hid (BR3.out.next hb4)
  clear own4 hb4 b3 BG3 BH3 BR3
  rcases hok : (gOk J).isSome with _ | _
  · have Hok := Lib.hid hok
    have HF := Lib.hid (show limF J = [] by unfold limF; rw [hok]; rfl)
    have HC := Lib.hid (show limC J = 3 by unfold limC; rw [hok]; rfl)
    clear hok
    go_wp2_with fail
    refine (l02Told_no A4 J.length c4 J w4 (by have := Hjl.out; omega) (Rd.of_own (fun x _ => fac_len x) rfl O4.out) HS.out Hok.out).mono ?_
    rintro e w7 ⟨rfl, hb7⟩
    have B7 := BR4.out.next hb7
    have b7 := b4.out.trans (hb7.mono b4.out.size)
    have r7 := B7.cell 0
    have f7 := B7.frozen
    have l7 := B7.lt
    have x8 : (w7.setCell ⟨w.heap.size + 2, 0, none⟩ (.slice none 0 0)).cell? ⟨w.heap.size + 2, 0, none⟩ = some (.slice none 0 0) := by rw [(B7.set_ 0 (.slice none 0 0)).cell 0]; rfl
    have b8 := b7.setCell (p := ⟨w.heap.size + 2, 0, none⟩) (by simp) (.slice none 0 0)
    clear B7
    go_wp2_with fail
    exact bodyPost_ret (v := .tuple #[.agg #[.slice none 0 0], .int .i64 3]) (by simp [results, Try.results78, go_sem, x8]) rfl ⟨none, 0, by rw [HF.out, HC.out]; rfl, by rw [HF.out]; exact World.ownsRow_nil _ _ _ _, b8⟩
  · have Hok := Lib.hid hok
    have HF := Lib.hid (show limF J = J by unfold limF; rw [hok]; rfl)
    have HC := Lib.hid (show limC J = 0 by unfold limC; rw [hok]; rfl)
    clear hok
    go_wp2_with fail
    refine (l02Told_yes A4 J.length c4 J w4 (by have := Hjl.out; omega) (Rd.of_own (fun x _ => fac_len x) rfl O4.out) HS.out Hok.out).mono ?_
    rintro e w7 ⟨rfl, hb7⟩
    have B7 := Lib.hid (BR4.out.next hb7)
    have b7 := b4.out.trans (hb7.mono b4.out.size)
    have O7 := Lib.hid (own_next O4.out hb7)
    have r7 := B7.out.cell 0
    have f7 := B7.out.frozen
    have l7 := B7.out.lt
    have x8 : (w7.setCell ⟨w.heap.size + 2, 0, none⟩ (.slice A4 J.length c4)).cell? ⟨w.heap.size + 2, 0, none⟩ = some (.slice A4 J.length c4) := by rw [(B7.out.set_ 0 (.slice A4 J.length c4)).cell 0]; rfl
    have b8 := b7.setCell (p := ⟨w.heap.size + 2, 0, none⟩) (by simp) (.slice A4 J.length c4)
    have O8 := Lib.hid (own_kept' (i := 0) O7.out B7.out (by decide) (.slice A4 J.length c4))
    go_wp2_with fail
    exact bodyPost_ret (v := .tuple #[.agg #[.slice A4 J.length c4], .int .i64 0]) (by simp [results, Try.results78, go_sem, x8]) rfl ⟨A4, c4, by rw [HF.out, HC.out], by rw [HF.out]; exact O8.out, b8⟩
end Go.Proofs.Ytecnkmndmnefdaa


/-
  The words that a law draws.
-/
namespace Go.Proofs.Ytecnkmndmnefdaa
open Go.RowKit

/-- a list of bytes, as the walk reads it -/
theorem Rd.bytes {w : World} {B n : Nat} {A : Option Addr} {zs : List Int} (h : Rd w B A n 1 (fun z => [.int .u8 z]) zs) (ok : ∀ z ∈ zs, 0 ≤ z ∧ z < 256) : Rd w B A n 1 byteE (zs.map fun z => UInt8.ofNat z.toNat) := by
  refine ⟨by rw [List.length_map]; exact h.len, fun hn => ?_⟩
  obtain ⟨b, o, hA, hb, hc⟩ := h.2 hn
  refine ⟨b, o, hA, hb, fun k x hx j v hv => ?_⟩
  rw [List.getElem?_map] at hx
  obtain ⟨z, hz, rfl⟩ := Option.map_eq_some_iff.1 hx
  obtain ⟨h0, h1⟩ := ok z (List.mem_of_getElem? hz)
  obtain ⟨m, rfl⟩ := Int.eq_ofNat_of_zero_le h0
  have e : (UInt8.ofNat m).toNat = m := by rw [UInt8.toNat_ofNat']; omega
  have := hc k _ hz j v (by
    rcases j with _ | j
    · simpa [byteE, e] using hv
    · simp [byteE] at hv)
  exact this

theorem f6big_any (A : Option Addr) (n c : Nat) (w : World) (hn : n ≤ maxLen) (b : Bool) (hb : decide (4096 < n) = b) :
    Calls Try.prog 6 #[.slice A n c] w (Ret (.bool b) w) := by
  unfold maxLen at hn
  have e := Lib.hid (show decide ((4096 : Int) < (n : Int)) = b by rw [← hb, decide_eq_decide]; omega)
  clear hb
  go_enter Try.func6, Try.ntmps6
  go_wp2
  go_ret
  exact ⟨ret_bool e.out, Below.refl _ _⟩
def SrcNew (w : World) (e : Ending) (w' : World) : Prop := ∃ g, e = .returned (.pointer (some ⟨g, 0, none⟩)) ∧ w.heap.size ≤ g ∧ Src w' g 0 ∧ Below w.heap.size w w'
theorem l00From_any (A : Option Addr) (n c : Nat) (bs : List UInt8) (w : World) (hn : n ≤ 4096) (hr : Rd w w.heap.size A n 1 byteE bs) :
    Calls Try.prog 29 #[.slice A n c] w (SrcNew w) := by
  go_enter Try.func29, Try.ntmps29
  go_wp2_with fail
  go_ret
  exact ⟨w.heap.size, rfl, Nat.le_refl _, ⟨A, n, c, 0, bs, 0, Nat.le_refl _, hn, ⟨by omega, by omega⟩, Blk.new _ _ _, hr.below (by (repeat first | exact Below.refl _ _ | assumption | refine Below.drew ?_ | refine Below.alloc ?_ (by first | exact Nat.le_refl _ | (simp; done) | omega | (simp; omega)) _ | refine Below.setCell ?_ (by first | exact Nat.le_refl _ | (simp; done) | omega | (simp; omega)) _))⟩, by (repeat first | exact Below.refl _ _ | assumption | refine Below.drew ?_ | refine Below.alloc ?_ (by first | exact Nat.le_refl _ | (simp; done) | omega | (simp; omega)) _ | refine Below.setCell ?_ (by first | exact Nat.le_refl _ | (simp; done) | omega | (simp; omega)) _)⟩
/-- what a drawn word leaves -/
def WordPost (w : World) (most : Int) (e : Ending) (w' : World) : Prop := ∃ s : ByteArray, e = .returned (.string s) ∧ (s.size : Int) ≤ most ∧ s.data.toList.all letB = true ∧ Below w.heap.size w w'
end Go.Proofs.Ytecnkmndmnefdaa
