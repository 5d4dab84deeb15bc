/-
  Scattered words, counted: ScatteredParts and ScatteredCount in the program.
-/
import Derived.Test.YtkknhpailohjcaaScatK
import Derived.Test.YtkknhpailohjcaaModC
namespace Go.Proofs.Ytkknhpailohjcaa
open Go.RowKit

def scCode (rs : List Fac) (s : ByteArray) (m : Int) : Int := if modC rs s m ≠ 0 then modC rs s m else if 8 < s.size then 3 else 0
def scLen (rs : List Fac) (s : ByteArray) (m : Int) : Nat := if scCode rs s m = 0 then s.size + 1 else 0
theorem scCode_cases (rs : List Fac) (s : ByteArray) (m : Int) :
    ((gOk rs).isSome = false ∧ scCode rs s m = 1) ∨ ((gOk rs).isSome = true ∧ okW s = false ∧ scCode rs s m = 1) ∨ ((gOk rs).isSome = true ∧ okW s = true ∧ inB m 1 1000000000 = false ∧ scCode rs s m = 2) ∨
    ((gOk rs).isSome = true ∧ okW s = true ∧ inB m 1 1000000000 = true ∧ 8 < s.size ∧ scCode rs s m = 3) ∨ ((gOk rs).isSome = true ∧ okW s = true ∧ inB m 1 1000000000 = true ∧ s.size ≤ 8 ∧ scCode rs s m = 0) := by
  rcases hg : (gOk rs).isSome with _ | _
  · left; refine ⟨rfl, ?_⟩
    have h : modC rs s m = 1 := by unfold modC; rw [if_pos hg]
    unfold scCode; rw [h]; rfl
  right
  rcases hp : okW s with _ | _
  · left; refine ⟨rfl, rfl, ?_⟩
    have h : modC rs s m = 1 := by unfold modC; rw [if_neg (by rw [hg]; decide), if_pos hp]
    unfold scCode; rw [h]; rfl
  right
  rcases hm : inB m 1 1000000000 with _ | _
  · left; refine ⟨rfl, rfl, rfl, ?_⟩
    have h : modC rs s m = 2 := by unfold modC; rw [if_neg (by rw [hg]; decide), if_neg (by rw [hp]; decide), if_pos hm]
    unfold scCode; rw [h]; rfl
  right
  have h : modC rs s m = 0 := by unfold modC; rw [if_neg (by rw [hg]; decide), if_neg (by rw [hp]; decide), if_neg (by rw [hm]; decide)]
  by_cases h8 : 8 < s.size
  · left; refine ⟨rfl, rfl, rfl, h8, ?_⟩
    unfold scCode; rw [h, if_neg (by decide), if_pos h8]
  · right; refine ⟨rfl, rfl, rfl, by omega, ?_⟩
    unfold scCode; rw [h, if_neg (by decide), if_neg h8]
/-- what is told: a table with a code -/
abbrev RetScat (rs : List Fac) (s : ByteArray) (m : Int) (w : World) : Ending → World → Prop := RetTabC w (scLen rs s m) (s.size + 1) (tabL (s.size + 1) (scTop rs s m)) (scCode rs s m)
theorem retScat_no {rs : List Fac} {s : ByteArray} {m k : Int} {w w' : World} (hk : scCode rs s m = k) (h0 : k ≠ 0) (hb : Below w.heap.size w w') : RetScat rs s m w (.returned (.tuple #[.slice none 0 0, .int .i64 k])) w' := by
  have e : scLen rs s m = 0 := by unfold scLen; rw [if_neg (by rw [hk]; exact h0)]
  refine ⟨none, 0, [], by rw [e, hk], ?_, hb⟩
  rw [e]
  exact ⟨⟨rfl, .inl ⟨rfl, rfl⟩⟩, rfl, fun i g hg => by simp at hg, fun i hi => absurd hi (by omega), fun i j g hi => by simp at hi⟩
theorem retScat_ok {rs : List Fac} {s : ByteArray} {m : Int} {w w' : World} {v : Value} (hk : scCode rs s m = 0) (hT : TabN (s.size + 1) w.heap.size w' v (scTop rs s m)) (hb : Below w.heap.size w w') : RetScat rs s m w (.returned (.tuple #[v, .int .i64 0])) w' := by
  have e : scLen rs s m = s.size + 1 := by unfold scLen; rw [if_pos hk]
  obtain ⟨A, c, gs, rfl, hT⟩ := hT
  exact ⟨A, c, gs, by rw [e, hk], by rw [e]; exact hT, hb⟩
set_option maxHeartbeats 2000000 in
set_option maxRecDepth 100000 in
theorem implScatP_any (A : Option Addr) (n c : Nat) (rs : List Fac) (s : ByteArray) (m : Int) (w : World) (hn : n ≤ 1048576) (hr : Rd w w.heap.size A n 3 Fac.cells rs) (hok : ∀ f ∈ rs, f.l.size ≤ maxLen) (hs : s.size ≤ maxLen) (_hm : -9223372036854775808 ≤ m ∧ m ≤ 9223372036854775807) :
    Calls Try.prog 19 #[.agg #[.slice A n c], .string s, .int .i64 m] w (RetScat rs s m w) := by
  have hb0 : Below w.heap.size w (w.alloc (.cells #[.slice A n c] 31)) := by (repeat first | exact Below.refl _ _ | assumption | refine Below.drew ?_ | refine Below.alloc ?_ (by first | exact Nat.le_refl _ | (simp; done) | omega | (simp; omega)) _ | refine Below.setCell ?_ (by first | exact Nat.le_refl _ | (simp; done) | omega | (simp; omega)) _)
  have hB0 := Lib.hid (Blk.new w 31 #[.slice A n c])
  have hl := Lib.hid hr.len
  have HR := Lib.hid hr; clear hr
  have HO := Lib.hid hok; clear hok
  rcases scCode_cases rs s m with ⟨hg, hc⟩ | ⟨hg, hp, hc⟩ | ⟨hg, hp, hm, hc⟩ | ⟨hg, hp, hm, h8, hc⟩ | ⟨hg, hp, hm, h8, hc⟩
  all_goals
    have HG := Lib.hid hg
    have HC := Lib.hid hc
    clear hg hc
    try have HP := Lib.hid hp
    try clear hp
    try have HM := Lib.hid hm
    try clear hm
    go_enter Try.func19, Try.ntmps19
    go_wp2_with fail
    refine (validG_any A n c rs _ (by omega) (HR.out.next hb0) HO.out _ HG.out).mono ?_
    rintro e1 w1 ⟨rfl, hb1⟩
    have b1 := hb0.trans (hb1.mono hb0.size)
    have B1 := Lib.hid (hB0.out.next hb1)
    go_wp2_with fail
  · go_ret2
    exact retScat_no HC.out (by decide) b1
  · refine (validWord_any s _ w1 hs HP.out).mono ?_
    rintro e2 w2 ⟨rfl, hb2⟩
    go_wp2_with fail
    go_ret2
    exact retScat_no HC.out (by decide) (b1.trans (hb2.mono b1.size))
  all_goals
    refine (validWord_any s _ w1 hs HP.out).mono ?_
    rintro e2 w2 ⟨rfl, hb2⟩
    have b2 := b1.trans (hb2.mono b1.size)
    have B2 := Lib.hid (B1.out.next hb2)
    go_wp2_with fail
    refine (isMod_any m _ w2 HM.out).mono ?_
    rintro e3 w3 ⟨rfl, hb3⟩
    have b3 := b2.trans (hb3.mono b2.size)
    have B3 := Lib.hid (B2.out.next hb3)
    have c3 := B3.out.cell 0
    have l3 := B3.out.lt
    go_wp2_with fail
  · go_ret2
    exact retScat_no HC.out (by decide) b3
  · go_ret2
    exact retScat_no HC.out (by decide) b3
  · have hm := HM.out
    have hm' : 1 ≤ m ∧ m ≤ 1000000000 := by simpa [inB] using hm
    obtain ⟨ls, hls⟩ := Option.isSome_iff_exists.1 HG.out
    refine (implScatT_any A n c rs s m w3 hn (HR.out.next b3) (gOk_lens hls).1 HP.out h8 hm'.1 hm'.2).mono ?_
    rintro e4 w4 ⟨v, rfl, hT, hb4⟩
    have T4 := Lib.hid (hT.mono b3.size)
    obtain ⟨A5, c5, gs5, rfl, _⟩ := hT
    clear hm hm' hls
    go_wp2_with fail
    go_ret2
    exact retScat_ok HC.out T4.out (b3.trans (hb4.mono b3.size))
def scatV (rs : List Fac) (s : ByteArray) (m : Int) : Value := if scCode rs s m = 0 then tup2 (scTop rs s m 0 s.size) 0 else tup2 0 (scCode rs s m)
theorem scatV_form (rs : List Fac) (s : ByteArray) (m : Int) : ∃ b k, scatV rs s m = .tuple #[.int .i64 b, .int .i64 k] := by
  unfold scatV
  split
  · exact ⟨_, _, rfl⟩
  · exact ⟨_, _, rfl⟩
/-- the number in the corner of the table that is told -/
theorem retScat_num {rs : List Fac} {s : ByteArray} {m : Int} {w w' : World} {e : Ending} (h : RetScat rs s m w e w') : Below w.heap.size w w' ∧ ((scCode rs s m ≠ 0 ∧ ∃ A c, e = .returned (.tuple #[.slice A 0 c, .int .i64 (scCode rs s m)])) ∨
    (scCode rs s m = 0 ∧ ∃ p g c, e = .returned (.tuple #[.slice (some ⟨p, 0, none⟩) (s.size + 1) c, .int .i64 0]) ∧ p < w'.heap.size ∧ g < w'.heap.size ∧ w'.cell? ⟨p, 0, none⟩ = some (.slice (some ⟨g, 0, none⟩) (s.size + 1) (s.size + 1)) ∧ w'.cell? ⟨g, s.size, none⟩ = some (.int .i64 (scTop rs s m 0 s.size)))) := by
  obtain ⟨A, c, gs, rfl, hT, hb⟩ := h
  refine ⟨hb, ?_⟩
  by_cases h0 : scCode rs s m = 0
  · right
    have e : scLen rs s m = s.size + 1 := by unfold scLen; rw [if_pos h0]
    rw [e] at hT ⊢
    obtain ⟨p, g, rfl, hp, _, hg, s1, s2⟩ := hT.num (Nat.le_refl _) (i := 0) (j := s.size) (by omega) (by omega)
    exact ⟨h0, p, g, c, by rw [h0], hp, hg, s1, s2⟩
  · left
    have e : scLen rs s m = 0 := by unfold scLen; rw [if_neg h0]
    rw [e]
    exact ⟨h0, A, c, rfl⟩
end Go.Proofs.Ytkknhpailohjcaa
