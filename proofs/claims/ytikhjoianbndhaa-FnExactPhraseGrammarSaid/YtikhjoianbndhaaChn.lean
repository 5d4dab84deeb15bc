/-
  All rules of a list made one, in the reference.
-/
import Derived.Test.YtikhjoianbndhaaPhgM
import Derived.Test.YtikhjoianbndhaaTrimO
import Derived.Test.YtikhjoianbndhaaMarkI
import Derived.Deep.RegionLaw
import Derived.Deep.DeepCutAuto
namespace Go.Proofs.Ytikhjoianbndhaa
open Go.RowKit

/-- the chain under way -/
structure ChI (rs : List Fac) (ks : List Int) (i : Nat) (rs' : List Fac) (b : Int) : Prop where
  len : rs'.length + 1 = rs.length + i
  one : i = 1 → ∀ x, ks[0]? = some x → b = x
  more : i ≠ 1 → b = (rs'.length : Int) - 1
  eq : rs' ++ chF (ks.drop i) b rs'.length = chainL rs ks
theorem ChI.first (rs : List Fac) (ks : List Int) : ∃ b, ChI rs ks 1 rs b := by
  cases ks with
  | nil => exact ⟨0, ⟨rfl, fun _ x h => by simp at h, fun h => absurd rfl h, by simp [chF, chainL]⟩⟩
  | cons k cs => exact ⟨k, ⟨rfl, fun _ x h => by simpa using h, fun h => absurd rfl h, by simp [chainL]⟩⟩
theorem ChI.step {rs : List Fac} {ks : List Int} {i : Nat} {rs' : List Fac} {b c : Int} (h : ChI rs ks i rs' b) (hi : 1 ≤ i) (hc : ks[i]? = some c) : ChI rs ks (i + 1) (rs' ++ [⟨⟨#[]⟩, b, c⟩]) (rs'.length : Int) := by
  refine ⟨by have := h.len; simp; omega, fun h => absurd h (by omega), fun _ => by simp, ?_⟩
  rw [← h.eq, drop_cons hc, List.append_assoc, List.length_append]
  rfl
theorem ChI.last {rs : List Fac} {ks : List Int} {i : Nat} {rs' : List Fac} {b : Int} (h : ChI rs ks i rs' b) (hi : ks.length ≤ i) : chainL rs ks = rs' := by
  rw [← h.eq, List.drop_of_length_le hi]; simp [chF]
set_option maxHeartbeats 1000000 in
set_option maxRecDepth 100000 in
theorem l06Chain_any (w0 : World) (A : Option Addr) (n c : Nat) (B : Option Addr) (m d : Nat) (rs : List Fac) (ks : List Int) (w : World) (hn : n ≤ 100000) (hm : m ≤ 100000) (hl : rs.length = n) (hk : ks.length = m)
    (ho : w.ownsRow w0.heap.size 44 3 (.slice A n c) n (rs.flatMap Fac.cells)) (hq : w.ownsRow w0.heap.size 2 1 (.slice B m d) m (ks.flatMap intE)) (hb : Below w0.heap.size w0 w) :
    Calls Try.prog 25 #[.slice A n c, .slice B m d] w (RetNew w0 44 3 Fac.cells (chainL rs ks)) := by
  have HL := Lib.hid hl; have HK := Lib.hid hk
  have HO := Lib.hid ho; have HQ := Lib.hid hq; have HB := Lib.hid hb
  clear hl hk ho hq hb
  obtain ⟨b0, hI0⟩ := ChI.first rs ks
  go_enter Try.func25, Try.ntmps25
  go_wp2_with fail
  go_loopw [0, 5] (fun r_ i_ w' => ∃ (i : Nat) (A' : Option Addr) (n' c' : Nat) (rs' : List Fac) (b : Int), r_ = .slice A' n' c' ∧ i_ = .int .i64 i ∧ 1 ≤ i ∧ (i ≤ m ∨ i = 1) ∧ n' + 1 = n + i ∧ Hid (rs'.length = n') ∧ Hid (ChI rs ks i rs' b) ∧
    Hid (w'.ownsRow w0.heap.size 44 3 (.slice A' n' c') n' (rs'.flatMap Fac.cells)) ∧ Hid (w'.ownsRow w0.heap.size 2 1 (.slice B m d) m (ks.flatMap intE)) ∧ Hid (Below w0.heap.size w0 w')) (fun _ i_ _ => m - (intOf i_).toNat)
  case atStart => exact ⟨1, A, n, c, rs, b0, rfl, rfl, by omega, by omega, by omega, HL, Lib.hid hI0, HO, HQ, HB⟩
  case round =>
    obtain ⟨i, A', n', c', rs', b, rfl, rfl, hi1, hi2, hn', hrl, HI, O1, Q1, B1⟩ := hrel
    by_cases hlt : i < m
    · have RK := Lib.hid (Rd.of_own (enc := intE) (fun _ _ => rfl) HK.out Q1.out)
      obtain ⟨bb, o, x0, hBe, hB0, g0, c0⟩ := RK.out.int (show 0 < m by omega)
      obtain ⟨bb', o', x, hBe', hB', gx, cx⟩ := RK.out.int hlt
      rw [hBe] at hBe'
      obtain ⟨rfl, rfl⟩ : bb = bb' ∧ o = o' := by injection hBe' with h; injection h with h1 h2 h3; exact ⟨h1, h2⟩
      subst hBe
      have c0 : wr.cell? ⟨bb, o, none⟩ = some (.int .i64 x0) := by simpa using c0
      have HS := Lib.hid (HI.out.step hi1 gx)
      have u1 : IntKind.i64.wrap ((n' : Int) - 1) = (n' : Int) - 1 := IntWalk.i64_in _ (by omega)
      have i0 : (0 : Int) ≤ (i : Int) := by omega
      have i1 : (i : Int) < (m : Int) := by omega
      have hm0 : (0 : Int) < (m : Int) := by omega
      go_upto_if 17 with (fail)
      go_cut [6] (fun b_ wx => b_ = .int .i64 b ∧ wx = wr)
      case first =>
        by_cases h1 : i = 1
        · subst h1
          have hb1 := Lib.hid (HI.out.one rfl x0 g0)
          go_wp2_with fail
          go_meet
          exact ⟨by rw [hb1.out], rfl⟩
        · have hb1 := Lib.hid (HI.out.more h1)
          have h1' : ((i : Int) == 1) = false := by simp; omega
          clear h1
          go_wp2_with fail
          go_meet
          exact ⟨by rw [hb1.out, hrl.out], rfl⟩
      case rest =>
        obtain ⟨rfl, rfl⟩ := hcut
        have O2 := Lib.hid (O1.out.alloc (.cells #[.string ⟨#[]⟩, .int .i64 b, .int .i64 x] 44))
        have Q2 := Lib.hid (Q1.out.alloc (.cells #[.string ⟨#[]⟩, .int .i64 b, .int .i64 x] 44))
        have B2 := Lib.hid (B1.out.alloc B1.out.size (.cells #[.string ⟨#[]⟩, .int .i64 b, .int .i64 x] 44))
        have N2 := Lib.hid (news1 (y := ⟨⟨#[]⟩, b, x⟩) (Blk.new wc 44 #[.string ⟨#[]⟩, .int .i64 b, .int .i64 x]))
        go_wp2_with
          (at_builtin
           refine wpList_app rfl _ _ _ rfl w0.heap.size 44 3 32 elem_rule Fac.cells A' n' c' rs' rfl O2.out ⟨wc.heap.size, 0, none⟩ 1 1 [⟨⟨#[]⟩, b, x⟩] rfl rfl (by omega) N2.out (fun x _ => fac_len x) (fun x _ => one_fac x) (by omega) (by omega) (by unfold maxLen; omega) B2.out.size ?_
           intro A9 c9 w9 own9 hg9 hat9
           have O3 := Lib.hid own9
           have Q3 := Lib.hid (Q2.out.kept hg9 (own_ne Q2.out O2.out (by decide)))
           have B3 := Lib.hid (B2.out.grown hg9 B2.out.size (own_ge O2.out))
           clear own9 hg9 hat9)
        go_roundw
        case rel => exact ⟨i + 1, A9, n' + 1, c9, _, _, by first | rfl | rw [show n + i = n' + 1 by omega], by go_num, by omega, by omega, by omega, Lib.hid (by rw [List.length_append, hrl.out]; rfl), HS, O3, Q3, B3⟩
        case measure => simp [intOf]; omega
    · have e := Lib.hid (HI.out.last (by rw [HK.out]; omega))
      go_wp2_with fail
      go_ret
      rw [e.out]
      refine ⟨A', c', ret_slice (by rw [hrl.out]), ?_, B1.out⟩
      rw [hrl.out]; exact O1.out
end Go.Proofs.Ytikhjoianbndhaa
