/-
  All rules of a list made one, in the program (through a pointer to the grammar).
-/
import Derived.Test.YtikhjoianbndhaaChn
import Derived.Test.YtikhjoianbndhaaTrimI
namespace Go.Proofs.Ytikhjoianbndhaa
open Go.RowKit

/-- the grammar at G, the list, and one more grammar's block at T -/
structure MdW (w0 W : World) (G T : Nat) (t : Array Value) (A : Option Addr) (n c : Nat) (rs : List Fac) (B : Option Addr) (m d : Nat) (ks : List Int) : Prop where
  q : W.ownsRow w0.heap.size 44 3 (.slice A n c) n (rs.flatMap Fac.cells)
  k : W.ownsRow w0.heap.size 2 1 (.slice B m d) m (ks.flatMap intE)
  g : Blk W G 24 #[.slice A n c]
  o : Blk W T 24 t
  e : Below w0.heap.size w0 W
  hg : w0.heap.size ≤ G
  hn : G ≠ T
section
variable {w W W' : World} {G T : Nat} {t : Array Value} {A : Option Addr} {n c : Nat} {rs : List Fac} {B : Option Addr} {m d : Nat} {ks : List Int}
theorem MdW.next (h : MdW w W G T t A n c rs B m d ks) (hb : Below W.heap.size W W') : MdW w W' G T t A n c rs B m d ks :=
  ⟨own_next h.q hb, own_next h.k hb, h.g.next hb, h.o.next hb, h.e.trans (hb.mono h.e.size), h.hg, h.hn⟩
theorem MdW.alloc (h : MdW w W G T t A n c rs B m d ks) (o : Obj) : MdW w (W.alloc o) G T t A n c rs B m d ks := h.next ((Below.refl _ _).alloc (Nat.le_refl _) _)
/-- the grammar's cell put -/
theorem MdW.cell (h : MdW w W G T t A n c rs B m d ks) {A8 : Option Addr} {n8 c8 : Nat} {rs' : List Fac} (hq : W.ownsRow w.heap.size 44 3 (.slice A8 n8 c8) n8 (rs'.flatMap Fac.cells)) :
    MdW w (W.setCell ⟨G, 0, none⟩ (.slice A8 n8 c8)) G T t A8 n8 c8 rs' B m d ks := by
  have hg2 := gb_set W G 0 (.slice A8 n8 c8)
  exact ⟨own_kept' hq h.g (by decide) _, own_kept' h.k h.g (by decide) _, h.g.set_ 0 _, h.o.grown hg2 (by intro e; injection e with e; exact h.hn e.symm), h.e.setCell h.hg _, h.hg, h.hn⟩
theorem MdW.push {A8 : Option Addr} {k8 c8 : Nat} {rs' : List Fac} (h : MdW w W G T t A n c rs B m d ks) (hq : W'.ownsRow w.heap.size 44 3 (.slice A8 k8 c8) k8 (rs'.flatMap Fac.cells)) (hg : W.grownBy W' (Value.slice A n c).ownBlock) :
    MdW w (W'.setCell ⟨G, 0, none⟩ (.slice A8 k8 c8)) G T t A8 k8 c8 rs' B m d ks := by
  have ho' := h.o.grown hg (own_blk_ne h.q h.o (by decide))
  have hg' := h.g.grown hg (own_blk_ne h.q h.g (by decide))
  have hk' := h.k.kept hg (own_ne h.k h.q (by decide))
  have he' := h.e.grown hg h.e.size (own_ge h.q)
  have hg2 := gb_set W' G 0 (.slice A8 k8 c8)
  exact ⟨own_kept' hq hg' (by decide) _, own_kept' hk' hg' (by decide) _, hg'.set_ 0 _, ho'.grown hg2 (by intro e; injection e with e; exact h.hn e.symm), he'.setCell h.hg _, h.hg, h.hn⟩
end
/-- what 'made' leaves -/
def MdP (w0 : World) (G T : Nat) (t : Array Value) (rs : List Fac) (B : Option Addr) (m d : Nat) (ks : List Int) (e : Ending) (w' : World) : Prop :=
  e = .returned (.tuple #[]) ∧ ∃ A c, MdW w0 w' G T t A rs.length c rs B m d ks
set_option maxHeartbeats 4000000 in
set_option maxRecDepth 100000 in
theorem made_any (w0 : World) (G T : Nat) (t : Array Value) (A : Option Addr) (n c : Nat) (B : Option Addr) (m d : Nat) (rs : List Fac) (ks : List Int) (w : World) (hn : n ≤ 100000) (hm : m ≤ 100000) (hl : rs.length = n) (hk : ks.length = m)
    (hi : ∀ k ∈ ks, -9223372036854775808 ≤ k ∧ k ≤ 9223372036854775807) (h : MdW w0 w G T t A n c rs B m d ks) :
    Calls Try.prog 30 #[.pointer (some ⟨G, 0, none⟩), .slice B m d] w (MdP w0 G T t (chainL rs ks) B m d ks) := by
  have HL := Lib.hid hl; have HK := Lib.hid hk; have H := Lib.hid h; have HJ := Lib.hid hi
  clear hl hk h hi
  obtain ⟨b0, hI0⟩ := ChI.first rs ks
  go_enter Try.func30, Try.ntmps30
  go_wp2_with fail
  go_loopw [9] (fun i_ w' => ∃ (i : Nat) (A' : Option Addr) (n' c' : Nat) (rs' : List Fac) (b : Int), i_ = .int .i64 i ∧ i ≤ m ∧ n' + 1 = n + (max i 1) ∧ Hid (rs'.length = n') ∧ Hid (ChI rs ks (max i 1) rs' b) ∧
    Hid (MdW w0 w' G T t A' n' c' rs' B m d ks)) (fun i_ _ => m - (intOf i_).toNat)
  case atStart => exact ⟨0, A, n, c, rs, b0, rfl, by omega, by simp, HL, Lib.hid hI0, H⟩
  case round =>
    obtain ⟨i, A', n', c', rs', b, rfl, hi2, hn', hrl, HI, P1⟩ := hrel
    by_cases hlt : i < m
    · have RK := Lib.hid (Rd.of_own (enc := intE) (fun _ _ => rfl) HK.out P1.out.k)
      obtain ⟨bb, o, x0, hBe, hB0, g0, c0⟩ := RK.out.int (show 0 < m by omega)
      obtain ⟨bb', o', x, hBe', hB', gx, cx⟩ := RK.out.int hlt
      rw [hBe] at hBe'
      obtain ⟨rfl, rfl⟩ : bb = bb' ∧ o = o' := by injection hBe' with h; injection h with h1 h2 h3; exact ⟨h1, h2⟩
      subst hBe
      have c0 : wr.cell? ⟨bb, o, none⟩ = some (.int .i64 x0) := by simpa using c0
      have hx := HJ.out x (List.mem_of_getElem? gx)
      have hx0 := HJ.out x0 (List.mem_of_getElem? g0)
      have i0 : (0 : Int) ≤ (i : Int) := by omega
      have i1 : (i : Int) < (m : Int) := by omega
      have hm0 : (0 : Int) < (m : Int) := by omega
      have gl := P1.out.g.lt
      have gc := P1.out.g.cell 0
      by_cases hz : i = 0
      · subst hz
        clear gx g0 i0
        go_wp2_with fail
        go_roundw
        case rel => exact ⟨1, A', n', c', rs', b, by go_num, by omega, by omega, hrl, HI, P1⟩
        case measure => simp [intOf]; omega
      · have hmx : max i 1 = i := by omega
        rw [hmx] at HI hn'
        have hi1 : 1 ≤ i := by omega
        have HS := Lib.hid (HI.out.step hi1 gx)
        have u1 : IntKind.i64.wrap ((n' : Int) - 1) = (n' : Int) - 1 := IntWalk.i64_in _ (by omega)
        have HB := Lib.hid (HI.out.one)
        have HM := Lib.hid (HI.out.more)
        clear HI hmx gx hz
        have hzp : ((i : Int) > 0) := by omega
        go_upto_if 20 with (fail)
        go_cut [6] (fun b_ wx => b_ = .int .i64 b ∧ wx = wr)
        case first =>
          by_cases h1 : i = 1
          · subst h1
            have hb1 := Lib.hid (HB.out rfl x0 g0)
            go_wp2_with fail
            go_meet
            exact ⟨by rw [hb1.out], rfl⟩
          · have hb1 := Lib.hid (HM.out h1)
            have h1' : (1 : Int) < (i : Int) := by omega
            clear h1
            go_wp2_with fail
            go_meet
            exact ⟨by rw [hb1.out, hrl.out], rfl⟩
        case rest =>
          obtain ⟨rfl, rfl⟩ := hcut
          have hbb : -9223372036854775808 ≤ b ∧ b ≤ 9223372036854775807 := by
            by_cases h1 : i = 1
            · have := HB.out h1 x0 g0; omega
            · have := HM.out h1; have := hrl.out; omega
          have LC := Lib.hid (fun W => pair64_any b x W hbb hx)
          obtain ⟨y, hy⟩ : ∃ y : Fac, ⟨⟨#[]⟩, b, x⟩ = y := ⟨_, rfl⟩
          rw [hy] at LC HS
          clear hy
          have P3 := Lib.hid (P1.out.next (Below.refl _ _).drew)
          have zk : (n' + 1) * 32 ≤ 140737488355328 := by omega
          have zkm : n' + 1 ≤ maxLen := by unfold maxLen; omega
          clear c0 cx g0
          go_wp2_with fail
          go_region_law
            (first
              | (refine step_push (by rfl) _ _ _ (by rfl) w0.heap.size 44 3 32 elem_rule Fac.cells A' n' c' rs' (by rfl) P6.out.q _ y #[.string y.l, .int .i64 y.a, .int .i64 y.b] 44 (0, 0) (by rfl) (heap_alloc_new _ _) rfl rfl (one_fac _) (by omega) zk zkm P6.out.e.size ?_
                 intro A8 c8 w8 own8 hg8 old8
                 have P5 := Lib.hid (P6.out.push own8 hg8)
                 have B5 := P6.out.g.grown hg8 (own_blk_ne P6.out.q P6.out.g (by decide))
                 have d5 := B5.cell 0
                 have f5 := B5.frozen
                 have l5 := B5.lt)
              | (go_simp
                 go_wp2_with (go_at_call 29; refine (LC.out _).mono ?_; rintro e w4 ⟨rfl, hb4⟩)
                 have P4 := Lib.hid (P3.out.next hb4)
                 have P6 := Lib.hid (P4.out.alloc (.cells #[.string y.l, .int .i64 y.a, .int .i64 y.b] 44))
                 have d4 := P4.out.g.cell 0
                 have l4 := P4.out.g.lt))
          all_goals
            go_wp2_with fail
            go_roundw
            case rel => exact ⟨i + 1, A8, n' + 1, c8, rs' ++ [y], _, by go_num, by omega, by omega, Lib.hid (by rw [List.length_append, hrl.out]; rfl), by rw [show max (i + 1) 1 = i + 1 by omega]; exact HS, by rw [show n + i = n' + 1 by omega]; exact P5⟩
            case measure => simp [intOf]; omega
    · have e := Lib.hid (HI.out.last (by rw [HK.out]; omega))
      go_wp2_with fail
      refine bodyPost_ret (v := .tuple #[]) (by simp [results, Try.results30, go_sem]) rfl ⟨rfl, A', c', ?_⟩
      rw [e.out, hrl.out]; exact P1.out
end Go.Proofs.Ytikhjoianbndhaa
