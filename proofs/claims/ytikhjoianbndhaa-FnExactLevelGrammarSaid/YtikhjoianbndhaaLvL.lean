/-
  Level grammars in the program: two level rules made one.
-/
import Derived.Test.YtikhjoianbndhaaLvR
namespace Go.Proofs.Ytikhjoianbndhaa
open Go.RowKit

theorem LvP.idx {w0 W : World} {X M : Nat} {A : Option Addr} {n c : Nat} {B : Option Addr} {d : Nat} {s : LvS} {mm : List (Fac × Value)} (h : LvP w0 W X M A n c B d s mm) {k : Int} (hk : Idx s k) : 0 ≤ k ∧ k < (n : Int) := ⟨hk.1, by have := hk.2; rw [h.hr] at this; exact this⟩
/-- the third operand in words of states -/
def LvC (w0 : World) (X M : Nat) (v u : Value) (W : World) (s : LvS) : Prop := ∃ A n c B d mm, v = .slice A n c ∧ u = .slice B n d ∧ LvP w0 W X M A n c B d s mm
set_option maxHeartbeats 4000000 in
set_option maxRecDepth 100000 in
theorem lvPair_any (w0 : World) (X M : Nat) (a b : Int) (s : LvS) (A : Option Addr) (n c : Nat) (B : Option Addr) (d : Nat) (mm : List (Fac × Value)) (W : World) (hi : LvI s) (hn : n ≤ 100000) (ha : Idx s a) (hb : Idx s b) (h : LvP w0 W X M A n c B d s mm) :
    Calls Try.prog 70 #[.pointer (some ⟨X, 0, none⟩), .int .i64 a, .int .i64 b] W (LvQ w0 W X M (.slice A n c) (.slice B n d) (lvPair s a b)) := by
  have ra := h.idx ha
  have rb := h.idx hb
  have HC := Lib.hid (fun W' (h' : LvP w0 W' X M A n c B d s mm) => lvRule_any w0 X M ⟨⟨#[]⟩, a, b⟩ s A n c B d mm W' hi hn (.inl ⟨rfl, ha, hb⟩) h')
  have P0 := Lib.hid h
  have PC := Lib.hid (pair64_any a b W (by omega) (by omega))
  clear hi ha hb h
  go_enter Try.func70, Try.ntmps70
  go_wp2_with (go_at_call 29; refine PC.out.mono ?_; rintro e w1 ⟨rfl, hb1⟩)
  refine (HC.out w1 (P0.out.next hb1)).mono ?_
  rintro e w2 ⟨rfl, A2, n2, c2, B2, d2, mm2, p2, f2⟩
  have P2 := Lib.hid p2
  have F2 := Lib.hid ((LvF.of_below hb1).trans f2)
  clear p2 f2
  go_wp2_with fail
  go_ret
  exact ⟨rfl, A2, n2, c2, B2, d2, mm2, P2.out, F2.out⟩
/-- the fuel's end is never felt -/
theorem lvLevel_eq {f : Nat} {s : LvS} (h : LvI s) {l r : Int} (hl : Idx s l) (hr : Idx s r) (hf : l + r ≤ f) : lvLevel f s l r =
    if 1 < lvD s l - lvD s r then lvLeft (lvLevel (f - 1) s (lvR s l).b r).1 (lvR s l).a (lvLevel (f - 1) s (lvR s l).b r).2
    else if lvD s l - lvD s r < -1 then lvRight (lvLevel (f - 1) s l (lvR s r).a).1 (lvR s r).b (lvLevel (f - 1) s l (lvR s r).a).2
    else lvPair s l r := by
  cases f with
  | succ f => rfl
  | zero =>
    have e1 : l = 0 := by have := hl.1; have := hr.1; omega
    have e2 : r = 0 := by have := hl.1; have := hr.1; omega
    subst e1 e2
    rw [if_neg (by omega), if_neg (by omega)]; rfl
/-- what a read of index k needs -/
theorem LvP.rdk {w0 W : World} {X M : Nat} {A : Option Addr} {n c : Nat} {B : Option Addr} {d : Nat} {s : LvS} {mm : List (Fac × Value)} (h : LvP w0 W X M A n c B d s mm) (hn : 0 < n) : ∃ ga gb, A = some ⟨ga, 0, none⟩ ∧ B = some ⟨gb, 0, none⟩ ∧ ga < W.heap.size ∧ gb < W.heap.size ∧
    ∀ k : Nat, k < n → W.cell? ⟨gb, k, none⟩ = some (.int .i64 (lvD s k)) ∧ W.cell? ⟨ga, k * 3 + 1, none⟩ = some (.int .i64 (lvR s k).a) ∧ W.cell? ⟨ga, k * 3 + 2, none⟩ = some (.int .i64 (lvR s k).b) := by
  obtain ⟨ga, gb, h1, h2, h3, h4, h5⟩ := h.g.red h.hr h.hd hn
  exact ⟨ga, gb, h1, h2, h3, h4, fun k hk => ⟨(h5 k hk).1, (h5 k hk).2.2.1, (h5 k hk).2.2.2⟩⟩
theorem LvP.rd2 {w0 W : World} {X M : Nat} {ga gb n c d : Nat} {s : LvS} {mm : List (Fac × Value)} (h : LvP w0 W X M (some ⟨ga, 0, none⟩) n c (some ⟨gb, 0, none⟩) d s mm) (hn : 0 < n) :
    W.cell? ⟨X, 0, none⟩ = some (.slice (some ⟨ga, 0, none⟩) n c) ∧ W.cell? ⟨X, 1, none⟩ = some (.slice (some ⟨gb, 0, none⟩) n d) ∧ X < W.heap.size ∧ ga < W.heap.size ∧ gb < W.heap.size ∧
    ∀ k : Nat, k < n → W.cell? ⟨gb, k, none⟩ = some (.int .i64 (lvD s k)) ∧ W.cell? ⟨ga, k * 3 + 1, none⟩ = some (.int .i64 (lvR s k).a) ∧ W.cell? ⟨ga, k * 3 + 2, none⟩ = some (.int .i64 (lvR s k).b) := by
  obtain ⟨ga', gb', h1, h2, h3, h4, h5⟩ := h.rdk hn
  obtain rfl : ga = ga' := by injection h1 with h1; injection h1
  obtain rfl : gb = gb' := by injection h2 with h2; injection h2
  exact ⟨h.g.x.cell 0, h.g.x.cell 1, h.g.x.lt, h3, h4, h5⟩
set_option maxHeartbeats 8000000 in
set_option maxRecDepth 100000 in
theorem lvLevel_any (w0 : World) (X M : Nat) : ∀ (f : Nat) (l r : Nat) (s : LvS) (A : Option Addr) (n c : Nat) (B : Option Addr) (d : Nat) (mm : List (Fac × Value)) (W : World), LvI s → n + 3 * f + 10 ≤ 100000 → Idx s l → Idx s r → l + r ≤ f → LvP w0 W X M A n c B d s mm →
    Calls Try.prog 50 #[.pointer (some ⟨X, 0, none⟩), .int .i64 l, .int .i64 r] W (LvQ w0 W X M (.slice A n c) (.slice B n d) (lvLevel f s l r)) := by
  intro f
  induction f using Nat.strongRecOn with
  | ind f ih =>
    intro l r s A n c B d mm W hi hn hl hr hf h
    have IH := Lib.hid ih; clear ih
    have HI := Lib.hid hi
    have P0 := Lib.hid h
    have HL := Lib.hid hl
    have HR := Lib.hid hr
    have hln := (h.idx hl).2
    have hrn := (h.idx hr).2
    have dl := hi.lo l (by rw [h.hr]; omega)
    have dr := hi.lo r (by rw [h.hr]; omega)
    obtain ⟨ga, gb, rfl, rfl, _, _, _⟩ := h.rdk (by omega)
    have HE := Lib.hid (lvLevel_eq (f := f) hi hl hr (by omega))
    have F0 := Lib.hid (LvF.of_below (X := X) (M := M) (v := .slice (some ⟨ga, 0, none⟩) n c) (u := .slice (some ⟨gb, 0, none⟩) n d) (Below.refl W.heap.size W))
    have l0 : (0 : Int) ≤ (l : Int) := by omega
    have r0 : (0 : Int) ≤ (r : Int) := by omega
    obtain ⟨D1, hD1⟩ : ∃ D1, lvD s l = D1 := ⟨_, rfl⟩
    obtain ⟨D2, hD2⟩ : ∃ D2, lvD s r = D2 := ⟨_, rfl⟩
    have HE2 := HE.out
    rw [hD1] at dl HE2
    rw [hD2] at dr HE2
    have HD1 := Lib.hid hD1
    have HD2 := Lib.hid hD2
    clear hi hl hr h hD1 hD2 HE
    have ud : IntKind.i64.wrap (D1 - D2) = D1 - D2 := IntWalk.i64_in _ (by omega)
    by_cases h1 : 1 < D1 - D2
    · rw [if_pos h1] at HE2
      obtain ⟨_, ida, idb, lta, ltb, _⟩ := HI.out.deep HL.out (by rw [HD1.out]; omega)
      obtain ⟨a, ha⟩ : ∃ a : Nat, (lvR s l).a = a := ⟨(lvR s l).a.toNat, by have := ida.1; omega⟩
      obtain ⟨b, hb⟩ : ∃ b : Nat, (lvR s l).b = b := ⟨(lvR s l).b.toNat, by have := idb.1; omega⟩
      rw [ha, hb] at HE2
      rw [ha] at ida lta
      rw [hb] at idb ltb
      have HA := Lib.hid ha
      have HB := Lib.hid hb
      have IDA := Lib.hid ida
      have O1 := Lib.hid (lvLevel_do (f - 1) HI.out idb HR.out (by omega))
      have CALL := Lib.hid (fun W4 (h4 : LvP w0 W4 X M (some ⟨ga, 0, none⟩) n c (some ⟨gb, 0, none⟩) d s mm) => IH.out (f - 1) (by omega) b r s _ n c _ d mm W4 HI.out (by omega) idb HR.out (by omega) h4)
      generalize lvLevel (f - 1) s b r = t1 at *
      obtain ⟨s1, zi⟩ := t1
      simp only at HE2
      have HI1 : Hid (LvI s1) := Lib.hid O1.out.i
      have iz : Idx s1 zi := O1.out.ix
      obtain ⟨z, rfl⟩ : ∃ z : Nat, zi = z := ⟨zi.toNat, by have := iz.1; omega⟩
      have HZ := Lib.hid iz
      have HA1 : Hid (Idx s1 a) := Lib.hid (O1.out.idx IDA.out)
      have loa := HI1.out.lo a (by have := HA1.out.2; omega)
      have loz := HI1.out.lo z (by have := HZ.out.2; omega)
      obtain ⟨Dz, hDz⟩ : ∃ Dz, lvD s1 z = Dz := ⟨_, rfl⟩
      obtain ⟨Da, hDa⟩ : ∃ Da, lvD s1 a = Da := ⟨_, rfl⟩
      rw [hDz] at loz
      rw [hDa] at loa
      have HDz := Lib.hid hDz
      have HDa := Lib.hid hDa
      have n1e := Lib.hid (show s1.rs.length ≤ n + (3 * (f - 1) + 1) by have h1 := O1.out.len; have h2 := P0.out.hr; simp only at h1; omega)
      have lz1 := iz.2
      have la1 := HA1.out.2
      have HE3 := Lib.hid HE2
      clear HE2 ha hb ida idb IH iz hDz hDa
      go_enter Try.func50, Try.ntmps50
      have hup := upc W.heap.size W
      obtain ⟨x0, x1, xl, ga1, gb1, hrd⟩ := P0.out.rd2 (by omega)
      obtain ⟨l0_, l1_, l2_⟩ := hrd l (by omega)
      rw [HD1.out] at l0_
      rw [HA.out] at l1_
      rw [HB.out] at l2_
      obtain ⟨r0_, r1_, r2_⟩ := hrd r (by omega)
      rw [HD2.out] at r0_
      clear hrd
      go_wp2_with fail
      refine wp_region_up W.heap.size (by kernel_rfl) (by kernel_rfl) ?_
      repeat (go_big_quiet_step ((fail)))
      refine wpQuiet_nil ?_
      intro w2 hup_w2
      have hb := up_of hup_w2
      have P2 := Lib.hid (P0.out.next hb)
      have F2 := Lib.hid (F0.out.trans (LvF.of_below hb))
      clear hb hup_w2 x0 x1 xl ga1 gb1 hup l0_ l1_ l2_ r0_ r1_ r2_
      have hup := upc w2.heap.size w2
      obtain ⟨x0, x1, xl, ga1, gb1, hrd⟩ := P2.out.rd2 (by omega)
      obtain ⟨l0_, l1_, l2_⟩ := hrd l (by omega)
      rw [HA.out] at l1_
      rw [HB.out] at l2_
      clear hrd
      go_wp2_with fail
      refine wp_region_up w2.heap.size (by kernel_rfl) (by kernel_rfl) ?_
      repeat (go_big_quiet_step ((fail)))
      refine wpQuiet_nil ?_
      intro w3 hup_w3
      have hb := up_of hup_w3
      have P3 := Lib.hid (P2.out.next hb)
      have F3 := Lib.hid (F2.out.trans (LvF.of_below hb))
      clear hb hup_w3 x0 x1 xl ga1 gb1 hup l0_ l1_ l2_
      go_wp2_with fail
      refine (CALL.out w3 P3.out).mono ?_
      rintro e w4 ⟨rfl, A1, n1, c1, B1, d1, mm1, p4, f4⟩
      have P4 : Hid (LvP w0 w4 X M A1 n1 c1 B1 d1 s1 mm1) := Lib.hid p4
      have F4 := Lib.hid (F3.out.trans f4)
      clear p4 f4 CALL P0 P2 P3 F0 F2 F3
      have n1h := P4.out.hr
      have n1b := n1e.out
      rw [n1h] at n1b lz1 la1
      clear n1h n1e
      obtain ⟨ha, hb, rfl, rfl, _, _, _⟩ := P4.out.rdk (by omega)
      have z0 : (0 : Int) ≤ (z : Int) := by omega
      have a0 : (0 : Int) ≤ (a : Int) := by omega
      have ua : IntKind.i64.wrap (Da + 1) = Da + 1 := IntWalk.i64_in _ (by omega)
      by_cases q1 : Dz ≤ Da + 1
      · have HE4 := Lib.hid (show lvLevel f s l r = lvPair s1 a z by rw [HE3.out]; unfold lvLeft; rw [HDz.out, HDa.out, if_pos q1])
        clear HE3
        have hup := upc w4.heap.size w4
        obtain ⟨x0, x1, xl, ga1, gb1, hrd⟩ := P4.out.rd2 (by omega)
        obtain ⟨z0_, z1_, z2_⟩ := hrd z (by omega)
        rw [HDz.out] at z0_
        obtain ⟨a0_, a1_, a2_⟩ := hrd a (by omega)
        rw [HDa.out] at a0_
        clear hrd
        go_wp2_with fail
        refine wp_region_up w4.heap.size (by kernel_rfl) (by kernel_rfl) ?_
        repeat (go_big_quiet_step ((fail)))
        refine wpQuiet_nil ?_
        intro w5 hup_w5
        have hb := up_of hup_w5
        have P5 := Lib.hid (P4.out.next hb)
        have F5 := Lib.hid (F4.out.trans (LvF.of_below hb))
        clear hb hup_w5 x0 x1 xl ga1 gb1 hup z0_ z1_ z2_ a0_ a1_ a2_
        have O2 := Lib.hid (lvPair_do HI1.out HA1.out HZ.out)
        have C2 := Lib.hid (lvPair_any w0 X M _ _ s1 _ n1 c1 _ d1 mm1 w5 HI1.out (by omega) HA1.out HZ.out P5.out)
        generalize lvPair s1 (a : Int) (z : Int) = t2 at *
        obtain ⟨s2, i2⟩ := t2
        have HI2 : Hid (LvI s2) := Lib.hid O2.out.i
        have IX2 : Hid (Idx s2 i2) := Lib.hid O2.out.ix
        go_wp2_with fail
        refine C2.out.mono ?_
        rintro e w6 ⟨rfl, A2, n2, c2, B2, d2, mm2, p, f⟩
        have P2 : Hid (LvP w0 w6 X M A2 n2 c2 B2 d2 s2 mm2) := Lib.hid p
        have F2 := Lib.hid (F5.out.trans f)
        have ln2 : n2 ≤ n1 + 1 := by have h1 := O2.out.len; have h2 := P2.out.hr; have h3 := P5.out.hr; simp only at h1; omega
        clear p f C2
        go_wp2_with fail
        go_ret
        rw [HE4.out]
        exact ⟨rfl, A2, n2, c2, B2, d2, mm2, P2.out, F2.out⟩
      · obtain ⟨_, idc, idd, ltc, ltd, _⟩ := HI1.out.deep HZ.out (by rw [HDz.out]; omega)
        obtain ⟨zc, hc⟩ : ∃ k : Nat, (lvR s1 z).a = k := ⟨(lvR s1 z).a.toNat, by have := idc.1; omega⟩
        obtain ⟨zd, hd⟩ : ∃ k : Nat, (lvR s1 z).b = k := ⟨(lvR s1 z).b.toNat, by have := idd.1; omega⟩
        rw [hc] at idc ltc
        rw [hd] at idd ltd
        have HC := Lib.hid hc
        have HD := Lib.hid hd
        have IC := Lib.hid idc
        have ID := Lib.hid idd
        have loc := HI1.out.lo zc (by have := idc.2; omega)
        have lod := HI1.out.lo zd (by have := idd.2; omega)
        obtain ⟨Dc, hDc⟩ : ∃ Dc, lvD s1 zc = Dc := ⟨_, rfl⟩
        obtain ⟨Dd, hDd⟩ : ∃ Dd, lvD s1 zd = Dd := ⟨_, rfl⟩
        rw [hDc] at loc
        rw [hDd] at lod
        have HDc := Lib.hid hDc
        have HDd := Lib.hid hDd
        have c0 : (0 : Int) ≤ (zc : Int) := by omega
        have d0 : (0 : Int) ≤ (zd : Int) := by omega
        clear hc hd idc idd hDc hDd
        have hup := upc w4.heap.size w4
        obtain ⟨x0, x1, xl, ga1, gb1, hrd⟩ := P4.out.rd2 (by omega)
        obtain ⟨z0_, z1_, z2_⟩ := hrd z (by omega)
        rw [HDz.out] at z0_
        obtain ⟨a0_, a1_, a2_⟩ := hrd a (by omega)
        rw [HDa.out] at a0_
        clear hrd
        go_wp2_with fail
        refine wp_region_up w4.heap.size (by kernel_rfl) (by kernel_rfl) ?_
        repeat (go_big_quiet_step ((fail)))
        refine wpQuiet_nil ?_
        intro w5 hup_w5
        have hb := up_of hup_w5
        have P5 := Lib.hid (P4.out.next hb)
        have F5 := Lib.hid (F4.out.trans (LvF.of_below hb))
        clear hb hup_w5 x0 x1 xl ga1 gb1 hup z0_ z1_ z2_ a0_ a1_ a2_
        have hup := upc w5.heap.size w5
        obtain ⟨x0, x1, xl, ga1, gb1, hrd⟩ := P5.out.rd2 (by omega)
        obtain ⟨z0_, z1_, z2_⟩ := hrd z (by omega)
        rw [HC.out] at z1_
        rw [HD.out] at z2_
        clear hrd
        go_wp2_with fail
        refine wp_region_up w5.heap.size (by kernel_rfl) (by kernel_rfl) ?_
        repeat (go_big_quiet_step ((fail)))
        refine wpQuiet_nil ?_
        intro w6 hup_w6
        have hb := up_of hup_w6
        have P6 := Lib.hid (P5.out.next hb)
        have F6 := Lib.hid (F5.out.trans (LvF.of_below hb))
        clear hb hup_w6 x0 x1 xl ga1 gb1 hup z0_ z1_ z2_
        by_cases q2 : Dc ≤ Dd
        · have HE4 := Lib.hid (show lvLevel f s l r = lvPair (lvPair s1 a zc).1 (lvPair s1 a zc).2 zd by rw [HE3.out]; unfold lvLeft; rw [HDz.out, HDa.out, if_neg (Int.not_le.2 q1), HC.out, HD.out, HDc.out, HDd.out, if_pos q2])
          clear HE3
          have hup := upc w6.heap.size w6
          obtain ⟨x0, x1, xl, ga1, gb1, hrd⟩ := P6.out.rd2 (by omega)
          obtain ⟨zc0_, zc1_, zc2_⟩ := hrd zc (by omega)
          rw [HDc.out] at zc0_
          obtain ⟨zd0_, zd1_, zd2_⟩ := hrd zd (by omega)
          rw [HDd.out] at zd0_
          clear hrd
          go_wp2_with fail
          refine wp_region_up w6.heap.size (by kernel_rfl) (by kernel_rfl) ?_
          repeat (go_big_quiet_step ((fail)))
          refine wpQuiet_nil ?_
          intro w7 hup_w7
          have hb := up_of hup_w7
          have P7 := Lib.hid (P6.out.next hb)
          have F7 := Lib.hid (F6.out.trans (LvF.of_below hb))
          clear hb hup_w7 x0 x1 xl ga1 gb1 hup zc0_ zc1_ zc2_ zd0_ zd1_ zd2_
          have O2 := Lib.hid (lvPair_do HI1.out HA1.out IC.out)
          have C2 := Lib.hid (lvPair_any w0 X M _ _ s1 _ n1 c1 _ d1 mm1 w7 HI1.out (by omega) HA1.out IC.out P7.out)
          generalize lvPair s1 (a : Int) (zc : Int) = t2 at *
          obtain ⟨s2, i2⟩ := t2
          have HI2 : Hid (LvI s2) := Lib.hid O2.out.i
          have IX2 : Hid (Idx s2 i2) := Lib.hid O2.out.ix
          go_wp2_with fail
          refine C2.out.mono ?_
          rintro e w8 ⟨rfl, A2, n2, c2, B2, d2, mm2, p, f⟩
          have P2 : Hid (LvP w0 w8 X M A2 n2 c2 B2 d2 s2 mm2) := Lib.hid p
          have F2 := Lib.hid (F7.out.trans f)
          have ln2 : n2 ≤ n1 + 1 := by have h1 := O2.out.len; have h2 := P2.out.hr; have h3 := P7.out.hr; simp only at h1; omega
          clear p f C2
          have ID2 : Hid (Idx s2 zd) := Lib.hid (O2.out.idx ID.out)
          have O3 := Lib.hid (lvPair_do HI2.out IX2.out ID2.out)
          have C3 := Lib.hid (lvPair_any w0 X M _ _ s2 _ n2 c2 _ d2 mm2 w8 HI2.out (by omega) IX2.out ID2.out P2.out)
          generalize lvPair s2 i2 (zd : Int) = t3 at *
          obtain ⟨s3, i3⟩ := t3
          have HI3 : Hid (LvI s3) := Lib.hid O3.out.i
          have IX3 : Hid (Idx s3 i3) := Lib.hid O3.out.ix
          go_wp2_with fail
          refine C3.out.mono ?_
          rintro e w9 ⟨rfl, A3, n3, c3, B3, d3, mm3, p, f⟩
          have P3 : Hid (LvP w0 w9 X M A3 n3 c3 B3 d3 s3 mm3) := Lib.hid p
          have F3 := Lib.hid (F2.out.trans f)
          have ln3 : n3 ≤ n2 + 1 := by have h1 := O3.out.len; have h2 := P3.out.hr; have h3 := P2.out.hr; simp only at h1; omega
          clear p f C3
          go_wp2_with fail
          go_ret
          rw [HE4.out]
          exact ⟨rfl, A3, n3, c3, B3, d3, mm3, P3.out, F3.out⟩
        · obtain ⟨_, ide, idf, lte, ltf, _⟩ := HI1.out.deep IC.out (by rw [HDc.out]; omega)
          obtain ⟨ca, hca⟩ : ∃ k : Nat, (lvR s1 zc).a = k := ⟨(lvR s1 zc).a.toNat, by have := ide.1; omega⟩
          obtain ⟨cb, hcb⟩ : ∃ k : Nat, (lvR s1 zc).b = k := ⟨(lvR s1 zc).b.toNat, by have := idf.1; omega⟩
          rw [hca] at ide lte
          rw [hcb] at idf ltf
          have HCA := Lib.hid hca
          have HCB := Lib.hid hcb
          have IE := Lib.hid ide
          have IF := Lib.hid idf
          clear hca hcb ide idf
          have HE4 := Lib.hid (show lvLevel f s l r = lvPair (lvPair (lvPair s1 a ca).1 cb zd).1 (lvPair s1 a ca).2 (lvPair (lvPair s1 a ca).1 cb zd).2 by rw [HE3.out]; unfold lvLeft; rw [HDz.out, HDa.out, if_neg (Int.not_le.2 q1), HC.out, HD.out, HDc.out, HDd.out, if_neg q2, HCA.out, HCB.out])
          clear HE3
          have hup := upc w6.heap.size w6
          obtain ⟨x0, x1, xl, ga1, gb1, hrd⟩ := P6.out.rd2 (by omega)
          obtain ⟨zc0_, zc1_, zc2_⟩ := hrd zc (by omega)
          rw [HDc.out] at zc0_
          obtain ⟨zd0_, zd1_, zd2_⟩ := hrd zd (by omega)
          rw [HDd.out] at zd0_
          clear hrd
          go_wp2_with fail
          refine wp_region_up w6.heap.size (by kernel_rfl) (by kernel_rfl) ?_
          repeat (go_big_quiet_step ((fail)))
          refine wpQuiet_nil ?_
          intro w7 hup_w7
          have hb := up_of hup_w7
          have P7 := Lib.hid (P6.out.next hb)
          have F7 := Lib.hid (F6.out.trans (LvF.of_below hb))
          clear hb hup_w7 x0 x1 xl ga1 gb1 hup zc0_ zc1_ zc2_ zd0_ zd1_ zd2_
          have hup := upc w7.heap.size w7
          obtain ⟨x0, x1, xl, ga1, gb1, hrd⟩ := P7.out.rd2 (by omega)
          obtain ⟨zc0_, zc1_, zc2_⟩ := hrd zc (by omega)
          rw [HCA.out] at zc1_
          rw [HCB.out] at zc2_
          clear hrd
          go_wp2_with fail
          refine wp_region_up w7.heap.size (by kernel_rfl) (by kernel_rfl) ?_
          repeat (go_big_quiet_step ((fail)))
          refine wpQuiet_nil ?_
          intro w8 hup_w8
          have hb := up_of hup_w8
          have P8 := Lib.hid (P7.out.next hb)
          have F8 := Lib.hid (F7.out.trans (LvF.of_below hb))
          clear hb hup_w8 x0 x1 xl ga1 gb1 hup zc0_ zc1_ zc2_
          have O2 := Lib.hid (lvPair_do HI1.out HA1.out IE.out)
          have C2 := Lib.hid (lvPair_any w0 X M _ _ s1 _ n1 c1 _ d1 mm1 w8 HI1.out (by omega) HA1.out IE.out P8.out)
          generalize lvPair s1 (a : Int) (ca : Int) = t2 at *
          obtain ⟨s2, i2⟩ := t2
          have HI2 : Hid (LvI s2) := Lib.hid O2.out.i
          have IX2 : Hid (Idx s2 i2) := Lib.hid O2.out.ix
          go_wp2_with fail
          refine C2.out.mono ?_
          rintro e w9 ⟨rfl, A2, n2, c2, B2, d2, mm2, p, f⟩
          have P2 : Hid (LvP w0 w9 X M A2 n2 c2 B2 d2 s2 mm2) := Lib.hid p
          have F2 := Lib.hid (F8.out.trans f)
          have ln2 : n2 ≤ n1 + 1 := by have h1 := O2.out.len; have h2 := P2.out.hr; have h3 := P8.out.hr; simp only at h1; omega
          clear p f C2
          have IF2 : Hid (Idx s2 cb) := Lib.hid (O2.out.idx IF.out)
          have ID2 : Hid (Idx s2 zd) := Lib.hid (O2.out.idx ID.out)
          have O3 := Lib.hid (lvPair_do HI2.out IF2.out ID2.out)
          have C3 := Lib.hid (lvPair_any w0 X M _ _ s2 _ n2 c2 _ d2 mm2 w9 HI2.out (by omega) IF2.out ID2.out P2.out)
          generalize lvPair s2 (cb : Int) (zd : Int) = t3 at *
          obtain ⟨s3, i3⟩ := t3
          have HI3 : Hid (LvI s3) := Lib.hid O3.out.i
          have IX3 : Hid (Idx s3 i3) := Lib.hid O3.out.ix
          go_wp2_with fail
          refine C3.out.mono ?_
          rintro e w10 ⟨rfl, A3, n3, c3, B3, d3, mm3, p, f⟩
          have P3 : Hid (LvP w0 w10 X M A3 n3 c3 B3 d3 s3 mm3) := Lib.hid p
          have F3 := Lib.hid (F2.out.trans f)
          have ln3 : n3 ≤ n2 + 1 := by have h1 := O3.out.len; have h2 := P3.out.hr; have h3 := P2.out.hr; simp only at h1; omega
          clear p f C3
          have IX23 : Hid (Idx s3 i2) := Lib.hid (O3.out.idx IX2.out)
          have O4 := Lib.hid (lvPair_do HI3.out IX23.out IX3.out)
          have C4 := Lib.hid (lvPair_any w0 X M _ _ s3 _ n3 c3 _ d3 mm3 w10 HI3.out (by omega) IX23.out IX3.out P3.out)
          generalize lvPair s3 i2 i3 = t4 at *
          obtain ⟨s4, i4⟩ := t4
          have HI4 : Hid (LvI s4) := Lib.hid O4.out.i
          have IX4 : Hid (Idx s4 i4) := Lib.hid O4.out.ix
          go_wp2_with fail
          refine C4.out.mono ?_
          rintro e w11 ⟨rfl, A4, n4, c4, B4, d4, mm4, p, f⟩
          have P4 : Hid (LvP w0 w11 X M A4 n4 c4 B4 d4 s4 mm4) := Lib.hid p
          have F4 := Lib.hid (F3.out.trans f)
          have ln4 : n4 ≤ n3 + 1 := by have h1 := O4.out.len; have h2 := P4.out.hr; have h3 := P3.out.hr; simp only at h1; omega
          clear p f C4
          go_wp2_with fail
          go_ret
          rw [HE4.out]
          exact ⟨rfl, A4, n4, c4, B4, d4, mm4, P4.out, F4.out⟩
    · by_cases h2 : D1 - D2 < -1
      · rw [if_neg h1, if_pos h2] at HE2
        obtain ⟨_, ida, idb, lta, ltb, _⟩ := HI.out.deep HR.out (by rw [HD2.out]; omega)
        obtain ⟨ida, idb, lta, ltb⟩ : Idx s (lvR s r).b ∧ Idx s (lvR s r).a ∧ (lvR s r).b < (r : Int) ∧ (lvR s r).a < (r : Int) := ⟨idb, ida, ltb, lta⟩
        obtain ⟨a, ha⟩ : ∃ a : Nat, (lvR s r).b = a := ⟨(lvR s r).b.toNat, by have := ida.1; omega⟩
        obtain ⟨b, hb⟩ : ∃ b : Nat, (lvR s r).a = b := ⟨(lvR s r).a.toNat, by have := idb.1; omega⟩
        rw [ha, hb] at HE2
        rw [ha] at ida lta
        rw [hb] at idb ltb
        have HA := Lib.hid ha
        have HB := Lib.hid hb
        have IDA := Lib.hid ida
        have O1 := Lib.hid (lvLevel_do (f - 1) HI.out HL.out idb (by omega))
        have CALL := Lib.hid (fun W4 (h4 : LvP w0 W4 X M (some ⟨ga, 0, none⟩) n c (some ⟨gb, 0, none⟩) d s mm) => IH.out (f - 1) (by omega) l b s _ n c _ d mm W4 HI.out (by omega) HL.out idb (by omega) h4)
        generalize lvLevel (f - 1) s l b = t1 at *
        obtain ⟨s1, zi⟩ := t1
        simp only at HE2
        have HI1 : Hid (LvI s1) := Lib.hid O1.out.i
        have iz : Idx s1 zi := O1.out.ix
        obtain ⟨z, rfl⟩ : ∃ z : Nat, zi = z := ⟨zi.toNat, by have := iz.1; omega⟩
        have HZ := Lib.hid iz
        have HA1 : Hid (Idx s1 a) := Lib.hid (O1.out.idx IDA.out)
        have loa := HI1.out.lo a (by have := HA1.out.2; omega)
        have loz := HI1.out.lo z (by have := HZ.out.2; omega)
        obtain ⟨Dz, hDz⟩ : ∃ Dz, lvD s1 z = Dz := ⟨_, rfl⟩
        obtain ⟨Da, hDa⟩ : ∃ Da, lvD s1 a = Da := ⟨_, rfl⟩
        rw [hDz] at loz
        rw [hDa] at loa
        have HDz := Lib.hid hDz
        have HDa := Lib.hid hDa
        have n1e := Lib.hid (show s1.rs.length ≤ n + (3 * (f - 1) + 1) by have h1 := O1.out.len; have h2 := P0.out.hr; simp only at h1; omega)
        have lz1 := iz.2
        have la1 := HA1.out.2
        have HE3 := Lib.hid HE2
        clear HE2 ha hb ida idb IH iz hDz hDa
        go_enter Try.func50, Try.ntmps50
        have hup := upc W.heap.size W
        obtain ⟨x0, x1, xl, ga1, gb1, hrd⟩ := P0.out.rd2 (by omega)
        obtain ⟨l0_, l1_, l2_⟩ := hrd l (by omega)
        rw [HD1.out] at l0_
        obtain ⟨r0_, r1_, r2_⟩ := hrd r (by omega)
        rw [HD2.out] at r0_
        rw [HB.out] at r1_
        rw [HA.out] at r2_
        clear hrd
        go_wp2_with fail
        refine wp_region_up W.heap.size (by kernel_rfl) (by kernel_rfl) ?_
        repeat (go_big_quiet_step ((fail)))
        refine wpQuiet_nil ?_
        intro w2 hup_w2
        have hb := up_of hup_w2
        have P2 := Lib.hid (P0.out.next hb)
        have F2 := Lib.hid (F0.out.trans (LvF.of_below hb))
        clear hb hup_w2 x0 x1 xl ga1 gb1 hup l0_ l1_ l2_ r0_ r1_ r2_
        have hup := upc w2.heap.size w2
        obtain ⟨x0, x1, xl, ga1, gb1, hrd⟩ := P2.out.rd2 (by omega)
        obtain ⟨r0_, r1_, r2_⟩ := hrd r (by omega)
        rw [HB.out] at r1_
        rw [HA.out] at r2_
        clear hrd
        go_wp2_with fail
        refine wp_region_up w2.heap.size (by kernel_rfl) (by kernel_rfl) ?_
        repeat (go_big_quiet_step ((fail)))
        refine wpQuiet_nil ?_
        intro w3 hup_w3
        have hb := up_of hup_w3
        have P3 := Lib.hid (P2.out.next hb)
        have F3 := Lib.hid (F2.out.trans (LvF.of_below hb))
        clear hb hup_w3 x0 x1 xl ga1 gb1 hup r0_ r1_ r2_
        go_wp2_with fail
        refine (CALL.out w3 P3.out).mono ?_
        rintro e w4 ⟨rfl, A1, n1, c1, B1, d1, mm1, p4, f4⟩
        have P4 : Hid (LvP w0 w4 X M A1 n1 c1 B1 d1 s1 mm1) := Lib.hid p4
        have F4 := Lib.hid (F3.out.trans f4)
        clear p4 f4 CALL P0 P2 P3 F0 F2 F3
        have n1h := P4.out.hr
        have n1b := n1e.out
        rw [n1h] at n1b lz1 la1
        clear n1h n1e
        obtain ⟨ha, hb, rfl, rfl, _, _, _⟩ := P4.out.rdk (by omega)
        have z0 : (0 : Int) ≤ (z : Int) := by omega
        have a0 : (0 : Int) ≤ (a : Int) := by omega
        have ua : IntKind.i64.wrap (Da + 1) = Da + 1 := IntWalk.i64_in _ (by omega)
        by_cases q1 : Dz ≤ Da + 1
        · have HE4 := Lib.hid (show lvLevel f s l r = lvPair s1 z a by rw [HE3.out]; unfold lvRight; rw [HDz.out, HDa.out, if_pos q1])
          clear HE3
          have hup := upc w4.heap.size w4
          obtain ⟨x0, x1, xl, ga1, gb1, hrd⟩ := P4.out.rd2 (by omega)
          obtain ⟨z0_, z1_, z2_⟩ := hrd z (by omega)
          rw [HDz.out] at z0_
          obtain ⟨a0_, a1_, a2_⟩ := hrd a (by omega)
          rw [HDa.out] at a0_
          clear hrd
          go_wp2_with fail
          refine wp_region_up w4.heap.size (by kernel_rfl) (by kernel_rfl) ?_
          repeat (go_big_quiet_step ((fail)))
          refine wpQuiet_nil ?_
          intro w5 hup_w5
          have hb := up_of hup_w5
          have P5 := Lib.hid (P4.out.next hb)
          have F5 := Lib.hid (F4.out.trans (LvF.of_below hb))
          clear hb hup_w5 x0 x1 xl ga1 gb1 hup z0_ z1_ z2_ a0_ a1_ a2_
          have O2 := Lib.hid (lvPair_do HI1.out HZ.out HA1.out)
          have C2 := Lib.hid (lvPair_any w0 X M _ _ s1 _ n1 c1 _ d1 mm1 w5 HI1.out (by omega) HZ.out HA1.out P5.out)
          generalize lvPair s1 (z : Int) (a : Int) = t2 at *
          obtain ⟨s2, i2⟩ := t2
          have HI2 : Hid (LvI s2) := Lib.hid O2.out.i
          have IX2 : Hid (Idx s2 i2) := Lib.hid O2.out.ix
          go_wp2_with fail
          refine C2.out.mono ?_
          rintro e w6 ⟨rfl, A2, n2, c2, B2, d2, mm2, p, f⟩
          have P2 : Hid (LvP w0 w6 X M A2 n2 c2 B2 d2 s2 mm2) := Lib.hid p
          have F2 := Lib.hid (F5.out.trans f)
          have ln2 : n2 ≤ n1 + 1 := by have h1 := O2.out.len; have h2 := P2.out.hr; have h3 := P5.out.hr; simp only at h1; omega
          clear p f C2
          go_wp2_with fail
          go_ret
          rw [HE4.out]
          exact ⟨rfl, A2, n2, c2, B2, d2, mm2, P2.out, F2.out⟩
        · obtain ⟨_, idc, idd, ltc, ltd, _⟩ := HI1.out.deep HZ.out (by rw [HDz.out]; omega)
          obtain ⟨idc, idd, ltc, ltd⟩ : Idx s1 (lvR s1 z).b ∧ Idx s1 (lvR s1 z).a ∧ (lvR s1 z).b < (z : Int) ∧ (lvR s1 z).a < (z : Int) := ⟨idd, idc, ltd, ltc⟩
          obtain ⟨zc, hc⟩ : ∃ k : Nat, (lvR s1 z).b = k := ⟨(lvR s1 z).b.toNat, by have := idc.1; omega⟩
          obtain ⟨zd, hd⟩ : ∃ k : Nat, (lvR s1 z).a = k := ⟨(lvR s1 z).a.toNat, by have := idd.1; omega⟩
          rw [hc] at idc ltc
          rw [hd] at idd ltd
          have HC := Lib.hid hc
          have HD := Lib.hid hd
          have IC := Lib.hid idc
          have ID := Lib.hid idd
          have loc := HI1.out.lo zc (by have := idc.2; omega)
          have lod := HI1.out.lo zd (by have := idd.2; omega)
          obtain ⟨Dc, hDc⟩ : ∃ Dc, lvD s1 zc = Dc := ⟨_, rfl⟩
          obtain ⟨Dd, hDd⟩ : ∃ Dd, lvD s1 zd = Dd := ⟨_, rfl⟩
          rw [hDc] at loc
          rw [hDd] at lod
          have HDc := Lib.hid hDc
          have HDd := Lib.hid hDd
          have c0 : (0 : Int) ≤ (zc : Int) := by omega
          have d0 : (0 : Int) ≤ (zd : Int) := by omega
          clear hc hd idc idd hDc hDd
          have hup := upc w4.heap.size w4
          obtain ⟨x0, x1, xl, ga1, gb1, hrd⟩ := P4.out.rd2 (by omega)
          obtain ⟨z0_, z1_, z2_⟩ := hrd z (by omega)
          rw [HDz.out] at z0_
          obtain ⟨a0_, a1_, a2_⟩ := hrd a (by omega)
          rw [HDa.out] at a0_
          clear hrd
          go_wp2_with fail
          refine wp_region_up w4.heap.size (by kernel_rfl) (by kernel_rfl) ?_
          repeat (go_big_quiet_step ((fail)))
          refine wpQuiet_nil ?_
          intro w5 hup_w5
          have hb := up_of hup_w5
          have P5 := Lib.hid (P4.out.next hb)
          have F5 := Lib.hid (F4.out.trans (LvF.of_below hb))
          clear hb hup_w5 x0 x1 xl ga1 gb1 hup z0_ z1_ z2_ a0_ a1_ a2_
          have hup := upc w5.heap.size w5
          obtain ⟨x0, x1, xl, ga1, gb1, hrd⟩ := P5.out.rd2 (by omega)
          obtain ⟨z0_, z1_, z2_⟩ := hrd z (by omega)
          rw [HD.out] at z1_
          rw [HC.out] at z2_
          clear hrd
          go_wp2_with fail
          refine wp_region_up w5.heap.size (by kernel_rfl) (by kernel_rfl) ?_
          repeat (go_big_quiet_step ((fail)))
          refine wpQuiet_nil ?_
          intro w6 hup_w6
          have hb := up_of hup_w6
          have P6 := Lib.hid (P5.out.next hb)
          have F6 := Lib.hid (F5.out.trans (LvF.of_below hb))
          clear hb hup_w6 x0 x1 xl ga1 gb1 hup z0_ z1_ z2_
          by_cases q2 : Dc ≤ Dd
          · have HE4 := Lib.hid (show lvLevel f s l r = lvPair (lvPair s1 zc a).1 zd (lvPair s1 zc a).2 by rw [HE3.out]; unfold lvRight; rw [HDz.out, HDa.out, if_neg (Int.not_le.2 q1), HC.out, HD.out, HDc.out, HDd.out, if_pos q2])
            clear HE3
            have hup := upc w6.heap.size w6
            obtain ⟨x0, x1, xl, ga1, gb1, hrd⟩ := P6.out.rd2 (by omega)
            obtain ⟨zc0_, zc1_, zc2_⟩ := hrd zc (by omega)
            rw [HDc.out] at zc0_
            obtain ⟨zd0_, zd1_, zd2_⟩ := hrd zd (by omega)
            rw [HDd.out] at zd0_
            clear hrd
            go_wp2_with fail
            refine wp_region_up w6.heap.size (by kernel_rfl) (by kernel_rfl) ?_
            repeat (go_big_quiet_step ((fail)))
            refine wpQuiet_nil ?_
            intro w7 hup_w7
            have hb := up_of hup_w7
            have P7 := Lib.hid (P6.out.next hb)
            have F7 := Lib.hid (F6.out.trans (LvF.of_below hb))
            clear hb hup_w7 x0 x1 xl ga1 gb1 hup zc0_ zc1_ zc2_ zd0_ zd1_ zd2_
            have O2 := Lib.hid (lvPair_do HI1.out IC.out HA1.out)
            have C2 := Lib.hid (lvPair_any w0 X M _ _ s1 _ n1 c1 _ d1 mm1 w7 HI1.out (by omega) IC.out HA1.out P7.out)
            generalize lvPair s1 (zc : Int) (a : Int) = t2 at *
            obtain ⟨s2, i2⟩ := t2
            have HI2 : Hid (LvI s2) := Lib.hid O2.out.i
            have IX2 : Hid (Idx s2 i2) := Lib.hid O2.out.ix
            go_wp2_with fail
            refine C2.out.mono ?_
            rintro e w8 ⟨rfl, A2, n2, c2, B2, d2, mm2, p, f⟩
            have P2 : Hid (LvP w0 w8 X M A2 n2 c2 B2 d2 s2 mm2) := Lib.hid p
            have F2 := Lib.hid (F7.out.trans f)
            have ln2 : n2 ≤ n1 + 1 := by have h1 := O2.out.len; have h2 := P2.out.hr; have h3 := P7.out.hr; simp only at h1; omega
            clear p f C2
            have ID2 : Hid (Idx s2 zd) := Lib.hid (O2.out.idx ID.out)
            have O3 := Lib.hid (lvPair_do HI2.out ID2.out IX2.out)
            have C3 := Lib.hid (lvPair_any w0 X M _ _ s2 _ n2 c2 _ d2 mm2 w8 HI2.out (by omega) ID2.out IX2.out P2.out)
            generalize lvPair s2 (zd : Int) i2 = t3 at *
            obtain ⟨s3, i3⟩ := t3
            have HI3 : Hid (LvI s3) := Lib.hid O3.out.i
            have IX3 : Hid (Idx s3 i3) := Lib.hid O3.out.ix
            go_wp2_with fail
            refine C3.out.mono ?_
            rintro e w9 ⟨rfl, A3, n3, c3, B3, d3, mm3, p, f⟩
            have P3 : Hid (LvP w0 w9 X M A3 n3 c3 B3 d3 s3 mm3) := Lib.hid p
            have F3 := Lib.hid (F2.out.trans f)
            have ln3 : n3 ≤ n2 + 1 := by have h1 := O3.out.len; have h2 := P3.out.hr; have h3 := P2.out.hr; simp only at h1; omega
            clear p f C3
            go_wp2_with fail
            go_ret
            rw [HE4.out]
            exact ⟨rfl, A3, n3, c3, B3, d3, mm3, P3.out, F3.out⟩
          · obtain ⟨_, ide, idf, lte, ltf, _⟩ := HI1.out.deep IC.out (by rw [HDc.out]; omega)
            obtain ⟨ca, hca⟩ : ∃ k : Nat, (lvR s1 zc).a = k := ⟨(lvR s1 zc).a.toNat, by have := ide.1; omega⟩
            obtain ⟨cb, hcb⟩ : ∃ k : Nat, (lvR s1 zc).b = k := ⟨(lvR s1 zc).b.toNat, by have := idf.1; omega⟩
            rw [hca] at ide lte
            rw [hcb] at idf ltf
            have HCA := Lib.hid hca
            have HCB := Lib.hid hcb
            have IE := Lib.hid ide
            have IF := Lib.hid idf
            clear hca hcb ide idf
            have HE4 := Lib.hid (show lvLevel f s l r = lvPair (lvPair (lvPair s1 zd ca).1 cb a).1 (lvPair s1 zd ca).2 (lvPair (lvPair s1 zd ca).1 cb a).2 by rw [HE3.out]; unfold lvRight; rw [HDz.out, HDa.out, if_neg (Int.not_le.2 q1), HC.out, HD.out, HDc.out, HDd.out, if_neg q2, HCA.out, HCB.out])
            clear HE3
            have hup := upc w6.heap.size w6
            obtain ⟨x0, x1, xl, ga1, gb1, hrd⟩ := P6.out.rd2 (by omega)
            obtain ⟨zc0_, zc1_, zc2_⟩ := hrd zc (by omega)
            rw [HDc.out] at zc0_
            obtain ⟨zd0_, zd1_, zd2_⟩ := hrd zd (by omega)
            rw [HDd.out] at zd0_
            clear hrd
            go_wp2_with fail
            refine wp_region_up w6.heap.size (by kernel_rfl) (by kernel_rfl) ?_
            repeat (go_big_quiet_step ((fail)))
            refine wpQuiet_nil ?_
            intro w7 hup_w7
            have hb := up_of hup_w7
            have P7 := Lib.hid (P6.out.next hb)
            have F7 := Lib.hid (F6.out.trans (LvF.of_below hb))
            clear hb hup_w7 x0 x1 xl ga1 gb1 hup zc0_ zc1_ zc2_ zd0_ zd1_ zd2_
            have hup := upc w7.heap.size w7
            obtain ⟨x0, x1, xl, ga1, gb1, hrd⟩ := P7.out.rd2 (by omega)
            obtain ⟨zc0_, zc1_, zc2_⟩ := hrd zc (by omega)
            rw [HCA.out] at zc1_
            rw [HCB.out] at zc2_
            clear hrd
            go_wp2_with fail
            refine wp_region_up w7.heap.size (by kernel_rfl) (by kernel_rfl) ?_
            repeat (go_big_quiet_step ((fail)))
            refine wpQuiet_nil ?_
            intro w8 hup_w8
            have hb := up_of hup_w8
            have P8 := Lib.hid (P7.out.next hb)
            have F8 := Lib.hid (F7.out.trans (LvF.of_below hb))
            clear hb hup_w8 x0 x1 xl ga1 gb1 hup zc0_ zc1_ zc2_
            have O2 := Lib.hid (lvPair_do HI1.out ID.out IE.out)
            have C2 := Lib.hid (lvPair_any w0 X M _ _ s1 _ n1 c1 _ d1 mm1 w8 HI1.out (by omega) ID.out IE.out P8.out)
            generalize lvPair s1 (zd : Int) (ca : Int) = t2 at *
            obtain ⟨s2, i2⟩ := t2
            have HI2 : Hid (LvI s2) := Lib.hid O2.out.i
            have IX2 : Hid (Idx s2 i2) := Lib.hid O2.out.ix
            go_wp2_with fail
            refine C2.out.mono ?_
            rintro e w9 ⟨rfl, A2, n2, c2, B2, d2, mm2, p, f⟩
            have P2 : Hid (LvP w0 w9 X M A2 n2 c2 B2 d2 s2 mm2) := Lib.hid p
            have F2 := Lib.hid (F8.out.trans f)
            have ln2 : n2 ≤ n1 + 1 := by have h1 := O2.out.len; have h2 := P2.out.hr; have h3 := P8.out.hr; simp only at h1; omega
            clear p f C2
            have IF2 : Hid (Idx s2 cb) := Lib.hid (O2.out.idx IF.out)
            have ID2 : Hid (Idx s2 a) := Lib.hid (O2.out.idx HA1.out)
            have O3 := Lib.hid (lvPair_do HI2.out IF2.out ID2.out)
            have C3 := Lib.hid (lvPair_any w0 X M _ _ s2 _ n2 c2 _ d2 mm2 w9 HI2.out (by omega) IF2.out ID2.out P2.out)
            generalize lvPair s2 (cb : Int) (a : Int) = t3 at *
            obtain ⟨s3, i3⟩ := t3
            have HI3 : Hid (LvI s3) := Lib.hid O3.out.i
            have IX3 : Hid (Idx s3 i3) := Lib.hid O3.out.ix
            go_wp2_with fail
            refine C3.out.mono ?_
            rintro e w10 ⟨rfl, A3, n3, c3, B3, d3, mm3, p, f⟩
            have P3 : Hid (LvP w0 w10 X M A3 n3 c3 B3 d3 s3 mm3) := Lib.hid p
            have F3 := Lib.hid (F2.out.trans f)
            have ln3 : n3 ≤ n2 + 1 := by have h1 := O3.out.len; have h2 := P3.out.hr; have h3 := P2.out.hr; simp only at h1; omega
            clear p f C3
            have IX23 : Hid (Idx s3 i2) := Lib.hid (O3.out.idx IX2.out)
            have O4 := Lib.hid (lvPair_do HI3.out IX23.out IX3.out)
            have C4 := Lib.hid (lvPair_any w0 X M _ _ s3 _ n3 c3 _ d3 mm3 w10 HI3.out (by omega) IX23.out IX3.out P3.out)
            generalize lvPair s3 i2 i3 = t4 at *
            obtain ⟨s4, i4⟩ := t4
            have HI4 : Hid (LvI s4) := Lib.hid O4.out.i
            have IX4 : Hid (Idx s4 i4) := Lib.hid O4.out.ix
            go_wp2_with fail
            refine C4.out.mono ?_
            rintro e w11 ⟨rfl, A4, n4, c4, B4, d4, mm4, p, f⟩
            have P4 : Hid (LvP w0 w11 X M A4 n4 c4 B4 d4 s4 mm4) := Lib.hid p
            have F4 := Lib.hid (F3.out.trans f)
            have ln4 : n4 ≤ n3 + 1 := by have h1 := O4.out.len; have h2 := P4.out.hr; have h3 := P3.out.hr; simp only at h1; omega
            clear p f C4
            go_wp2_with fail
            go_ret
            rw [HE4.out]
            exact ⟨rfl, A4, n4, c4, B4, d4, mm4, P4.out, F4.out⟩
      · rw [if_neg h1, if_neg h2] at HE2
        have HE3 := Lib.hid HE2
        clear HE2 IH
        go_enter Try.func50, Try.ntmps50
        have hup := upc W.heap.size W
        obtain ⟨x0, x1, xl, ga1, gb1, hrd⟩ := P0.out.rd2 (by omega)
        obtain ⟨l0_, l1_, l2_⟩ := hrd l (by omega)
        rw [HD1.out] at l0_
        obtain ⟨r0_, r1_, r2_⟩ := hrd r (by omega)
        rw [HD2.out] at r0_
        clear hrd
        go_wp2_with fail
        refine wp_region_up W.heap.size (by kernel_rfl) (by kernel_rfl) ?_
        repeat (go_big_quiet_step ((fail)))
        refine wpQuiet_nil ?_
        intro w2 hup_w2
        have hb := up_of hup_w2
        have P2 := Lib.hid (P0.out.next hb)
        have F2 := Lib.hid (F0.out.trans (LvF.of_below hb))
        clear hb hup_w2 x0 x1 xl ga1 gb1 hup l0_ l1_ l2_ r0_ r1_ r2_
        have O3 := Lib.hid (lvPair_any w0 X M l r s _ n c _ d mm w2 HI.out (by omega) HL.out HR.out P2.out)
        generalize lvPair s l r = t3 at *
        obtain ⟨s3, i3⟩ := t3
        go_wp2_with fail
        refine O3.out.mono ?_
        rintro e w3 ⟨rfl, A3, n3, c3, B3, d3, mm3, p, f⟩
        have P3 := Lib.hid p
        have F3 := Lib.hid (F2.out.trans f)
        clear p f
        go_wp2_with fail
        go_ret
        rw [HE3.out]
        exact ⟨rfl, A3, n3, c3, B3, d3, mm3, P3.out, F3.out⟩
end Go.Proofs.Ytikhjoianbndhaa
