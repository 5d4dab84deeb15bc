/-
  Texts of this claim, merged: LvZ LvL LvP LvU LvS LvT LvQ PlainP Found.
-/
import Derived.Test.YtajfjgemfnfakaaP4
import Derived.Deep.RegionLaw
import Derived.Deep.DeepCutAuto


/-
  Level grammars: how many rules there are.
-/
namespace Go.Proofs.Ytajfjgemfnfakaa

theorem levF_len (rs : List Fac) : (levF rs).length ≤ 400 := by
  unfold levF
  split
  · unfold lvT
    split
    · simp
    · rename_i st h
      split
      · simp
      · unfold trimL
        split
        · simp
        · generalize hT : st.1.rs.take (lastI st.2 + 1).toNat = xs
          have hl : xs.length ≤ 400 := by
            rw [← hT, List.length_take]
            have := lvAll_len h
            omega
          have h1 := outT_len (useT (trK xs [] []).1 xs.length (use0 xs.length (trK xs [] []).2)) (trK xs [] []).1 0 [] (List.replicate xs.length 0)
          have h2 := trK_len xs [] []
          simp only [List.length_nil, Nat.zero_add] at h1 h2
          omega
  · simp
end Go.Proofs.Ytajfjgemfnfakaa


/-
  Level grammars in the program: two level rules made one.
-/
namespace Go.Proofs.Ytajfjgemfnfakaa
open Go.RowKit

theorem LvP.idx {w0 W : World} {X M : Nat} {A : Option Addr} {n c : Nat} {B : Option Addr} {d : Nat} {s : LvS} {mm : List (Fac × Value)} (h : LvP w0 W X M A n c B d s mm) {k : Int} (hk : Idx s k) : 0 ≤ k ∧ k < (n : Int) := ⟨hk.1, by have := hk.2; rw [h.hr] at this; exact this⟩
/-- the third operand in words of states -/
def LvC (w0 : World) (X M : Nat) (v u : Value) (W : World) (s : LvS) : Prop := ∃ A n c B d mm, v = .slice A n c ∧ u = .slice B n d ∧ LvP w0 W X M A n c B d s mm
set_option maxHeartbeats 4000000 in
set_option maxRecDepth 100000 in
theorem lvPair_any (w0 : World) (X M : Nat) (a b : Int) (s : LvS) (A : Option Addr) (n c : Nat) (B : Option Addr) (d : Nat) (mm : List (Fac × Value)) (W : World) (hi : LvI s) (hn : n ≤ 100000) (ha : Idx s a) (hb : Idx s b) (h : LvP w0 W X M A n c B d s mm) :
    Calls Try.prog 50 #[.pointer (some ⟨X, 0, none⟩), .int .i64 a, .int .i64 b] W (LvQ w0 W X M (.slice A n c) (.slice B n d) (lvPair s a b)) := by
  have ra := h.idx ha
  have rb := h.idx hb
  have HC := Lib.hid (fun W' (h' : LvP w0 W' X M A n c B d s mm) => lvRule_any w0 X M ⟨⟨#[]⟩, a, b⟩ s A n c B d mm W' hi hn (.inl ⟨rfl, ha, hb⟩) h')
  have P0 := Lib.hid h
  have PC := Lib.hid (pair64_any a b W (by omega) (by omega))
  clear hi ha hb h
  go_enter Try.func50, Try.ntmps50
  go_wp2_with (go_at_call 51; refine PC.out.mono ?_; rintro e w1 ⟨rfl, hb1⟩)
  refine (HC.out w1 (P0.out.next hb1)).mono ?_
  rintro e w2 ⟨rfl, A2, n2, c2, B2, d2, mm2, p2, f2⟩
  have P2 := Lib.hid p2
  have F2 := Lib.hid ((LvF.of_below hb1).trans f2)
  clear p2 f2
  go_wp2_with fail
  go_ret
  exact ⟨rfl, A2, n2, c2, B2, d2, mm2, P2.out, F2.out⟩
/-- the fuel's end is never felt -/
theorem lvLevel_eq {f : Nat} {s : LvS} (h : LvI s) {l r : Int} (hl : Idx s l) (hr : Idx s r) (hf : l + r ≤ f) : lvLevel f s l r =
    if 1 < lvD s l - lvD s r then lvLeft (lvLevel (f - 1) s (lvR s l).b r).1 (lvR s l).a (lvLevel (f - 1) s (lvR s l).b r).2
    else if lvD s l - lvD s r < -1 then lvRight (lvLevel (f - 1) s l (lvR s r).a).1 (lvR s r).b (lvLevel (f - 1) s l (lvR s r).a).2
    else lvPair s l r := by
  cases f with
  | succ f => rfl
  | zero =>
    have e1 : l = 0 := by have := hl.1; have := hr.1; omega
    have e2 : r = 0 := by have := hl.1; have := hr.1; omega
    subst e1 e2
    rw [if_neg (by omega), if_neg (by omega)]; rfl
/-- what a read of index k needs -/
theorem LvP.rdk {w0 W : World} {X M : Nat} {A : Option Addr} {n c : Nat} {B : Option Addr} {d : Nat} {s : LvS} {mm : List (Fac × Value)} (h : LvP w0 W X M A n c B d s mm) (hn : 0 < n) : ∃ ga gb, A = some ⟨ga, 0, none⟩ ∧ B = some ⟨gb, 0, none⟩ ∧ ga < W.heap.size ∧ gb < W.heap.size ∧
    ∀ k : Nat, k < n → W.cell? ⟨gb, k, none⟩ = some (.int .i64 (lvD s k)) ∧ W.cell? ⟨ga, k * 3 + 1, none⟩ = some (.int .i64 (lvR s k).a) ∧ W.cell? ⟨ga, k * 3 + 2, none⟩ = some (.int .i64 (lvR s k).b) := by
  obtain ⟨ga, gb, h1, h2, h3, h4, h5⟩ := h.g.red h.hr h.hd hn
  exact ⟨ga, gb, h1, h2, h3, h4, fun k hk => ⟨(h5 k hk).1, (h5 k hk).2.2.1, (h5 k hk).2.2.2⟩⟩
theorem LvP.rd2 {w0 W : World} {X M : Nat} {ga gb n c d : Nat} {s : LvS} {mm : List (Fac × Value)} (h : LvP w0 W X M (some ⟨ga, 0, none⟩) n c (some ⟨gb, 0, none⟩) d s mm) (hn : 0 < n) :
    W.cell? ⟨X, 0, none⟩ = some (.slice (some ⟨ga, 0, none⟩) n c) ∧ W.cell? ⟨X, 1, none⟩ = some (.slice (some ⟨gb, 0, none⟩) n d) ∧ X < W.heap.size ∧ ga < W.heap.size ∧ gb < W.heap.size ∧
    ∀ k : Nat, k < n → W.cell? ⟨gb, k, none⟩ = some (.int .i64 (lvD s k)) ∧ W.cell? ⟨ga, k * 3 + 1, none⟩ = some (.int .i64 (lvR s k).a) ∧ W.cell? ⟨ga, k * 3 + 2, none⟩ = some (.int .i64 (lvR s k).b) := by
  obtain ⟨ga', gb', h1, h2, h3, h4, h5⟩ := h.rdk hn
  obtain rfl : ga = ga' := by injection h1 with h1; injection h1
  obtain rfl : gb = gb' := by injection h2 with h2; injection h2
  exact ⟨h.g.x.cell 0, h.g.x.cell 1, h.g.x.lt, h3, h4, h5⟩
set_option maxHeartbeats 8000000 in
set_option maxRecDepth 100000 in
theorem lvLevel_any (w0 : World) (X M : Nat) : ∀ (f : Nat) (l r : Nat) (s : LvS) (A : Option Addr) (n c : Nat) (B : Option Addr) (d : Nat) (mm : List (Fac × Value)) (W : World), LvI s → n + 3 * f + 10 ≤ 100000 → Idx s l → Idx s r → l + r ≤ f → LvP w0 W X M A n c B d s mm →
    Calls Try.prog 28 #[.pointer (some ⟨X, 0, none⟩), .int .i64 l, .int .i64 r] W (LvQ w0 W X M (.slice A n c) (.slice B n d) (lvLevel f s l r)) := by
  intro f
  induction f using Nat.strongRecOn with
  | ind f ih =>
    intro l r s A n c B d mm W hi hn hl hr hf h
    have IH := Lib.hid ih; clear ih
    have HI := Lib.hid hi
    have P0 := Lib.hid h
    have HL := Lib.hid hl
    have HR := Lib.hid hr
    have hln := (h.idx hl).2
    have hrn := (h.idx hr).2
    have dl := hi.lo l (by rw [h.hr]; omega)
    have dr := hi.lo r (by rw [h.hr]; omega)
    obtain ⟨ga, gb, rfl, rfl, _, _, _⟩ := h.rdk (by omega)
    have HE := Lib.hid (lvLevel_eq (f := f) hi hl hr (by omega))
    have F0 := Lib.hid (LvF.of_below (X := X) (M := M) (v := .slice (some ⟨ga, 0, none⟩) n c) (u := .slice (some ⟨gb, 0, none⟩) n d) (Below.refl W.heap.size W))
    have l0 : (0 : Int) ≤ (l : Int) := by omega
    have r0 : (0 : Int) ≤ (r : Int) := by omega
    obtain ⟨D1, hD1⟩ : ∃ D1, lvD s l = D1 := ⟨_, rfl⟩
    obtain ⟨D2, hD2⟩ : ∃ D2, lvD s r = D2 := ⟨_, rfl⟩
    have HE2 := HE.out
    rw [hD1] at dl HE2
    rw [hD2] at dr HE2
    have HD1 := Lib.hid hD1
    have HD2 := Lib.hid hD2
    clear hi hl hr h hD1 hD2 HE
    have ud : IntKind.i64.wrap (D1 - D2) = D1 - D2 := IntWalk.i64_in _ (by omega)
    by_cases h1 : 1 < D1 - D2
    · rw [if_pos h1] at HE2
      obtain ⟨_, ida, idb, lta, ltb, _⟩ := HI.out.deep HL.out (by rw [HD1.out]; omega)
      obtain ⟨a, ha⟩ : ∃ a : Nat, (lvR s l).a = a := ⟨(lvR s l).a.toNat, by have := ida.1; omega⟩
      obtain ⟨b, hb⟩ : ∃ b : Nat, (lvR s l).b = b := ⟨(lvR s l).b.toNat, by have := idb.1; omega⟩
      rw [ha, hb] at HE2
      rw [ha] at ida lta
      rw [hb] at idb ltb
      have HA := Lib.hid ha
      have HB := Lib.hid hb
      have IDA := Lib.hid ida
      have O1 := Lib.hid (lvLevel_do (f - 1) HI.out idb HR.out (by omega))
      have CALL := Lib.hid (fun W4 (h4 : LvP w0 W4 X M (some ⟨ga, 0, none⟩) n c (some ⟨gb, 0, none⟩) d s mm) => IH.out (f - 1) (by omega) b r s _ n c _ d mm W4 HI.out (by omega) idb HR.out (by omega) h4)
      generalize lvLevel (f - 1) s b r = t1 at *
      obtain ⟨s1, zi⟩ := t1
      simp only at HE2
      have HI1 : Hid (LvI s1) := Lib.hid O1.out.i
      have iz : Idx s1 zi := O1.out.ix
      obtain ⟨z, rfl⟩ : ∃ z : Nat, zi = z := ⟨zi.toNat, by have := iz.1; omega⟩
      have HZ := Lib.hid iz
      have HA1 : Hid (Idx s1 a) := Lib.hid (O1.out.idx IDA.out)
      have loa := HI1.out.lo a (by have := HA1.out.2; omega)
      have loz := HI1.out.lo z (by have := HZ.out.2; omega)
      obtain ⟨Dz, hDz⟩ : ∃ Dz, lvD s1 z = Dz := ⟨_, rfl⟩
      obtain ⟨Da, hDa⟩ : ∃ Da, lvD s1 a = Da := ⟨_, rfl⟩
      rw [hDz] at loz
      rw [hDa] at loa
      have HDz := Lib.hid hDz
      have HDa := Lib.hid hDa
      have n1e := Lib.hid (show s1.rs.length ≤ n + (3 * (f - 1) + 1) by have h1 := O1.out.len; have h2 := P0.out.hr; simp only at h1; omega)
      have lz1 := iz.2
      have la1 := HA1.out.2
      have HE3 := Lib.hid HE2
      clear HE2 ha hb ida idb IH iz hDz hDa
      go_enter Try.func28, Try.ntmps28
      have hup := upc W.heap.size W
      obtain ⟨x0, x1, xl, ga1, gb1, hrd⟩ := P0.out.rd2 (by omega)
      obtain ⟨l0_, l1_, l2_⟩ := hrd l (by omega)
      rw [HD1.out] at l0_
      rw [HA.out] at l1_
      rw [HB.out] at l2_
      obtain ⟨r0_, r1_, r2_⟩ := hrd r (by omega)
      rw [HD2.out] at r0_
      clear hrd
      go_wp2_with fail
      refine wp_region_up W.heap.size (by kernel_rfl) (by kernel_rfl) ?_
      repeat (go_big_quiet_step ((fail)))
      refine wpQuiet_nil ?_
      intro w2 hup_w2
      have hb := up_of hup_w2
      have P2 := Lib.hid (P0.out.next hb)
      have F2 := Lib.hid (F0.out.trans (LvF.of_below hb))
      clear hb hup_w2 x0 x1 xl ga1 gb1 hup l0_ l1_ l2_ r0_ r1_ r2_
      have hup := upc w2.heap.size w2
      obtain ⟨x0, x1, xl, ga1, gb1, hrd⟩ := P2.out.rd2 (by omega)
      obtain ⟨l0_, l1_, l2_⟩ := hrd l (by omega)
      rw [HA.out] at l1_
      rw [HB.out] at l2_
      clear hrd
      go_wp2_with fail
      refine wp_region_up w2.heap.size (by kernel_rfl) (by kernel_rfl) ?_
      repeat (go_big_quiet_step ((fail)))
      refine wpQuiet_nil ?_
      intro w3 hup_w3
      have hb := up_of hup_w3
      have P3 := Lib.hid (P2.out.next hb)
      have F3 := Lib.hid (F2.out.trans (LvF.of_below hb))
      clear hb hup_w3 x0 x1 xl ga1 gb1 hup l0_ l1_ l2_
      go_wp2_with fail
      refine (CALL.out w3 P3.out).mono ?_
      rintro e w4 ⟨rfl, A1, n1, c1, B1, d1, mm1, p4, f4⟩
      have P4 : Hid (LvP w0 w4 X M A1 n1 c1 B1 d1 s1 mm1) := Lib.hid p4
      have F4 := Lib.hid (F3.out.trans f4)
      clear p4 f4 CALL P0 P2 P3 F0 F2 F3
      have n1h := P4.out.hr
      have n1b := n1e.out
      rw [n1h] at n1b lz1 la1
      clear n1h n1e
      obtain ⟨ha, hb, rfl, rfl, _, _, _⟩ := P4.out.rdk (by omega)
      have z0 : (0 : Int) ≤ (z : Int) := by omega
      have a0 : (0 : Int) ≤ (a : Int) := by omega
      have ua : IntKind.i64.wrap (Da + 1) = Da + 1 := IntWalk.i64_in _ (by omega)
      by_cases q1 : Dz ≤ Da + 1
      · have HE4 := Lib.hid (show lvLevel f s l r = lvPair s1 a z by rw [HE3.out]; unfold lvLeft; rw [HDz.out, HDa.out, if_pos q1])
        clear HE3
        have hup := upc w4.heap.size w4
        obtain ⟨x0, x1, xl, ga1, gb1, hrd⟩ := P4.out.rd2 (by omega)
        obtain ⟨z0_, z1_, z2_⟩ := hrd z (by omega)
        rw [HDz.out] at z0_
        obtain ⟨a0_, a1_, a2_⟩ := hrd a (by omega)
        rw [HDa.out] at a0_
        clear hrd
        go_wp2_with fail
        refine wp_region_up w4.heap.size (by kernel_rfl) (by kernel_rfl) ?_
        repeat (go_big_quiet_step ((fail)))
        refine wpQuiet_nil ?_
        intro w5 hup_w5
        have hb := up_of hup_w5
        have P5 := Lib.hid (P4.out.next hb)
        have F5 := Lib.hid (F4.out.trans (LvF.of_below hb))
        clear hb hup_w5 x0 x1 xl ga1 gb1 hup z0_ z1_ z2_ a0_ a1_ a2_
        have O2 := Lib.hid (lvPair_do HI1.out HA1.out HZ.out)
        have C2 := Lib.hid (lvPair_any w0 X M _ _ s1 _ n1 c1 _ d1 mm1 w5 HI1.out (by omega) HA1.out HZ.out P5.out)
        generalize lvPair s1 (a : Int) (z : Int) = t2 at *
        obtain ⟨s2, i2⟩ := t2
        have HI2 : Hid (LvI s2) := Lib.hid O2.out.i
        have IX2 : Hid (Idx s2 i2) := Lib.hid O2.out.ix
        go_wp2_with fail
        refine C2.out.mono ?_
        rintro e w6 ⟨rfl, A2, n2, c2, B2, d2, mm2, p, f⟩
        have P2 : Hid (LvP w0 w6 X M A2 n2 c2 B2 d2 s2 mm2) := Lib.hid p
        have F2 := Lib.hid (F5.out.trans f)
        have ln2 : n2 ≤ n1 + 1 := by have h1 := O2.out.len; have h2 := P2.out.hr; have h3 := P5.out.hr; simp only at h1; omega
        clear p f C2
        go_wp2_with fail
        go_ret
        rw [HE4.out]
        exact ⟨rfl, A2, n2, c2, B2, d2, mm2, P2.out, F2.out⟩
      · obtain ⟨_, idc, idd, ltc, ltd, _⟩ := HI1.out.deep HZ.out (by rw [HDz.out]; omega)
        obtain ⟨zc, hc⟩ : ∃ k : Nat, (lvR s1 z).a = k := ⟨(lvR s1 z).a.toNat, by have := idc.1; omega⟩
        obtain ⟨zd, hd⟩ : ∃ k : Nat, (lvR s1 z).b = k := ⟨(lvR s1 z).b.toNat, by have := idd.1; omega⟩
        rw [hc] at idc ltc
        rw [hd] at idd ltd
        have HC := Lib.hid hc
        have HD := Lib.hid hd
        have IC := Lib.hid idc
        have ID := Lib.hid idd
        have loc := HI1.out.lo zc (by have := idc.2; omega)
        have lod := HI1.out.lo zd (by have := idd.2; omega)
        obtain ⟨Dc, hDc⟩ : ∃ Dc, lvD s1 zc = Dc := ⟨_, rfl⟩
        obtain ⟨Dd, hDd⟩ : ∃ Dd, lvD s1 zd = Dd := ⟨_, rfl⟩
        rw [hDc] at loc
        rw [hDd] at lod
        have HDc := Lib.hid hDc
        have HDd := Lib.hid hDd
        have c0 : (0 : Int) ≤ (zc : Int) := by omega
        have d0 : (0 : Int) ≤ (zd : Int) := by omega
        clear hc hd idc idd hDc hDd
        have hup := upc w4.heap.size w4
        obtain ⟨x0, x1, xl, ga1, gb1, hrd⟩ := P4.out.rd2 (by omega)
        obtain ⟨z0_, z1_, z2_⟩ := hrd z (by omega)
        rw [HDz.out] at z0_
        obtain ⟨a0_, a1_, a2_⟩ := hrd a (by omega)
        rw [HDa.out] at a0_
        clear hrd
        go_wp2_with fail
        refine wp_region_up w4.heap.size (by kernel_rfl) (by kernel_rfl) ?_
        repeat (go_big_quiet_step ((fail)))
        refine wpQuiet_nil ?_
        intro w5 hup_w5
        have hb := up_of hup_w5
        have P5 := Lib.hid (P4.out.next hb)
        have F5 := Lib.hid (F4.out.trans (LvF.of_below hb))
        clear hb hup_w5 x0 x1 xl ga1 gb1 hup z0_ z1_ z2_ a0_ a1_ a2_
        have hup := upc w5.heap.size w5
        obtain ⟨x0, x1, xl, ga1, gb1, hrd⟩ := P5.out.rd2 (by omega)
        obtain ⟨z0_, z1_, z2_⟩ := hrd z (by omega)
        rw [HC.out] at z1_
        rw [HD.out] at z2_
        clear hrd
        go_wp2_with fail
        refine wp_region_up w5.heap.size (by kernel_rfl) (by kernel_rfl) ?_
        repeat (go_big_quiet_step ((fail)))
        refine wpQuiet_nil ?_
        intro w6 hup_w6
        have hb := up_of hup_w6
        have P6 := Lib.hid (P5.out.next hb)
        have F6 := Lib.hid (F5.out.trans (LvF.of_below hb))
        clear hb hup_w6 x0 x1 xl ga1 gb1 hup z0_ z1_ z2_
        by_cases q2 : Dc ≤ Dd
        · have HE4 := Lib.hid (show lvLevel f s l r = lvPair (lvPair s1 a zc).1 (lvPair s1 a zc).2 zd by rw [HE3.out]; unfold lvLeft; rw [HDz.out, HDa.out, if_neg (Int.not_le.2 q1), HC.out, HD.out, HDc.out, HDd.out, if_pos q2])
          clear HE3
          have hup := upc w6.heap.size w6
          obtain ⟨x0, x1, xl, ga1, gb1, hrd⟩ := P6.out.rd2 (by omega)
          obtain ⟨zc0_, zc1_, zc2_⟩ := hrd zc (by omega)
          rw [HDc.out] at zc0_
          obtain ⟨zd0_, zd1_, zd2_⟩ := hrd zd (by omega)
          rw [HDd.out] at zd0_
          clear hrd
          go_wp2_with fail
          refine wp_region_up w6.heap.size (by kernel_rfl) (by kernel_rfl) ?_
          repeat (go_big_quiet_step ((fail)))
          refine wpQuiet_nil ?_
          intro w7 hup_w7
          have hb := up_of hup_w7
          have P7 := Lib.hid (P6.out.next hb)
          have F7 := Lib.hid (F6.out.trans (LvF.of_below hb))
          clear hb hup_w7 x0 x1 xl ga1 gb1 hup zc0_ zc1_ zc2_ zd0_ zd1_ zd2_
          have O2 := Lib.hid (lvPair_do HI1.out HA1.out IC.out)
          have C2 := Lib.hid (lvPair_any w0 X M _ _ s1 _ n1 c1 _ d1 mm1 w7 HI1.out (by omega) HA1.out IC.out P7.out)
          generalize lvPair s1 (a : Int) (zc : Int) = t2 at *
          obtain ⟨s2, i2⟩ := t2
          have HI2 : Hid (LvI s2) := Lib.hid O2.out.i
          have IX2 : Hid (Idx s2 i2) := Lib.hid O2.out.ix
          go_wp2_with fail
          refine C2.out.mono ?_
          rintro e w8 ⟨rfl, A2, n2, c2, B2, d2, mm2, p, f⟩
          have P2 : Hid (LvP w0 w8 X M A2 n2 c2 B2 d2 s2 mm2) := Lib.hid p
          have F2 := Lib.hid (F7.out.trans f)
          have ln2 : n2 ≤ n1 + 1 := by have h1 := O2.out.len; have h2 := P2.out.hr; have h3 := P7.out.hr; simp only at h1; omega
          clear p f C2
          have ID2 : Hid (Idx s2 zd) := Lib.hid (O2.out.idx ID.out)
          have O3 := Lib.hid (lvPair_do HI2.out IX2.out ID2.out)
          have C3 := Lib.hid (lvPair_any w0 X M _ _ s2 _ n2 c2 _ d2 mm2 w8 HI2.out (by omega) IX2.out ID2.out P2.out)
          generalize lvPair s2 i2 (zd : Int) = t3 at *
          obtain ⟨s3, i3⟩ := t3
          have HI3 : Hid (LvI s3) := Lib.hid O3.out.i
          have IX3 : Hid (Idx s3 i3) := Lib.hid O3.out.ix
          go_wp2_with fail
          refine C3.out.mono ?_
          rintro e w9 ⟨rfl, A3, n3, c3, B3, d3, mm3, p, f⟩
          have P3 : Hid (LvP w0 w9 X M A3 n3 c3 B3 d3 s3 mm3) := Lib.hid p
          have F3 := Lib.hid (F2.out.trans f)
          have ln3 : n3 ≤ n2 + 1 := by have h1 := O3.out.len; have h2 := P3.out.hr; have h3 := P2.out.hr; simp only at h1; omega
          clear p f C3
          go_wp2_with fail
          go_ret
          rw [HE4.out]
          exact ⟨rfl, A3, n3, c3, B3, d3, mm3, P3.out, F3.out⟩
        · obtain ⟨_, ide, idf, lte, ltf, _⟩ := HI1.out.deep IC.out (by rw [HDc.out]; omega)
          obtain ⟨ca, hca⟩ : ∃ k : Nat, (lvR s1 zc).a = k := ⟨(lvR s1 zc).a.toNat, by have := ide.1; omega⟩
          obtain ⟨cb, hcb⟩ : ∃ k : Nat, (lvR s1 zc).b = k := ⟨(lvR s1 zc).b.toNat, by have := idf.1; omega⟩
          rw [hca] at ide lte
          rw [hcb] at idf ltf
          have HCA := Lib.hid hca
          have HCB := Lib.hid hcb
          have IE := Lib.hid ide
          have IF := Lib.hid idf
          clear hca hcb ide idf
          have HE4 := Lib.hid (show lvLevel f s l r = lvPair (lvPair (lvPair s1 a ca).1 cb zd).1 (lvPair s1 a ca).2 (lvPair (lvPair s1 a ca).1 cb zd).2 by rw [HE3.out]; unfold lvLeft; rw [HDz.out, HDa.out, if_neg (Int.not_le.2 q1), HC.out, HD.out, HDc.out, HDd.out, if_neg q2, HCA.out, HCB.out])
          clear HE3
          have hup := upc w6.heap.size w6
          obtain ⟨x0, x1, xl, ga1, gb1, hrd⟩ := P6.out.rd2 (by omega)
          obtain ⟨zc0_, zc1_, zc2_⟩ := hrd zc (by omega)
          rw [HDc.out] at zc0_
          obtain ⟨zd0_, zd1_, zd2_⟩ := hrd zd (by omega)
          rw [HDd.out] at zd0_
          clear hrd
          go_wp2_with fail
          refine wp_region_up w6.heap.size (by kernel_rfl) (by kernel_rfl) ?_
          repeat (go_big_quiet_step ((fail)))
          refine wpQuiet_nil ?_
          intro w7 hup_w7
          have hb := up_of hup_w7
          have P7 := Lib.hid (P6.out.next hb)
          have F7 := Lib.hid (F6.out.trans (LvF.of_below hb))
          clear hb hup_w7 x0 x1 xl ga1 gb1 hup zc0_ zc1_ zc2_ zd0_ zd1_ zd2_
          have hup := upc w7.heap.size w7
          obtain ⟨x0, x1, xl, ga1, gb1, hrd⟩ := P7.out.rd2 (by omega)
          obtain ⟨zc0_, zc1_, zc2_⟩ := hrd zc (by omega)
          rw [HCA.out] at zc1_
          rw [HCB.out] at zc2_
          clear hrd
          go_wp2_with fail
          refine wp_region_up w7.heap.size (by kernel_rfl) (by kernel_rfl) ?_
          repeat (go_big_quiet_step ((fail)))
          refine wpQuiet_nil ?_
          intro w8 hup_w8
          have hb := up_of hup_w8
          have P8 := Lib.hid (P7.out.next hb)
          have F8 := Lib.hid (F7.out.trans (LvF.of_below hb))
          clear hb hup_w8 x0 x1 xl ga1 gb1 hup zc0_ zc1_ zc2_
          have O2 := Lib.hid (lvPair_do HI1.out HA1.out IE.out)
          have C2 := Lib.hid (lvPair_any w0 X M _ _ s1 _ n1 c1 _ d1 mm1 w8 HI1.out (by omega) HA1.out IE.out P8.out)
          generalize lvPair s1 (a : Int) (ca : Int) = t2 at *
          obtain ⟨s2, i2⟩ := t2
          have HI2 : Hid (LvI s2) := Lib.hid O2.out.i
          have IX2 : Hid (Idx s2 i2) := Lib.hid O2.out.ix
          go_wp2_with fail
          refine C2.out.mono ?_
          rintro e w9 ⟨rfl, A2, n2, c2, B2, d2, mm2, p, f⟩
          have P2 : Hid (LvP w0 w9 X M A2 n2 c2 B2 d2 s2 mm2) := Lib.hid p
          have F2 := Lib.hid (F8.out.trans f)
          have ln2 : n2 ≤ n1 + 1 := by have h1 := O2.out.len; have h2 := P2.out.hr; have h3 := P8.out.hr; simp only at h1; omega
          clear p f C2
          have IF2 : Hid (Idx s2 cb) := Lib.hid (O2.out.idx IF.out)
          have ID2 : Hid (Idx s2 zd) := Lib.hid (O2.out.idx ID.out)
          have O3 := Lib.hid (lvPair_do HI2.out IF2.out ID2.out)
          have C3 := Lib.hid (lvPair_any w0 X M _ _ s2 _ n2 c2 _ d2 mm2 w9 HI2.out (by omega) IF2.out ID2.out P2.out)
          generalize lvPair s2 (cb : Int) (zd : Int) = t3 at *
          obtain ⟨s3, i3⟩ := t3
          have HI3 : Hid (LvI s3) := Lib.hid O3.out.i
          have IX3 : Hid (Idx s3 i3) := Lib.hid O3.out.ix
          go_wp2_with fail
          refine C3.out.mono ?_
          rintro e w10 ⟨rfl, A3, n3, c3, B3, d3, mm3, p, f⟩
          have P3 : Hid (LvP w0 w10 X M A3 n3 c3 B3 d3 s3 mm3) := Lib.hid p
          have F3 := Lib.hid (F2.out.trans f)
          have ln3 : n3 ≤ n2 + 1 := by have h1 := O3.out.len; have h2 := P3.out.hr; have h3 := P2.out.hr; simp only at h1; omega
          clear p f C3
          have IX23 : Hid (Idx s3 i2) := Lib.hid (O3.out.idx IX2.out)
          have O4 := Lib.hid (lvPair_do HI3.out IX23.out IX3.out)
          have C4 := Lib.hid (lvPair_any w0 X M _ _ s3 _ n3 c3 _ d3 mm3 w10 HI3.out (by omega) IX23.out IX3.out P3.out)
          generalize lvPair s3 i2 i3 = t4 at *
          obtain ⟨s4, i4⟩ := t4
          have HI4 : Hid (LvI s4) := Lib.hid O4.out.i
          have IX4 : Hid (Idx s4 i4) := Lib.hid O4.out.ix
          go_wp2_with fail
          refine C4.out.mono ?_
          rintro e w11 ⟨rfl, A4, n4, c4, B4, d4, mm4, p, f⟩
          have P4 : Hid (LvP w0 w11 X M A4 n4 c4 B4 d4 s4 mm4) := Lib.hid p
          have F4 := Lib.hid (F3.out.trans f)
          have ln4 : n4 ≤ n3 + 1 := by have h1 := O4.out.len; have h2 := P4.out.hr; have h3 := P3.out.hr; simp only at h1; omega
          clear p f C4
          go_wp2_with fail
          go_ret
          rw [HE4.out]
          exact ⟨rfl, A4, n4, c4, B4, d4, mm4, P4.out, F4.out⟩
    · by_cases h2 : D1 - D2 < -1
      · rw [if_neg h1, if_pos h2] at HE2
        obtain ⟨_, ida, idb, lta, ltb, _⟩ := HI.out.deep HR.out (by rw [HD2.out]; omega)
        obtain ⟨ida, idb, lta, ltb⟩ : Idx s (lvR s r).b ∧ Idx s (lvR s r).a ∧ (lvR s r).b < (r : Int) ∧ (lvR s r).a < (r : Int) := ⟨idb, ida, ltb, lta⟩
        obtain ⟨a, ha⟩ : ∃ a : Nat, (lvR s r).b = a := ⟨(lvR s r).b.toNat, by have := ida.1; omega⟩
        obtain ⟨b, hb⟩ : ∃ b : Nat, (lvR s r).a = b := ⟨(lvR s r).a.toNat, by have := idb.1; omega⟩
        rw [ha, hb] at HE2
        rw [ha] at ida lta
        rw [hb] at idb ltb
        have HA := Lib.hid ha
        have HB := Lib.hid hb
        have IDA := Lib.hid ida
        have O1 := Lib.hid (lvLevel_do (f - 1) HI.out HL.out idb (by omega))
        have CALL := Lib.hid (fun W4 (h4 : LvP w0 W4 X M (some ⟨ga, 0, none⟩) n c (some ⟨gb, 0, none⟩) d s mm) => IH.out (f - 1) (by omega) l b s _ n c _ d mm W4 HI.out (by omega) HL.out idb (by omega) h4)
        generalize lvLevel (f - 1) s l b = t1 at *
        obtain ⟨s1, zi⟩ := t1
        simp only at HE2
        have HI1 : Hid (LvI s1) := Lib.hid O1.out.i
        have iz : Idx s1 zi := O1.out.ix
        obtain ⟨z, rfl⟩ : ∃ z : Nat, zi = z := ⟨zi.toNat, by have := iz.1; omega⟩
        have HZ := Lib.hid iz
        have HA1 : Hid (Idx s1 a) := Lib.hid (O1.out.idx IDA.out)
        have loa := HI1.out.lo a (by have := HA1.out.2; omega)
        have loz := HI1.out.lo z (by have := HZ.out.2; omega)
        obtain ⟨Dz, hDz⟩ : ∃ Dz, lvD s1 z = Dz := ⟨_, rfl⟩
        obtain ⟨Da, hDa⟩ : ∃ Da, lvD s1 a = Da := ⟨_, rfl⟩
        rw [hDz] at loz
        rw [hDa] at loa
        have HDz := Lib.hid hDz
        have HDa := Lib.hid hDa
        have n1e := Lib.hid (show s1.rs.length ≤ n + (3 * (f - 1) + 1) by have h1 := O1.out.len; have h2 := P0.out.hr; simp only at h1; omega)
        have lz1 := iz.2
        have la1 := HA1.out.2
        have HE3 := Lib.hid HE2
        clear HE2 ha hb ida idb IH iz hDz hDa
        go_enter Try.func28, Try.ntmps28
        have hup := upc W.heap.size W
        obtain ⟨x0, x1, xl, ga1, gb1, hrd⟩ := P0.out.rd2 (by omega)
        obtain ⟨l0_, l1_, l2_⟩ := hrd l (by omega)
        rw [HD1.out] at l0_
        obtain ⟨r0_, r1_, r2_⟩ := hrd r (by omega)
        rw [HD2.out] at r0_
        rw [HB.out] at r1_
        rw [HA.out] at r2_
        clear hrd
        go_wp2_with fail
        refine wp_region_up W.heap.size (by kernel_rfl) (by kernel_rfl) ?_
        repeat (go_big_quiet_step ((fail)))
        refine wpQuiet_nil ?_
        intro w2 hup_w2
        have hb := up_of hup_w2
        have P2 := Lib.hid (P0.out.next hb)
        have F2 := Lib.hid (F0.out.trans (LvF.of_below hb))
        clear hb hup_w2 x0 x1 xl ga1 gb1 hup l0_ l1_ l2_ r0_ r1_ r2_
        have hup := upc w2.heap.size w2
        obtain ⟨x0, x1, xl, ga1, gb1, hrd⟩ := P2.out.rd2 (by omega)
        obtain ⟨r0_, r1_, r2_⟩ := hrd r (by omega)
        rw [HB.out] at r1_
        rw [HA.out] at r2_
        clear hrd
        go_wp2_with fail
        refine wp_region_up w2.heap.size (by kernel_rfl) (by kernel_rfl) ?_
        repeat (go_big_quiet_step ((fail)))
        refine wpQuiet_nil ?_
        intro w3 hup_w3
        have hb := up_of hup_w3
        have P3 := Lib.hid (P2.out.next hb)
        have F3 := Lib.hid (F2.out.trans (LvF.of_below hb))
        clear hb hup_w3 x0 x1 xl ga1 gb1 hup r0_ r1_ r2_
        go_wp2_with fail
        refine (CALL.out w3 P3.out).mono ?_
        rintro e w4 ⟨rfl, A1, n1, c1, B1, d1, mm1, p4, f4⟩
        have P4 : Hid (LvP w0 w4 X M A1 n1 c1 B1 d1 s1 mm1) := Lib.hid p4
        have F4 := Lib.hid (F3.out.trans f4)
        clear p4 f4 CALL P0 P2 P3 F0 F2 F3
        have n1h := P4.out.hr
        have n1b := n1e.out
        rw [n1h] at n1b lz1 la1
        clear n1h n1e
        obtain ⟨ha, hb, rfl, rfl, _, _, _⟩ := P4.out.rdk (by omega)
        have z0 : (0 : Int) ≤ (z : Int) := by omega
        have a0 : (0 : Int) ≤ (a : Int) := by omega
        have ua : IntKind.i64.wrap (Da + 1) = Da + 1 := IntWalk.i64_in _ (by omega)
        by_cases q1 : Dz ≤ Da + 1
        · have HE4 := Lib.hid (show lvLevel f s l r = lvPair s1 z a by rw [HE3.out]; unfold lvRight; rw [HDz.out, HDa.out, if_pos q1])
          clear HE3
          have hup := upc w4.heap.size w4
          obtain ⟨x0, x1, xl, ga1, gb1, hrd⟩ := P4.out.rd2 (by omega)
          obtain ⟨z0_, z1_, z2_⟩ := hrd z (by omega)
          rw [HDz.out] at z0_
          obtain ⟨a0_, a1_, a2_⟩ := hrd a (by omega)
          rw [HDa.out] at a0_
          clear hrd
          go_wp2_with fail
          refine wp_region_up w4.heap.size (by kernel_rfl) (by kernel_rfl) ?_
          repeat (go_big_quiet_step ((fail)))
          refine wpQuiet_nil ?_
          intro w5 hup_w5
          have hb := up_of hup_w5
          have P5 := Lib.hid (P4.out.next hb)
          have F5 := Lib.hid (F4.out.trans (LvF.of_below hb))
          clear hb hup_w5 x0 x1 xl ga1 gb1 hup z0_ z1_ z2_ a0_ a1_ a2_
          have O2 := Lib.hid (lvPair_do HI1.out HZ.out HA1.out)
          have C2 := Lib.hid (lvPair_any w0 X M _ _ s1 _ n1 c1 _ d1 mm1 w5 HI1.out (by omega) HZ.out HA1.out P5.out)
          generalize lvPair s1 (z : Int) (a : Int) = t2 at *
          obtain ⟨s2, i2⟩ := t2
          have HI2 : Hid (LvI s2) := Lib.hid O2.out.i
          have IX2 : Hid (Idx s2 i2) := Lib.hid O2.out.ix
          go_wp2_with fail
          refine C2.out.mono ?_
          rintro e w6 ⟨rfl, A2, n2, c2, B2, d2, mm2, p, f⟩
          have P2 : Hid (LvP w0 w6 X M A2 n2 c2 B2 d2 s2 mm2) := Lib.hid p
          have F2 := Lib.hid (F5.out.trans f)
          have ln2 : n2 ≤ n1 + 1 := by have h1 := O2.out.len; have h2 := P2.out.hr; have h3 := P5.out.hr; simp only at h1; omega
          clear p f C2
          go_wp2_with fail
          go_ret
          rw [HE4.out]
          exact ⟨rfl, A2, n2, c2, B2, d2, mm2, P2.out, F2.out⟩
        · obtain ⟨_, idc, idd, ltc, ltd, _⟩ := HI1.out.deep HZ.out (by rw [HDz.out]; omega)
          obtain ⟨idc, idd, ltc, ltd⟩ : Idx s1 (lvR s1 z).b ∧ Idx s1 (lvR s1 z).a ∧ (lvR s1 z).b < (z : Int) ∧ (lvR s1 z).a < (z : Int) := ⟨idd, idc, ltd, ltc⟩
          obtain ⟨zc, hc⟩ : ∃ k : Nat, (lvR s1 z).b = k := ⟨(lvR s1 z).b.toNat, by have := idc.1; omega⟩
          obtain ⟨zd, hd⟩ : ∃ k : Nat, (lvR s1 z).a = k := ⟨(lvR s1 z).a.toNat, by have := idd.1; omega⟩
          rw [hc] at idc ltc
          rw [hd] at idd ltd
          have HC := Lib.hid hc
          have HD := Lib.hid hd
          have IC := Lib.hid idc
          have ID := Lib.hid idd
          have loc := HI1.out.lo zc (by have := idc.2; omega)
          have lod := HI1.out.lo zd (by have := idd.2; omega)
          obtain ⟨Dc, hDc⟩ : ∃ Dc, lvD s1 zc = Dc := ⟨_, rfl⟩
          obtain ⟨Dd, hDd⟩ : ∃ Dd, lvD s1 zd = Dd := ⟨_, rfl⟩
          rw [hDc] at loc
          rw [hDd] at lod
          have HDc := Lib.hid hDc
          have HDd := Lib.hid hDd
          have c0 : (0 : Int) ≤ (zc : Int) := by omega
          have d0 : (0 : Int) ≤ (zd : Int) := by omega
          clear hc hd idc idd hDc hDd
          have hup := upc w4.heap.size w4
          obtain ⟨x0, x1, xl, ga1, gb1, hrd⟩ := P4.out.rd2 (by omega)
          obtain ⟨z0_, z1_, z2_⟩ := hrd z (by omega)
          rw [HDz.out] at z0_
          obtain ⟨a0_, a1_, a2_⟩ := hrd a (by omega)
          rw [HDa.out] at a0_
          clear hrd
          go_wp2_with fail
          refine wp_region_up w4.heap.size (by kernel_rfl) (by kernel_rfl) ?_
          repeat (go_big_quiet_step ((fail)))
          refine wpQuiet_nil ?_
          intro w5 hup_w5
          have hb := up_of hup_w5
          have P5 := Lib.hid (P4.out.next hb)
          have F5 := Lib.hid (F4.out.trans (LvF.of_below hb))
          clear hb hup_w5 x0 x1 xl ga1 gb1 hup z0_ z1_ z2_ a0_ a1_ a2_
          have hup := upc w5.heap.size w5
          obtain ⟨x0, x1, xl, ga1, gb1, hrd⟩ := P5.out.rd2 (by omega)
          obtain ⟨z0_, z1_, z2_⟩ := hrd z (by omega)
          rw [HD.out] at z1_
          rw [HC.out] at z2_
          clear hrd
          go_wp2_with fail
          refine wp_region_up w5.heap.size (by kernel_rfl) (by kernel_rfl) ?_
          repeat (go_big_quiet_step ((fail)))
          refine wpQuiet_nil ?_
          intro w6 hup_w6
          have hb := up_of hup_w6
          have P6 := Lib.hid (P5.out.next hb)
          have F6 := Lib.hid (F5.out.trans (LvF.of_below hb))
          clear hb hup_w6 x0 x1 xl ga1 gb1 hup z0_ z1_ z2_
          by_cases q2 : Dc ≤ Dd
          · have HE4 := Lib.hid (show lvLevel f s l r = lvPair (lvPair s1 zc a).1 zd (lvPair s1 zc a).2 by rw [HE3.out]; unfold lvRight; rw [HDz.out, HDa.out, if_neg (Int.not_le.2 q1), HC.out, HD.out, HDc.out, HDd.out, if_pos q2])
            clear HE3
            have hup := upc w6.heap.size w6
            obtain ⟨x0, x1, xl, ga1, gb1, hrd⟩ := P6.out.rd2 (by omega)
            obtain ⟨zc0_, zc1_, zc2_⟩ := hrd zc (by omega)
            rw [HDc.out] at zc0_
            obtain ⟨zd0_, zd1_, zd2_⟩ := hrd zd (by omega)
            rw [HDd.out] at zd0_
            clear hrd
            go_wp2_with fail
            refine wp_region_up w6.heap.size (by kernel_rfl) (by kernel_rfl) ?_
            repeat (go_big_quiet_step ((fail)))
            refine wpQuiet_nil ?_
            intro w7 hup_w7
            have hb := up_of hup_w7
            have P7 := Lib.hid (P6.out.next hb)
            have F7 := Lib.hid (F6.out.trans (LvF.of_below hb))
            clear hb hup_w7 x0 x1 xl ga1 gb1 hup zc0_ zc1_ zc2_ zd0_ zd1_ zd2_
            have O2 := Lib.hid (lvPair_do HI1.out IC.out HA1.out)
            have C2 := Lib.hid (lvPair_any w0 X M _ _ s1 _ n1 c1 _ d1 mm1 w7 HI1.out (by omega) IC.out HA1.out P7.out)
            generalize lvPair s1 (zc : Int) (a : Int) = t2 at *
            obtain ⟨s2, i2⟩ := t2
            have HI2 : Hid (LvI s2) := Lib.hid O2.out.i
            have IX2 : Hid (Idx s2 i2) := Lib.hid O2.out.ix
            go_wp2_with fail
            refine C2.out.mono ?_
            rintro e w8 ⟨rfl, A2, n2, c2, B2, d2, mm2, p, f⟩
            have P2 : Hid (LvP w0 w8 X M A2 n2 c2 B2 d2 s2 mm2) := Lib.hid p
            have F2 := Lib.hid (F7.out.trans f)
            have ln2 : n2 ≤ n1 + 1 := by have h1 := O2.out.len; have h2 := P2.out.hr; have h3 := P7.out.hr; simp only at h1; omega
            clear p f C2
            have ID2 : Hid (Idx s2 zd) := Lib.hid (O2.out.idx ID.out)
            have O3 := Lib.hid (lvPair_do HI2.out ID2.out IX2.out)
            have C3 := Lib.hid (lvPair_any w0 X M _ _ s2 _ n2 c2 _ d2 mm2 w8 HI2.out (by omega) ID2.out IX2.out P2.out)
            generalize lvPair s2 (zd : Int) i2 = t3 at *
            obtain ⟨s3, i3⟩ := t3
            have HI3 : Hid (LvI s3) := Lib.hid O3.out.i
            have IX3 : Hid (Idx s3 i3) := Lib.hid O3.out.ix
            go_wp2_with fail
            refine C3.out.mono ?_
            rintro e w9 ⟨rfl, A3, n3, c3, B3, d3, mm3, p, f⟩
            have P3 : Hid (LvP w0 w9 X M A3 n3 c3 B3 d3 s3 mm3) := Lib.hid p
            have F3 := Lib.hid (F2.out.trans f)
            have ln3 : n3 ≤ n2 + 1 := by have h1 := O3.out.len; have h2 := P3.out.hr; have h3 := P2.out.hr; simp only at h1; omega
            clear p f C3
            go_wp2_with fail
            go_ret
            rw [HE4.out]
            exact ⟨rfl, A3, n3, c3, B3, d3, mm3, P3.out, F3.out⟩
          · obtain ⟨_, ide, idf, lte, ltf, _⟩ := HI1.out.deep IC.out (by rw [HDc.out]; omega)
            obtain ⟨ca, hca⟩ : ∃ k : Nat, (lvR s1 zc).a = k := ⟨(lvR s1 zc).a.toNat, by have := ide.1; omega⟩
            obtain ⟨cb, hcb⟩ : ∃ k : Nat, (lvR s1 zc).b = k := ⟨(lvR s1 zc).b.toNat, by have := idf.1; omega⟩
            rw [hca] at ide lte
            rw [hcb] at idf ltf
            have HCA := Lib.hid hca
            have HCB := Lib.hid hcb
            have IE := Lib.hid ide
            have IF := Lib.hid idf
            clear hca hcb ide idf
            have HE4 := Lib.hid (show lvLevel f s l r = lvPair (lvPair (lvPair s1 zd ca).1 cb a).1 (lvPair s1 zd ca).2 (lvPair (lvPair s1 zd ca).1 cb a).2 by rw [HE3.out]; unfold lvRight; rw [HDz.out, HDa.out, if_neg (Int.not_le.2 q1), HC.out, HD.out, HDc.out, HDd.out, if_neg q2, HCA.out, HCB.out])
            clear HE3
            have hup := upc w6.heap.size w6
            obtain ⟨x0, x1, xl, ga1, gb1, hrd⟩ := P6.out.rd2 (by omega)
            obtain ⟨zc0_, zc1_, zc2_⟩ := hrd zc (by omega)
            rw [HDc.out] at zc0_
            obtain ⟨zd0_, zd1_, zd2_⟩ := hrd zd (by omega)
            rw [HDd.out] at zd0_
            clear hrd
            go_wp2_with fail
            refine wp_region_up w6.heap.size (by kernel_rfl) (by kernel_rfl) ?_
            repeat (go_big_quiet_step ((fail)))
            refine wpQuiet_nil ?_
            intro w7 hup_w7
            have hb := up_of hup_w7
            have P7 := Lib.hid (P6.out.next hb)
            have F7 := Lib.hid (F6.out.trans (LvF.of_below hb))
            clear hb hup_w7 x0 x1 xl ga1 gb1 hup zc0_ zc1_ zc2_ zd0_ zd1_ zd2_
            have hup := upc w7.heap.size w7
            obtain ⟨x0, x1, xl, ga1, gb1, hrd⟩ := P7.out.rd2 (by omega)
            obtain ⟨zc0_, zc1_, zc2_⟩ := hrd zc (by omega)
            rw [HCA.out] at zc1_
            rw [HCB.out] at zc2_
            clear hrd
            go_wp2_with fail
            refine wp_region_up w7.heap.size (by kernel_rfl) (by kernel_rfl) ?_
            repeat (go_big_quiet_step ((fail)))
            refine wpQuiet_nil ?_
            intro w8 hup_w8
            have hb := up_of hup_w8
            have P8 := Lib.hid (P7.out.next hb)
            have F8 := Lib.hid (F7.out.trans (LvF.of_below hb))
            clear hb hup_w8 x0 x1 xl ga1 gb1 hup zc0_ zc1_ zc2_
            have O2 := Lib.hid (lvPair_do HI1.out ID.out IE.out)
            have C2 := Lib.hid (lvPair_any w0 X M _ _ s1 _ n1 c1 _ d1 mm1 w8 HI1.out (by omega) ID.out IE.out P8.out)
            generalize lvPair s1 (zd : Int) (ca : Int) = t2 at *
            obtain ⟨s2, i2⟩ := t2
            have HI2 : Hid (LvI s2) := Lib.hid O2.out.i
            have IX2 : Hid (Idx s2 i2) := Lib.hid O2.out.ix
            go_wp2_with fail
            refine C2.out.mono ?_
            rintro e w9 ⟨rfl, A2, n2, c2, B2, d2, mm2, p, f⟩
            have P2 : Hid (LvP w0 w9 X M A2 n2 c2 B2 d2 s2 mm2) := Lib.hid p
            have F2 := Lib.hid (F8.out.trans f)
            have ln2 : n2 ≤ n1 + 1 := by have h1 := O2.out.len; have h2 := P2.out.hr; have h3 := P8.out.hr; simp only at h1; omega
            clear p f C2
            have IF2 : Hid (Idx s2 cb) := Lib.hid (O2.out.idx IF.out)
            have ID2 : Hid (Idx s2 a) := Lib.hid (O2.out.idx HA1.out)
            have O3 := Lib.hid (lvPair_do HI2.out IF2.out ID2.out)
            have C3 := Lib.hid (lvPair_any w0 X M _ _ s2 _ n2 c2 _ d2 mm2 w9 HI2.out (by omega) IF2.out ID2.out P2.out)
            generalize lvPair s2 (cb : Int) (a : Int) = t3 at *
            obtain ⟨s3, i3⟩ := t3
            have HI3 : Hid (LvI s3) := Lib.hid O3.out.i
            have IX3 : Hid (Idx s3 i3) := Lib.hid O3.out.ix
            go_wp2_with fail
            refine C3.out.mono ?_
            rintro e w10 ⟨rfl, A3, n3, c3, B3, d3, mm3, p, f⟩
            have P3 : Hid (LvP w0 w10 X M A3 n3 c3 B3 d3 s3 mm3) := Lib.hid p
            have F3 := Lib.hid (F2.out.trans f)
            have ln3 : n3 ≤ n2 + 1 := by have h1 := O3.out.len; have h2 := P3.out.hr; have h3 := P2.out.hr; simp only at h1; omega
            clear p f C3
            have IX23 : Hid (Idx s3 i2) := Lib.hid (O3.out.idx IX2.out)
            have O4 := Lib.hid (lvPair_do HI3.out IX23.out IX3.out)
            have C4 := Lib.hid (lvPair_any w0 X M _ _ s3 _ n3 c3 _ d3 mm3 w10 HI3.out (by omega) IX23.out IX3.out P3.out)
            generalize lvPair s3 i2 i3 = t4 at *
            obtain ⟨s4, i4⟩ := t4
            have HI4 : Hid (LvI s4) := Lib.hid O4.out.i
            have IX4 : Hid (Idx s4 i4) := Lib.hid O4.out.ix
            go_wp2_with fail
            refine C4.out.mono ?_
            rintro e w11 ⟨rfl, A4, n4, c4, B4, d4, mm4, p, f⟩
            have P4 : Hid (LvP w0 w11 X M A4 n4 c4 B4 d4 s4 mm4) := Lib.hid p
            have F4 := Lib.hid (F3.out.trans f)
            have ln4 : n4 ≤ n3 + 1 := by have h1 := O4.out.len; have h2 := P4.out.hr; have h3 := P3.out.hr; simp only at h1; omega
            clear p f C4
            go_wp2_with fail
            go_ret
            rw [HE4.out]
            exact ⟨rfl, A4, n4, c4, B4, d4, mm4, P4.out, F4.out⟩
      · rw [if_neg h1, if_neg h2] at HE2
        have HE3 := Lib.hid HE2
        clear HE2 IH
        go_enter Try.func28, Try.ntmps28
        have hup := upc W.heap.size W
        obtain ⟨x0, x1, xl, ga1, gb1, hrd⟩ := P0.out.rd2 (by omega)
        obtain ⟨l0_, l1_, l2_⟩ := hrd l (by omega)
        rw [HD1.out] at l0_
        obtain ⟨r0_, r1_, r2_⟩ := hrd r (by omega)
        rw [HD2.out] at r0_
        clear hrd
        go_wp2_with fail
        refine wp_region_up W.heap.size (by kernel_rfl) (by kernel_rfl) ?_
        repeat (go_big_quiet_step ((fail)))
        refine wpQuiet_nil ?_
        intro w2 hup_w2
        have hb := up_of hup_w2
        have P2 := Lib.hid (P0.out.next hb)
        have F2 := Lib.hid (F0.out.trans (LvF.of_below hb))
        clear hb hup_w2 x0 x1 xl ga1 gb1 hup l0_ l1_ l2_ r0_ r1_ r2_
        have O3 := Lib.hid (lvPair_any w0 X M l r s _ n c _ d mm w2 HI.out (by omega) HL.out HR.out P2.out)
        generalize lvPair s l r = t3 at *
        obtain ⟨s3, i3⟩ := t3
        go_wp2_with fail
        refine O3.out.mono ?_
        rintro e w3 ⟨rfl, A3, n3, c3, B3, d3, mm3, p, f⟩
        have P3 := Lib.hid p
        have F3 := Lib.hid (F2.out.trans f)
        clear p f
        go_wp2_with fail
        go_ret
        rw [HE3.out]
        exact ⟨rfl, A3, n3, c3, B3, d3, mm3, P3.out, F3.out⟩
end Go.Proofs.Ytajfjgemfnfakaa


/-
  LevelGrammar in the program.
-/
namespace Go.Proofs.Ytajfjgemfnfakaa
open Go.RowKit

theorem own_keep {W W' : World} {base : Nat} {e : TypeId} {sz n : Nat} {v : Value} {xs : List Value} (h : W.ownsRow base e sz v n xs) (hk : ∀ y, v.ownBlock = some y → W'.heap[y]? = W.heap[y]?) : W'.ownsRow base e sz v n xs := by
  refine ⟨h.1, ?_⟩
  rcases h.2 with hn | ⟨g, cap, cur, rfl, hg, hh, r⟩
  · exact .inl hn
  · exact .inr ⟨g, cap, cur, rfl, hg, (hk g rfl).trans hh, r⟩
theorem Rd.takeL {α : Type} {w : World} {B n sz : Nat} {A : Option Addr} {enc : α → List Value} {xs : List α} (h : Rd w B A n sz enc xs) {k : Nat} (hk : k ≤ n) : Rd w B A k sz enc (xs.take k) := by
  refine ⟨by rw [List.length_take, h.1]; omega, fun hp => ?_⟩
  obtain ⟨b, o, hA, hb, hc⟩ := h.2 (by omega)
  refine ⟨b, o, hA, hb, fun i x hx j v hv => hc i x ?_ j v hv⟩
  rw [List.getElem?_take] at hx
  split at hx
  · exact hx
  · cases hx
/-- 'LevelGrammar' under way -/
structure LgW (w W : World) (X M : Nat) (A : Option Addr) (n c : Nat) (B : Option Addr) (d : Nat) (s : LvS) (mm : List (Fac × Value)) (V : Option Addr) (k cv : Nat) (pl : List Int) : Prop where
  p : LvP w W X M A n c B d s mm
  v : W.ownsRow w.heap.size 2 1 (.slice V k cv) k (pl.flatMap intE)
  o : Blk W (w.heap.size + 1) 26 #[.slice none 0 0]
  ne : ∀ y, (Value.slice V k cv).ownBlock = some y → some y ≠ (Value.slice B n d).ownBlock
  hX : w.heap.size + 1 < X ∧ w.heap.size + 1 < M
section
variable {w W W' : World} {X M : Nat} {A : Option Addr} {n c : Nat} {B : Option Addr} {d : Nat} {s : LvS} {mm : List (Fac × Value)} {V : Option Addr} {k cv : Nat} {pl : List Int}
theorem LgW.next (h : LgW w W X M A n c B d s mm V k cv pl) (hb : Below W.heap.size W W') : LgW w W' X M A n c B d s mm V k cv pl := ⟨h.p.next hb, own_next h.v hb, h.o.next hb, h.ne, h.hX⟩
theorem LgW.alloc (h : LgW w W X M A n c B d s mm V k cv pl) (o : Obj) : LgW w (W.alloc o) X M A n c B d s mm V k cv pl := h.next ((Below.refl _ _).alloc (Nat.le_refl _) _)
theorem LgW.drew (h : LgW w W X M A n c B d s mm V k cv pl) : LgW w W.drew X M A n c B d s mm V k cv pl := h.next (Below.refl _ _).drew
theorem LgW.call {A' : Option Addr} {n' c' : Nat} {B' : Option Addr} {d' : Nat} {s' : LvS} {mm' : List (Fac × Value)} (h : LgW w W X M A n c B d s mm V k cv pl) (hp : LvP w W' X M A' n' c' B' d' s' mm') (hf : LvF W W' X M (.slice A n c) (.slice A' n' c') (.slice B n d) (.slice B' n' d')) :
    LgW w W' X M A' n' c' B' d' s' mm' V k cv pl := by
  refine ⟨hp, own_keep h.v fun y hy => ?_, hf.blk h.o (by have := h.hX.1; omega) (by have := h.hX.2; omega) (own_blk_ne h.p.g.q h.o (by decide)) (own_blk_ne h.p.g.k h.o (by decide)), fun y hy => ?_, h.hX⟩
  · refine hf.kept y (h.v.lt y hy).2 ?_ ?_ ?_ (h.ne y hy)
    · intro e; subst e; exact own_blk_ne h.v h.p.g.x h.p.g.t2 hy.symm
    · intro e; subst e; exact h.p.m.ne_own h.v hy.symm
    · intro e
      rcases own_ne h.v h.p.g.q (by decide) with q | q
      · rw [hy] at q; cases q
      · exact q (hy.trans e)
  · rcases hf.row' with q | q
    · rw [q]; exact h.ne y hy
    · intro e; have := q y e.symm; have := (h.v.lt y hy).2; omega
theorem LgW.push {V8 : Option Addr} {k8 c8 : Nat} {pl' : List Int} (h : LgW w W X M A n c B d s mm V k cv pl) (hq : W'.ownsRow w.heap.size 2 1 (.slice V8 k8 c8) k8 (pl'.flatMap intE)) (hg : W.grownBy W' (Value.slice V k cv).ownBlock)
    (hat : (Value.slice V8 k8 c8).ownBlock = (Value.slice V k cv).ownBlock ∨ (Value.slice V8 k8 c8).ownBlock = some W.heap.size) : LgW w W' X M A n c B d s mm V8 k8 c8 pl' := by
  have hk : (Value.slice B n d).ownBlock = none ∨ (Value.slice B n d).ownBlock ≠ (Value.slice V k cv).ownBlock := by
    cases hy : (Value.slice V k cv).ownBlock with
    | none =>
      cases hz : (Value.slice B n d).ownBlock with
      | none => exact .inl rfl
      | some z => exact .inr (by simp)
    | some y => exact .inr fun e => h.ne y hy (e.symm)
  refine ⟨⟨⟨h.p.g.q.kept hg (own_ne h.p.g.q h.v (by decide)), h.p.g.k.kept hg hk, h.p.g.x.grown hg (own_blk_ne h.v h.p.g.x h.p.g.t2), h.p.g.e.grown hg h.p.g.e.size (own_ge h.v), h.p.g.hx, h.p.g.t1, h.p.g.t2⟩, h.p.m.grown hg (h.p.m.ne_own h.v), h.p.k, h.p.hm, h.p.hr, h.p.hd⟩, hq,
    h.o.grown hg (own_blk_ne h.v h.o (by decide)), fun y hy e => ?_, h.hX⟩
  rcases hat with q | q
  · rw [q] at hy; exact h.ne y hy e
  · rw [q] at hy; injection hy with hy; have := (h.p.g.k.lt y e.symm).2; omega
end
set_option maxHeartbeats 8000000 in
set_option maxRecDepth 100000 in
theorem implLev_any (A : Option Addr) (n c : Nat) (rs : List Fac) (w : World) (hn : n ≤ 1048576) (hr : Rd w w.heap.size A n 3 Fac.cells rs) (hok : ∀ f ∈ rs, f.l.size ≤ maxLen) :
    Calls Try.prog 9 #[.agg #[.slice A n c]] w (RetGC w (levF rs) (levC rs)) := by
  have hB0 := Lib.hid (Blk.new w 26 #[.slice A n c])
  have HR := Lib.hid hr; clear hr
  have HO := Lib.hid hok; clear hok
  have HT := Lib.hid (show levF rs = (if (gOk rs).isSome then lvT rs else []) from rfl); have HC := Lib.hid (show levC rs = (if (gOk rs).isSome then lvE rs else 1) from rfl)
  generalize levF rs = T at *
  generalize levC rs = C at *
  have hmm := @run_makeMap Try.prog
  go_enter Try.func9, Try.ntmps9
  go_wp2_with fail
  refine namedC fun w3 H3 => ?_
  have hb3 : Below w.heap.size w w3 := by rw [H3.out]; (repeat first | exact Below.refl _ _ | assumption | refine Below.drew ?_ | refine Below.alloc ?_ (by first | exact Nat.le_refl _ | (simp; done) | omega | (simp; omega)) _ | refine Below.setCell ?_ (by first | exact Nat.le_refl _ | (simp; done) | omega | (simp; omega)) _)
  have BG := Lib.hid (show Blk w3 w.heap.size 26 #[.slice A n c] by rw [H3.out]; exact hB0.out.alloc _)
  have BC := Lib.hid (show Blk w3 (w.heap.size + 1) 26 #[.slice none 0 0] by rw [H3.out]; simpa using Blk.new (w.alloc (.cells #[.slice A n c] 26)) 26 #[.slice none 0 0])
  clear H3
  rcases hg : (gOk rs).isSome with _ | _
  · have Hg := Lib.hid hg
    have eT := HT.out; have eC := HC.out
    rw [hg] at eT eC
    obtain rfl : T = [] := eT
    obtain rfl : C = 1 := eC
    clear hg HT HC hmm
    refine (validG_any A n c rs w3 (by omega) (HR.out.next hb3) HO.out false Hg.out).mono ?_
    rintro e1 w4 ⟨rfl, hb4⟩
    have b4 := hb3.trans (hb4.mono hb3.size)
    have BC4 := BC.out.next hb4
    have d4 := BC4.cell 0
    have f4 := BC4.frozen
    have l4 := BC4.lt
    have B5 := BC4.set_ 0 (.slice none 0 0)
    have x5 : (w4.setCell ⟨w.heap.size + 1, 0, none⟩ (.slice none 0 0)).cell? ⟨w.heap.size + 1, 0, none⟩ = some (.slice none 0 0) := by rw [B5.cell 0]; rfl
    have b5 := b4.setCell (p := ⟨w.heap.size + 1, 0, none⟩) (by simp) (.slice none 0 0)
    clear B5 BC4
    go_wp2_with fail
    refine bodyPost_ret (v := .tuple #[.agg #[.slice none 0 0], .int .i64 1]) (by simp [results, Try.results9, go_sem, x5]) rfl ⟨none, 0, rfl, World.ownsRow_nil _ _ _ _, b5⟩
  · have Hg := Lib.hid hg
    have eT := HT.out; have eC := HC.out
    rw [hg] at eT eC
    obtain rfl : T = lvT rs := eT
    obtain rfl : C = lvE rs := eC
    clear hg HT HC
    obtain ⟨ls, hls⟩ := Option.isSome_iff_exists.1 Hg.out
    have hwf := Lib.hid (wf_of (gOk_lens hls).1)
    have hn4 : n ≤ 400 := by have := (gOk_lens hls).2.1; have := HR.out.len; omega
    clear hls
    refine (validG_any A n c rs w3 (by omega) (HR.out.next hb3) HO.out true Hg.out).mono ?_
    rintro e1 w4 ⟨rfl, hb4⟩
    have b4 := hb3.trans (hb4.mono hb3.size)
    have BC4 := Lib.hid (BC.out.next hb4)
    have BG4 := Lib.hid (BG.out.next hb4)
    have g4 := BG4.out.cell 0
    have k4 := BG4.out.lt
    have g5 := (((BG4.out.alloc (.map #[] 0)).alloc (.cells #[.slice none 0 0, .slice none 0 0, .map (some w4.heap.size)] 57)).alloc (.cells #[] 2)).cell 0
    have k5 := (((BG4.out.alloc (.map #[] 0)).alloc (.cells #[.slice none 0 0, .slice none 0 0, .map (some w4.heap.size)] 57)).alloc (.cells #[] 2)).lt
    go_wp2_with fail
    refine named fun w5 H5 => ?_
    have P5 := Lib.hid (show LgW w w5 (w4.heap.size + 1) w4.heap.size none 0 0 none 0 lv0.1 [] (some ⟨w4.heap.size + 1 + 1, 0, none⟩) 0 0 lv0.2 by
      rw [H5.out]
      refine ⟨⟨⟨World.ownsRow_nil _ _ _ _, World.ownsRow_nil _ _ _ _, ?_, b4.trans (Below.mono (by (repeat first | exact Below.refl _ _ | assumption | refine Below.drew ?_ | refine Below.alloc ?_ (by first | exact Nat.le_refl _ | (simp; done) | omega | (simp; omega)) _ | refine Below.setCell ?_ (by first | exact Nat.le_refl _ | (simp; done) | omega | (simp; omega)) _)) b4.size), by have := b4.size; omega, by decide, by decide⟩, ?_, fun f => by simp [mget, midx, lv0], ⟨b4.size, by omega⟩, rfl, rfl⟩, ?_, ?_, fun y hy => by simp [Value.ownBlock], ?_⟩
      · have h := (Blk.new (w4.alloc (.map #[] 0)) 57 #[.slice none 0 0, .slice none 0 0, .map (some w4.heap.size)]).alloc (.cells #[] 2)
        simpa using h
      · have h := MapIs.made w4 Fac.val
        exact (h.alloc _).alloc _
      · have h := World.ownsRow_made (base := w.heap.size) (e := 2) (size := 1) ((w4.alloc (.map #[] 0)).alloc (.cells #[.slice none 0 0, .slice none 0 0, .map (some w4.heap.size)] 57)) #[] 0 (by have := b4.size; simp; omega) (by unfold maxLen; omega) rfl
        simpa [lv0] using h
      · exact ((BC4.out.alloc _).alloc _).alloc _
      · have := BC4.out.lt; omega)
    clear H5 hmm hb3 hb4 b4 BG BC BC4 BG4 g4 k4 g5 k5 hB0
    generalize hX : w4.heap.size + 1 = X at *
    generalize hM : w4.heap.size = M at *
    have HX := Lib.hid hX; have HM := Lib.hid hM
    clear hX hM
    go_loopw [5, 19] (fun v_ i_ w' => ∃ (k : Nat) (V : Option Addr) (cv : Nat) (A1 : Option Addr) (n1 c1 : Nat) (B1 : Option Addr) (d1 : Nat) (mm : List (Fac × Value)) (st : LvS × List Int), v_ = .slice V k cv ∧ i_ = .int .i64 k ∧ k ≤ n ∧ Hid (LgW w w' X M A1 n1 c1 B1 d1 st.1 mm V k cv st.2) ∧ Hid (LvJ rs k st)) (fun _ i_ _ => n - (intOf i_).toNat)
    case atStart => exact ⟨0, _, 0, _, _, _, _, _, _, lv0, rfl, rfl, by omega, P5, Lib.hid (LvJ.first rs)⟩
    case round =>
      obtain ⟨k, V, cv, A1, n1, c1, B1, d1, mm, st, rfl, rfl, hk, P1, J⟩ := hrel
      clear P5
      have hn1 : n1 ≤ 400 := by have h1 := J.out.len; rw [P1.out.p.hr] at h1; exact h1
      have hnl := Lib.hid HR.out.len
      by_cases hlt : k < n
      · obtain ⟨b0, o0, x, rfl, hB, gx, e0, e1, e2⟩ := (HR.out.below P1.out.p.g.e).fac hlt
        have hBr : b0 < wr.heap.size := by have := P1.out.p.g.e.size; omega
        have Gx := Lib.hid gx
        have i0 : (0 : Int) ≤ (k : Int) := by omega
        have i1 : (k : Int) < (n : Int) := by omega
        obtain ⟨pb, hpb⟩ : ∃ pb, isP x = pb := ⟨_, rfl⟩
        have Hpb := Lib.hid hpb
        clear gx hpb
        go_upto_if 24 with (go_at_call 27; refine (isPair_any x pb _ Hpb.out).mono ?_; rintro e w1 ⟨rfl, hb1⟩)
        have P2 := Lib.hid ((P1.out.alloc (.cells #[.string x.l, .int .i64 x.a, .int .i64 x.b] 59)).next hb1)
        have BX2 := Lib.hid ((Blk.new wr 59 #[.string x.l, .int .i64 x.a, .int .i64 x.b]).next hb1)
        have zb := hb1.size
        have zb' : wr.heap.size < w1.heap.size := BX2.out.lt
        clear hb1 P1 e0 e1 e2 zb
        go_cut [5] (fun v_ wx => ∃ (V2 : Option Addr) (cv2 : Nat) (A2 : Option Addr) (n2 c2 : Nat) (B2 : Option Addr) (d2 : Nat) (mm2 : List (Fac × Value)) (t : LvS × Int) (g : Nat), v_ = .slice V2 (k + 1) cv2 ∧ Hid (LgW w wx X M A2 n2 c2 B2 d2 t.1 mm2 V2 (k + 1) cv2 (st.2 ++ [t.2])) ∧ Hid (lvOne st x = (t.1, st.2 ++ [t.2])) ∧ Hid (LvO st.1 t g))
        case first =>
          have kmx : k + 1 ≤ maxLen := by unfold maxLen; omega
          have zk8 : (k + 1) * 8 ≤ 140737488355328 := by omega
          rcases hwf.out k x Gx.out with ⟨h0, ha0, ha1, hb0, hb1⟩ | ⟨cc, hcc, hxl, hxa, hxb⟩
          · obtain rfl : true = pb := by rw [← Hpb.out]; simp [isP, h0]
            have Ho := Lib.hid (J.out.pair ha0 ha1 hb0 hb1)
            have ia := J.out.at_ ha0 ha1
            have ib := J.out.at_ hb0 hb1
            have He := Lib.hid (show lvOne st x = ((lvLevel 800 st.1 (st.2.getD x.a.toNat 0) (st.2.getD x.b.toNat 0)).1, st.2 ++ [(lvLevel 800 st.1 (st.2.getD x.a.toNat 0) (st.2.getD x.b.toNat 0)).2]) by unfold lvOne; rw [if_pos h0])
            obtain ⟨gv, cpv, hvv, hgv0, hgv1⟩ := P2.out.v.form (by omega)
            obtain rfl : V = some ⟨gv, 0, none⟩ := by injection hvv
            have va := own_at (sz := 1) (enc := intE) (fun _ _ => rfl) P2.out.v J.out.pl 0 x.a.toNat (by omega) 0 (by omega)
            have vb := own_at (sz := 1) (enc := intE) (fun _ _ => rfl) P2.out.v J.out.pl 0 x.b.toNat (by omega) 0 (by omega)
            rw [Nat.mul_one, Nat.add_zero] at va vb
            obtain ⟨a, hae⟩ : ∃ a : Nat, x.a = a := ⟨x.a.toNat, by omega⟩
            obtain ⟨b, hbe⟩ : ∃ b : Nat, x.b = b := ⟨x.b.toNat, by omega⟩
            rw [hae] at va ia Ho He ha1
            rw [hbe] at vb ib Ho He hb1
            rw [Int.toNat_natCast] at va ia vb ib
            rw [Int.toNat_natCast, Int.toNat_natCast] at Ho He
            obtain ⟨l, hle⟩ : ∃ l : Nat, st.2.getD a 0 = l := ⟨(st.2.getD a 0).toNat, by have := ia.1; omega⟩
            obtain ⟨r, hre⟩ : ∃ r : Nat, st.2.getD b 0 = r := ⟨(st.2.getD b 0).toNat, by have := ib.1; omega⟩
            rw [hle] at ia Ho He
            rw [hre] at ib Ho He
            have va' : w1.cell? ⟨gv, a, none⟩ = some (.int .i64 (l : Int)) := by rw [← hle]; exact va
            have vb' : w1.cell? ⟨gv, b, none⟩ = some (.int .i64 (r : Int)) := by rw [← hre]; exact vb
            have CALL := Lib.hid (fun W4 (h4 : LvP w W4 X M A1 n1 c1 B1 d1 st.1 mm) => lvLevel_any w X M 800 l r st.1 A1 n1 c1 B1 d1 mm W4 J.out.i (by omega) ia ib (by have h1 := ia.2; have h2 := ib.2; have h3 := J.out.len; omega) h4)
            generalize lvLevel 800 st.1 (l : Int) (r : Int) = t at *
            have Hae := Lib.hid hae; have Hbe := Lib.hid hbe
            have d0 := BX2.out.cell 0
            have d1_ : w1.cell? ⟨wr.heap.size, 1, none⟩ = some (.int .i64 (a : Int)) := by rw [← hae]; exact BX2.out.cell 1
            have d2_ : w1.cell? ⟨wr.heap.size, 2, none⟩ = some (.int .i64 (b : Int)) := by rw [← hbe]; exact BX2.out.cell 2
            have a0 : (0 : Int) ≤ (a : Int) := by omega
            have b0' : (0 : Int) ≤ (b : Int) := by omega
            have a1 : (a : Int) < (k : Int) := ha1
            have b1' : (b : Int) < (k : Int) := hb1
            clear hvv va vb hae hbe hle hre ia ib h0 ha0 hb0 ha1 hb1
            go_wp2_with fail
            refine wp_region_N (fun _ => True) [] (by kernel_rfl) ?_
            refine wpAnyN_take (i := 0) (v := ?_) rfl (by kernel_rfl) (fun _ _ _ h => h) (by rfl) (fun W hW => ?_) trivial ?_
            rotate_left
            · go_simp
              try with_reducible rfl
            try simp only [List.getElem_toArray, List.getElem_cons_zero, List.getElem_cons_succ, Act.put, List.setIfInBounds_toArray, List.set_cons_zero, List.set_cons_succ]
            refine wpAnyN_T _ (wpAny_of_N (S := fun W' => W'.cell? ⟨gv, a, none⟩ = some (.int .i64 (l : Int)) ∧ W'.cell? ⟨gv, b, none⟩ = some (.int .i64 (r : Int)) ∧ W'.cell? ⟨wr.heap.size, 0, none⟩ = some (.string x.l) ∧ W'.cell? ⟨wr.heap.size, 1, none⟩ = some (.int .i64 a) ∧ W'.cell? ⟨wr.heap.size, 2, none⟩ = some (.int .i64 b)) (N := [12, 13, 14, 15]) _ _ _ _ ?_)
            have P3 := Lib.hid P2.out.drew
            have hS0 : w1.drew.cell? ⟨gv, a, none⟩ = some (.int .i64 (l : Int)) ∧ w1.drew.cell? ⟨gv, b, none⟩ = some (.int .i64 (r : Int)) ∧ w1.drew.cell? ⟨wr.heap.size, 0, none⟩ = some (.string x.l) ∧ w1.drew.cell? ⟨wr.heap.size, 1, none⟩ = some (.int .i64 a) ∧ w1.drew.cell? ⟨wr.heap.size, 2, none⟩ = some (.int .i64 b) := ⟨va', vb', d0, d1_, d2_⟩
            generalize w1.drew = wd at *
            clear va' vb' d0 d1_ d2_ P2 BX2
            refine wpAnyN_take (i := 1) (v := ?_) rfl (by kernel_rfl) (fun _ _ _ h => h) (by rfl) (fun W hW => ?_) hS0 ?_
            rotate_left
            · obtain ⟨z0, z1, z2, z3, z4⟩ := hW
              go_simp
              try with_reducible rfl
            try simp only [List.getElem_toArray, List.getElem_cons_zero, List.getElem_cons_succ, Act.put, List.setIfInBounds_toArray, List.set_cons_zero, List.set_cons_succ]
            refine wpAnyN_take (i := 2) (v := ?_) rfl (by kernel_rfl) (fun _ _ _ h => h) (by rfl) (fun W hW => ?_) hS0 ?_
            rotate_left
            · obtain ⟨z0, z1, z2, z3, z4⟩ := hW
              go_simp
              try with_reducible rfl
            try simp only [List.getElem_toArray, List.getElem_cons_zero, List.getElem_cons_succ, Act.put, List.setIfInBounds_toArray, List.set_cons_zero, List.set_cons_succ]
            refine wpAnyN_take (i := 3) (v := ?_) rfl (by kernel_rfl) (fun _ _ _ h => h) (by rfl) (fun W hW => ?_) hS0 ?_
            rotate_left
            · obtain ⟨z0, z1, z2, z3, z4⟩ := hW
              go_simp
              try with_reducible rfl
            try simp only [List.getElem_toArray, List.getElem_cons_zero, List.getElem_cons_succ, Act.put, List.setIfInBounds_toArray, List.set_cons_zero, List.set_cons_succ]
            refine wpAnyN_take (i := 4) (v := ?_) rfl (by kernel_rfl) (fun _ _ _ h => h) (by rfl) (fun W hW => ?_) hS0 ?_
            rotate_left
            · obtain ⟨z0, z1, z2, z3, z4⟩ := hW
              go_simp
              try with_reducible rfl
            try simp only [List.getElem_toArray, List.getElem_cons_zero, List.getElem_cons_succ, Act.put, List.setIfInBounds_toArray, List.set_cons_zero, List.set_cons_succ]
            refine wpAnyN_take (i := 5) (v := ?_) rfl (by kernel_rfl) (fun _ _ _ h => h) (by rfl) (fun W hW => ?_) hS0 ?_
            rotate_left
            · obtain ⟨z0, z1, z2, z3, z4⟩ := hW
              go_simp
              try with_reducible rfl
            try simp only [List.getElem_toArray, List.getElem_cons_zero, List.getElem_cons_succ, Act.put, List.setIfInBounds_toArray, List.set_cons_zero, List.set_cons_succ]
            refine wpAnyN_take (i := 6) (v := ?_) rfl (by kernel_rfl) (fun _ _ _ h => h) (by rfl) (fun W hW => ?_) hS0 ?_
            rotate_left
            · obtain ⟨z0, z1, z2, z3, z4⟩ := hW
              go_simp
              try with_reducible rfl
            try simp only [List.getElem_toArray, List.getElem_cons_zero, List.getElem_cons_succ, Act.put, List.setIfInBounds_toArray, List.set_cons_zero, List.set_cons_succ]
            refine wpAnyN_take (i := 7) (v := ?_) rfl (by kernel_rfl) (fun _ _ _ h => h) (by rfl) (fun W hW => ?_) hS0 ?_
            rotate_left
            · obtain ⟨z0, z1, z2, z3, z4⟩ := hW
              go_simp
              try with_reducible rfl
            try simp only [List.getElem_toArray, List.getElem_cons_zero, List.getElem_cons_succ, Act.put, List.setIfInBounds_toArray, List.set_cons_zero, List.set_cons_succ]
            refine wpAnyN_take (i := 8) (v := ?_) rfl (by kernel_rfl) (fun _ _ _ h => h) (by rfl) (fun W hW => ?_) hS0 ?_
            rotate_left
            · obtain ⟨z0, z1, z2, z3, z4⟩ := hW
              go_simp
              try with_reducible rfl
            try simp only [List.getElem_toArray, List.getElem_cons_zero, List.getElem_cons_succ, Act.put, List.setIfInBounds_toArray, List.set_cons_zero, List.set_cons_succ]
            refine wpAnyN_take (i := 9) (v := ?_) rfl (by kernel_rfl) (fun _ _ _ h => h) (by rfl) (fun W hW => ?_) hS0 ?_
            rotate_left
            · obtain ⟨z0, z1, z2, z3, z4⟩ := hW
              go_simp
              try with_reducible rfl
            try simp only [List.getElem_toArray, List.getElem_cons_zero, List.getElem_cons_succ, Act.put, List.setIfInBounds_toArray, List.set_cons_zero, List.set_cons_succ]
            refine wpAnyN_take (i := 10) (v := ?_) rfl (by kernel_rfl) (fun _ _ _ h => h) (by rfl) (fun W hW => ?_) hS0 ?_
            rotate_left
            · obtain ⟨z0, z1, z2, z3, z4⟩ := hW
              go_simp
              try with_reducible rfl
            try simp only [List.getElem_toArray, List.getElem_cons_zero, List.getElem_cons_succ, Act.put, List.setIfInBounds_toArray, List.set_cons_zero, List.set_cons_succ]
            refine wpAnyN_take (i := 11) (v := ?_) rfl (by kernel_rfl) (fun _ _ _ h => h) (by rfl) (fun W hW => ?_) hS0 ?_
            rotate_left
            · obtain ⟨z0, z1, z2, z3, z4⟩ := hW
              go_simp
              try with_reducible rfl
            try simp only [List.getElem_toArray, List.getElem_cons_zero, List.getElem_cons_succ, Act.put, List.setIfInBounds_toArray, List.set_cons_zero, List.set_cons_succ]
            clear hS0
            refine wpAnyN_next (i := 12) rfl (by kernel_rfl) (fun K hK => ?_)
            go_simp
            go_wp2_with (go_at_call 28; refine (CALL.out _ P3.out.p).mono ?_; rintro e w4 ⟨rfl, A2, n2, c2, B2, d2, mm2, p4, f4⟩)
            have P4 := Lib.hid (P3.out.call p4 f4)
            have P5 := Lib.hid (P4.out.alloc (.cells #[.int .i64 t.2] 2))
            clear p4 f4
            refine hK.out _ _ (fun h => absurd h (by decide)) ?_
            clear hK K
            try simp only [List.getElem_toArray, List.getElem_cons_zero, List.getElem_cons_succ, Act.put, List.setIfInBounds_toArray, List.set_cons_zero, List.set_cons_succ]
            refine wpAnyN_next (i := 13) rfl (by kernel_rfl) (fun K hK => ?_)
            go_simp
            refine hK.out _ _ (fun h => absurd h (by decide)) ?_
            clear hK K
            try simp only [List.getElem_toArray, List.getElem_cons_zero, List.getElem_cons_succ, Act.put, List.setIfInBounds_toArray, List.set_cons_zero, List.set_cons_succ]
            refine wpAnyN_next (i := 14) rfl (by kernel_rfl) (fun K hK => ?_)
            refine step_pushL (by rfl) _ _ _ (by rfl) w.heap.size 2 1 8 elem_int intE (some ⟨gv, 0, none⟩) k cv st.2 (by rfl) P5.out.v _ t.2 #[.int .i64 t.2] 2 (0, 0) (by rfl) (heap_alloc_new _ _) rfl rfl (by simp [intE, Value.oneCell']) (by omega) zk8 kmx P5.out.p.g.e.size ?_
            intro A9 c9 w9 own9 hg9 hat9
            have P9 := Lib.hid (P5.out.push own9 hg9 hat9)
            refine hK.out _ _ (fun h => absurd h (by decide)) ?_
            clear hK K
            try simp only [List.getElem_toArray, List.getElem_cons_zero, List.getElem_cons_succ, Act.put, List.setIfInBounds_toArray, List.set_cons_zero, List.set_cons_succ]
            refine wpAnyN_next (i := 15) rfl (by kernel_rfl) (fun K hK => ?_)
            go_simp
            refine hK.out _ _ (fun h => absurd h (by decide)) ?_
            clear hK K
            try simp only [List.getElem_toArray, List.getElem_cons_zero, List.getElem_cons_succ, Act.put, List.setIfInBounds_toArray, List.set_cons_zero, List.set_cons_succ]
            refine wpAnyN_done (by kernel_rfl) ?_ _
            go_wp2_with fail
            go_meet
            exact ⟨A9, c9, A2, n2, c2, B2, d2, mm2, t, _, rfl, P9, He, Ho⟩
          · obtain rfl : false = pb := by rw [← Hpb.out]; unfold isP; rw [hxl]; rfl
            have Ho := Lib.hid (lvRule_do J.out.i (show RuleOk st.1 x from .inr ⟨cc, hcc, hxl, hxa, hxb⟩))
            have He := Lib.hid (show lvOne st x = ((lvRule st.1 x).1, st.2 ++ [(lvRule st.1 x).2]) by unfold lvOne; rw [if_neg (by rw [hxl]; show ¬ (1 : Nat) = 0; omega)])
            have CALL := Lib.hid (fun W4 (h4 : LvP w W4 X M A1 n1 c1 B1 d1 st.1 mm) => lvRule_any w X M x st.1 A1 n1 c1 B1 d1 mm W4 J.out.i (by omega) (.inr ⟨cc, hcc, hxl, hxa, hxb⟩) h4)
            generalize lvRule st.1 x = t at *
            obtain ⟨d0, d1_, d2_⟩ := BX2.out.three
            clear hxl hxa hxb hcc
            go_wp2_with fail
            refine (CALL.out w1 P2.out.p).mono ?_
            rintro e w4 ⟨rfl, A2, n2, c2, B2, d2, mm2, p4, f4⟩
            have P4 := Lib.hid (P2.out.call p4 f4)
            have P5 := Lib.hid (P4.out.alloc (.cells #[.int .i64 t.2] 2))
            clear p4 f4
            go_wp2_with
              (at_builtin
               refine wpList_push (w0 := w) rfl _ _ _ rfl w.heap.size 2 1 8 elem_int intE V k cv st.2 rfl P5.out.v w4.heap.size t.2 #[.int .i64 t.2] 2 (0, 0) rfl (heap_alloc_new _ _) rfl rfl (by simp [intE, Value.oneCell']) (by omega) (by omega) (by unfold maxLen; omega) rfl P5.out.p.g.e ?_
               intro A9 c9 w9 own9 hg9 hat9 hb9
               have P9 := Lib.hid (P5.out.push own9 hg9 hat9))
            go_meet
            exact ⟨A9, c9, A2, n2, c2, B2, d2, mm2, t, _, rfl, P9, He, Ho⟩
        case rest =>
          obtain ⟨V2, cv2, A2, n2, c2, B2, d2, mm2, t, g, rfl, P3, He, Ho⟩ := hcut
          have x0 := P3.out.p.g.x.cell 0
          have xl := P3.out.p.g.x.lt
          have hl2 : (lvOne st x).1.rs.length = n2 := by rw [He.out]; exact P3.out.p.hr
          by_cases h400 : 400 < n2
          · have hF := J.out.full Gx.out (by rw [hl2]; exact h400)
            have eT := Lib.hid (show lvT rs = [] by unfold lvT; rw [hF])
            have eC := Lib.hid (show lvE rs = 3 by unfold lvE; rw [hF]; rfl)
            have o0_ := P3.out.o.cell 0
            have of_ := P3.out.o.frozen
            have ol_ := P3.out.o.lt
            have B5 := P3.out.o.set_ 0 (.slice none 0 0)
            have x5 : (wc.setCell ⟨w.heap.size + 1, 0, none⟩ (.slice none 0 0)).cell? ⟨w.heap.size + 1, 0, none⟩ = some (.slice none 0 0) := by rw [B5.cell 0]; rfl
            have b5 := P3.out.p.g.e.setCell (p := ⟨w.heap.size + 1, 0, none⟩) (by simp) (.slice none 0 0)
            have n2c : (400 : Int) < (n2 : Int) := by omega
            clear B5 hF hl2 h400
            go_wp2_with fail
            refine bodyPost_ret (v := .tuple #[.agg #[.slice none 0 0], .int .i64 3]) (by simp [results, Try.results9, go_sem, x5]) rfl ?_
            rw [eT.out, eC.out]
            exact ⟨none, 0, rfl, World.ownsRow_nil _ _ _ _, b5⟩
          · have J2 := Lib.hid (J.out.one Gx.out (by omega) He.out Ho.out)
            have J3 : Hid (LvJ rs (k + 1) (t.1, st.2 ++ [t.2])) := by rw [← He.out]; exact J2
            have n2c : (n2 : Int) ≤ 400 := by omega
            clear hl2 h400 J2
            go_wp2_with fail
            go_roundw
            case rel => exact ⟨k + 1, V2, cv2, A2, n2, c2, B2, d2, mm2, (t.1, st.2 ++ [t.2]), rfl, by go_num, by omega, P3, J3⟩
            case measure => simp [intOf]; omega
      · have hall := Lib.hid (J.out.all (show rs.length ≤ k by have := HR.out.len; omega))
        have hlen := Lib.hid (lvAll_len hall.out)
        have hn1l : st.1.rs.length = n1 := P1.out.p.hr
        have Hn1l := Lib.hid hn1l
        have i1 : ¬ (k : Int) < (n : Int) := by omega
        have RS := Lib.hid (Rd.of_own (enc := intE) (fun x _ => rfl) J.out.pl P1.out.v)
        have LC := Lib.hid (fun W (h : Below wr.heap.size wr W) => last_any V k cv st.2 W (by omega) (RS.out.next h))
        have o0_ := P1.out.o.cell 0
        have of_ := P1.out.o.frozen
        have ol_ := P1.out.o.lt
        have x0 := P1.out.p.g.x.cell 0
        have xl := P1.out.p.g.x.lt
        have eC := Lib.hid (show lvE rs = 0 by unfold lvE; rw [hall.out]; rfl)
        by_cases hk0 : k = 0
        · have eT := Lib.hid (show lvT rs = [] by
            unfold lvT
            rw [hall.out]
            simp only
            rw [if_pos (List.eq_nil_of_length_eq_zero (by rw [J.out.pl]; exact hk0))])
          have kz : (k : Int) = 0 := by omega
          have B5 := P1.out.o.set_ 0 (.slice none 0 0)
          have x5 : (wr.setCell ⟨w.heap.size + 1, 0, none⟩ (.slice none 0 0)).cell? ⟨w.heap.size + 1, 0, none⟩ = some (.slice none 0 0) := by rw [B5.cell 0]; rfl
          have b5 := P1.out.p.g.e.setCell (p := ⟨w.heap.size + 1, 0, none⟩) (by simp) (.slice none 0 0)
          clear B5 hn1l x0 xl
          go_wp2_with fail
          refine bodyPost_ret (v := .tuple #[.agg #[.slice none 0 0], .int .i64 0]) (by simp [results, Try.results9, go_sem, x5]) rfl ?_
          rw [eT.out, eC.out]
          exact ⟨none, 0, rfl, World.ownsRow_nil _ _ _ _, b5⟩
        · have hsl : Idx st.1 (lastI st.2) := by
            unfold lastI
            have hj : st.2.length - 1 < st.2.length := by rw [J.out.pl]; omega
            rw [List.getD_eq_getElem?_getD, List.getElem?_eq_getElem hj]
            exact J.out.ix _ _ (List.getElem?_eq_getElem hj)
          have Hsl := Lib.hid hsl
          have eT0 := Lib.hid (show lvT rs = trimL (st.1.rs.take ((lastI st.2).toNat + 1)) by
            unfold lvT
            rw [hall.out]
            simp only
            rw [if_neg (by intro e; have := J.out.pl; rw [e] at this; exact hk0 this.symm), show (lastI st.2 + 1).toNat = (lastI st.2).toNat + 1 by have := Hsl.out.1; omega])
          have hl0 : 0 ≤ lastI st.2 := hsl.1
          have hl1 : lastI st.2 < (n1 : Int) := by rw [← hn1l]; exact hsl.2
          have hwt := Lib.hid (wf_take J.out.i.wf ((lastI st.2).toNat + 1))
          have RO := Lib.hid (Rd.of_own (fun x _ => fac_len x) Hn1l.out P1.out.p.g.q)
          have kz : ¬ (k : Int) = 0 := by omega
          generalize lastI st.2 = sl at *
          have u1 : IntKind.i64.wrap (sl + 1) = sl + 1 := IntWalk.i64_in _ (by omega)
          have j0 : (0 : Int) ≤ sl + 1 := by omega
          have hc1 : n1 ≤ c1 := by
            have h2 := P1.out.p.g.q.2
            rcases h2 with ⟨hnil, hz⟩ | ⟨g2, cap2, cur2, hv2, _, _, h3, _⟩
            · omega
            · injection hv2 with _ _ h4; omega
          have j1 : sl + 1 ≤ (c1 : Int) := by omega
          have jn : (sl + 1).toNat = sl.toNat + 1 := by omega
          have RT := Lib.hid (Rd.takeL RO.out (k := sl.toNat + 1) (by omega))
          have TC := Lib.hid (fun W (h : Below wr.heap.size wr W) => trimmed_any A1 (sl.toNat + 1) c1 (st.1.rs.take (sl.toNat + 1)) W (by omega) (RT.out.next h) hwt.out)
          unfold RetG at TC
          generalize trimL (st.1.rs.take (sl.toNat + 1)) = T at *
          obtain ⟨L, hL⟩ : ∃ L, T.length = L := ⟨_, rfl⟩
          rw [hL] at TC
          have HL := Lib.hid hL
          have PD := Lib.hid P1.out.drew
          clear hL hl0 hl1 hsl hn1l J Hsl hwt RO RT RS Hn1l hlen hall
          go_wp2_with fail
          go_region_law
            (first
              | (go_simp
                 go_wp2_with (go_at_call 31; refine (TC.out _ b5x.out).mono ?_; rintro e w6' ⟨A5, c5, rfl, own5, hb6'⟩)
                 have P7 := Lib.hid (P6.out.next hb6')
                 have O6 := Lib.hid (own5.mono P6.out.p.g.e.size)
                 have o7 := P7.out.o.cell 0
                 have f7 := P7.out.o.frozen
                 have l7 := P7.out.o.lt
                 clear own5)
              | (go_simp
                 go_wp2_with (go_at_call 30; refine (LC.out _ (Below.refl _ _).drew).mono ?_; rintro e w5' ⟨rfl, hb5'⟩)
                 have b5x := Lib.hid (show Below wr.heap.size wr w5' from (Below.refl _ _).drew.trans hb5')
                 have P6 := Lib.hid (P1.out.next b5x.out)
                 have x0' := P6.out.p.g.x.cell 0
                 have xl' := P6.out.p.g.x.lt))
          all_goals
            have B5 := P7.out.o.set_ 0 (.slice A5 L c5)
            have x5 : (w6'.setCell ⟨w.heap.size + 1, 0, none⟩ (.slice A5 L c5)).cell? ⟨w.heap.size + 1, 0, none⟩ = some (.slice A5 L c5) := by rw [B5.cell 0]; rfl
            have b5' := P7.out.p.g.e.setCell (p := ⟨w.heap.size + 1, 0, none⟩) (by simp) (.slice A5 L c5)
            have O8 := Lib.hid (own_kept' (i := 0) O6.out P7.out.o (by decide) (.slice A5 L c5))
            clear B5
            go_wp2_with fail
            exact bodyPost_ret (v := .tuple #[.agg #[.slice A5 L c5], .int .i64 0]) (by simp [results, Try.results9, go_sem, x5]) rfl ⟨A5, c5, by rw [eT0.out, eC.out]; simp [HL.out], by rw [eT0.out]; simpa [HL.out] using O8.out, b5'⟩
end Go.Proofs.Ytajfjgemfnfakaa


/-
  Level grammars: the plain part of the reference, which makes no more rules when it is full.
-/
namespace Go.Proofs.Ytajfjgemfnfakaa

def rfMake (t : LvS × Bool) (r : Fac) : (LvS × Bool) × Int :=
  if r ∈ t.1.rs then (t, ((t.1.rs.idxOf r : Nat) : Int)) else if 400 < t.1.rs.length then ((t.1, true), 0)
  else ((⟨t.1.rs ++ [r], t.1.ds ++ [lvDep t.1 r]⟩, t.2), (t.1.rs.length : Int))
def rfPair (t : LvS × Bool) (a b : Int) : (LvS × Bool) × Int := rfMake t ⟨⟨#[]⟩, a, b⟩
def rfLeft (t : LvS × Bool) (a z : Int) : (LvS × Bool) × Int :=
  if t.2 then (t, 0)
  else if lvD t.1 z ≤ lvD t.1 a + 1 then rfPair t a z
  else if lvD t.1 (lvR t.1 z).a ≤ lvD t.1 (lvR t.1 z).b then rfPair (rfPair t a (lvR t.1 z).a).1 (rfPair t a (lvR t.1 z).a).2 (lvR t.1 z).b
  else rfPair (rfPair (rfPair t a (lvR t.1 (lvR t.1 z).a).a).1 (lvR t.1 (lvR t.1 z).a).b (lvR t.1 z).b).1 (rfPair t a (lvR t.1 (lvR t.1 z).a).a).2 (rfPair (rfPair t a (lvR t.1 (lvR t.1 z).a).a).1 (lvR t.1 (lvR t.1 z).a).b (lvR t.1 z).b).2
def rfRight (t : LvS × Bool) (a z : Int) : (LvS × Bool) × Int :=
  if t.2 then (t, 0)
  else if lvD t.1 z ≤ lvD t.1 a + 1 then rfPair t z a
  else if lvD t.1 (lvR t.1 z).b ≤ lvD t.1 (lvR t.1 z).a then rfPair (rfPair t (lvR t.1 z).b a).1 (lvR t.1 z).a (rfPair t (lvR t.1 z).b a).2
  else rfPair (rfPair (rfPair t (lvR t.1 z).a (lvR t.1 (lvR t.1 z).b).a).1 (lvR t.1 (lvR t.1 z).b).b a).1 (rfPair t (lvR t.1 z).a (lvR t.1 (lvR t.1 z).b).a).2 (rfPair (rfPair t (lvR t.1 z).a (lvR t.1 (lvR t.1 z).b).a).1 (lvR t.1 (lvR t.1 z).b).b a).2
def rfLevel : Nat → LvS → Int → Int → (LvS × Bool) × Int
  | 0, s, l, r => rfPair (s, false) l r
  | f + 1, s, l, r =>
    if 1 < lvD s l - lvD s r then rfLeft (rfLevel f s (lvR s l).b r).1 (lvR s l).a (rfLevel f s (lvR s l).b r).2
    else if lvD s l - lvD s r < -1 then rfRight (rfLevel f s l (lvR s r).a).1 (lvR s r).b (rfLevel f s l (lvR s r).a).2
    else rfPair (s, false) l r
/-- what holds of a state -/
structure RfI (t : LvS × Bool) : Prop where
  i : LvI t.1
  len : t.1.rs.length ≤ 401
  full : t.2 = true → 400 < t.1.rs.length
/-- what an operation does -/
structure RfO (t u : LvS × Bool) (k : Int) : Prop where
  i : RfI u
  ext : ∃ er ed, u.1.rs = t.1.rs ++ er ∧ u.1.ds = t.1.ds ++ ed
  ix : u.2 = false → Idx u.1 k
  stay : t.2 = true → u = t
theorem RfO.grow {t u : LvS × Bool} {k : Int} (h : RfO t u k) : t.1.rs.length ≤ u.1.rs.length := by
  obtain ⟨er, ed, h1, _⟩ := h.ext
  rw [h1, List.length_append]; omega
theorem RfO.idx {t u : LvS × Bool} {j : Int} (h : RfO t u j) {k : Int} (hk : Idx t.1 k) : Idx u.1 k := ⟨hk.1, by have := h.grow; have := hk.2; omega⟩
theorem RfO.r {t u : LvS × Bool} {j : Int} (h : RfO t u j) {k : Int} (hk : Idx t.1 k) : lvR u.1 k = lvR t.1 k := by
  obtain ⟨er, ed, h1, _⟩ := h.ext
  unfold lvR
  rw [h1, List.getD_eq_getElem?_getD, List.getD_eq_getElem?_getD, List.getElem?_append_left (by have := hk.1; have := hk.2; omega)]
theorem RfO.trans {t u v : LvS × Bool} {j k : Int} (h1 : RfO t u j) (h2 : RfO u v k) : RfO t v k := by
  obtain ⟨e1, d1, a1, b1⟩ := h1.ext
  obtain ⟨e2, d2, a2, b2⟩ := h2.ext
  exact ⟨h2.i, ⟨e1 ++ e2, d1 ++ d2, by rw [a2, a1, List.append_assoc], by rw [b2, b1, List.append_assoc]⟩, h2.ix, fun e => by
    have h := h1.stay e
    rw [h2.stay (by rw [h]; exact e), h]⟩
theorem rfMake_do {t : LvS × Bool} (h : RfI t) {r : Fac} (hr : t.2 = false → RuleOk t.1 r) : RfO t (rfMake t r).1 (rfMake t r).2 := by
  unfold rfMake
  split
  · rename_i hm
    have := List.idxOf_lt_length_of_mem hm
    exact ⟨h, ⟨[], [], by simp, by simp⟩, fun _ => ⟨by simp, by simp only; omega⟩, fun _ => rfl⟩
  · rename_i hm
    split
    · rename_i h4
      exact ⟨⟨h.i, h.len, fun _ => h4⟩, ⟨[], [], by simp, by simp⟩, fun e => (by cases e), fun e => by
        obtain ⟨s, f⟩ := t
        simp only at e; subst e; rfl⟩
    · rename_i h4
      have hf : t.2 = false := by
        cases e : t.2 with
        | false => rfl
        | true => exact absurd (h.full e) h4
      have o := lvRule_do h.i (hr hf)
      unfold lvRule at o
      rw [if_neg hm] at o
      refine ⟨⟨o.i, by have := o.len; simp only at this ⊢; omega, fun e => ?_⟩, o.ext, fun _ => o.ix, fun e => ?_⟩
      · simp only at e; rw [hf] at e; cases e
      · rw [hf] at e; cases e
theorem rfPair_do {t : LvS × Bool} (h : RfI t) {a b : Int} (ha : t.2 = false → Idx t.1 a) (hb : t.2 = false → Idx t.1 b) : RfO t (rfPair t a b).1 (rfPair t a b).2 := rfMake_do h (fun e => .inl ⟨rfl, ha e, hb e⟩)
theorem RfO.rfl_ {t : LvS × Bool} (h : RfI t) (ht : t.2 = true) : RfO t t 0 := ⟨h, ⟨[], [], by simp, by simp⟩, fun e => (by rw [ht] at e; cases e), fun _ => rfl⟩
/-- one pair of a grammar's state beside the program's -/
def Rel (m : LvS × Int) (t : (LvS × Bool) × Int) : Prop := (t = ((m.1, false), m.2) ∧ m.1.rs.length ≤ 401) ∨ (t.1.2 = true ∧ 401 < m.1.rs.length)
theorem Rel.make {s : LvS} (hl : s.rs.length ≤ 401) (r : Fac) : Rel (lvRule s r) (rfMake (s, false) r) := by
  unfold lvRule rfMake
  by_cases hm : r ∈ s.rs
  · rw [if_pos hm, if_pos hm]
    exact .inl ⟨rfl, hl⟩
  · rw [if_neg hm, if_neg hm]
    by_cases h4 : 400 < s.rs.length
    · rw [if_pos h4]
      exact .inr ⟨rfl, by simp; omega⟩
    · rw [if_neg h4]
      exact .inl ⟨rfl, by simp; omega⟩
theorem rfMake_full (s : LvS) (r : Fac) (hl : 400 < s.rs.length) : (rfMake (s, true) r).1 = (s, true) := by
  unfold rfMake
  by_cases hm : r ∈ s.rs
  · rw [if_pos hm]
  · rw [if_neg hm, if_pos hl]
theorem Rel.full {m : LvS × Int} {t : (LvS × Bool) × Int} {m' : LvS × Int} {g : Nat} (ho : LvO m.1 m' g) (h4 : 401 < m.1.rs.length) (ht : t.1.2 = true) : Rel m' t := .inr ⟨ht, by have := ho.grow; omega⟩
theorem RfO.full {t u : LvS × Bool} {k : Int} (h : RfO t u k) (ht : t.2 = true) : u.2 = true := by rw [h.stay ht, ht]
/-- one more pair -/
theorem Rel.pair {m : LvS} {t : LvS × Bool} (hm : LvI m) (ht : RfI t) (h : (t = (m, false) ∧ m.rs.length ≤ 401) ∨ (t.2 = true ∧ 401 < m.rs.length)) {a b a' b' : Int} (ha : Idx m a) (hb : Idx m b) (e : t.2 = false → a' = a ∧ b' = b) :
    Rel (lvPair m a b) (rfPair t a' b') := by
  rcases h with ⟨rfl, hl⟩ | ⟨h1, h2⟩
  · obtain ⟨rfl, rfl⟩ := e rfl
    exact Rel.make hl _
  · obtain ⟨s, f⟩ := t
    simp only at h1; subst h1
    refine .inr ⟨?_, ?_⟩
    · have := rfMake_full s ⟨⟨#[]⟩, a', b'⟩ (ht.full rfl)
      show (rfMake (s, true) _).1.2 = true
      rw [this]
    · have := (lvPair_do hm ha hb).grow; omega
theorem Rel.next {m : LvS × Int} {t : (LvS × Bool) × Int} (h : Rel m t) : (t.1 = (m.1, false) ∧ m.1.rs.length ≤ 401) ∨ (t.1.2 = true ∧ 401 < m.1.rs.length) := by
  rcases h with ⟨rfl, hl⟩ | h
  · exact .inl ⟨rfl, hl⟩
  · exact .inr h
theorem Rel.val {m : LvS × Int} {t : (LvS × Bool) × Int} (h : Rel m t) (hf : t.1.2 = false) : t.2 = m.2 ∧ t.1 = (m.1, false) ∧ m.1.rs.length ≤ 401 := by
  rcases h with ⟨rfl, hl⟩ | ⟨h1, _⟩
  · exact ⟨rfl, rfl, hl⟩
  · rw [h1] at hf; cases hf
theorem rfLeft_do {t : LvS × Bool} (h : RfI t) {a z : Int} (ha : Idx t.1 a) (hz : t.2 = false → Idx t.1 z) : RfO t (rfLeft t a z).1 (rfLeft t a z).2 ∧ (t.2 = false → Rel (lvLeft t.1 a z) (rfLeft t a z)) := by
  unfold rfLeft
  cases ht : t.2 with
  | true => rw [if_pos rfl]; exact ⟨RfO.rfl_ h ht, fun e => (by cases e)⟩
  | false =>
    rw [if_neg (by decide)]
    have hz1 := hz ht
    clear hz
    obtain ⟨s, f⟩ := t
    simp only at ht ha h; subst ht
    simp only
    have hz : Idx s z := hz1
    have da := h.i.lo a.toNat (by have := ha.1; have := ha.2; simp only at *; omega)
    rw [show ((a.toNat : Nat) : Int) = a by have := ha.1; omega] at da
    simp only at da
    have hi : LvI s := h.i
    have hl : s.rs.length ≤ 401 := h.len
    have h0 : ((s, false) = (s, false) ∧ s.rs.length ≤ 401) ∨ ((s, false).2 = true ∧ 401 < s.rs.length) := .inl ⟨rfl, hl⟩
    unfold lvLeft
    by_cases h1 : lvD s z ≤ lvD s a + 1
    · rw [if_pos h1, if_pos h1]
      exact ⟨rfPair_do h (fun _ => ha) (fun _ => hz), fun _ => Rel.pair hi h h0 ha hz (fun _ => ⟨rfl, rfl⟩)⟩
    · rw [if_neg h1, if_neg h1]
      obtain ⟨_, hc, hd, _, _, _⟩ := hi.deep hz (by omega)
      have dd := hi.lo (lvR s z).b.toNat (by have := hd.1; have := hd.2; omega)
      rw [show (((lvR s z).b.toNat : Nat) : Int) = (lvR s z).b by have := hd.1; omega] at dd
      by_cases h2 : lvD s (lvR s z).a ≤ lvD s (lvR s z).b
      · rw [if_pos h2, if_pos h2]
        have o1 := rfPair_do h (fun _ => ha) (fun _ => hc)
        have l1 := lvPair_do hi ha hc
        have r1 := Rel.pair hi h h0 ha hc (fun _ => ⟨rfl, rfl⟩)
        exact ⟨o1.trans (rfPair_do o1.i o1.ix (fun _ => o1.idx hd)), fun _ => Rel.pair l1.i o1.i r1.next l1.ix (l1.idx hd) (fun e => ⟨(r1.val e).1, rfl⟩)⟩
      · rw [if_neg h2, if_neg h2]
        obtain ⟨_, he, hf, _, _, _⟩ := hi.deep hc (by omega)
        have o1 := rfPair_do h (fun _ => ha) (fun _ => he)
        have l1 := lvPair_do hi ha he
        have r1 := Rel.pair hi h h0 ha he (fun _ => ⟨rfl, rfl⟩)
        have o2 := rfPair_do o1.i (fun _ => o1.idx hf) (fun _ => o1.idx hd)
        have l2 := lvPair_do l1.i (l1.idx hf) (l1.idx hd)
        have r2 := Rel.pair l1.i o1.i r1.next (l1.idx hf) (l1.idx hd) (fun _ => ⟨rfl, rfl⟩)
        have b1 : (rfPair (rfPair (s, false) a (lvR s (lvR s z).a).a).1 (lvR s (lvR s z).a).b (lvR s z).b).1.2 = false → (rfPair (s, false) a (lvR s (lvR s z).a).a).1.2 = false := fun e => by
          cases q : (rfPair (s, false) a (lvR s (lvR s z).a).a).1.2 with
          | false => rfl
          | true => rw [o2.full q] at e; cases e
        exact ⟨(o1.trans o2).trans (rfPair_do o2.i (fun e => o2.idx (o1.ix (b1 e))) o2.ix), fun _ => Rel.pair l2.i o2.i r2.next (l2.idx l1.ix) l2.ix (fun e => ⟨(r1.val (b1 e)).1, (r2.val e).1⟩)⟩
theorem rfRight_do {t : LvS × Bool} (h : RfI t) {a z : Int} (ha : Idx t.1 a) (hz : t.2 = false → Idx t.1 z) : RfO t (rfRight t a z).1 (rfRight t a z).2 ∧ (t.2 = false → Rel (lvRight t.1 a z) (rfRight t a z)) := by
  unfold rfRight
  cases ht : t.2 with
  | true => rw [if_pos rfl]; exact ⟨RfO.rfl_ h ht, fun e => (by cases e)⟩
  | false =>
    rw [if_neg (by decide)]
    have hz1 := hz ht
    clear hz
    obtain ⟨s, f⟩ := t
    simp only at ht ha h; subst ht
    simp only
    have hz : Idx s z := hz1
    have da := h.i.lo a.toNat (by have := ha.1; have := ha.2; simp only at *; omega)
    rw [show ((a.toNat : Nat) : Int) = a by have := ha.1; omega] at da
    simp only at da
    have hi : LvI s := h.i
    have hl : s.rs.length ≤ 401 := h.len
    have h0 : ((s, false) = (s, false) ∧ s.rs.length ≤ 401) ∨ ((s, false).2 = true ∧ 401 < s.rs.length) := .inl ⟨rfl, hl⟩
    unfold lvRight
    by_cases h1 : lvD s z ≤ lvD s a + 1
    · rw [if_pos h1, if_pos h1]
      exact ⟨rfPair_do h (fun _ => hz) (fun _ => ha), fun _ => Rel.pair hi h h0 hz ha (fun _ => ⟨rfl, rfl⟩)⟩
    · rw [if_neg h1, if_neg h1]
      obtain ⟨_, hd, hc, _, _, _⟩ := hi.deep hz (by omega)
      have dd := hi.lo (lvR s z).a.toNat (by have := hd.1; have := hd.2; omega)
      rw [show (((lvR s z).a.toNat : Nat) : Int) = (lvR s z).a by have := hd.1; omega] at dd
      by_cases h2 : lvD s (lvR s z).b ≤ lvD s (lvR s z).a
      · rw [if_pos h2, if_pos h2]
        have o1 := rfPair_do h (fun _ => hc) (fun _ => ha)
        have l1 := lvPair_do hi hc ha
        have r1 := Rel.pair hi h h0 hc ha (fun _ => ⟨rfl, rfl⟩)
        exact ⟨o1.trans (rfPair_do o1.i (fun _ => o1.idx hd) o1.ix), fun _ => Rel.pair l1.i o1.i r1.next (l1.idx hd) l1.ix (fun e => ⟨rfl, (r1.val e).1⟩)⟩
      · rw [if_neg h2, if_neg h2]
        obtain ⟨_, hf, he, _, _, _⟩ := hi.deep hc (by omega)
        have o1 := rfPair_do h (fun _ => hd) (fun _ => hf)
        have l1 := lvPair_do hi hd hf
        have r1 := Rel.pair hi h h0 hd hf (fun _ => ⟨rfl, rfl⟩)
        have o2 := rfPair_do o1.i (fun _ => o1.idx he) (fun _ => o1.idx ha)
        have l2 := lvPair_do l1.i (l1.idx he) (l1.idx ha)
        have r2 := Rel.pair l1.i o1.i r1.next (l1.idx he) (l1.idx ha) (fun _ => ⟨rfl, rfl⟩)
        have b1 : (rfPair (rfPair (s, false) (lvR s z).a (lvR s (lvR s z).b).a).1 (lvR s (lvR s z).b).b a).1.2 = false → (rfPair (s, false) (lvR s z).a (lvR s (lvR s z).b).a).1.2 = false := fun e => by
          cases q : (rfPair (s, false) (lvR s z).a (lvR s (lvR s z).b).a).1.2 with
          | false => rfl
          | true => rw [o2.full q] at e; cases e
        exact ⟨(o1.trans o2).trans (rfPair_do o2.i (fun e => o2.idx (o1.ix (b1 e))) o2.ix), fun _ => Rel.pair l2.i o2.i r2.next (l2.idx l1.ix) l2.ix (fun e => ⟨(r1.val (b1 e)).1, (r2.val e).1⟩)⟩
theorem rfLevel_do : ∀ (f : Nat) {s : LvS} (_ : LvI s) (_ : s.rs.length ≤ 401) {l r : Int} (_ : Idx s l) (_ : Idx s r), l + r ≤ f → RfO (s, false) (rfLevel f s l r).1 (rfLevel f s l r).2 ∧ Rel (lvLevel f s l r) (rfLevel f s l r)
  | 0, s, h, h4, l, r, hl, hr, hf => ⟨rfPair_do ⟨h, h4, fun e => (by cases e)⟩ (fun _ => hl) (fun _ => hr), Rel.pair h ⟨h, h4, fun e => (by cases e)⟩ (.inl ⟨rfl, h4⟩) hl hr (fun _ => ⟨rfl, rfl⟩)⟩
  | f + 1, s, h, h4, l, r, hl, hr, hf => by
    have d1 := h.lo l.toNat (by have := hl.1; have := hl.2; omega)
    have d2 := h.lo r.toNat (by have := hr.1; have := hr.2; omega)
    rw [show ((l.toNat : Nat) : Int) = l by have := hl.1; omega] at d1
    rw [show ((r.toNat : Nat) : Int) = r by have := hr.1; omega] at d2
    unfold lvLevel rfLevel
    by_cases c1 : 1 < lvD s l - lvD s r
    · rw [if_pos c1, if_pos c1]
      obtain ⟨_, ha, hb, ha2, hb2, _⟩ := h.deep hl (by omega)
      obtain ⟨o1, r1⟩ := rfLevel_do f h h4 hb hr (by omega)
      have l1 := lvLevel_do f h hb hr (by omega)
      obtain ⟨o2, r2⟩ := rfLeft_do o1.i (o1.idx ha) o1.ix
      refine ⟨o1.trans o2, ?_⟩
      cases q : (rfLevel f s (lvR s l).b r).1.2 with
      | false =>
        obtain ⟨e1, e2, e3⟩ := r1.val q
        have := r2 q
        rw [e2] at this ⊢
        rw [e1] at this ⊢
        exact this
      | true =>
        refine .inr ⟨o2.full q, ?_⟩
        rcases r1 with ⟨e, _⟩ | ⟨_, e⟩
        · rw [e] at q; cases q
        · have := (lvLeft_do l1.i (l1.idx ha) l1.ix).grow; omega
    · rw [if_neg c1, if_neg c1]
      by_cases c2 : lvD s l - lvD s r < -1
      · rw [if_pos c2, if_pos c2]
        obtain ⟨_, ha, hb, ha2, hb2, _⟩ := h.deep hr (by omega)
        obtain ⟨o1, r1⟩ := rfLevel_do f h h4 hl ha (by omega)
        have l1 := lvLevel_do f h hl ha (by omega)
        obtain ⟨o2, r2⟩ := rfRight_do o1.i (o1.idx hb) o1.ix
        refine ⟨o1.trans o2, ?_⟩
        cases q : (rfLevel f s l (lvR s r).a).1.2 with
        | false =>
          obtain ⟨e1, e2, e3⟩ := r1.val q
          have := r2 q
          rw [e2] at this ⊢
          rw [e1] at this ⊢
          exact this
        | true =>
          refine .inr ⟨o2.full q, ?_⟩
          rcases r1 with ⟨e, _⟩ | ⟨_, e⟩
          · rw [e] at q; cases q
          · have := (lvRight_do l1.i (l1.idx hb) l1.ix).grow; omega
      · rw [if_neg c2, if_neg c2]
        exact ⟨rfPair_do ⟨h, h4, fun e => (by cases e)⟩ (fun _ => hl) (fun _ => hr), Rel.pair h ⟨h, h4, fun e => (by cases e)⟩ (.inl ⟨rfl, h4⟩) hl hr (fun _ => ⟨rfl, rfl⟩)⟩
end Go.Proofs.Ytajfjgemfnfakaa


/-
  Level grammars in the reference: a rule, found or made.
-/
namespace Go.Proofs.Ytajfjgemfnfakaa
open Go.RowKit

theorem fac_ext' {x y : Fac} (h1 : x.l.toList = y.l.toList) (h2 : x.a = y.a) (h3 : x.b = y.b) : x = y := by
  obtain ⟨xl, xa, xb⟩ := x
  obtain ⟨yl, ya, yb⟩ := y
  simp only at h1 h2 h3
  rw [tl_inj] at h1
  rw [h1, h2, h3]
theorem idx_first : ∀ (rs : List Fac) (r : Fac) (j : Nat), rs[j]? = some r → (∀ q, q < j → rs[q]? ≠ some r) → rs.idxOf r = j
  | [], r, j, h, _ => by simp at h
  | x :: rs, r, 0, h, _ => by
    simp at h; subst h; simp
  | x :: rs, r, j + 1, h, hn => by
    have h0 := hn 0 (by omega)
    simp at h0
    have hx : (x == r) = false := by simpa using h0
    rw [List.idxOf_cons, hx]
    have := idx_first rs r j (by simpa using h) (fun q hq => by have := hn (q + 1) (by omega); simpa using this)
    simp [this]
/-- the reference's maker under way -/
structure LsP (w0 W : World) (X : Nat) (A : Option Addr) (n c : Nat) (B : Option Addr) (d : Nat) (t : LvS × Bool) : Prop where
  g : LvG 67 w0 W X (.bool t.2) A n c B n d t.1.rs t.1.ds
  hr : t.1.rs.length = n
  hd : t.1.ds.length = n
theorem LsP.next {w0 W W' : World} {X : Nat} {A : Option Addr} {n c : Nat} {B : Option Addr} {d : Nat} {t : LvS × Bool} (h : LsP w0 W X A n c B d t) (hb : Below W.heap.size W W') : LsP w0 W' X A n c B d t := ⟨h.g.next hb, h.hr, h.hd⟩
/-- what a call answers -/
def LsQ (w0 W : World) (X : Nat) (v u : Value) (t : (LvS × Bool) × Int) (e : Ending) (W' : World) : Prop :=
  e = .returned (.int .i64 t.2) ∧ ∃ A n c B d, LsP w0 W' X A n c B d t.1 ∧ LvF W W' X X v (.slice A n c) u (.slice B n d)
theorem LsP.rd {w0 W : World} {X : Nat} {A : Option Addr} {n c : Nat} {B : Option Addr} {d : Nat} {t : LvS × Bool} (h : LsP w0 W X A n c B d t) (hn : 0 < n) : ∃ ga gb, A = some ⟨ga, 0, none⟩ ∧ B = some ⟨gb, 0, none⟩ ∧ ga < W.heap.size ∧ gb < W.heap.size ∧
    ∀ k : Nat, k < n → W.cell? ⟨gb, k, none⟩ = some (.int .i64 (lvD t.1 k)) ∧ W.cell? ⟨ga, k * 3, none⟩ = some (.string (lvR t.1 k).l) ∧ W.cell? ⟨ga, k * 3 + 1, none⟩ = some (.int .i64 (lvR t.1 k).a) ∧ W.cell? ⟨ga, k * 3 + 2, none⟩ = some (.int .i64 (lvR t.1 k).b) :=
  h.g.red h.hr h.hd hn
set_option maxHeartbeats 8000000 in
set_option maxRecDepth 100000 in
theorem rfMake_any (w0 : World) (X : Nat) (r : Fac) (t : LvS × Bool) (A : Option Addr) (n c : Nat) (B : Option Addr) (d : Nat) (W : World) (hi : RfI t) (ho : t.2 = false → RuleOk t.1 r) (h : LsP w0 W X A n c B d t) :
    Calls Try.prog 32 #[.pointer (some ⟨X, 0, none⟩), r.val] W (LsQ w0 W X (.slice A n c) (.slice B n d) (rfMake t r)) := by
  have HI := Lib.hid hi
  have HO := Lib.hid ho
  have hn4 : n ≤ 401 := by have := hi.len; have := h.hr; omega
  have P0 := Lib.hid (h.next ((Below.refl _ _).alloc (Nat.le_refl _) (.cells #[.string r.l, .int .i64 r.a, .int .i64 r.b] 59)))
  have F0 := Lib.hid (LvF.of_below (X := X) (M := X) (v := .slice A n c) (u := .slice B n d) ((Below.refl W.heap.size W).alloc (Nat.le_refl _) (.cells #[.string r.l, .int .i64 r.a, .int .i64 r.b] 59)))
  have BX0 := Lib.hid (Blk.new W 59 #[.string r.l, .int .i64 r.a, .int .i64 r.b])
  have neX : W.heap.size ≠ X := by have := h.g.x.lt; omega
  have neA : some W.heap.size ≠ (Value.slice A n c).ownBlock := fun e => by have := (h.g.q.lt _ e.symm).2; omega
  have neB : some W.heap.size ≠ (Value.slice B n d).ownBlock := fun e => by have := (h.g.k.lt _ e.symm).2; omega
  have hwx : W.heap.size ≤ W.heap.size := Nat.le_refl _
  have HW0 := Lib.hid h.g.e.size
  have HR := Lib.hid h.hr
  have HDl := Lib.hid h.hd
  clear hi ho h
  go_enter Try.func32, Try.ntmps32
  go_wp2_with fail
  go_loopw [5] (fun i_ w' => ∃ j : Nat, i_ = .int .i64 j ∧ j ≤ n ∧ Hid (LsP w0 w' X A n c B d t) ∧ Hid (LvF W w' X X (.slice A n c) (.slice A n c) (.slice B n d) (.slice B n d)) ∧ Hid (Blk w' W.heap.size 59 #[.string r.l, .int .i64 r.a, .int .i64 r.b]) ∧ Hid (∀ q, q < j → t.1.rs[q]? ≠ some r)) (fun i_ _ => n - (intOf i_).toNat)
  case atStart => exact ⟨0, rfl, by omega, P0, F0, BX0, Lib.hid (fun q hq => by omega)⟩
  case round =>
    obtain ⟨j, rfl, hj, P1, F1, BX1, HN⟩ := hrel
    clear P0 F0 BX0
    have xc0 := P1.out.g.x.cell 0
    have xl := P1.out.g.x.lt
    by_cases hlt : j < n
    · obtain ⟨ga, gb, rfl, rfl, hga, hgb, hrd⟩ := P1.out.rd (by omega)
      obtain ⟨-, c0, c1, c2⟩ := hrd j hlt
      have HX := Lib.hid (show t.1.rs[j]? = some (lvR t.1 j) from by
        have h := HI.out.i.get (k := (j : Int)) ⟨by omega, by rw [P1.out.hr]; omega⟩
        rwa [Int.toNat_natCast] at h)
      generalize lvR t.1 j = x at *
      obtain ⟨e0, e1, e2⟩ := BX1.out.three
      have j0 : (0 : Int) ≤ (j : Int) := by omega
      have j1 : (j : Int) < (n : Int) := by omega
      clear hrd
      by_cases hxy : x = r
      · subst hxy
        have eR := Lib.hid (show rfMake t x = (t, (j : Int)) by
          unfold rfMake
          rw [if_pos (List.mem_of_getElem? HX.out), idx_first t.1.rs x j HX.out HN.out])
        go_wp2_with fail
        go_region
        all_goals
          go_wp2_with fail
          go_ret
          rw [eR.out]
          exact ⟨rfl, _, n, c, _, d, P1.out.next (Below.refl _ _).drew, F1.out.trans (LvF.of_below (Below.refl _ _).drew)⟩
      · have hcase : x.l.toList ≠ r.l.toList ∨ (x.l.toList = r.l.toList ∧ x.a ≠ r.a) ∨ (x.l.toList = r.l.toList ∧ x.a = r.a ∧ x.b ≠ r.b) := by
          by_cases h1 : x.l.toList = r.l.toList
          · by_cases h2 : x.a = r.a
            · by_cases h3 : x.b = r.b
              · exact absurd (fac_ext' h1 h2 h3) hxy
              · exact .inr (.inr ⟨h1, h2, h3⟩)
            · exact .inr (.inl ⟨h1, h2⟩)
          · exact .inl h1
        have HXY := Lib.hid hxy
        clear hxy
        rcases hcase with h1 | ⟨h1, h2⟩ | ⟨h1, h2, h3⟩
        all_goals
          go_wp2_with fail
          go_region
          all_goals
            go_wp2_with fail
            go_roundw
            case rel =>
              refine ⟨j + 1, by go_num, by omega, Lib.hid (P1.out.next (Below.refl _ _).drew), Lib.hid (F1.out.trans (LvF.of_below (Below.refl _ _).drew)), Lib.hid BX1.out.drew, Lib.hid (fun q hq => ?_)⟩
              rcases Nat.lt_or_ge q j with h | h
              · exact HN.out q h
              · obtain rfl : q = j := by omega
                intro hh
                exact HXY.out (by have := HX.out.symm.trans hh; injection this)
            case measure => first | (simp [intOf]; done) | (simp [intOf]; omega)
    · obtain rfl : j = n := by omega
      have hmem : r ∉ t.1.rs := fun h => by
        obtain ⟨q, hq, e⟩ := List.getElem_of_mem h
        exact HN.out q (by have := P1.out.hr; omega) (by rw [List.getElem?_eq_getElem hq, e])
      have HM := Lib.hid hmem
      clear hmem HN
      by_cases h400 : 400 < j
      · have eR := Lib.hid (show rfMake t r = ((t.1, true), 0) by unfold rfMake; rw [if_neg HM.out, if_pos (by rw [P1.out.hr]; exact h400)])
        have xc2 := P1.out.g.x.cell 2
        have xf := P1.out.g.x.frozen
        have n4c : (400 : Int) < (j : Int) := by omega
        have P2 := Lib.hid (show LsP w0 (wr.setCell ⟨X, 2, none⟩ (.bool true)) X A j c B d (t.1, true) from ⟨(P1.out.g.open.set2 (.bool true)).shut, P1.out.hr, P1.out.hd⟩)
        have F2 := Lib.hid (F1.out.setX 2 (.bool true))
        go_wp2_with fail
        go_ret
        rw [eR.out]
        exact ⟨rfl, A, j, c, B, d, P2.out, F2.out⟩
      · have hf : t.2 = false := by
          cases e : t.2 with
          | false => rfl
          | true => exact absurd (HI.out.full e) (by rw [P1.out.hr]; exact h400)
        have hok := Lib.hid (HO.out hf)
        have eR := Lib.hid (show rfMake t r = ((⟨t.1.rs ++ [r], t.1.ds ++ [lvDep t.1 r]⟩, t.2), (j : Int)) by
          unfold rfMake
          rw [if_neg HM.out, if_neg (by rw [P1.out.hr]; exact h400), P1.out.hr])
        have n4c : ¬ (400 : Int) < (j : Int) := by omega
        have hl0 := Lib.hid (show 0 < j → ∀ k : Nat, k < j → 1 ≤ lvD t.1 k ∧ lvD t.1 k ≤ (k : Int) + 1 from fun _ k hk => HI.out.i.lo k (by rw [P1.out.hr]; exact hk))
        clear HI HO HM hf hwx
        obtain ⟨e0, e1, e2⟩ := BX1.out.three
        have xc1 := P1.out.g.x.cell 1
        go_upto_if 37 with fail
        go_cut [6] (fun d_ wx => d_ = .int .i64 (lvDep t.1 r) ∧ Hid (LsP w0 wx X A j c B d t) ∧ Hid (LvF W wx X X (.slice A j c) (.slice A j c) (.slice B j d) (.slice B j d)) ∧ Hid (Blk wx W.heap.size 59 #[.string r.l, .int .i64 r.a, .int .i64 r.b]))
        case first =>
          rcases hok.out with ⟨h0, ha, hb⟩ | ⟨cc, _, hl, ha, hb⟩
          · obtain ⟨a, hae⟩ : ∃ a : Nat, r.a = a := ⟨r.a.toNat, by have := ha.1; omega⟩
            obtain ⟨b, hbe⟩ : ∃ b : Nat, r.b = b := ⟨r.b.toNat, by have := hb.1; omega⟩
            have han : a < j := by have := ha.2; rw [hae, P1.out.hr] at this; omega
            have hbn : b < j := by have := hb.2; rw [hbe, P1.out.hr] at this; omega
            obtain ⟨ga, gb, rfl, rfl, hga, hgb, hrd⟩ := P1.out.rd (by omega)
            obtain ⟨z1, -, -, -⟩ := hrd a han
            obtain ⟨z2, -, -, -⟩ := hrd b hbn
            have la := hl0.out (by omega) a han
            have lb := hl0.out (by omega) b hbn
            have HD := Lib.hid (show lvDep t.1 r = max (lvD t.1 a) (lvD t.1 b) + 1 by unfold lvDep; rw [if_pos h0, hae, hbe])
            generalize lvD t.1 a = y1 at *
            generalize lvD t.1 b = y2 at *
            have e1' : wr.cell? ⟨W.heap.size, 1, none⟩ = some (.int .i64 (a : Int)) := by rw [← hae]; exact e1
            have e2' : wr.cell? ⟨W.heap.size, 2, none⟩ = some (.int .i64 (b : Int)) := by rw [← hbe]; exact e2
            have e0' := size0 h0
            have wrl := BX1.out.lt
            have hup := upc wr.heap.size wr
            have m1 : max y1 y2 ≤ 1048576 := by omega
            have m0 : 1 ≤ max y1 y2 := by omega
            have a0 : (0 : Int) ≤ (a : Int) := by omega
            have b0 : (0 : Int) ≤ (b : Int) := by omega
            have a1 : (a : Int) < (j : Int) := by omega
            have b1 : (b : Int) < (j : Int) := by omega
            have he : r.l.toList.isEmpty = true := by rw [e0']; rfl
            simp only [he]
            clear hrd e1 e2 hae hbe ha hb h0 la lb han hbn hl0 hok he
            go_wp2_with fail
            refine wp_region_up wr.heap.size (by kernel_rfl) (by kernel_rfl) ?_
            repeat (go_big_quiet_step ((go_at_call 52; exact Calls.up (Nat.le_refl _) (l00Max_any y1 y2 _))))
            refine wpQuiet_nil ?_
            intro w4 hup_w4
            have hb4 := up_of hup_w4
            go_wp2_with fail
            go_meet
            exact ⟨by rw [HD.out]; congr 1; omega, Lib.hid (P1.out.next hb4), Lib.hid (F1.out.trans (LvF.of_below hb4)), Lib.hid (BX1.out.next hb4)⟩
          · have HD := Lib.hid (show lvDep t.1 r = 1 by unfold lvDep; rw [if_neg (by rw [hl]; show ¬ (1 : Nat) = 0; omega)])
            have hl1 : r.l.size ≠ 0 := by rw [hl]; show (1 : Nat) ≠ 0; omega
            have e1' := size1 hl1
            have e2' := size1' hl1
            have he : r.l.toList.isEmpty = false := by rw [List.isEmpty_eq_false_iff]; exact e1'
            simp only [he]
            clear hl ha hb hok hl1 he
            go_wp2_with fail
            go_meet
            exact ⟨by rw [HD.out], P1, F1, BX1⟩
        case rest =>
          obtain ⟨rfl, P2, F2, BX2⟩ := hcut
          generalize lvDep t.1 r = dd at *
          clear P1 F1 BX1 e0 e1 e2 xc0 xc1 xl hl0 hok
          have zk : (j + 1) * 32 ≤ 140737488355328 := by omega
          have zkm : j + 1 ≤ maxLen := by unfold maxLen; omega
          have zk8 : (j + 1) * 8 ≤ 140737488355328 := by omega
          obtain ⟨e0, e1, e2⟩ := BX2.out.three
          have el := BX2.out.lt
          have x0 := P2.out.g.x.cell 0
          have xl := P2.out.g.x.lt
          obtain ⟨f0, f1, f2⟩ := (BX2.out.next (Below.refl wc.heap.size wc).drew).three
          have fl := (BX2.out.next (Below.refl wc.heap.size wc).drew).lt
          have y0 := (P2.out.next (Below.refl wc.heap.size wc).drew).g.x.cell 0
          have yl := (P2.out.next (Below.refl wc.heap.size wc).drew).g.x.lt
          have G5 := Lib.hid ((P2.out.g.open.alloc (.cells #[.string r.l, .int .i64 r.a, .int .i64 r.b] 59)).drew)
          have F5 := Lib.hid (F2.out.trans (LvF.of_below (X := X) (M := X) (v := .slice A j c) (u := .slice B j d) ((Below.refl wc.heap.size wc).alloc (Nat.le_refl _) (.cells #[.string r.l, .int .i64 r.a, .int .i64 r.b] 59)).drew))
          have hb5 := heap_alloc_new wc (.cells #[.string r.l, .int .i64 r.a, .int .i64 r.b] 59)
          have HB5 := Lib.hid (show (((wc.alloc (.cells #[.string r.l, .int .i64 r.a, .int .i64 r.b] 59)).drew).heap[wc.heap.size]? = some (.cells #[.string r.l, .int .i64 r.a, .int .i64 r.b] 59)) from hb5)
          have q0 := G5.out.x.cell 0
          have ql := G5.out.x.lt
          clear hb5
          go_wp2_with fail
          go_region_law
            (refine step_pushL (by rfl) _ _ _ (by rfl) w0.heap.size 59 3 32 elem_rule Fac.cells A j c t.1.rs (by rfl) G5.out.q _ r #[.string r.l, .int .i64 r.a, .int .i64 r.b] 59 (0, 0) (by rfl) HB5.out rfl rfl (one_fac _) (by omega) zk zkm G5.out.e.size ?_
             intro A8 c8 w8 own8 hg8 at8
             have G6 := Lib.hid (G5.out.pushR own8 hg8)
             have F6 := Lib.hid (F5.out.trans (LvF.of_grown (X := X) (M := X) (u := .slice B j d) hg8 at8))
             have z0 := G6.out.x.cell 0
             have zf := G6.out.x.frozen
             have zl := G6.out.x.lt)
          all_goals
            have G7 := Lib.hid (G6.out.set0 (.slice A8 (j + 1) c8))
            have F7 := Lib.hid (F6.out.setX 0 (.slice A8 (j + 1) c8))
            clear z0 zf zl x0 xl y0 yl q0 ql f0 f1 f2 fl e0 e1 e2 el G6 F6 G5 F5 HB5 P2 F2 BX2
            generalize w8.setCell ⟨X, 0, none⟩ (.slice A8 (j + 1) c8) = wy at *
            have p1 := G7.out.x.cell 1
            have pl := G7.out.x.lt
            have G8 := Lib.hid (G7.out.alloc (.cells #[.int .i64 dd] 2))
            have F8 := Lib.hid (F7.out.trans (LvF.of_below (X := X) (M := X) (v := .slice A8 (j + 1) c8) (u := .slice B j d) ((Below.refl wy.heap.size wy).alloc (Nat.le_refl _) (.cells #[.int .i64 dd] 2))))
            go_wp2_with
              (at_builtin
               refine wpList_push (w0 := w0) rfl _ _ _ rfl w0.heap.size 2 1 8 elem_int intE B j d t.1.ds rfl G8.out.k wy.heap.size dd #[.int .i64 dd] 2 (0, 0) rfl (heap_alloc_new _ _) rfl rfl (by simp [intE, Value.oneCell']) (by omega) (by omega) (by unfold maxLen; omega) rfl G8.out.e ?_
               intro B9 c9 w9 own9 hg9 at9 hb9
               have G9 := Lib.hid ((G8.out.pushD own9 hg9).set1 (.slice B9 (j + 1) c9))
               have F9 := Lib.hid ((F8.out.trans (LvF.of_grown' (X := X) (M := X) (v := .slice A8 (j + 1) c8) hg9 at9)).setX 1 (.slice B9 (j + 1) c9))
               have GQ := (G8.out.pushD own9 hg9).x
               have o1 := GQ.cell 1
               have of := GQ.frozen
               have ol := GQ.lt
               have s0 := G9.out.x.cell 0
               have sl := G9.out.x.lt)
            go_ret
            rw [eR.out]
            refine ⟨rfl, A8, j + 1, c8, B9, c9, ⟨G9.out.shut, ?_, ?_⟩, F9.out⟩
            · simp only [List.length_append, List.length_singleton, HR.out]
            · simp only [List.length_append, List.length_singleton, HDl.out]
end Go.Proofs.Ytajfjgemfnfakaa


/-
  Level grammars in the reference: two level rules made one.
-/
namespace Go.Proofs.Ytajfjgemfnfakaa
open Go.RowKit

set_option maxHeartbeats 4000000 in
set_option maxRecDepth 100000 in
theorem rfPair_any (w0 : World) (X : Nat) (a b : Int) (t : LvS × Bool) (A : Option Addr) (n c : Nat) (B : Option Addr) (d : Nat) (W : World) (hi : RfI t) (ha : t.2 = false → Idx t.1 a) (hb : t.2 = false → Idx t.1 b) (h : LsP w0 W X A n c B d t) :
    Calls Try.prog 55 #[.pointer (some ⟨X, 0, none⟩), .int .i64 a, .int .i64 b] W (LsQ w0 W X (.slice A n c) (.slice B n d) (rfPair t a b)) := by
  have HC := Lib.hid (rfMake_any w0 X ⟨⟨#[]⟩, a, b⟩ t A n c B d W hi (fun e => .inl ⟨rfl, ha e, hb e⟩) h)
  clear hi ha hb h
  go_enter Try.func55, Try.ntmps55
  go_wp2_with fail
  refine HC.out.mono ?_
  rintro e w2 ⟨rfl, A2, n2, c2, B2, d2, p2, f2⟩
  have P2 := Lib.hid p2
  have F2 := Lib.hid f2
  clear p2 f2
  go_wp2_with fail
  go_ret
  exact ⟨rfl, A2, n2, c2, B2, d2, P2.out, F2.out⟩
/-- the fuel's end is never felt -/
theorem rfLevel_eq {f : Nat} {s : LvS} (h : LvI s) {l r : Int} (hl : Idx s l) (hr : Idx s r) (hf : l + r ≤ f) : rfLevel f s l r =
    if 1 < lvD s l - lvD s r then rfLeft (rfLevel (f - 1) s (lvR s l).b r).1 (lvR s l).a (rfLevel (f - 1) s (lvR s l).b r).2
    else if lvD s l - lvD s r < -1 then rfRight (rfLevel (f - 1) s l (lvR s r).a).1 (lvR s r).b (rfLevel (f - 1) s l (lvR s r).a).2
    else rfPair (s, false) l r := by
  cases f with
  | succ f => rfl
  | zero =>
    have e1 : l = 0 := by have := hl.1; have := hr.1; omega
    have e2 : r = 0 := by have := hl.1; have := hr.1; omega
    subst e1 e2
    rw [if_neg (by omega), if_neg (by omega)]; rfl
set_option maxHeartbeats 8000000 in
set_option maxRecDepth 100000 in
theorem rfLeft_any (w0 : World) (X : Nat) (l r a b : Nat) (s : LvS) (u1 : (LvS × Bool) × Int) (A : Option Addr) (n c : Nat) (B : Option Addr) (d : Nat) (W : World) (hi : LvI s) (hl4 : s.rs.length ≤ 401) (idl : Idx s l) (ha : (lvR s l).a = a) (hb : (lvR s l).b = b) (ida : Idx s a)
    (ho : RfO (s, false) u1.1 u1.2) (call : ∀ W4, LsP w0 W4 X A n c B d (s, false) → Calls Try.prog 33 #[.pointer (some ⟨X, 0, none⟩), .int .i64 b, .int .i64 r] W4 (LsQ w0 W4 X (.slice A n c) (.slice B n d) u1)) (h : LsP w0 W X A n c B d (s, false)) :
    Calls Try.prog 53 #[.pointer (some ⟨X, 0, none⟩), .int .i64 l, .int .i64 r] W (LsQ w0 W X (.slice A n c) (.slice B n d) (rfLeft u1.1 a u1.2)) := by
  have HI := Lib.hid hi
  have P0 := Lib.hid h
  have O1 := Lib.hid ho
  have HA := Lib.hid ha
  have HB := Lib.hid hb
  have CALL := Lib.hid call
  have IDA := Lib.hid ida
  have hln : l < n := by have := idl.2; have := h.hr; simp only at this; omega
  have hn4 : n ≤ 401 := by have := h.hr; simp only at this; omega
  have F0 := Lib.hid (LvF.of_below (X := X) (M := X) (v := .slice A n c) (u := .slice B n d) (Below.refl W.heap.size W))
  obtain ⟨t1, zi⟩ := u1
  simp only at O1
  have HI1 : Hid (RfI t1) := Lib.hid O1.out.i
  have HE0 := Lib.hid (show rfLeft t1 a zi = rfLeft t1 a zi from rfl)
  have l0 : (0 : Int) ≤ (l : Int) := by omega
  have l1_ : (l : Int) < (n : Int) := by omega
  clear hi h ho ha hb call ida idl
  go_enter Try.func53, Try.ntmps53
  obtain ⟨ga_, gb_, ea, eb, ga1_, gb1_, hrd⟩ := P0.out.rd (by omega)
  first | (subst ea; subst eb) | (injection ea with ea; injection ea with ea; subst ea; injection eb with eb; injection eb with eb; subst eb)
  have x0_ := P0.out.g.x.cell 0
  have x1_ := P0.out.g.x.cell 1
  have xl_ := P0.out.g.x.lt
  obtain ⟨l0_, -, l1_, l2_⟩ := hrd l (by omega)
  rw [HA.out] at l1_
  rw [HB.out] at l2_
  clear hrd
  go_wp2_with fail
  refine (CALL.out W P0.out).mono ?_
  rintro e w1 ⟨rfl, A1, n1, c1, B1, d1, p1, f1⟩
  have P1 : Hid (LsP w0 w1 X A1 n1 c1 B1 d1 t1) := Lib.hid p1
  have F1 := Lib.hid (F0.out.trans f1)
  clear p1 f1 CALL P0 F0 x0_ x1_ xl_ ga1_ gb1_ l0_ l1_ l2_
  have x2 := P1.out.g.x.cell 2
  have xl := P1.out.g.x.lt
  have n1e := P1.out.hr
  have n14 : n1 ≤ 401 := by have := HI1.out.len; omega
  have HA1 : Hid (Idx t1.1 a) := Lib.hid (O1.out.idx IDA.out)
  have ha1 := HA1.out.2
  rw [n1e] at ha1
  cases hf : t1.2 with
  | true =>
    have HE : Hid (rfLeft t1 a zi = (t1, 0)) := Lib.hid (by unfold rfLeft; rw [hf]; rfl)
    clear HE0
    rw [hf] at x2
    go_wp2_with fail
    go_ret
    rw [HE.out]
    exact ⟨rfl, A1, n1, c1, B1, d1, P1.out, F1.out⟩
  | false =>
    have iz : Idx t1.1 zi := O1.out.ix hf
    obtain ⟨z, rfl⟩ : ∃ z : Nat, zi = z := ⟨zi.toNat, by have := iz.1; omega⟩
    have HZ := Lib.hid iz
    have hz1 := iz.2
    rw [n1e] at hz1
    rw [hf] at x2
    have Hf := Lib.hid hf
    clear iz hf n1e
    have loa := HI1.out.i.lo a (by rw [P1.out.hr]; omega)
    have loz := HI1.out.i.lo z (by rw [P1.out.hr]; omega)
    obtain ⟨Dz, hDz⟩ : ∃ Dz, lvD t1.1 z = Dz := ⟨_, rfl⟩
    obtain ⟨Da, hDa⟩ : ∃ Da, lvD t1.1 a = Da := ⟨_, rfl⟩
    rw [hDz] at loz
    rw [hDa] at loa
    have HDz := Lib.hid hDz
    have HDa := Lib.hid hDa
    clear hDz hDa
    have z0 : (0 : Int) ≤ (z : Int) := by omega
    have a0 : (0 : Int) ≤ (a : Int) := by omega
    have ua : IntKind.i64.wrap (Da + 1) = Da + 1 := IntWalk.i64_in _ (by omega)
    by_cases q1 : Dz ≤ Da + 1
    · have HE := Lib.hid (show rfLeft t1 a (z : Int) = rfPair t1 a z by unfold rfLeft; rw [Hf.out, if_neg (by decide), HDz.out, HDa.out, if_pos q1])
      have hup := upc w1.heap.size w1
      obtain ⟨ga_5, gb_5, ea, eb, ga1_5, gb1_5, hrd⟩ := P1.out.rd (by omega)
      first | (subst ea; subst eb) | (injection ea with ea; injection ea with ea; subst ea; injection eb with eb; injection eb with eb; subst eb)
      have x0_5 := P1.out.g.x.cell 0
      have x1_5 := P1.out.g.x.cell 1
      have xl_5 := P1.out.g.x.lt
      obtain ⟨z0_5, -, z1_5, z2_5⟩ := hrd z (by omega)
      rw [HDz.out] at z0_5
      obtain ⟨a0_5, -, a1_5, a2_5⟩ := hrd a (by omega)
      rw [HDa.out] at a0_5
      clear hrd
      go_wp2_with fail
      refine wp_region_up w1.heap.size (by kernel_rfl) (by kernel_rfl) ?_
      repeat (go_big_quiet_step ((fail)))
      refine wpQuiet_nil ?_
      intro w5 hup_w5
      have hb := up_of hup_w5
      have P5 := Lib.hid (P1.out.next hb)
      have F5 := Lib.hid (F1.out.trans (LvF.of_below hb))
      clear hb hup hup_w5 x0_5 x1_5 xl_5 ga1_5 gb1_5 z0_5 z1_5 z2_5 a0_5 a1_5 a2_5
      have O2 := Lib.hid (rfPair_do HI1.out (fun _ => HA1.out) (fun _ => HZ.out))
      have C2 := Lib.hid (rfPair_any w0 X (a : Int) (z : Int) t1 _ n1 c1 _ d1 w5 HI1.out (fun _ => HA1.out) (fun _ => HZ.out) P5.out)
      generalize rfPair t1 (a : Int) (z : Int) = u2 at *
      obtain ⟨t2, i2⟩ := u2
      have HI2 : Hid (RfI t2) := Lib.hid O2.out.i
      go_wp2_with fail
      refine C2.out.mono ?_
      rintro e w6 ⟨rfl, A2, n2, c2, B2, d2, p, f⟩
      have P2 : Hid (LsP w0 w6 X A2 n2 c2 B2 d2 t2) := Lib.hid p
      have F2 := Lib.hid (F5.out.trans f)
      have ln2 : n1 ≤ n2 := by have h1 := O2.out.grow; have h2 := P2.out.hr; have h3 := P5.out.hr; (try simp only at h1); omega
      clear p f C2
      go_wp2_with fail
      go_ret
      rw [HE.out]
      exact ⟨rfl, A2, n2, c2, B2, d2, P2.out, F2.out⟩
    · obtain ⟨_, idc, idd, ltc, ltd, _⟩ := HI1.out.i.deep HZ.out (by rw [HDz.out]; omega)
      obtain ⟨zc, hc⟩ : ∃ k : Nat, (lvR t1.1 z).a = k := ⟨(lvR t1.1 z).a.toNat, by have := idc.1; omega⟩
      obtain ⟨zd, hd⟩ : ∃ k : Nat, (lvR t1.1 z).b = k := ⟨(lvR t1.1 z).b.toNat, by have := idd.1; omega⟩
      rw [hc] at idc ltc
      rw [hd] at idd ltd
      have HC := Lib.hid hc
      have HD := Lib.hid hd
      have IC := Lib.hid idc
      have ID := Lib.hid idd
      have loc := HI1.out.i.lo zc (by have := idc.2; omega)
      have lod := HI1.out.i.lo zd (by have := idd.2; omega)
      obtain ⟨Dc, hDc⟩ : ∃ Dc, lvD t1.1 zc = Dc := ⟨_, rfl⟩
      obtain ⟨Dd, hDd⟩ : ∃ Dd, lvD t1.1 zd = Dd := ⟨_, rfl⟩
      rw [hDc] at loc
      rw [hDd] at lod
      have HDc := Lib.hid hDc
      have HDd := Lib.hid hDd
      have c0 : (0 : Int) ≤ (zc : Int) := by omega
      have d0 : (0 : Int) ≤ (zd : Int) := by omega
      clear hc hd idc idd hDc hDd
      have hup := upc w1.heap.size w1
      obtain ⟨ga_5, gb_5, ea, eb, ga1_5, gb1_5, hrd⟩ := P1.out.rd (by omega)
      first | (subst ea; subst eb) | (injection ea with ea; injection ea with ea; subst ea; injection eb with eb; injection eb with eb; subst eb)
      have x0_5 := P1.out.g.x.cell 0
      have x1_5 := P1.out.g.x.cell 1
      have xl_5 := P1.out.g.x.lt
      obtain ⟨z0_5, -, z1_5, z2_5⟩ := hrd z (by omega)
      rw [HDz.out] at z0_5
      obtain ⟨a0_5, -, a1_5, a2_5⟩ := hrd a (by omega)
      rw [HDa.out] at a0_5
      clear hrd
      go_wp2_with fail
      refine wp_region_up w1.heap.size (by kernel_rfl) (by kernel_rfl) ?_
      repeat (go_big_quiet_step ((fail)))
      refine wpQuiet_nil ?_
      intro w5 hup_w5
      have hb := up_of hup_w5
      have P5 := Lib.hid (P1.out.next hb)
      have F5 := Lib.hid (F1.out.trans (LvF.of_below hb))
      clear hb hup hup_w5 x0_5 x1_5 xl_5 ga1_5 gb1_5 z0_5 z1_5 z2_5 a0_5 a1_5 a2_5
      by_cases q2 : Dc ≤ Dd
      · have HE := Lib.hid (show rfLeft t1 a (z : Int) = rfPair (rfPair t1 a zc).1 (rfPair t1 a zc).2 zd by unfold rfLeft; rw [Hf.out, if_neg (by decide), HDz.out, HDa.out, if_neg (show ¬ Dz ≤ Da + 1 by omega), HC.out, HD.out, HDc.out, HDd.out, if_pos q2])
        have hup := upc w5.heap.size w5
        obtain ⟨ga_7, gb_7, ea, eb, ga1_7, gb1_7, hrd⟩ := P5.out.rd (by omega)
        first | (subst ea; subst eb) | (injection ea with ea; injection ea with ea; subst ea; injection eb with eb; injection eb with eb; subst eb)
        have x0_7 := P5.out.g.x.cell 0
        have x1_7 := P5.out.g.x.cell 1
        have xl_7 := P5.out.g.x.lt
        obtain ⟨z0_7, -, z1_7, z2_7⟩ := hrd z (by omega)
        rw [HC.out] at z1_7
        rw [HD.out] at z2_7
        obtain ⟨zc0_7, -, zc1_7, zc2_7⟩ := hrd zc (by omega)
        rw [HDc.out] at zc0_7
        obtain ⟨zd0_7, -, zd1_7, zd2_7⟩ := hrd zd (by omega)
        rw [HDd.out] at zd0_7
        clear hrd
        go_wp2_with fail
        refine wp_region_up w5.heap.size (by kernel_rfl) (by kernel_rfl) ?_
        repeat (go_big_quiet_step ((fail)))
        refine wpQuiet_nil ?_
        intro w7 hup_w7
        have hb := up_of hup_w7
        have P7 := Lib.hid (P5.out.next hb)
        have F7 := Lib.hid (F5.out.trans (LvF.of_below hb))
        clear hb hup hup_w7 x0_7 x1_7 xl_7 ga1_7 gb1_7 z0_7 z1_7 z2_7 zc0_7 zc1_7 zc2_7 zd0_7 zd1_7 zd2_7
        have O2 := Lib.hid (rfPair_do HI1.out (fun _ => HA1.out) (fun _ => IC.out))
        have C2 := Lib.hid (rfPair_any w0 X (a : Int) (zc : Int) t1 _ n1 c1 _ d1 w7 HI1.out (fun _ => HA1.out) (fun _ => IC.out) P7.out)
        generalize rfPair t1 (a : Int) (zc : Int) = u2 at *
        obtain ⟨t2, i2⟩ := u2
        have HI2 : Hid (RfI t2) := Lib.hid O2.out.i
        go_wp2_with fail
        refine C2.out.mono ?_
        rintro e w8 ⟨rfl, A2, n2, c2, B2, d2, p, f⟩
        have P2 : Hid (LsP w0 w8 X A2 n2 c2 B2 d2 t2) := Lib.hid p
        have F2 := Lib.hid (F7.out.trans f)
        have ln2 : n1 ≤ n2 := by have h1 := O2.out.grow; have h2 := P2.out.hr; have h3 := P7.out.hr; (try simp only at h1); omega
        clear p f C2
        have O3 := Lib.hid (rfPair_do HI2.out O2.out.ix (fun _ => O2.out.idx ID.out))
        have C3 := Lib.hid (rfPair_any w0 X i2 (zd : Int) t2 _ n2 c2 _ d2 w8 HI2.out O2.out.ix (fun _ => O2.out.idx ID.out) P2.out)
        generalize rfPair t2 i2 (zd : Int) = u3 at *
        obtain ⟨t3, i3⟩ := u3
        have HI3 : Hid (RfI t3) := Lib.hid O3.out.i
        go_wp2_with fail
        refine C3.out.mono ?_
        rintro e w9 ⟨rfl, A3, n3, c3, B3, d3, p, f⟩
        have P3 : Hid (LsP w0 w9 X A3 n3 c3 B3 d3 t3) := Lib.hid p
        have F3 := Lib.hid (F2.out.trans f)
        have ln3 : n2 ≤ n3 := by have h1 := O3.out.grow; have h2 := P3.out.hr; have h3 := P2.out.hr; (try simp only at h1); omega
        clear p f C3
        go_wp2_with fail
        go_ret
        rw [HE.out]
        exact ⟨rfl, A3, n3, c3, B3, d3, P3.out, F3.out⟩
      · obtain ⟨_, ide, idf, lte, ltf, _⟩ := HI1.out.i.deep IC.out (by rw [HDc.out]; omega)
        obtain ⟨ca, hca⟩ : ∃ k : Nat, (lvR t1.1 zc).a = k := ⟨(lvR t1.1 zc).a.toNat, by have := ide.1; omega⟩
        obtain ⟨cb, hcb⟩ : ∃ k : Nat, (lvR t1.1 zc).b = k := ⟨(lvR t1.1 zc).b.toNat, by have := idf.1; omega⟩
        rw [hca] at ide lte
        rw [hcb] at idf ltf
        have HCA := Lib.hid hca
        have HCB := Lib.hid hcb
        have IE := Lib.hid ide
        have IF := Lib.hid idf
        clear hca hcb ide idf
        have HE := Lib.hid (show rfLeft t1 a (z : Int) = rfPair (rfPair (rfPair t1 a ca).1 cb zd).1 (rfPair t1 a ca).2 (rfPair (rfPair t1 a ca).1 cb zd).2 by unfold rfLeft; rw [Hf.out, if_neg (by decide), HDz.out, HDa.out, if_neg (show ¬ Dz ≤ Da + 1 by omega), HC.out, HD.out, HDc.out, HDd.out, if_neg q2, HCA.out, HCB.out])
        have hup := upc w5.heap.size w5
        obtain ⟨ga_7, gb_7, ea, eb, ga1_7, gb1_7, hrd⟩ := P5.out.rd (by omega)
        first | (subst ea; subst eb) | (injection ea with ea; injection ea with ea; subst ea; injection eb with eb; injection eb with eb; subst eb)
        have x0_7 := P5.out.g.x.cell 0
        have x1_7 := P5.out.g.x.cell 1
        have xl_7 := P5.out.g.x.lt
        obtain ⟨z0_7, -, z1_7, z2_7⟩ := hrd z (by omega)
        rw [HC.out] at z1_7
        rw [HD.out] at z2_7
        obtain ⟨zc0_7, -, zc1_7, zc2_7⟩ := hrd zc (by omega)
        rw [HDc.out] at zc0_7
        obtain ⟨zd0_7, -, zd1_7, zd2_7⟩ := hrd zd (by omega)
        rw [HDd.out] at zd0_7
        clear hrd
        go_wp2_with fail
        refine wp_region_up w5.heap.size (by kernel_rfl) (by kernel_rfl) ?_
        repeat (go_big_quiet_step ((fail)))
        refine wpQuiet_nil ?_
        intro w7 hup_w7
        have hb := up_of hup_w7
        have P7 := Lib.hid (P5.out.next hb)
        have F7 := Lib.hid (F5.out.trans (LvF.of_below hb))
        clear hb hup hup_w7 x0_7 x1_7 xl_7 ga1_7 gb1_7 z0_7 z1_7 z2_7 zc0_7 zc1_7 zc2_7 zd0_7 zd1_7 zd2_7
        obtain ⟨ga_8, gb_8, ea, eb, ga1_8, gb1_8, hrd⟩ := P7.out.rd (by omega)
        first | (subst ea; subst eb) | (injection ea with ea; injection ea with ea; subst ea; injection eb with eb; injection eb with eb; subst eb)
        have x0_8 := P7.out.g.x.cell 0
        have x1_8 := P7.out.g.x.cell 1
        have xl_8 := P7.out.g.x.lt
        obtain ⟨zc0_8, -, zc1_8, zc2_8⟩ := hrd zc (by omega)
        rw [HCA.out] at zc1_8
        rw [HCB.out] at zc2_8
        clear hrd
        have O2 := Lib.hid (rfPair_do HI1.out (fun _ => HA1.out) (fun _ => IE.out))
        have C2 := Lib.hid (rfPair_any w0 X (a : Int) (ca : Int) t1 _ n1 c1 _ d1 w7 HI1.out (fun _ => HA1.out) (fun _ => IE.out) P7.out)
        generalize rfPair t1 (a : Int) (ca : Int) = u2 at *
        obtain ⟨t2, i2⟩ := u2
        have HI2 : Hid (RfI t2) := Lib.hid O2.out.i
        go_wp2_with fail
        refine C2.out.mono ?_
        rintro e w9 ⟨rfl, A2, n2, c2, B2, d2, p, f⟩
        have P2 : Hid (LsP w0 w9 X A2 n2 c2 B2 d2 t2) := Lib.hid p
        have F2 := Lib.hid (F7.out.trans f)
        have ln2 : n1 ≤ n2 := by have h1 := O2.out.grow; have h2 := P2.out.hr; have h3 := P7.out.hr; (try simp only at h1); omega
        clear p f C2
        clear x0_8 x1_8 xl_8 ga1_8 gb1_8 zc0_8 zc1_8 zc2_8
        have HCB2 : Hid ((lvR t2.1 (zc : Int)).b = cb) := Lib.hid (by rw [O2.out.r IC.out]; exact HCB.out)
        obtain ⟨ga_9, gb_9, ea, eb, ga1_9, gb1_9, hrd⟩ := P2.out.rd (by omega)
        first | (subst ea; subst eb) | (injection ea with ea; injection ea with ea; subst ea; injection eb with eb; injection eb with eb; subst eb)
        have x0_9 := P2.out.g.x.cell 0
        have x1_9 := P2.out.g.x.cell 1
        have xl_9 := P2.out.g.x.lt
        obtain ⟨zc0_9, -, zc1_9, zc2_9⟩ := hrd zc (by omega)
        rw [HCB2.out] at zc2_9
        clear hrd
        have O3 := Lib.hid (rfPair_do HI2.out (fun _ => O2.out.idx IF.out) (fun _ => O2.out.idx ID.out))
        have C3 := Lib.hid (rfPair_any w0 X (cb : Int) (zd : Int) t2 _ n2 c2 _ d2 w9 HI2.out (fun _ => O2.out.idx IF.out) (fun _ => O2.out.idx ID.out) P2.out)
        generalize rfPair t2 (cb : Int) (zd : Int) = u3 at *
        obtain ⟨t3, i3⟩ := u3
        have HI3 : Hid (RfI t3) := Lib.hid O3.out.i
        go_wp2_with fail
        refine C3.out.mono ?_
        rintro e w10 ⟨rfl, A3, n3, c3, B3, d3, p, f⟩
        have P3 : Hid (LsP w0 w10 X A3 n3 c3 B3 d3 t3) := Lib.hid p
        have F3 := Lib.hid (F2.out.trans f)
        have ln3 : n2 ≤ n3 := by have h1 := O3.out.grow; have h2 := P3.out.hr; have h3 := P2.out.hr; (try simp only at h1); omega
        clear p f C3
        clear x0_9 x1_9 xl_9 ga1_9 gb1_9 zc0_9 zc1_9 zc2_9
        have b1 : t3.2 = false → t2.2 = false := fun e => by
          cases q : t2.2 with
          | false => rfl
          | true => have h := O3.out.full q; (try simp only at h); rw [h] at e; cases e
        have O4 := Lib.hid (rfPair_do HI3.out (fun e => O3.out.idx (O2.out.ix (b1 e))) O3.out.ix)
        have C4 := Lib.hid (rfPair_any w0 X i2 i3 t3 _ n3 c3 _ d3 w10 HI3.out (fun e => O3.out.idx (O2.out.ix (b1 e))) O3.out.ix P3.out)
        generalize rfPair t3 i2 i3 = u4 at *
        obtain ⟨t4, i4⟩ := u4
        have HI4 : Hid (RfI t4) := Lib.hid O4.out.i
        go_wp2_with fail
        refine C4.out.mono ?_
        rintro e w11 ⟨rfl, A4, n4, c4, B4, d4, p, f⟩
        have P4 : Hid (LsP w0 w11 X A4 n4 c4 B4 d4 t4) := Lib.hid p
        have F4 := Lib.hid (F3.out.trans f)
        have ln4 : n3 ≤ n4 := by have h1 := O4.out.grow; have h2 := P4.out.hr; have h3 := P3.out.hr; (try simp only at h1); omega
        clear p f C4
        go_wp2_with fail
        go_ret
        rw [HE.out]
        exact ⟨rfl, A4, n4, c4, B4, d4, P4.out, F4.out⟩
set_option maxHeartbeats 8000000 in
set_option maxRecDepth 100000 in
theorem rfRight_any (w0 : World) (X : Nat) (l r a b : Nat) (s : LvS) (u1 : (LvS × Bool) × Int) (A : Option Addr) (n c : Nat) (B : Option Addr) (d : Nat) (W : World) (hi : LvI s) (hl4 : s.rs.length ≤ 401) (idl : Idx s r) (ha : (lvR s r).b = a) (hb : (lvR s r).a = b) (ida : Idx s a)
    (ho : RfO (s, false) u1.1 u1.2) (call : ∀ W4, LsP w0 W4 X A n c B d (s, false) → Calls Try.prog 33 #[.pointer (some ⟨X, 0, none⟩), .int .i64 l, .int .i64 b] W4 (LsQ w0 W4 X (.slice A n c) (.slice B n d) u1)) (h : LsP w0 W X A n c B d (s, false)) :
    Calls Try.prog 54 #[.pointer (some ⟨X, 0, none⟩), .int .i64 l, .int .i64 r] W (LsQ w0 W X (.slice A n c) (.slice B n d) (rfRight u1.1 a u1.2)) := by
  have HI := Lib.hid hi
  have P0 := Lib.hid h
  have O1 := Lib.hid ho
  have HA := Lib.hid ha
  have HB := Lib.hid hb
  have CALL := Lib.hid call
  have IDA := Lib.hid ida
  have hln : r < n := by have := idl.2; have := h.hr; simp only at this; omega
  have hn4 : n ≤ 401 := by have := h.hr; simp only at this; omega
  have F0 := Lib.hid (LvF.of_below (X := X) (M := X) (v := .slice A n c) (u := .slice B n d) (Below.refl W.heap.size W))
  obtain ⟨t1, zi⟩ := u1
  simp only at O1
  have HI1 : Hid (RfI t1) := Lib.hid O1.out.i
  have HE0 := Lib.hid (show rfRight t1 a zi = rfRight t1 a zi from rfl)
  have r0 : (0 : Int) ≤ (r : Int) := by omega
  have r1_ : (r : Int) < (n : Int) := by omega
  clear hi h ho ha hb call ida idl
  go_enter Try.func54, Try.ntmps54
  obtain ⟨ga_, gb_, ea, eb, ga1_, gb1_, hrd⟩ := P0.out.rd (by omega)
  first | (subst ea; subst eb) | (injection ea with ea; injection ea with ea; subst ea; injection eb with eb; injection eb with eb; subst eb)
  have x0_ := P0.out.g.x.cell 0
  have x1_ := P0.out.g.x.cell 1
  have xl_ := P0.out.g.x.lt
  obtain ⟨r0_, -, r1_, r2_⟩ := hrd r (by omega)
  rw [HB.out] at r1_
  rw [HA.out] at r2_
  clear hrd
  go_wp2_with fail
  refine (CALL.out W P0.out).mono ?_
  rintro e w1 ⟨rfl, A1, n1, c1, B1, d1, p1, f1⟩
  have P1 : Hid (LsP w0 w1 X A1 n1 c1 B1 d1 t1) := Lib.hid p1
  have F1 := Lib.hid (F0.out.trans f1)
  clear p1 f1 CALL P0 F0 x0_ x1_ xl_ ga1_ gb1_ r0_ r1_ r2_
  have x2 := P1.out.g.x.cell 2
  have xl := P1.out.g.x.lt
  have n1e := P1.out.hr
  have n14 : n1 ≤ 401 := by have := HI1.out.len; omega
  have HA1 : Hid (Idx t1.1 a) := Lib.hid (O1.out.idx IDA.out)
  have ha1 := HA1.out.2
  rw [n1e] at ha1
  cases hf : t1.2 with
  | true =>
    have HE : Hid (rfRight t1 a zi = (t1, 0)) := Lib.hid (by unfold rfRight; rw [hf]; rfl)
    clear HE0
    rw [hf] at x2
    go_wp2_with fail
    go_ret
    rw [HE.out]
    exact ⟨rfl, A1, n1, c1, B1, d1, P1.out, F1.out⟩
  | false =>
    have iz : Idx t1.1 zi := O1.out.ix hf
    obtain ⟨z, rfl⟩ : ∃ z : Nat, zi = z := ⟨zi.toNat, by have := iz.1; omega⟩
    have HZ := Lib.hid iz
    have hz1 := iz.2
    rw [n1e] at hz1
    rw [hf] at x2
    have Hf := Lib.hid hf
    clear iz hf n1e
    have loa := HI1.out.i.lo a (by rw [P1.out.hr]; omega)
    have loz := HI1.out.i.lo z (by rw [P1.out.hr]; omega)
    obtain ⟨Dz, hDz⟩ : ∃ Dz, lvD t1.1 z = Dz := ⟨_, rfl⟩
    obtain ⟨Da, hDa⟩ : ∃ Da, lvD t1.1 a = Da := ⟨_, rfl⟩
    rw [hDz] at loz
    rw [hDa] at loa
    have HDz := Lib.hid hDz
    have HDa := Lib.hid hDa
    clear hDz hDa
    have z0 : (0 : Int) ≤ (z : Int) := by omega
    have a0 : (0 : Int) ≤ (a : Int) := by omega
    have ua : IntKind.i64.wrap (Da + 1) = Da + 1 := IntWalk.i64_in _ (by omega)
    by_cases q1 : Dz ≤ Da + 1
    · have HE := Lib.hid (show rfRight t1 a (z : Int) = rfPair t1 z a by unfold rfRight; rw [Hf.out, if_neg (by decide), HDz.out, HDa.out, if_pos q1])
      have hup := upc w1.heap.size w1
      obtain ⟨ga_5, gb_5, ea, eb, ga1_5, gb1_5, hrd⟩ := P1.out.rd (by omega)
      first | (subst ea; subst eb) | (injection ea with ea; injection ea with ea; subst ea; injection eb with eb; injection eb with eb; subst eb)
      have x0_5 := P1.out.g.x.cell 0
      have x1_5 := P1.out.g.x.cell 1
      have xl_5 := P1.out.g.x.lt
      obtain ⟨z0_5, -, z1_5, z2_5⟩ := hrd z (by omega)
      rw [HDz.out] at z0_5
      obtain ⟨a0_5, -, a1_5, a2_5⟩ := hrd a (by omega)
      rw [HDa.out] at a0_5
      clear hrd
      go_wp2_with fail
      refine wp_region_up w1.heap.size (by kernel_rfl) (by kernel_rfl) ?_
      repeat (go_big_quiet_step ((fail)))
      refine wpQuiet_nil ?_
      intro w5 hup_w5
      have hb := up_of hup_w5
      have P5 := Lib.hid (P1.out.next hb)
      have F5 := Lib.hid (F1.out.trans (LvF.of_below hb))
      clear hb hup hup_w5 x0_5 x1_5 xl_5 ga1_5 gb1_5 z0_5 z1_5 z2_5 a0_5 a1_5 a2_5
      have O2 := Lib.hid (rfPair_do HI1.out (fun _ => HZ.out) (fun _ => HA1.out))
      have C2 := Lib.hid (rfPair_any w0 X (z : Int) (a : Int) t1 _ n1 c1 _ d1 w5 HI1.out (fun _ => HZ.out) (fun _ => HA1.out) P5.out)
      generalize rfPair t1 (z : Int) (a : Int) = u2 at *
      obtain ⟨t2, i2⟩ := u2
      have HI2 : Hid (RfI t2) := Lib.hid O2.out.i
      go_wp2_with fail
      refine C2.out.mono ?_
      rintro e w6 ⟨rfl, A2, n2, c2, B2, d2, p, f⟩
      have P2 : Hid (LsP w0 w6 X A2 n2 c2 B2 d2 t2) := Lib.hid p
      have F2 := Lib.hid (F5.out.trans f)
      have ln2 : n1 ≤ n2 := by have h1 := O2.out.grow; have h2 := P2.out.hr; have h3 := P5.out.hr; (try simp only at h1); omega
      clear p f C2
      go_wp2_with fail
      go_ret
      rw [HE.out]
      exact ⟨rfl, A2, n2, c2, B2, d2, P2.out, F2.out⟩
    · obtain ⟨_, idc, idd, ltc, ltd, _⟩ := HI1.out.i.deep HZ.out (by rw [HDz.out]; omega)
      obtain ⟨idc, idd, ltc, ltd⟩ : Idx t1.1 (lvR t1.1 z).b ∧ Idx t1.1 (lvR t1.1 z).a ∧ (lvR t1.1 z).b < (z : Int) ∧ (lvR t1.1 z).a < (z : Int) := ⟨idd, idc, ltd, ltc⟩
      obtain ⟨zc, hc⟩ : ∃ k : Nat, (lvR t1.1 z).b = k := ⟨(lvR t1.1 z).b.toNat, by have := idc.1; omega⟩
      obtain ⟨zd, hd⟩ : ∃ k : Nat, (lvR t1.1 z).a = k := ⟨(lvR t1.1 z).a.toNat, by have := idd.1; omega⟩
      rw [hc] at idc ltc
      rw [hd] at idd ltd
      have HC := Lib.hid hc
      have HD := Lib.hid hd
      have IC := Lib.hid idc
      have ID := Lib.hid idd
      have loc := HI1.out.i.lo zc (by have := idc.2; omega)
      have lod := HI1.out.i.lo zd (by have := idd.2; omega)
      obtain ⟨Dc, hDc⟩ : ∃ Dc, lvD t1.1 zc = Dc := ⟨_, rfl⟩
      obtain ⟨Dd, hDd⟩ : ∃ Dd, lvD t1.1 zd = Dd := ⟨_, rfl⟩
      rw [hDc] at loc
      rw [hDd] at lod
      have HDc := Lib.hid hDc
      have HDd := Lib.hid hDd
      have c0 : (0 : Int) ≤ (zc : Int) := by omega
      have d0 : (0 : Int) ≤ (zd : Int) := by omega
      clear hc hd idc idd hDc hDd
      have hup := upc w1.heap.size w1
      obtain ⟨ga_5, gb_5, ea, eb, ga1_5, gb1_5, hrd⟩ := P1.out.rd (by omega)
      first | (subst ea; subst eb) | (injection ea with ea; injection ea with ea; subst ea; injection eb with eb; injection eb with eb; subst eb)
      have x0_5 := P1.out.g.x.cell 0
      have x1_5 := P1.out.g.x.cell 1
      have xl_5 := P1.out.g.x.lt
      obtain ⟨z0_5, -, z1_5, z2_5⟩ := hrd z (by omega)
      rw [HDz.out] at z0_5
      obtain ⟨a0_5, -, a1_5, a2_5⟩ := hrd a (by omega)
      rw [HDa.out] at a0_5
      clear hrd
      go_wp2_with fail
      refine wp_region_up w1.heap.size (by kernel_rfl) (by kernel_rfl) ?_
      repeat (go_big_quiet_step ((fail)))
      refine wpQuiet_nil ?_
      intro w5 hup_w5
      have hb := up_of hup_w5
      have P5 := Lib.hid (P1.out.next hb)
      have F5 := Lib.hid (F1.out.trans (LvF.of_below hb))
      clear hb hup hup_w5 x0_5 x1_5 xl_5 ga1_5 gb1_5 z0_5 z1_5 z2_5 a0_5 a1_5 a2_5
      by_cases q2 : Dc ≤ Dd
      · have HE := Lib.hid (show rfRight t1 a (z : Int) = rfPair (rfPair t1 zc a).1 zd (rfPair t1 zc a).2 by unfold rfRight; rw [Hf.out, if_neg (by decide), HDz.out, HDa.out, if_neg (show ¬ Dz ≤ Da + 1 by omega), HC.out, HD.out, HDc.out, HDd.out, if_pos q2])
        have hup := upc w5.heap.size w5
        obtain ⟨ga_7, gb_7, ea, eb, ga1_7, gb1_7, hrd⟩ := P5.out.rd (by omega)
        first | (subst ea; subst eb) | (injection ea with ea; injection ea with ea; subst ea; injection eb with eb; injection eb with eb; subst eb)
        have x0_7 := P5.out.g.x.cell 0
        have x1_7 := P5.out.g.x.cell 1
        have xl_7 := P5.out.g.x.lt
        obtain ⟨z0_7, -, z1_7, z2_7⟩ := hrd z (by omega)
        rw [HD.out] at z1_7
        rw [HC.out] at z2_7
        obtain ⟨zc0_7, -, zc1_7, zc2_7⟩ := hrd zc (by omega)
        rw [HDc.out] at zc0_7
        obtain ⟨zd0_7, -, zd1_7, zd2_7⟩ := hrd zd (by omega)
        rw [HDd.out] at zd0_7
        clear hrd
        go_wp2_with fail
        refine wp_region_up w5.heap.size (by kernel_rfl) (by kernel_rfl) ?_
        repeat (go_big_quiet_step ((fail)))
        refine wpQuiet_nil ?_
        intro w7 hup_w7
        have hb := up_of hup_w7
        have P7 := Lib.hid (P5.out.next hb)
        have F7 := Lib.hid (F5.out.trans (LvF.of_below hb))
        clear hb hup hup_w7 x0_7 x1_7 xl_7 ga1_7 gb1_7 z0_7 z1_7 z2_7 zc0_7 zc1_7 zc2_7 zd0_7 zd1_7 zd2_7
        have O2 := Lib.hid (rfPair_do HI1.out (fun _ => IC.out) (fun _ => HA1.out))
        have C2 := Lib.hid (rfPair_any w0 X (zc : Int) (a : Int) t1 _ n1 c1 _ d1 w7 HI1.out (fun _ => IC.out) (fun _ => HA1.out) P7.out)
        generalize rfPair t1 (zc : Int) (a : Int) = u2 at *
        obtain ⟨t2, i2⟩ := u2
        have HI2 : Hid (RfI t2) := Lib.hid O2.out.i
        go_wp2_with fail
        refine C2.out.mono ?_
        rintro e w8 ⟨rfl, A2, n2, c2, B2, d2, p, f⟩
        have P2 : Hid (LsP w0 w8 X A2 n2 c2 B2 d2 t2) := Lib.hid p
        have F2 := Lib.hid (F7.out.trans f)
        have ln2 : n1 ≤ n2 := by have h1 := O2.out.grow; have h2 := P2.out.hr; have h3 := P7.out.hr; (try simp only at h1); omega
        clear p f C2
        have O3 := Lib.hid (rfPair_do HI2.out (fun _ => O2.out.idx ID.out) O2.out.ix)
        have C3 := Lib.hid (rfPair_any w0 X (zd : Int) i2 t2 _ n2 c2 _ d2 w8 HI2.out (fun _ => O2.out.idx ID.out) O2.out.ix P2.out)
        generalize rfPair t2 (zd : Int) i2 = u3 at *
        obtain ⟨t3, i3⟩ := u3
        have HI3 : Hid (RfI t3) := Lib.hid O3.out.i
        go_wp2_with fail
        refine C3.out.mono ?_
        rintro e w9 ⟨rfl, A3, n3, c3, B3, d3, p, f⟩
        have P3 : Hid (LsP w0 w9 X A3 n3 c3 B3 d3 t3) := Lib.hid p
        have F3 := Lib.hid (F2.out.trans f)
        have ln3 : n2 ≤ n3 := by have h1 := O3.out.grow; have h2 := P3.out.hr; have h3 := P2.out.hr; (try simp only at h1); omega
        clear p f C3
        go_wp2_with fail
        go_ret
        rw [HE.out]
        exact ⟨rfl, A3, n3, c3, B3, d3, P3.out, F3.out⟩
      · obtain ⟨_, ide, idf, lte, ltf, _⟩ := HI1.out.i.deep IC.out (by rw [HDc.out]; omega)
        obtain ⟨ca, hca⟩ : ∃ k : Nat, (lvR t1.1 zc).a = k := ⟨(lvR t1.1 zc).a.toNat, by have := ide.1; omega⟩
        obtain ⟨cb, hcb⟩ : ∃ k : Nat, (lvR t1.1 zc).b = k := ⟨(lvR t1.1 zc).b.toNat, by have := idf.1; omega⟩
        rw [hca] at ide lte
        rw [hcb] at idf ltf
        have HCA := Lib.hid hca
        have HCB := Lib.hid hcb
        have IE := Lib.hid ide
        have IF := Lib.hid idf
        clear hca hcb ide idf
        have HE := Lib.hid (show rfRight t1 a (z : Int) = rfPair (rfPair (rfPair t1 zd ca).1 cb a).1 (rfPair t1 zd ca).2 (rfPair (rfPair t1 zd ca).1 cb a).2 by unfold rfRight; rw [Hf.out, if_neg (by decide), HDz.out, HDa.out, if_neg (show ¬ Dz ≤ Da + 1 by omega), HC.out, HD.out, HDc.out, HDd.out, if_neg q2, HCA.out, HCB.out])
        have hup := upc w5.heap.size w5
        obtain ⟨ga_7, gb_7, ea, eb, ga1_7, gb1_7, hrd⟩ := P5.out.rd (by omega)
        first | (subst ea; subst eb) | (injection ea with ea; injection ea with ea; subst ea; injection eb with eb; injection eb with eb; subst eb)
        have x0_7 := P5.out.g.x.cell 0
        have x1_7 := P5.out.g.x.cell 1
        have xl_7 := P5.out.g.x.lt
        obtain ⟨z0_7, -, z1_7, z2_7⟩ := hrd z (by omega)
        rw [HD.out] at z1_7
        rw [HC.out] at z2_7
        obtain ⟨zc0_7, -, zc1_7, zc2_7⟩ := hrd zc (by omega)
        rw [HDc.out] at zc0_7
        obtain ⟨zd0_7, -, zd1_7, zd2_7⟩ := hrd zd (by omega)
        rw [HDd.out] at zd0_7
        clear hrd
        go_wp2_with fail
        refine wp_region_up w5.heap.size (by kernel_rfl) (by kernel_rfl) ?_
        repeat (go_big_quiet_step ((fail)))
        refine wpQuiet_nil ?_
        intro w7 hup_w7
        have hb := up_of hup_w7
        have P7 := Lib.hid (P5.out.next hb)
        have F7 := Lib.hid (F5.out.trans (LvF.of_below hb))
        clear hb hup hup_w7 x0_7 x1_7 xl_7 ga1_7 gb1_7 z0_7 z1_7 z2_7 zc0_7 zc1_7 zc2_7 zd0_7 zd1_7 zd2_7
        obtain ⟨ga_8, gb_8, ea, eb, ga1_8, gb1_8, hrd⟩ := P7.out.rd (by omega)
        first | (subst ea; subst eb) | (injection ea with ea; injection ea with ea; subst ea; injection eb with eb; injection eb with eb; subst eb)
        have x0_8 := P7.out.g.x.cell 0
        have x1_8 := P7.out.g.x.cell 1
        have xl_8 := P7.out.g.x.lt
        obtain ⟨zc0_8, -, zc1_8, zc2_8⟩ := hrd zc (by omega)
        rw [HCA.out] at zc1_8
        rw [HCB.out] at zc2_8
        clear hrd
        have O2 := Lib.hid (rfPair_do HI1.out (fun _ => ID.out) (fun _ => IE.out))
        have C2 := Lib.hid (rfPair_any w0 X (zd : Int) (ca : Int) t1 _ n1 c1 _ d1 w7 HI1.out (fun _ => ID.out) (fun _ => IE.out) P7.out)
        generalize rfPair t1 (zd : Int) (ca : Int) = u2 at *
        obtain ⟨t2, i2⟩ := u2
        have HI2 : Hid (RfI t2) := Lib.hid O2.out.i
        go_wp2_with fail
        refine C2.out.mono ?_
        rintro e w9 ⟨rfl, A2, n2, c2, B2, d2, p, f⟩
        have P2 : Hid (LsP w0 w9 X A2 n2 c2 B2 d2 t2) := Lib.hid p
        have F2 := Lib.hid (F7.out.trans f)
        have ln2 : n1 ≤ n2 := by have h1 := O2.out.grow; have h2 := P2.out.hr; have h3 := P7.out.hr; (try simp only at h1); omega
        clear p f C2
        clear x0_8 x1_8 xl_8 ga1_8 gb1_8 zc0_8 zc1_8 zc2_8
        have HCB2 : Hid ((lvR t2.1 (zc : Int)).b = cb) := Lib.hid (by rw [O2.out.r IC.out]; exact HCB.out)
        obtain ⟨ga_9, gb_9, ea, eb, ga1_9, gb1_9, hrd⟩ := P2.out.rd (by omega)
        first | (subst ea; subst eb) | (injection ea with ea; injection ea with ea; subst ea; injection eb with eb; injection eb with eb; subst eb)
        have x0_9 := P2.out.g.x.cell 0
        have x1_9 := P2.out.g.x.cell 1
        have xl_9 := P2.out.g.x.lt
        obtain ⟨zc0_9, -, zc1_9, zc2_9⟩ := hrd zc (by omega)
        rw [HCB2.out] at zc2_9
        clear hrd
        have O3 := Lib.hid (rfPair_do HI2.out (fun _ => O2.out.idx IF.out) (fun _ => O2.out.idx HA1.out))
        have C3 := Lib.hid (rfPair_any w0 X (cb : Int) (a : Int) t2 _ n2 c2 _ d2 w9 HI2.out (fun _ => O2.out.idx IF.out) (fun _ => O2.out.idx HA1.out) P2.out)
        generalize rfPair t2 (cb : Int) (a : Int) = u3 at *
        obtain ⟨t3, i3⟩ := u3
        have HI3 : Hid (RfI t3) := Lib.hid O3.out.i
        go_wp2_with fail
        refine C3.out.mono ?_
        rintro e w10 ⟨rfl, A3, n3, c3, B3, d3, p, f⟩
        have P3 : Hid (LsP w0 w10 X A3 n3 c3 B3 d3 t3) := Lib.hid p
        have F3 := Lib.hid (F2.out.trans f)
        have ln3 : n2 ≤ n3 := by have h1 := O3.out.grow; have h2 := P3.out.hr; have h3 := P2.out.hr; (try simp only at h1); omega
        clear p f C3
        clear x0_9 x1_9 xl_9 ga1_9 gb1_9 zc0_9 zc1_9 zc2_9
        have b1 : t3.2 = false → t2.2 = false := fun e => by
          cases q : t2.2 with
          | false => rfl
          | true => have h := O3.out.full q; (try simp only at h); rw [h] at e; cases e
        have O4 := Lib.hid (rfPair_do HI3.out (fun e => O3.out.idx (O2.out.ix (b1 e))) O3.out.ix)
        have C4 := Lib.hid (rfPair_any w0 X i2 i3 t3 _ n3 c3 _ d3 w10 HI3.out (fun e => O3.out.idx (O2.out.ix (b1 e))) O3.out.ix P3.out)
        generalize rfPair t3 i2 i3 = u4 at *
        obtain ⟨t4, i4⟩ := u4
        have HI4 : Hid (RfI t4) := Lib.hid O4.out.i
        go_wp2_with fail
        refine C4.out.mono ?_
        rintro e w11 ⟨rfl, A4, n4, c4, B4, d4, p, f⟩
        have P4 : Hid (LsP w0 w11 X A4 n4 c4 B4 d4 t4) := Lib.hid p
        have F4 := Lib.hid (F3.out.trans f)
        have ln4 : n3 ≤ n4 := by have h1 := O4.out.grow; have h2 := P4.out.hr; have h3 := P3.out.hr; (try simp only at h1); omega
        clear p f C4
        go_wp2_with fail
        go_ret
        rw [HE.out]
        exact ⟨rfl, A4, n4, c4, B4, d4, P4.out, F4.out⟩
set_option maxHeartbeats 8000000 in
set_option maxRecDepth 100000 in
theorem rfLevel_any (w0 : World) (X : Nat) : ∀ (f : Nat) (l r : Nat) (s : LvS) (A : Option Addr) (n c : Nat) (B : Option Addr) (d : Nat) (W : World), LvI s → s.rs.length ≤ 401 → Idx s l → Idx s r → l + r ≤ f → LsP w0 W X A n c B d (s, false) →
    Calls Try.prog 33 #[.pointer (some ⟨X, 0, none⟩), .int .i64 l, .int .i64 r] W (LsQ w0 W X (.slice A n c) (.slice B n d) (rfLevel f s l r)) := by
  intro f
  induction f using Nat.strongRecOn with
  | ind f ih =>
    intro l r s A n c B d W hi hl4 hl hr hf h
    have IH := Lib.hid ih; clear ih
    have HI := Lib.hid hi
    have P0 := Lib.hid h
    have HL := Lib.hid hl
    have HR := Lib.hid hr
    have hn4 : n ≤ 401 := by have := h.hr; simp only at this; omega
    have hln : l < n := by have := hl.2; have := h.hr; simp only at this; omega
    have hrn : r < n := by have := hr.2; have := h.hr; simp only at this; omega
    have dl := hi.lo l (by have := hl.2; omega)
    have dr := hi.lo r (by have := hr.2; omega)
    have HE := Lib.hid (rfLevel_eq (f := f) hi hl hr (by omega))
    have H4 := Lib.hid hl4
    have F0 := Lib.hid (LvF.of_below (X := X) (M := X) (v := .slice A n c) (u := .slice B n d) (Below.refl W.heap.size W))
    have x2 := h.g.x.cell 2
    have xl := h.g.x.lt
    obtain ⟨D1, hD1⟩ : ∃ D1, lvD s l = D1 := ⟨_, rfl⟩
    obtain ⟨D2, hD2⟩ : ∃ D2, lvD s r = D2 := ⟨_, rfl⟩
    have HE2 := HE.out
    rw [hD1, hD2] at HE2
    rw [hD1] at dl
    rw [hD2] at dr
    have HD1 := Lib.hid hD1
    have HD2 := Lib.hid hD2
    have l0 : (0 : Int) ≤ (l : Int) := by omega
    have r0 : (0 : Int) ≤ (r : Int) := by omega
    have u1 : IntKind.i64.wrap (D1 + 1) = D1 + 1 := IntWalk.i64_in _ (by omega)
    have u2 : IntKind.i64.wrap (D2 + 1) = D2 + 1 := IntWalk.i64_in _ (by omega)
    clear hi h hl hr hD1 hD2 HE hl4
    by_cases h1 : 1 < D1 - D2
    · rw [if_pos h1] at HE2
      obtain ⟨_, ida, idb, lta, ltb, _⟩ := HI.out.deep HL.out (by rw [HD1.out]; omega)
      obtain ⟨a, ha⟩ : ∃ a : Nat, (lvR s l).a = a := ⟨(lvR s l).a.toNat, by have := ida.1; omega⟩
      obtain ⟨b, hb⟩ : ∃ b : Nat, (lvR s l).b = b := ⟨(lvR s l).b.toNat, by have := idb.1; omega⟩
      rw [ha, hb] at HE2
      have HA := Lib.hid ha
      have HB := Lib.hid hb
      rw [ha] at ida lta
      rw [hb] at idb ltb
      have IDA := Lib.hid ida
      have IDB := Lib.hid idb
      have O1 := Lib.hid (rfLevel_do (f - 1) HI.out H4.out IDB.out HR.out (by omega)).1
      have LF := Lib.hid (fun W3 (h3 : LsP w0 W3 X A n c B d (s, false)) => rfLeft_any w0 X l r a b s _ A n c B d W3 HI.out H4.out HL.out HA.out HB.out IDA.out O1 (fun W4 h4 => IH.out (f - 1) (by omega) b r s A n c B d W4 HI.out H4.out IDB.out HR.out (by omega) h4) h3)
      have HE := Lib.hid HE2
      clear HE2 ha hb ida idb IH lta ltb O1
      have t1 : D2 + 1 < D1 := by omega
      rw [HE.out]
      go_enter Try.func33, Try.ntmps33
      have hup := upc W.heap.size W
      obtain ⟨ga_2, gb_2, ea, eb, ga1_2, gb1_2, hrd⟩ := P0.out.rd (by omega)
      first | (subst ea; subst eb) | (injection ea with ea; injection ea with ea; subst ea; injection eb with eb; injection eb with eb; subst eb)
      have x0_2 := P0.out.g.x.cell 0
      have x1_2 := P0.out.g.x.cell 1
      have xl_2 := P0.out.g.x.lt
      obtain ⟨l0_2, -, l1_2, l2_2⟩ := hrd l (by omega)
      rw [HD1.out] at l0_2
      obtain ⟨r0_2, -, r1_2, r2_2⟩ := hrd r (by omega)
      rw [HD2.out] at r0_2
      clear hrd
      go_wp2_with fail
      refine wp_region_up W.heap.size (by kernel_rfl) (by kernel_rfl) ?_
      repeat (go_big_quiet_step ((fail)))
      refine wpQuiet_nil ?_
      intro w2 hup_w2
      have hb := up_of hup_w2
      have P2 := Lib.hid (P0.out.next hb)
      have F2 := Lib.hid (F0.out.trans (LvF.of_below hb))
      clear hb hup hup_w2 x0_2 x1_2 xl_2 ga1_2 gb1_2 l0_2 l1_2 l2_2 r0_2 r1_2 r2_2
      generalize rfLeft _ _ _ = tt at *
      go_wp2_with fail
      refine (LF.out w2 P2.out).mono ?_
      rintro e w5 ⟨rfl, A5, n5, c5, B5, d5, p5, f5⟩
      have P5 := Lib.hid p5
      have F5 := Lib.hid (F2.out.trans f5)
      clear p5 f5
      go_wp2_with fail
      go_ret
      exact ⟨rfl, A5, n5, c5, B5, d5, P5.out, F5.out⟩
    · by_cases h2 : D1 - D2 < -1
      · rw [if_neg h1, if_pos h2] at HE2
        obtain ⟨_, ida, idb, lta, ltb, _⟩ := HI.out.deep HR.out (by rw [HD2.out]; omega)
        obtain ⟨ida, idb, lta, ltb⟩ : Idx s (lvR s r).b ∧ Idx s (lvR s r).a ∧ (lvR s r).b < (r : Int) ∧ (lvR s r).a < (r : Int) := ⟨idb, ida, ltb, lta⟩
        obtain ⟨a, ha⟩ : ∃ a : Nat, (lvR s r).b = a := ⟨(lvR s r).b.toNat, by have := ida.1; omega⟩
        obtain ⟨b, hb⟩ : ∃ b : Nat, (lvR s r).a = b := ⟨(lvR s r).a.toNat, by have := idb.1; omega⟩
        rw [ha, hb] at HE2
        have HA := Lib.hid ha
        have HB := Lib.hid hb
        rw [ha] at ida lta
        rw [hb] at idb ltb
        have IDA := Lib.hid ida
        have IDB := Lib.hid idb
        have O1 := Lib.hid (rfLevel_do (f - 1) HI.out H4.out HL.out IDB.out (by omega)).1
        have LF := Lib.hid (fun W3 (h3 : LsP w0 W3 X A n c B d (s, false)) => rfRight_any w0 X l r a b s _ A n c B d W3 HI.out H4.out HR.out HA.out HB.out IDA.out O1 (fun W4 h4 => IH.out (f - 1) (by omega) l b s A n c B d W4 HI.out H4.out HL.out IDB.out (by omega) h4) h3)
        have HE := Lib.hid HE2
        clear HE2 ha hb ida idb IH lta ltb O1
        have t1 : ¬ D2 + 1 < D1 := by omega
        have t2 : D1 + 1 < D2 := by omega
        rw [HE.out]
        go_enter Try.func33, Try.ntmps33
        have hup := upc W.heap.size W
        obtain ⟨ga_2, gb_2, ea, eb, ga1_2, gb1_2, hrd⟩ := P0.out.rd (by omega)
        first | (subst ea; subst eb) | (injection ea with ea; injection ea with ea; subst ea; injection eb with eb; injection eb with eb; subst eb)
        have x0_2 := P0.out.g.x.cell 0
        have x1_2 := P0.out.g.x.cell 1
        have xl_2 := P0.out.g.x.lt
        obtain ⟨l0_2, -, l1_2, l2_2⟩ := hrd l (by omega)
        rw [HD1.out] at l0_2
        obtain ⟨r0_2, -, r1_2, r2_2⟩ := hrd r (by omega)
        rw [HD2.out] at r0_2
        clear hrd
        go_wp2_with fail
        refine wp_region_up W.heap.size (by kernel_rfl) (by kernel_rfl) ?_
        repeat (go_big_quiet_step ((fail)))
        refine wpQuiet_nil ?_
        intro w2 hup_w2
        have hb := up_of hup_w2
        have P2 := Lib.hid (P0.out.next hb)
        have F2 := Lib.hid (F0.out.trans (LvF.of_below hb))
        clear hb hup hup_w2 x0_2 x1_2 xl_2 ga1_2 gb1_2 l0_2 l1_2 l2_2 r0_2 r1_2 r2_2
        have hup := upc w2.heap.size w2
        obtain ⟨ga_3, gb_3, ea, eb, ga1_3, gb1_3, hrd⟩ := P2.out.rd (by omega)
        first | (subst ea; subst eb) | (injection ea with ea; injection ea with ea; subst ea; injection eb with eb; injection eb with eb; subst eb)
        have x0_3 := P2.out.g.x.cell 0
        have x1_3 := P2.out.g.x.cell 1
        have xl_3 := P2.out.g.x.lt
        obtain ⟨l0_3, -, l1_3, l2_3⟩ := hrd l (by omega)
        rw [HD1.out] at l0_3
        obtain ⟨r0_3, -, r1_3, r2_3⟩ := hrd r (by omega)
        rw [HD2.out] at r0_3
        clear hrd
        go_wp2_with fail
        refine wp_region_up w2.heap.size (by kernel_rfl) (by kernel_rfl) ?_
        repeat (go_big_quiet_step ((fail)))
        refine wpQuiet_nil ?_
        intro w3 hup_w3
        have hb := up_of hup_w3
        have P3 := Lib.hid (P2.out.next hb)
        have F3 := Lib.hid (F2.out.trans (LvF.of_below hb))
        clear hb hup hup_w3 x0_3 x1_3 xl_3 ga1_3 gb1_3 l0_3 l1_3 l2_3 r0_3 r1_3 r2_3
        generalize rfRight _ _ _ = tt at *
        go_wp2_with fail
        refine (LF.out w3 P3.out).mono ?_
        rintro e w5 ⟨rfl, A5, n5, c5, B5, d5, p5, f5⟩
        have P5 := Lib.hid p5
        have F5 := Lib.hid (F3.out.trans f5)
        clear p5 f5
        go_wp2_with fail
        go_ret
        exact ⟨rfl, A5, n5, c5, B5, d5, P5.out, F5.out⟩
      · rw [if_neg h1, if_neg h2] at HE2
        have HE := Lib.hid HE2
        clear HE2 IH
        have t1 : ¬ D2 + 1 < D1 := by omega
        have t2 : ¬ D1 + 1 < D2 := by omega
        rw [HE.out]
        have HI1 : Hid (RfI (s, false)) := Lib.hid ⟨HI.out, H4.out, fun e => (by cases e)⟩
        have C := Lib.hid (fun W3 (h3 : LsP w0 W3 X A n c B d (s, false)) => rfPair_any w0 X l r (s, false) A n c B d W3 HI1.out (fun _ => HL.out) (fun _ => HR.out) h3)
        generalize rfPair (s, false) (l : Int) (r : Int) = tt at *
        go_enter Try.func33, Try.ntmps33
        have hup := upc W.heap.size W
        obtain ⟨ga_2, gb_2, ea, eb, ga1_2, gb1_2, hrd⟩ := P0.out.rd (by omega)
        first | (subst ea; subst eb) | (injection ea with ea; injection ea with ea; subst ea; injection eb with eb; injection eb with eb; subst eb)
        have x0_2 := P0.out.g.x.cell 0
        have x1_2 := P0.out.g.x.cell 1
        have xl_2 := P0.out.g.x.lt
        obtain ⟨l0_2, -, l1_2, l2_2⟩ := hrd l (by omega)
        rw [HD1.out] at l0_2
        obtain ⟨r0_2, -, r1_2, r2_2⟩ := hrd r (by omega)
        rw [HD2.out] at r0_2
        clear hrd
        go_wp2_with fail
        refine wp_region_up W.heap.size (by kernel_rfl) (by kernel_rfl) ?_
        repeat (go_big_quiet_step ((fail)))
        refine wpQuiet_nil ?_
        intro w2 hup_w2
        have hb := up_of hup_w2
        have P2 := Lib.hid (P0.out.next hb)
        have F2 := Lib.hid (F0.out.trans (LvF.of_below hb))
        clear hb hup hup_w2 x0_2 x1_2 xl_2 ga1_2 gb1_2 l0_2 l1_2 l2_2 r0_2 r1_2 r2_2
        have hup := upc w2.heap.size w2
        obtain ⟨ga_3, gb_3, ea, eb, ga1_3, gb1_3, hrd⟩ := P2.out.rd (by omega)
        first | (subst ea; subst eb) | (injection ea with ea; injection ea with ea; subst ea; injection eb with eb; injection eb with eb; subst eb)
        have x0_3 := P2.out.g.x.cell 0
        have x1_3 := P2.out.g.x.cell 1
        have xl_3 := P2.out.g.x.lt
        obtain ⟨l0_3, -, l1_3, l2_3⟩ := hrd l (by omega)
        rw [HD1.out] at l0_3
        obtain ⟨r0_3, -, r1_3, r2_3⟩ := hrd r (by omega)
        rw [HD2.out] at r0_3
        clear hrd
        go_wp2_with fail
        refine wp_region_up w2.heap.size (by kernel_rfl) (by kernel_rfl) ?_
        repeat (go_big_quiet_step ((fail)))
        refine wpQuiet_nil ?_
        intro w3 hup_w3
        have hb := up_of hup_w3
        have P3 := Lib.hid (P2.out.next hb)
        have F3 := Lib.hid (F2.out.trans (LvF.of_below hb))
        clear hb hup hup_w3 x0_3 x1_3 xl_3 ga1_3 gb1_3 l0_3 l1_3 l2_3 r0_3 r1_3 r2_3
        go_wp2_with fail
        refine (C.out w3 P3.out).mono ?_
        rintro e w5 ⟨rfl, A5, n5, c5, B5, d5, p5, f5⟩
        have P5 := Lib.hid p5
        have F5 := Lib.hid (F3.out.trans f5)
        clear p5 f5
        go_wp2_with fail
        go_ret
        exact ⟨rfl, A5, n5, c5, B5, d5, P5.out, F5.out⟩
end Go.Proofs.Ytajfjgemfnfakaa


/-
  LevelGrammar in the reference.
-/
namespace Go.Proofs.Ytajfjgemfnfakaa
open Go.RowKit

/-- what holds after some rules, in the reference -/
structure LrJ (rs : List Fac) (k : Nat) (t : LvS × Bool) (pl : List Int) : Prop where
  i : RfI t
  ln : pl.length = k
  ix : t.2 = false → ∀ (j : Nat) (p : Int), pl[j]? = some p → Idx t.1 p
  st : (t.2 = false ∧ t.1.rs.length ≤ 400 ∧ LvJ rs k (t.1, pl)) ∨ (lvAll rs = none ∧ (t.2 = true ∨ 400 < t.1.rs.length))
def rfOne (s : LvS) (pl : List Int) (r : Fac) : (LvS × Bool) × Int :=
  if r.l.size = 0 then rfLevel 800 s (pl.getD r.a.toNat 0) (pl.getD r.b.toNat 0) else rfMake (s, false) r
theorem LrJ.first (rs : List Fac) : LrJ rs 0 (lv0.1, false) [] :=
  ⟨⟨(LvJ.first rs).i, by simp [lv0], fun e => by cases e⟩, rfl, fun _ j p h => by simp at h, .inl ⟨rfl, by simp [lv0], LvJ.first rs⟩⟩
theorem LrJ.at_ {rs : List Fac} {k : Nat} {t : LvS × Bool} {pl : List Int} (h : LrJ rs k t pl) (hf : t.2 = false) {j : Int} (h0 : 0 ≤ j) (h1 : j < k) : Idx t.1 (pl.getD j.toNat 0) := by
  have hj : j.toNat < pl.length := by rw [h.ln]; omega
  rw [List.getD_eq_getElem?_getD, List.getElem?_eq_getElem hj]
  exact h.ix hf j.toNat _ (List.getElem?_eq_getElem hj)
theorem LrJ.do_ {rs : List Fac} {k : Nat} {t : LvS × Bool} {pl : List Int} {r : Fac} (h : LrJ rs k t pl) (hf : t.2 = false) (hwf : WF rs) (hr : rs[k]? = some r) :
    RfO t (rfOne t.1 pl r).1 (rfOne t.1 pl r).2 ∧ ∃ m g, lvOne (t.1, pl) r = (m.1, pl ++ [m.2]) ∧ LvO t.1 m g ∧ Rel m (rfOne t.1 pl r) := by
  obtain ⟨s, f⟩ := t
  simp only at hf; subst hf
  have hl := h.i.len
  unfold rfOne lvOne
  rcases hwf k r hr with ⟨h0, ha0, ha1, hb0, hb1⟩ | ⟨c, hc, hl2, ha, hb⟩
  · rw [if_pos h0, if_pos h0]
    have ia := h.at_ rfl ha0 (by omega)
    have ib := h.at_ rfl hb0 (by omega)
    have hf : pl.getD r.a.toNat 0 + pl.getD r.b.toNat 0 ≤ (800 : Nat) := by have := ia.2; have := ib.2; simp only at *; omega
    obtain ⟨o, q⟩ := rfLevel_do 800 h.i.i hl ia ib hf
    exact ⟨o, lvLevel 800 s (pl.getD r.a.toNat 0) (pl.getD r.b.toNat 0), _, rfl, lvLevel_do 800 h.i.i ia ib hf, q⟩
  · have hz : ¬ r.l.size = 0 := by rw [hl2]; show ¬ (1 : Nat) = 0; omega
    rw [if_neg hz, if_neg hz]
    have ok : RuleOk s r := .inr ⟨c, hc, hl2, ha, hb⟩
    exact ⟨rfMake_do h.i (fun _ => ok), lvRule s r, _, rfl, lvRule_do h.i.i ok, Rel.make hl r⟩
theorem LrJ.one {rs : List Fac} {k : Nat} {t : LvS × Bool} {pl : List Int} {r : Fac} (h : LrJ rs k t pl) (hf : t.2 = false) (hwf : WF rs) (hr : rs[k]? = some r) : LrJ rs (k + 1) (rfOne t.1 pl r).1 (pl ++ [(rfOne t.1 pl r).2]) := by
  obtain ⟨o, m, g, he, hm, q⟩ := h.do_ hf hwf hr
  generalize rfOne t.1 pl r = u at *
  refine ⟨o.i, by simp [h.ln], fun e j p hp => ?_, ?_⟩
  · by_cases hj : j < pl.length
    · rw [List.getElem?_append_left hj] at hp; exact o.idx (h.ix hf j p hp)
    · rw [List.getElem?_append_right (by omega)] at hp
      have : j - pl.length = 0 := by have := (List.getElem?_eq_some_iff.1 hp).1; simp at this; omega
      rw [this] at hp; simp at hp; subst hp
      exact o.ix e
  · rcases h.st with ⟨_, h4, J⟩ | ⟨hn, h4⟩
    · have hlen : (lvOne (t.1, pl) r).1.rs.length = m.1.rs.length := by rw [he]
      rcases q with ⟨e, hl⟩ | ⟨e, hl⟩
      · by_cases hm4 : m.1.rs.length ≤ 400
        · have J2 := J.one hr (by rw [hlen]; exact hm4) he hm
          rw [he] at J2
          rw [e]
          exact .inl ⟨rfl, hm4, J2⟩
        · rw [e]
          exact .inr ⟨J.full hr (by rw [hlen]; omega), .inr (by simp only; omega)⟩
      · exact .inr ⟨J.full hr (by rw [hlen]; omega), .inl e⟩
    · refine .inr ⟨hn, .inr ?_⟩
      rcases h4 with h4 | h4
      · rw [hf] at h4; cases h4
      · have := o.grow; omega
theorem LrJ.end_ {rs : List Fac} {k : Nat} {t : LvS × Bool} {pl : List Int} (h : LrJ rs k t pl) (hk : rs.length ≤ k) (hf : t.2 = false) (h4 : t.1.rs.length ≤ 400) : lvAll rs = some (t.1, pl) := by
  rcases h.st with ⟨_, _, J⟩ | ⟨_, q | q⟩
  · exact J.all hk
  · rw [hf] at q; cases q
  · omega
theorem LrJ.none_ {rs : List Fac} {k : Nat} {t : LvS × Bool} {pl : List Int} (h : LrJ rs k t pl) (hf : t.2 = true ∨ 400 < t.1.rs.length) : lvAll rs = none := by
  rcases h.st with ⟨h1, h2, _⟩ | ⟨q, _⟩
  · rcases hf with e | e
    · rw [e] at h1; cases h1
    · omega
  · exact q
/-- 'LevelGrammar' under way -/
structure LsW (w W : World) (X : Nat) (A0 : Option Addr) (n0 c0 : Nat) (A : Option Addr) (n c : Nat) (B : Option Addr) (d : Nat) (t : LvS × Bool) (V : Option Addr) (k cv : Nat) (pl : List Int) : Prop where
  p : LsP w W X A n c B d t
  v : W.ownsRow w.heap.size 2 1 (.slice V k cv) k (pl.flatMap intE)
  q : Blk W w.heap.size 26 #[.slice A0 n0 c0]
  o : Blk W (w.heap.size + 1) 26 #[.slice none 0 0]
  ne : ∀ y, (Value.slice V k cv).ownBlock = some y → some y ≠ (Value.slice B n d).ownBlock
  hX : w.heap.size + 1 < X
section
variable {w W W' : World} {X : Nat} {A0 : Option Addr} {n0 c0 : Nat} {A : Option Addr} {n c : Nat} {B : Option Addr} {d : Nat} {t : LvS × Bool} {V : Option Addr} {k cv : Nat} {pl : List Int}
theorem LsW.next (h : LsW w W X A0 n0 c0 A n c B d t V k cv pl) (hb : Below W.heap.size W W') : LsW w W' X A0 n0 c0 A n c B d t V k cv pl := ⟨h.p.next hb, own_next h.v hb, h.q.next hb, h.o.next hb, h.ne, h.hX⟩
theorem LsW.alloc (h : LsW w W X A0 n0 c0 A n c B d t V k cv pl) (o : Obj) : LsW w (W.alloc o) X A0 n0 c0 A n c B d t V k cv pl := h.next ((Below.refl _ _).alloc (Nat.le_refl _) _)
theorem LsW.call {A' : Option Addr} {n' c' : Nat} {B' : Option Addr} {d' : Nat} {t' : LvS × Bool} (h : LsW w W X A0 n0 c0 A n c B d t V k cv pl) (hp : LsP w W' X A' n' c' B' d' t') (hf : LvF W W' X X (.slice A n c) (.slice A' n' c') (.slice B n d) (.slice B' n' d')) :
    LsW w W' X A0 n0 c0 A' n' c' B' d' t' V k cv pl := by
  refine ⟨hp, own_keep h.v fun y hy => ?_, hf.blk h.q (by have := h.hX; omega) (by have := h.hX; omega) (own_blk_ne h.p.g.q h.q (by decide)) (own_blk_ne h.p.g.k h.q (by decide)),
    hf.blk h.o (by have := h.hX; omega) (by have := h.hX; omega) (own_blk_ne h.p.g.q h.o (by decide)) (own_blk_ne h.p.g.k h.o (by decide)), fun y hy => ?_, h.hX⟩
  · have hx : y ≠ X := by intro e; subst e; exact own_blk_ne h.v h.p.g.x h.p.g.t2 hy.symm
    refine hf.kept y (h.v.lt y hy).2 hx hx ?_ (h.ne y hy)
    · intro e
      rcases own_ne h.v h.p.g.q (by decide) with q | q
      · rw [hy] at q; cases q
      · exact q (hy.trans e)
  · rcases hf.row' with q | q
    · rw [q]; exact h.ne y hy
    · intro e; have := q y e.symm; have := (h.v.lt y hy).2; omega
theorem LsW.push {V8 : Option Addr} {k8 c8 : Nat} {pl' : List Int} (h : LsW w W X A0 n0 c0 A n c B d t V k cv pl) (hq : W'.ownsRow w.heap.size 2 1 (.slice V8 k8 c8) k8 (pl'.flatMap intE)) (hg : W.grownBy W' (Value.slice V k cv).ownBlock)
    (hat : (Value.slice V8 k8 c8).ownBlock = (Value.slice V k cv).ownBlock ∨ (Value.slice V8 k8 c8).ownBlock = some W.heap.size) : LsW w W' X A0 n0 c0 A n c B d t V8 k8 c8 pl' := by
  have hk : (Value.slice B n d).ownBlock = none ∨ (Value.slice B n d).ownBlock ≠ (Value.slice V k cv).ownBlock := by
    cases hy : (Value.slice V k cv).ownBlock with
    | none =>
      cases hz : (Value.slice B n d).ownBlock with
      | none => exact .inl rfl
      | some z => exact .inr (by simp)
    | some y => exact .inr fun e => h.ne y hy (e.symm)
  refine ⟨⟨⟨h.p.g.q.kept hg (own_ne h.p.g.q h.v (by decide)), h.p.g.k.kept hg hk, h.p.g.x.grown hg (own_blk_ne h.v h.p.g.x h.p.g.t2), h.p.g.e.grown hg h.p.g.e.size (own_ge h.v), h.p.g.hx, h.p.g.t1, h.p.g.t2⟩, h.p.hr, h.p.hd⟩, hq,
    h.q.grown hg (own_blk_ne h.v h.q (by decide)), h.o.grown hg (own_blk_ne h.v h.o (by decide)), fun y hy e => ?_, h.hX⟩
  rcases hat with q | q
  · rw [q] at hy; exact h.ne y hy e
  · rw [q] at hy; injection hy with hy; have := (h.p.g.k.lt y e.symm).2; omega
end
set_option maxHeartbeats 8000000 in
set_option maxRecDepth 100000 in
theorem specLev_any (A : Option Addr) (n c : Nat) (rs : List Fac) (w : World) (hn : n ≤ 1048576) (hr : Rd w w.heap.size A n 3 Fac.cells rs) (hok : ∀ f ∈ rs, f.l.size ≤ maxLen) :
    Calls Try.prog 10 #[.agg #[.slice A n c]] w (RetGC w (levF rs) (levC rs)) := by
  have hB0 := Lib.hid (Blk.new w 26 #[.slice A n c])
  have HR := Lib.hid hr; clear hr
  have HO := Lib.hid hok; clear hok
  have HT := Lib.hid (show levF rs = (if (gOk rs).isSome then lvT rs else []) from rfl); have HC := Lib.hid (show levC rs = (if (gOk rs).isSome then lvE rs else 1) from rfl)
  generalize levF rs = T at *
  generalize levC rs = C at *
  go_enter Try.func10, Try.ntmps10
  go_wp2_with fail
  refine namedC fun w3 H3 => ?_
  have hb3 : Below w.heap.size w w3 := by rw [H3.out]; (repeat first | exact Below.refl _ _ | assumption | refine Below.drew ?_ | refine Below.alloc ?_ (by first | exact Nat.le_refl _ | (simp; done) | omega | (simp; omega)) _ | refine Below.setCell ?_ (by first | exact Nat.le_refl _ | (simp; done) | omega | (simp; omega)) _)
  have BG := Lib.hid (show Blk w3 w.heap.size 26 #[.slice A n c] by rw [H3.out]; exact hB0.out.alloc _)
  have BC := Lib.hid (show Blk w3 (w.heap.size + 1) 26 #[.slice none 0 0] by rw [H3.out]; simpa using Blk.new (w.alloc (.cells #[.slice A n c] 26)) 26 #[.slice none 0 0])
  clear H3
  rcases hg : (gOk rs).isSome with _ | _
  · have Hg := Lib.hid hg
    have eT := HT.out; have eC := HC.out
    rw [hg] at eT eC
    obtain rfl : T = [] := eT
    obtain rfl : C = 1 := eC
    clear hg HT HC
    refine (l02Ok_any w.heap.size A n c rs w3 BG.out.lt (BG.out.cell 0) (by omega) (HR.out.next hb3) HO.out false Hg.out).mono ?_
    rintro e1 w4 ⟨rfl, hb4⟩
    have b4 := hb3.trans (hb4.mono hb3.size)
    have BC4 := BC.out.next hb4
    have d4 := BC4.cell 0
    have f4 := BC4.frozen
    have l4 := BC4.lt
    have B5 := BC4.set_ 0 (.slice none 0 0)
    have x5 : (w4.setCell ⟨w.heap.size + 1, 0, none⟩ (.slice none 0 0)).cell? ⟨w.heap.size + 1, 0, none⟩ = some (.slice none 0 0) := by rw [B5.cell 0]; rfl
    have b5 := b4.setCell (p := ⟨w.heap.size + 1, 0, none⟩) (by simp) (.slice none 0 0)
    clear B5 BC4
    go_wp2_with fail
    refine bodyPost_ret (v := .tuple #[.agg #[.slice none 0 0], .int .i64 1]) (by simp [results, Try.results10, go_sem, x5]) rfl ⟨none, 0, rfl, World.ownsRow_nil _ _ _ _, b5⟩
  · have Hg := Lib.hid hg
    have eT := HT.out; have eC := HC.out
    rw [hg] at eT eC
    obtain rfl : T = lvT rs := eT
    obtain rfl : C = lvE rs := eC
    clear hg HT HC
    obtain ⟨ls, hls⟩ := Option.isSome_iff_exists.1 Hg.out
    have hwf := Lib.hid (wf_of (gOk_lens hls).1)
    have hn4 : n ≤ 400 := by have := (gOk_lens hls).2.1; have := HR.out.len; omega
    clear hls
    refine (l02Ok_any w.heap.size A n c rs w3 BG.out.lt (BG.out.cell 0) (by omega) (HR.out.next hb3) HO.out true Hg.out).mono ?_
    rintro e1 w4 ⟨rfl, hb4⟩
    have b4 := hb3.trans (hb4.mono hb3.size)
    have BC4 := Lib.hid (BC.out.next hb4)
    have BG4 := Lib.hid (BG.out.next hb4)
    have g4 := BG4.out.cell 0
    have k4 := BG4.out.lt
    by_cases hn0 : n = 0
    · have hz : rs = [] := List.eq_nil_of_length_eq_zero (by rw [HR.out.len]; exact hn0)
      have eT := Lib.hid (show lvT rs = [] by rw [hz]; rfl)
      have eC := Lib.hid (show lvE rs = 0 by rw [hz]; rfl)
      have nz : (n : Int) = 0 := by omega
      have d4 := BC4.out.cell 0
      have f4 := BC4.out.frozen
      have l4 := BC4.out.lt
      have B5 := BC4.out.set_ 0 (.slice none 0 0)
      have x5 : (w4.setCell ⟨w.heap.size + 1, 0, none⟩ (.slice none 0 0)).cell? ⟨w.heap.size + 1, 0, none⟩ = some (.slice none 0 0) := by rw [B5.cell 0]; rfl
      have b5 := b4.setCell (p := ⟨w.heap.size + 1, 0, none⟩) (by simp) (.slice none 0 0)
      clear B5 hz
      go_wp2_with fail
      refine bodyPost_ret (v := .tuple #[.agg #[.slice none 0 0], .int .i64 0]) (by simp [results, Try.results10, go_sem, x5]) rfl ?_
      rw [eT.out, eC.out]
      exact ⟨none, 0, rfl, World.ownsRow_nil _ _ _ _, b5⟩
    · have nz : ¬ (n : Int) = 0 := by omega
      have nzb : ((n : Int) == 0) = false := by simpa using nz
      go_wp2_with fail
      refine named fun w5 H5 => ?_
      have P5 := Lib.hid (show LsW w w5 w4.heap.size A n c none 0 0 none 0 (lv0.1, false) (some ⟨w4.heap.size + 1, 0, none⟩) 0 0 [] by
        rw [H5.out]
        refine ⟨⟨⟨World.ownsRow_nil _ _ _ _, World.ownsRow_nil _ _ _ _, ?_, b4.trans (Below.mono (by (repeat first | exact Below.refl _ _ | assumption | refine Below.drew ?_ | refine Below.alloc ?_ (by first | exact Nat.le_refl _ | (simp; done) | omega | (simp; omega)) _ | refine Below.setCell ?_ (by first | exact Nat.le_refl _ | (simp; done) | omega | (simp; omega)) _)) b4.size), b4.size, by decide, by decide⟩, rfl, rfl⟩, ?_, ?_, ?_, fun y hy => by simp [Value.ownBlock], ?_⟩
        · have h := (Blk.new w4 67 #[.slice none 0 0, .slice none 0 0, .bool false]).alloc (.cells #[] 2)
          simpa using h
        · have h := World.ownsRow_made (base := w.heap.size) (e := 2) (size := 1) (w4.alloc (.cells #[.slice none 0 0, .slice none 0 0, .bool false] 67)) #[] 0 (by have := b4.size; simp; omega) (by unfold maxLen; omega) rfl
          simpa [lv0] using h
        · exact (BG4.out.alloc _).alloc _
        · exact (BC4.out.alloc _).alloc _
        · have := BC4.out.lt; omega)
      clear H5 hb3 hb4 b4 BG BC BC4 BG4 g4 k4 hB0
      generalize hX : w4.heap.size = X at *
      have HX := Lib.hid hX
      clear hX
      go_loopw [5, 6] (fun v_ i_ w' => ∃ (k : Nat) (V : Option Addr) (cv : Nat) (A1 : Option Addr) (n1 c1 : Nat) (B1 : Option Addr) (d1 : Nat) (s0 : LvS × Bool) (pl : List Int), v_ = .slice V k cv ∧ i_ = .int .i64 k ∧ k ≤ n ∧ Hid (LsW w w' X A n c A1 n1 c1 B1 d1 s0 V k cv pl) ∧ Hid (LrJ rs k s0 pl)) (fun _ i_ _ => n - (intOf i_).toNat)
      case atStart => exact ⟨0, _, 0, none, 0, 0, none, 0, _, [], rfl, rfl, by omega, P5, Lib.hid (LrJ.first rs)⟩
      case round =>
        obtain ⟨k, V, cv, A1, n1, c1, B1, d1, s0, pl, rfl, rfl, hk, P1, J⟩ := hrel
        clear P5
        have hn1 : n1 ≤ 401 := by have h1 := J.out.i.len; rw [P1.out.p.hr] at h1; exact h1
        have hnl := Lib.hid HR.out.len
        have g0 := P1.out.q.cell 0
        have gl := P1.out.q.lt
        have x2 := P1.out.p.g.x.cell 2
        have xl := P1.out.p.g.x.lt
        by_cases hgo : k < n ∧ s0.2 = false
        · obtain ⟨hlt, hf⟩ := hgo
          obtain ⟨s, f0⟩ := s0
          simp only at hf
          subst hf
          obtain ⟨b0, o0, x, rfl, hB, gx, e0, e1, e2⟩ := (HR.out.below P1.out.p.g.e).fac hlt
          have hBr : b0 < wr.heap.size := by have := P1.out.p.g.e.size; omega
          have Gx := Lib.hid gx
          have i0 : (0 : Int) ≤ (k : Int) := by omega
          have i1 : (k : Int) < (n : Int) := by omega
          clear gx
          have kmx : k + 1 ≤ maxLen := by unfold maxLen; omega
          have zk8 : (k + 1) * 8 ≤ 140737488355328 := by omega
          rcases hwf.out k x Gx.out with ⟨h0, ha0, ha1, hb0, hb1⟩ | ⟨cc, hcc, hxl, hxa, hxb⟩
          · have e0' := size0 h0
            go_wp2_with fail
            refine named fun w1 H1 => ?_
            have hb1 : Below wr.heap.size wr w1 := by rw [H1.out]; (repeat first | exact Below.refl _ _ | assumption | refine Below.drew ?_ | refine Below.alloc ?_ (by first | exact Nat.le_refl _ | (simp; done) | omega | (simp; omega)) _ | refine Below.setCell ?_ (by first | exact Nat.le_refl _ | (simp; done) | omega | (simp; omega)) _)
            have BX2 := Lib.hid (show Blk w1 wr.heap.size 59 #[.string x.l, .int .i64 x.a, .int .i64 x.b] by
              rw [H1.out]
              exact Blk.new _ _ _)
            have P2 := Lib.hid (P1.out.next hb1)
            have zb' : wr.heap.size < w1.heap.size := BX2.out.lt
            clear hb1 H1 P1 e0 e1 e2 g0 gl x2 xl
            have ia := J.out.at_ rfl ha0 ha1
            have ib := J.out.at_ rfl hb0 hb1
            have He := Lib.hid (show rfOne s pl x = rfLevel 800 s (pl.getD x.a.toNat 0) (pl.getD x.b.toNat 0) by unfold rfOne; rw [if_pos h0])
            obtain ⟨gv, cpv, hvv, hgv0, hgv1⟩ := P2.out.v.form (by omega)
            obtain rfl : V = some ⟨gv, 0, none⟩ := by injection hvv
            have va := own_at (sz := 1) (enc := intE) (fun _ _ => rfl) P2.out.v J.out.ln 0 x.a.toNat (by omega) 0 (by omega)
            have vb := own_at (sz := 1) (enc := intE) (fun _ _ => rfl) P2.out.v J.out.ln 0 x.b.toNat (by omega) 0 (by omega)
            rw [Nat.mul_one, Nat.add_zero] at va vb
            obtain ⟨a, hae⟩ : ∃ a : Nat, x.a = a := ⟨x.a.toNat, by omega⟩
            obtain ⟨b, hbe⟩ : ∃ b : Nat, x.b = b := ⟨x.b.toNat, by omega⟩
            rw [hae] at va ia He ha1
            rw [hbe] at vb ib He hb1
            rw [Int.toNat_natCast] at va ia vb ib
            rw [Int.toNat_natCast, Int.toNat_natCast] at He
            obtain ⟨l, hle⟩ : ∃ l : Nat, pl.getD a 0 = l := ⟨(pl.getD a 0).toNat, by have := ia.1; omega⟩
            obtain ⟨r, hre⟩ : ∃ r : Nat, pl.getD b 0 = r := ⟨(pl.getD b 0).toNat, by have := ib.1; omega⟩
            rw [hle] at ia He
            rw [hre] at ib He
            have va' : w1.cell? ⟨gv, a, none⟩ = some (.int .i64 (l : Int)) := by rw [← hle]; exact va
            have vb' : w1.cell? ⟨gv, b, none⟩ = some (.int .i64 (r : Int)) := by rw [← hre]; exact vb
            have hl4 := J.out.i.len
            have hlr : (l : Nat) + r ≤ 800 := by have := ia.2; have := ib.2; simp only at *; omega
            have CALL := Lib.hid (fun W4 (h4 : LsP w W4 X A1 n1 c1 B1 d1 (s, false)) => rfLevel_any w X 800 l r s A1 n1 c1 B1 d1 W4 J.out.i.i hl4 ia ib hlr h4)
            generalize rfLevel 800 s (l : Int) (r : Int) = t at *
            have Hae := Lib.hid hae; have Hbe := Lib.hid hbe
            have d0 := BX2.out.cell 0
            have d1_ : w1.cell? ⟨wr.heap.size, 1, none⟩ = some (.int .i64 (a : Int)) := by rw [← hae]; exact BX2.out.cell 1
            have d2_ : w1.cell? ⟨wr.heap.size, 2, none⟩ = some (.int .i64 (b : Int)) := by rw [← hbe]; exact BX2.out.cell 2
            have a0 : (0 : Int) ≤ (a : Int) := by omega
            have b0' : (0 : Int) ≤ (b : Int) := by omega
            have a1 : (a : Int) < (k : Int) := ha1
            have b1' : (b : Int) < (k : Int) := hb1
            clear hvv va vb hae hbe hle hre ia ib h0 ha0 hb0 ha1 hb1 hl4 hlr e0'
            refine wp_region_N (fun _ => True) [] (by kernel_rfl) ?_
            refine wpAnyN_take (i := 0) (v := ?_) rfl (by kernel_rfl) (fun _ _ _ h => h) (by rfl) (fun W hW => ?_) trivial ?_
            rotate_left
            · go_simp
              try with_reducible rfl
            try simp only [List.getElem_toArray, List.getElem_cons_zero, List.getElem_cons_succ, Act.put, List.setIfInBounds_toArray, List.set_cons_zero, List.set_cons_succ]
            refine wpAnyN_T _ (wpAny_of_N (S := fun W' => W'.cell? ⟨gv, a, none⟩ = some (.int .i64 (l : Int)) ∧ W'.cell? ⟨gv, b, none⟩ = some (.int .i64 (r : Int)) ∧ W'.cell? ⟨wr.heap.size, 0, none⟩ = some (.string x.l) ∧ W'.cell? ⟨wr.heap.size, 1, none⟩ = some (.int .i64 a) ∧ W'.cell? ⟨wr.heap.size, 2, none⟩ = some (.int .i64 b)) (N := [12, 13, 14, 15]) _ _ _ _ ?_)
            have P3 := Lib.hid (P2.out.next (Below.refl _ _).drew)
            have hS0 : w1.drew.cell? ⟨gv, a, none⟩ = some (.int .i64 (l : Int)) ∧ w1.drew.cell? ⟨gv, b, none⟩ = some (.int .i64 (r : Int)) ∧ w1.drew.cell? ⟨wr.heap.size, 0, none⟩ = some (.string x.l) ∧ w1.drew.cell? ⟨wr.heap.size, 1, none⟩ = some (.int .i64 a) ∧ w1.drew.cell? ⟨wr.heap.size, 2, none⟩ = some (.int .i64 b) := ⟨va', vb', d0, d1_, d2_⟩
            generalize w1.drew = wd at *
            clear va' vb' d0 d1_ d2_ P2 BX2
            refine wpAnyN_take (i := 1) (v := ?_) rfl (by kernel_rfl) (fun _ _ _ h => h) (by rfl) (fun W hW => ?_) hS0 ?_
            rotate_left
            · obtain ⟨z0, z1, z2, z3, z4⟩ := hW
              go_simp
              try with_reducible rfl
            try simp only [List.getElem_toArray, List.getElem_cons_zero, List.getElem_cons_succ, Act.put, List.setIfInBounds_toArray, List.set_cons_zero, List.set_cons_succ]
            refine wpAnyN_take (i := 2) (v := ?_) rfl (by kernel_rfl) (fun _ _ _ h => h) (by rfl) (fun W hW => ?_) hS0 ?_
            rotate_left
            · obtain ⟨z0, z1, z2, z3, z4⟩ := hW
              go_simp
              try with_reducible rfl
            try simp only [List.getElem_toArray, List.getElem_cons_zero, List.getElem_cons_succ, Act.put, List.setIfInBounds_toArray, List.set_cons_zero, List.set_cons_succ]
            refine wpAnyN_take (i := 3) (v := ?_) rfl (by kernel_rfl) (fun _ _ _ h => h) (by rfl) (fun W hW => ?_) hS0 ?_
            rotate_left
            · obtain ⟨z0, z1, z2, z3, z4⟩ := hW
              go_simp
              try with_reducible rfl
            try simp only [List.getElem_toArray, List.getElem_cons_zero, List.getElem_cons_succ, Act.put, List.setIfInBounds_toArray, List.set_cons_zero, List.set_cons_succ]
            refine wpAnyN_take (i := 4) (v := ?_) rfl (by kernel_rfl) (fun _ _ _ h => h) (by rfl) (fun W hW => ?_) hS0 ?_
            rotate_left
            · obtain ⟨z0, z1, z2, z3, z4⟩ := hW
              go_simp
              try with_reducible rfl
            try simp only [List.getElem_toArray, List.getElem_cons_zero, List.getElem_cons_succ, Act.put, List.setIfInBounds_toArray, List.set_cons_zero, List.set_cons_succ]
            refine wpAnyN_take (i := 5) (v := ?_) rfl (by kernel_rfl) (fun _ _ _ h => h) (by rfl) (fun W hW => ?_) hS0 ?_
            rotate_left
            · obtain ⟨z0, z1, z2, z3, z4⟩ := hW
              go_simp
              try with_reducible rfl
            try simp only [List.getElem_toArray, List.getElem_cons_zero, List.getElem_cons_succ, Act.put, List.setIfInBounds_toArray, List.set_cons_zero, List.set_cons_succ]
            refine wpAnyN_take (i := 6) (v := ?_) rfl (by kernel_rfl) (fun _ _ _ h => h) (by rfl) (fun W hW => ?_) hS0 ?_
            rotate_left
            · obtain ⟨z0, z1, z2, z3, z4⟩ := hW
              go_simp
              try with_reducible rfl
            try simp only [List.getElem_toArray, List.getElem_cons_zero, List.getElem_cons_succ, Act.put, List.setIfInBounds_toArray, List.set_cons_zero, List.set_cons_succ]
            refine wpAnyN_take (i := 7) (v := ?_) rfl (by kernel_rfl) (fun _ _ _ h => h) (by rfl) (fun W hW => ?_) hS0 ?_
            rotate_left
            · obtain ⟨z0, z1, z2, z3, z4⟩ := hW
              go_simp
              try with_reducible rfl
            try simp only [List.getElem_toArray, List.getElem_cons_zero, List.getElem_cons_succ, Act.put, List.setIfInBounds_toArray, List.set_cons_zero, List.set_cons_succ]
            refine wpAnyN_take (i := 8) (v := ?_) rfl (by kernel_rfl) (fun _ _ _ h => h) (by rfl) (fun W hW => ?_) hS0 ?_
            rotate_left
            · obtain ⟨z0, z1, z2, z3, z4⟩ := hW
              go_simp
              try with_reducible rfl
            try simp only [List.getElem_toArray, List.getElem_cons_zero, List.getElem_cons_succ, Act.put, List.setIfInBounds_toArray, List.set_cons_zero, List.set_cons_succ]
            refine wpAnyN_take (i := 9) (v := ?_) rfl (by kernel_rfl) (fun _ _ _ h => h) (by rfl) (fun W hW => ?_) hS0 ?_
            rotate_left
            · obtain ⟨z0, z1, z2, z3, z4⟩ := hW
              go_simp
              try with_reducible rfl
            try simp only [List.getElem_toArray, List.getElem_cons_zero, List.getElem_cons_succ, Act.put, List.setIfInBounds_toArray, List.set_cons_zero, List.set_cons_succ]
            refine wpAnyN_take (i := 10) (v := ?_) rfl (by kernel_rfl) (fun _ _ _ h => h) (by rfl) (fun W hW => ?_) hS0 ?_
            rotate_left
            · obtain ⟨z0, z1, z2, z3, z4⟩ := hW
              go_simp
              try with_reducible rfl
            try simp only [List.getElem_toArray, List.getElem_cons_zero, List.getElem_cons_succ, Act.put, List.setIfInBounds_toArray, List.set_cons_zero, List.set_cons_succ]
            refine wpAnyN_take (i := 11) (v := ?_) rfl (by kernel_rfl) (fun _ _ _ h => h) (by rfl) (fun W hW => ?_) hS0 ?_
            rotate_left
            · obtain ⟨z0, z1, z2, z3, z4⟩ := hW
              go_simp
              try with_reducible rfl
            try simp only [List.getElem_toArray, List.getElem_cons_zero, List.getElem_cons_succ, Act.put, List.setIfInBounds_toArray, List.set_cons_zero, List.set_cons_succ]
            clear hS0
            refine wpAnyN_next (i := 12) rfl (by kernel_rfl) (fun K hK => ?_)
            go_simp
            go_wp2_with (go_at_call 33; refine (CALL.out _ P3.out.p).mono ?_; rintro e w4 ⟨rfl, A2, n2, c2, B2, d2, p4, f4⟩)
            have P4 := Lib.hid (P3.out.call p4 f4)
            have P5 := Lib.hid (P4.out.alloc (.cells #[.int .i64 t.2] 2))
            clear p4 f4
            refine hK.out _ _ (fun h => absurd h (by decide)) ?_
            clear hK K
            try simp only [List.getElem_toArray, List.getElem_cons_zero, List.getElem_cons_succ, Act.put, List.setIfInBounds_toArray, List.set_cons_zero, List.set_cons_succ]
            refine wpAnyN_next (i := 13) rfl (by kernel_rfl) (fun K hK => ?_)
            go_simp
            refine hK.out _ _ (fun h => absurd h (by decide)) ?_
            clear hK K
            try simp only [List.getElem_toArray, List.getElem_cons_zero, List.getElem_cons_succ, Act.put, List.setIfInBounds_toArray, List.set_cons_zero, List.set_cons_succ]
            refine wpAnyN_next (i := 14) rfl (by kernel_rfl) (fun K hK => ?_)
            refine step_pushL (by rfl) _ _ _ (by rfl) w.heap.size 2 1 8 elem_int intE (some ⟨gv, 0, none⟩) k cv pl (by rfl) P5.out.v _ t.2 #[.int .i64 t.2] 2 (0, 0) (by rfl) (heap_alloc_new _ _) rfl rfl (by simp [intE, Value.oneCell']) (by omega) zk8 kmx P5.out.p.g.e.size ?_
            intro A9 c9 w9 own9 hg9 hat9
            have P9 := Lib.hid (P5.out.push own9 hg9 hat9)
            refine hK.out _ _ (fun h => absurd h (by decide)) ?_
            clear hK K
            try simp only [List.getElem_toArray, List.getElem_cons_zero, List.getElem_cons_succ, Act.put, List.setIfInBounds_toArray, List.set_cons_zero, List.set_cons_succ]
            refine wpAnyN_next (i := 15) rfl (by kernel_rfl) (fun K hK => ?_)
            go_simp
            refine hK.out _ _ (fun h => absurd h (by decide)) ?_
            clear hK K
            try simp only [List.getElem_toArray, List.getElem_cons_zero, List.getElem_cons_succ, Act.put, List.setIfInBounds_toArray, List.set_cons_zero, List.set_cons_succ]
            refine wpAnyN_done (by kernel_rfl) ?_ _
            go_wp2_with fail
            have J2 : Hid (LrJ rs (k + 1) t.1 (pl ++ [t.2])) := Lib.hid (by have h := J.out.one rfl hwf.out Gx.out; rw [show rfOne (s, false).1 pl x = t from He.out] at h; exact h)
            clear J
            go_roundw
            case rel => exact ⟨k + 1, A9, c9, A2, n2, c2, B2, d2, t.1, pl ++ [t.2], rfl, by go_num, by omega, P9, J2⟩
            case measure => simp [intOf]; omega
          · have hl1 : x.l.size ≠ 0 := by rw [hxl]; show (1 : Nat) ≠ 0; omega
            have e1' := size1 hl1
            have e2' := size1' hl1
            have He := Lib.hid (show rfOne s pl x = rfMake (s, false) x by unfold rfOne; rw [if_neg (by rw [hxl]; show ¬ (1 : Nat) = 0; omega)])
            have CALL := Lib.hid (fun W4 (h4 : LsP w W4 X A1 n1 c1 B1 d1 (s, false)) => rfMake_any w X x (s, false) A1 n1 c1 B1 d1 W4 J.out.i (fun _ => .inr ⟨cc, hcc, hxl, hxa, hxb⟩) h4)
            generalize rfMake (s, false) x = t at *
            have Y0 := Lib.hid (Blk.new wr 59 #[.string x.l, .int .i64 x.a, .int .i64 x.b])
            obtain ⟨d0, d1_, d2_⟩ := Y0.out.three
            have dl := Y0.out.lt
            clear hxl hxa hxb hcc hl1
            go_wp2_with fail
            refine namedC fun w1 H1 => ?_
            have hb1 : Below wr.heap.size wr w1 := by rw [H1.out]; (repeat first | exact Below.refl _ _ | assumption | refine Below.drew ?_ | refine Below.alloc ?_ (by first | exact Nat.le_refl _ | (simp; done) | omega | (simp; omega)) _ | refine Below.setCell ?_ (by first | exact Nat.le_refl _ | (simp; done) | omega | (simp; omega)) _)
            have P2 := Lib.hid (P1.out.next hb1)
            clear hb1 H1 P1 e0 e1 e2 g0 gl x2 xl d0 d1_ d2_ dl
            refine (CALL.out w1 P2.out.p).mono ?_
            rintro e w4 ⟨rfl, A2, n2, c2, B2, d2, p4, f4⟩
            have P4 := Lib.hid (P2.out.call p4 f4)
            have P5 := Lib.hid (P4.out.alloc (.cells #[.int .i64 t.2] 2))
            clear p4 f4
            go_wp2_with
              (at_builtin
               refine wpList_push (w0 := w) rfl _ _ _ rfl w.heap.size 2 1 8 elem_int intE V k cv pl rfl P5.out.v w4.heap.size t.2 #[.int .i64 t.2] 2 (0, 0) rfl (heap_alloc_new _ _) rfl rfl (by simp [intE, Value.oneCell']) (by omega) (by omega) (by unfold maxLen; omega) rfl P5.out.p.g.e ?_
               intro A9 c9 w9 own9 hg9 hat9 hb9
               have P9 := Lib.hid (P5.out.push own9 hg9 hat9))
            have J2 : Hid (LrJ rs (k + 1) t.1 (pl ++ [t.2])) := Lib.hid (by have h := J.out.one rfl hwf.out Gx.out; rw [show rfOne (s, false).1 pl x = t from He.out] at h; exact h)
            clear J
            go_roundw
            case rel => exact ⟨k + 1, A9, c9, A2, n2, c2, B2, d2, t.1, pl ++ [t.2], rfl, by go_num, by omega, P9, J2⟩
            case measure => simp [intOf]; omega
        · have o0_ := P1.out.o.cell 0
          have of_ := P1.out.o.frozen
          have ol_ := P1.out.o.lt
          have x0 := P1.out.p.g.x.cell 0
          by_cases hbad : s0.2 = true ∨ 400 < n1
          · have hnone := Lib.hid (J.out.none_ (by rw [P1.out.p.hr]; exact hbad))
            have eT := Lib.hid (show lvT rs = [] by unfold lvT; rw [hnone.out])
            have eC := Lib.hid (show lvE rs = 3 by unfold lvE; rw [hnone.out]; rfl)
            have B5 := P1.out.o.set_ 0 (.slice none 0 0)
            have x5 : (wr.setCell ⟨w.heap.size + 1, 0, none⟩ (.slice none 0 0)).cell? ⟨w.heap.size + 1, 0, none⟩ = some (.slice none 0 0) := by rw [B5.cell 0]; rfl
            have b5 := P1.out.p.g.e.setCell (p := ⟨w.heap.size + 1, 0, none⟩) (by simp) (.slice none 0 0)
            have Hb := Lib.hid hbad
            have Hgo := Lib.hid hgo
            clear B5 hbad hgo
            cases hf : s0.2 with
            | true =>
              rw [hf] at x2
              clear Hb Hgo
              by_cases hlt : (k : Int) < (n : Int)
              all_goals
                go_wp2_with fail
                refine bodyPost_ret (v := .tuple #[.agg #[.slice none 0 0], .int .i64 3]) (by simp [results, Try.results10, go_sem, x5]) rfl ?_
                rw [eT.out, eC.out]
                exact ⟨none, 0, rfl, World.ownsRow_nil _ _ _ _, b5⟩
            | false =>
              rw [hf] at x2
              have hlt : ¬ (k : Int) < (n : Int) := by
                intro h
                exact Hgo.out ⟨by omega, hf⟩
              have h4 : (400 : Int) < (n1 : Int) := by
                rcases Hb.out with h | h
                · rw [hf] at h; cases h
                · omega
              clear Hb Hgo hf
              go_wp2_with fail
              refine bodyPost_ret (v := .tuple #[.agg #[.slice none 0 0], .int .i64 3]) (by simp [results, Try.results10, go_sem, x5]) rfl ?_
              rw [eT.out, eC.out]
              exact ⟨none, 0, rfl, World.ownsRow_nil _ _ _ _, b5⟩
          · have hf : s0.2 = false := by
              cases q : s0.2 with
              | false => rfl
              | true => exact absurd (.inl q) hbad
            have h4 : n1 ≤ 400 := by omega
            have hkn : k = n := by
              have : ¬ k < n := fun h => hgo ⟨h, hf⟩
              omega
            have hall := Lib.hid (J.out.end_ (show rs.length ≤ k by have := HR.out.len; omega) hf (by rw [P1.out.p.hr]; exact h4))
            have hix := J.out.ix hf
            rw [hf] at x2
            have h4' : ¬ (400 : Int) < (n1 : Int) := by omega
            have hlt : ¬ (k : Int) < (n : Int) := by omega
            have eC := Lib.hid (show lvE rs = 0 by unfold lvE; rw [hall.out]; rfl)
            have hsl : Idx s0.1 (lastI pl) := by
              unfold lastI
              have hj : pl.length - 1 < pl.length := by rw [J.out.ln]; omega
              rw [List.getD_eq_getElem?_getD, List.getElem?_eq_getElem hj]
              exact hix _ _ (List.getElem?_eq_getElem hj)
            have Hsl := Lib.hid hsl
            have eT0 := Lib.hid (show lvT rs = trimL (s0.1.rs.take ((lastI pl).toNat + 1)) by
              unfold lvT
              rw [hall.out]
              simp only
              rw [if_neg (by intro e; have := J.out.ln; rw [e] at this; simp at this; omega), show (lastI pl + 1).toNat = (lastI pl).toNat + 1 by have := Hsl.out.1; omega])
            have hl0 : 0 ≤ lastI pl := hsl.1
            have hl1 : lastI pl < (n1 : Int) := by rw [← P1.out.p.hr]; exact hsl.2
            have hwt := Lib.hid (wf_take J.out.i.i.wf ((lastI pl).toNat + 1))
            have RO := Lib.hid (Rd.of_own (fun x _ => fac_len x) P1.out.p.hr P1.out.p.g.q)
            obtain ⟨gv, cpv, hvv, hgv0, hgv1⟩ := P1.out.v.form (by omega)
            obtain rfl : V = some ⟨gv, 0, none⟩ := by injection hvv
            have va := own_at (sz := 1) (enc := intE) (fun _ _ => rfl) P1.out.v J.out.ln 0 (k - 1) (by omega) 0 (by omega)
            rw [Nat.mul_one, Nat.add_zero] at va
            have va' : wr.cell? ⟨gv, k - 1, none⟩ = some (.int .i64 (lastI pl)) := by unfold lastI; rw [J.out.ln]; exact va
            obtain ⟨m, hm⟩ : ∃ m, k - 1 = m := ⟨_, rfl⟩
            rw [hm] at va'
            have um : IntKind.i64.wrap ((k : Int) - 1) = (m : Int) := by rw [IntWalk.i64_in _ (by omega)]; omega
            have m0 : (0 : Int) ≤ (m : Int) := by omega
            have m1 : (m : Int) < (k : Int) := by omega
            have hgvl : gv < wr.heap.size := by have := (P1.out.v.lt gv rfl).2; exact this
            clear hm va hvv hix hsl
            generalize lastI pl = sl at *
            have u1 : IntKind.i64.wrap (sl + 1) = sl + 1 := IntWalk.i64_in _ (by omega)
            have j0 : (0 : Int) ≤ sl + 1 := by omega
            have hc1 : n1 ≤ c1 := by
              have h2 := P1.out.p.g.q.2
              rcases h2 with ⟨hnil, hz⟩ | ⟨g2, cap2, cur2, hv2, _, _, h3, _⟩
              · omega
              · injection hv2 with _ _ h4; omega
            have j1 : sl + 1 ≤ (c1 : Int) := by omega
            have jn : (sl + 1).toNat = sl.toNat + 1 := by omega
            have RT := Lib.hid (Rd.takeL RO.out (k := sl.toNat + 1) (by omega))
            have TC := Lib.hid (fun W (h : Below wr.heap.size wr W) (hB : Blk W wr.heap.size 26 #[.slice A1 (sl.toNat + 1) c1]) => l02Trim_any wr.heap.size A1 (sl.toNat + 1) c1 (s0.1.rs.take (sl.toNat + 1)) W hB.lt (hB.cell 0) (by omega) (RT.out.next h) hwt.out)
            unfold RetG at TC
            generalize trimL (s0.1.rs.take (sl.toNat + 1)) = T at *
            obtain ⟨L, hL⟩ : ∃ L, T.length = L := ⟨_, rfl⟩
            rw [hL] at TC
            have HL := Lib.hid hL
            clear hkn hL hl0 hl1 J Hsl hwt RO RT hall hbad hgo hf
            have PD := Lib.hid (P1.out.next (Below.refl _ _).drew)
            have y0 := PD.out.p.g.x.cell 0
            have yl := PD.out.p.g.x.lt
            have va2 : wr.drew.cell? ⟨gv, m, none⟩ = some (.int .i64 sl) := va'
            go_wp2_with fail
            go_region_law
              (go_simp
               go_wp2_with (go_at_call 34; refine (TC.out _ (by (repeat first | exact Below.refl _ _ | assumption | refine Below.drew ?_ | refine Below.alloc ?_ (by first | exact Nat.le_refl _ | (simp; done) | omega | (simp; omega)) _ | refine Below.setCell ?_ (by first | exact Nat.le_refl _ | (simp; done) | omega | (simp; omega)) _)) (Blk.new _ _ _).drew).mono ?_; rintro e w6' ⟨A5, c5, rfl, own5, hb6'⟩)
               have b6 : Below wr.heap.size wr w6' := Below.trans (by (repeat first | exact Below.refl _ _ | assumption | refine Below.drew ?_ | refine Below.alloc ?_ (by first | exact Nat.le_refl _ | (simp; done) | omega | (simp; omega)) _ | refine Below.setCell ?_ (by first | exact Nat.le_refl _ | (simp; done) | omega | (simp; omega)) _)) (hb6'.mono (by simp))
               have P7 := Lib.hid (P1.out.next b6)
               have O6 := Lib.hid (show w6'.ownsRow w.heap.size 59 3 (.slice A5 L c5) L (T.flatMap Fac.cells) from own5.mono (by have := P1.out.p.g.e.size; simp; omega))
               have o7 := P7.out.o.cell 0
               have f7 := P7.out.o.frozen
               have l7 := P7.out.o.lt
               clear own5)
            all_goals
              have B5 := P7.out.o.set_ 0 (.slice A5 L c5)
              have x5 : (w6'.setCell ⟨w.heap.size + 1, 0, none⟩ (.slice A5 L c5)).cell? ⟨w.heap.size + 1, 0, none⟩ = some (.slice A5 L c5) := by rw [B5.cell 0]; rfl
              have b5' := P7.out.p.g.e.setCell (p := ⟨w.heap.size + 1, 0, none⟩) (by simp) (.slice A5 L c5)
              have O8 := Lib.hid (own_kept' (i := 0) O6.out P7.out.o (by decide) (.slice A5 L c5))
              clear B5
              go_wp2_with fail
              exact bodyPost_ret (v := .tuple #[.agg #[.slice A5 L c5], .int .i64 0]) (by simp [results, Try.results10, go_sem, x5]) rfl ⟨A5, c5, by rw [eT0.out, eC.out]; simp [HL.out], by rw [eT0.out]; simpa [HL.out] using O8.out, b5'⟩
end Go.Proofs.Ytajfjgemfnfakaa


/-
  The grammar of a plain word in the program.
-/
namespace Go.Proofs.Ytajfjgemfnfakaa
open Go.RowKit

/-- a slice of the call's own that is the beginning of one which is appended to -/
theorem own_prefix {W W' : World} {base E sz k n c0 c : Nat} {A0 A : Option Addr} {xs0 ys : List Value} (hsz : 0 < sz) (hL : W.ownsRow base E sz (.slice A0 k c0) k xs0) (hA : W.ownsRow base E sz (.slice A n c) n (xs0 ++ ys))
    (hA' : W'.ownsRow base E sz (.slice A n c) n (xs0 ++ ys)) (hg : W.grownBy W' (Value.slice A n c).ownBlock) : W'.ownsRow base E sz (.slice A0 k c0) k xs0 := by
  rcases hL.2 with ⟨hnil, hk⟩ | ⟨g0, cap0, cur0, hv0, hb0, hh0, hk0, hm0, hs0, ht0⟩
  · rw [hnil] at hL ⊢
    exact ⟨hL.1, .inl ⟨rfl, hk⟩⟩
  · by_cases hne : (Value.slice A n c).ownBlock = some g0
    · rcases hA'.2 with ⟨hnil, _⟩ | ⟨g1, cap1, cur1, hv1, hb1, hh1, hk1, hm1, hs1, ht1⟩
      · rw [hnil] at hne; cases hne
      · rcases hA.2 with ⟨hnil, _⟩ | ⟨g2, cap2, cur2, hv2, hb2, hh2, hk2, hm2, hs2, ht2⟩
        · rw [hnil] at hne; cases hne
        · rw [hv1] at hne
          have e1 : g1 = g0 := by simpa [Value.ownBlock] using hne
          have e2 : g1 = g2 ∧ cap1 = cap2 := by
            rw [hv1] at hv2; injection hv2 with q1 q2 q3; injection q1 with q1; injection q1 with q1; exact ⟨q1, q3⟩
          obtain ⟨e2, e3⟩ := e2
          subst e1 e2 e3
          have ec : cur0 = cur2 := by
            rw [hh0] at hh2; injection hh2 with q; injection q with q
          subst ec
          have ecap : cap0 = cap1 := by
            have := hs0.symm.trans hs2
            exact Nat.eq_of_mul_eq_mul_right hsz this
          subst ecap
          refine ⟨hL.1, .inr ⟨g1, cap0, cur1, hv0, hb0, hh1, hk0, hm0, hs1, ?_⟩⟩
          have hkn : k * sz ≤ n * sz := by
            have h1 := hA.1
            have h2 := hL.1
            rw [List.length_append] at h1; omega
          have e5 : cur1.toList.take (k * sz) = (cur1.toList.take (n * sz)).take (k * sz) := by rw [List.take_take, Nat.min_eq_left hkn]
          rw [e5, ht1, ← hL.1]
          exact List.take_left
    · refine hL.kept hg (.inr ?_)
      rw [hv0]
      intro e; exact hne e.symm

/-- the letters up to one -/
def ksT (w : List UInt8) (c : Int) : List UInt8 := [97, 98, 99, 100].filter (fun u => decide (u ∈ w) && decide ((u.toNat : Int) < c))
theorem ksT_first (w : List UInt8) : ksT w 97 = [] := by simp [ksT]
theorem ksT_last (w : List UInt8) : ksT w 101 = ksP w := by
  unfold ksT ksP
  apply List.filter_congr
  intro u hu
  have : (u.toNat : Int) < 101 := by
    simp only [List.mem_cons, List.not_mem_nil, or_false] at hu
    rcases hu with rfl | rfl | rfl | rfl <;> decide
  simp [this]
theorem ksT_step (w : List UInt8) (u : UInt8) (h : letB u = true) : ksT w ((u.toNat : Int) + 1) = if u ∈ w then ksT w u.toNat ++ [u] else ksT w u.toNat := by
  have h : (97 : Int) ≤ u.toNat ∧ (u.toNat : Int) ≤ 100 := by simpa [letB] using h
  have h4 : u = 97 ∨ u = 98 ∨ u = 99 ∨ u = 100 := by
    simp only [← UInt8.toNat_inj]
    have : u.toNat = 97 ∨ u.toNat = 98 ∨ u.toNat = 99 ∨ u.toNat = 100 := by omega
    exact this
  unfold ksT
  rcases h4 with rfl | rfl | rfl | rfl
  all_goals
    by_cases h1 : (97 : UInt8) ∈ w <;> by_cases h2 : (98 : UInt8) ∈ w <;> by_cases h3 : (99 : UInt8) ∈ w <;> by_cases h4 : (100 : UInt8) ∈ w <;> simp [h1, h2, h3, h4]
theorem ksT_le (w : List UInt8) (c : Int) : (ksT w c).length ≤ 4 := by
  unfold ksT; exact Nat.le_trans (List.length_filter_le _ _) (by simp)

theorem okW_at {s : ByteArray} (h : okW s = true) {i : Nat} (hi : i < s.size) : letB s[i] = true := by
  unfold okW at h
  simp only [Bool.and_eq_true, List.all_eq_true] at h
  exact h.2 _ (List.mem_of_getElem? (at_byte s i hi))
theorem okW_size {s : ByteArray} (h : okW s = true) : s.size ≤ 2000 := by
  unfold okW at h
  simp only [Bool.and_eq_true, decide_eq_true_eq] at h
  exact h.1
/-- 'plain' under way -/
structure PlW (w W : World) (s : ByteArray) (A : Option Addr) (n c : Nat) (rs : List Fac) : Prop where
  q : W.ownsRow w.heap.size 59 3 (.slice A n c) n (rs.flatMap Fac.cells)
  s : Blk W w.heap.size 9 #[.string s]
  o : Blk W (w.heap.size + 1) 26 #[.slice none 0 0]
  g : Blk W (w.heap.size + 2) 26 #[.slice A n c]
  e : Below w.heap.size w W
section
variable {w W W' : World} {s : ByteArray} {A : Option Addr} {n c : Nat} {rs : List Fac}
theorem PlW.next (h : PlW w W s A n c rs) (hb : Below W.heap.size W W') : PlW w W' s A n c rs :=
  ⟨own_next h.q hb, h.s.next hb, h.o.next hb, h.g.next hb, h.e.trans (hb.mono h.e.size)⟩
theorem PlW.alloc (h : PlW w W s A n c rs) (o : Obj) : PlW w (W.alloc o) s A n c rs := h.next ((Below.refl _ _).alloc (Nat.le_refl _) _)
theorem PlW.push {A8 : Option Addr} {k8 c8 : Nat} {rs' : List Fac} (h : PlW w W s A n c rs) (hq : W'.ownsRow w.heap.size 59 3 (.slice A8 k8 c8) k8 (rs'.flatMap Fac.cells)) (hg : W.grownBy W' (Value.slice A n c).ownBlock) :
    PlW w (W'.setCell ⟨w.heap.size + 2, 0, none⟩ (.slice A8 k8 c8)) s A8 k8 c8 rs' := by
  have hs' := h.s.grown hg (own_blk_ne h.q h.s (by decide))
  have ho' := h.o.grown hg (own_blk_ne h.q h.o (by decide))
  have hg' := h.g.grown hg (own_blk_ne h.q h.g (by decide))
  have he' := h.e.grown hg h.e.size (own_ge h.q)
  have hg2 := gb_set W' (w.heap.size + 2) 0 (.slice A8 k8 c8)
  exact ⟨own_kept' hq hg' (by decide) _, hs'.grown hg2 (by intro e; injection e with e; omega), ho'.grown hg2 (by intro e; injection e with e; omega), hg'.set_ 0 _, he'.setCell (by simp) _⟩
end
end Go.Proofs.Ytajfjgemfnfakaa


/-
  All places of a word at which another one begins, in the reference.
-/
namespace Go.Proofs.Ytajfjgemfnfakaa
open Go.RowKit

/-- the places before one at which a word begins -/
def fndT (p s : ByteArray) (k : Nat) : List Int := ((List.range k).filter (fun i => decide (s.extract i (i + p.size) = p))).map (fun (i : Nat) => (i : Int))
def fndL (p s : ByteArray) : List Int := fndT p s (s.size + 1 - p.size)
theorem fndT_yes {p s : ByteArray} {k : Nat} (h : s.extract k (k + p.size) = p) : fndT p s (k + 1) = fndT p s k ++ [(k : Int)] := by
  simp [fndT, List.range_succ, h]
theorem fndT_no {p s : ByteArray} {k : Nat} (h : ¬ s.extract k (k + p.size) = p) : fndT p s (k + 1) = fndT p s k := by
  simp [fndT, List.range_succ, h]
theorem fndT_len (p s : ByteArray) (k : Nat) : (fndT p s k).length ≤ k := by
  unfold fndT
  rw [List.length_map]
  exact Nat.le_trans (List.length_filter_le _ _) (by simp)
set_option maxHeartbeats 1000000 in
set_option maxRecDepth 100000 in
theorem l01Found_any (p s : ByteArray) (w : World) (hp : p.size ≤ 1048576) (hs : s.size ≤ 1048576) :
    Calls Try.prog 48 #[.string p, .string s] w (RetNew w 2 1 intE (fndL p s)) := by
  go_enter Try.func48, Try.ntmps48
  go_wp2_with fail
  go_loopw [5, 6] (fun o_ i_ w' => ∃ (k n : Nat) (A' : Option Addr) (c' : Nat), i_ = .int .i64 k ∧ o_ = .slice A' n c' ∧ k ≤ s.size + 1 - p.size ∧ n ≤ k ∧ Hid ((fndT p s k).length = n) ∧
      Hid (w'.ownsRow w.heap.size 2 1 (.slice A' n c') n ((fndT p s k).flatMap intE)) ∧ Below w.heap.size w w') (fun _ i_ _ => s.size + 1 - (intOf i_).toNat)
  case atStart =>
    exact ⟨0, 0, _, 0, rfl, rfl, by omega, by omega, Lib.hid rfl, Lib.hid (by simpa [fndT] using World.ownsRow_made (base := w.heap.size) (e := 2) (size := 1) w #[] 0 (by simp) (by unfold maxLen; omega) rfl), by (repeat first | exact Below.refl _ _ | assumption | refine Below.drew ?_ | refine Below.alloc ?_ (by first | exact Nat.le_refl _ | (simp; done) | omega | (simp; omega)) _ | refine Below.setCell ?_ (by first | exact Nat.le_refl _ | (simp; done) | omega | (simp; omega)) _)⟩
  case round =>
    obtain ⟨k, n, A', c', rfl, rfl, hk, hn, hl, hown, hb⟩ := hrel
    by_cases hlt : k + p.size ≤ s.size
    · by_cases he : s.extract k (k + p.size) = p
      · have hst := Lib.hid (fndT_yes he)
        have hq : ((s.extract k (k + p.size)).toList == p.toList) = true := by rw [tl_beq]; simpa using he
        clear he
        go_wp2_with
          (at_builtin
           refine wpList_push (w0 := w) rfl _ _ _ rfl w.heap.size 2 1 8 elem_int intE _ n c' (fndT p s k) rfl (hown.out.alloc _) wr.heap.size (k : Int) #[.int .i64 (k : Int)] 2 (0, 0) rfl (heap_alloc_new _ _) rfl rfl (by simp [intE, Value.oneCell']) (by omega) (by omega) (by unfold maxLen; omega) rfl (hb.alloc hb.size _) ?_
           intro A9 c9 w9 own9 hg9 hat9 hb9
           have O9 := Lib.hid own9; clear own9)
        go_roundw
        case rel => exact ⟨k + 1, n + 1, A9, c9, by go_num, rfl, by omega, by omega, Lib.hid (by rw [hst.out, List.length_append, hl.out]; rfl), Lib.hid (by rw [hst.out]; exact O9.out), hb9⟩
        case measure => simp [intOf]; omega
      · have hst := Lib.hid (fndT_no he)
        have hq : ((s.extract k (k + p.size)).toList == p.toList) = false := by rw [tl_beq]; simpa using he
        clear he
        go_wp2_with fail
        go_roundw
        case rel => exact ⟨k + 1, n, A', c', by go_num, rfl, by omega, by omega, Lib.hid (by rw [hst.out]; exact hl.out), Lib.hid (by rw [hst.out]; exact hown.out), hb⟩
        case measure => simp [intOf]; omega
    · have hkk : k = s.size + 1 - p.size := by omega
      have e := Lib.hid (show fndL p s = fndT p s k by unfold fndL; rw [hkk])
      clear hkk
      go_wp2_with fail
      go_ret
      refine ⟨A', c', ret_slice (by rw [e.out, hl.out]), ?_, hb⟩
      rw [e.out, hl.out]
      exact hown.out
end Go.Proofs.Ytajfjgemfnfakaa
