/-
  Level grammars in the reference: two level rules made one.
-/
import Derived.Test.YtikhjoianbndhaaLvS
import Derived.Test.YtikhjoianbndhaaLvL
namespace Go.Proofs.Ytikhjoianbndhaa
open Go.RowKit

set_option maxHeartbeats 4000000 in
set_option maxRecDepth 100000 in
theorem rfPair_any (w0 : World) (X : Nat) (a b : Int) (t : LvS × Bool) (A : Option Addr) (n c : Nat) (B : Option Addr) (d : Nat) (W : World) (hi : RfI t) (ha : t.2 = false → Idx t.1 a) (hb : t.2 = false → Idx t.1 b) (h : LsP w0 W X A n c B d t) :
    Calls Try.prog 67 #[.pointer (some ⟨X, 0, none⟩), .int .i64 a, .int .i64 b] W (LsQ w0 W X (.slice A n c) (.slice B n d) (rfPair t a b)) := by
  have HC := Lib.hid (rfMake_any w0 X ⟨⟨#[]⟩, a, b⟩ t A n c B d W hi (fun e => .inl ⟨rfl, ha e, hb e⟩) h)
  clear hi ha hb h
  go_enter Try.func67, Try.ntmps67
  go_wp2_with fail
  refine HC.out.mono ?_
  rintro e w2 ⟨rfl, A2, n2, c2, B2, d2, p2, f2⟩
  have P2 := Lib.hid p2
  have F2 := Lib.hid f2
  clear p2 f2
  go_wp2_with fail
  go_ret
  exact ⟨rfl, A2, n2, c2, B2, d2, P2.out, F2.out⟩
/-- the fuel's end is never felt -/
theorem rfLevel_eq {f : Nat} {s : LvS} (h : LvI s) {l r : Int} (hl : Idx s l) (hr : Idx s r) (hf : l + r ≤ f) : rfLevel f s l r =
    if 1 < lvD s l - lvD s r then rfLeft (rfLevel (f - 1) s (lvR s l).b r).1 (lvR s l).a (rfLevel (f - 1) s (lvR s l).b r).2
    else if lvD s l - lvD s r < -1 then rfRight (rfLevel (f - 1) s l (lvR s r).a).1 (lvR s r).b (rfLevel (f - 1) s l (lvR s r).a).2
    else rfPair (s, false) l r := by
  cases f with
  | succ f => rfl
  | zero =>
    have e1 : l = 0 := by have := hl.1; have := hr.1; omega
    have e2 : r = 0 := by have := hl.1; have := hr.1; omega
    subst e1 e2
    rw [if_neg (by omega), if_neg (by omega)]; rfl
set_option maxHeartbeats 8000000 in
set_option maxRecDepth 100000 in
theorem rfLeft_any (w0 : World) (X : Nat) (l r a b : Nat) (s : LvS) (u1 : (LvS × Bool) × Int) (A : Option Addr) (n c : Nat) (B : Option Addr) (d : Nat) (W : World) (hi : LvI s) (hl4 : s.rs.length ≤ 401) (idl : Idx s l) (ha : (lvR s l).a = a) (hb : (lvR s l).b = b) (ida : Idx s a)
    (ho : RfO (s, false) u1.1 u1.2) (call : ∀ W4, LsP w0 W4 X A n c B d (s, false) → Calls Try.prog 45 #[.pointer (some ⟨X, 0, none⟩), .int .i64 b, .int .i64 r] W4 (LsQ w0 W4 X (.slice A n c) (.slice B n d) u1)) (h : LsP w0 W X A n c B d (s, false)) :
    Calls Try.prog 65 #[.pointer (some ⟨X, 0, none⟩), .int .i64 l, .int .i64 r] W (LsQ w0 W X (.slice A n c) (.slice B n d) (rfLeft u1.1 a u1.2)) := by
  have HI := Lib.hid hi
  have P0 := Lib.hid h
  have O1 := Lib.hid ho
  have HA := Lib.hid ha
  have HB := Lib.hid hb
  have CALL := Lib.hid call
  have IDA := Lib.hid ida
  have hln : l < n := by have := idl.2; have := h.hr; simp only at this; omega
  have hn4 : n ≤ 401 := by have := h.hr; simp only at this; omega
  have F0 := Lib.hid (LvF.of_below (X := X) (M := X) (v := .slice A n c) (u := .slice B n d) (Below.refl W.heap.size W))
  obtain ⟨t1, zi⟩ := u1
  simp only at O1
  have HI1 : Hid (RfI t1) := Lib.hid O1.out.i
  have HE0 := Lib.hid (show rfLeft t1 a zi = rfLeft t1 a zi from rfl)
  have l0 : (0 : Int) ≤ (l : Int) := by omega
  have l1_ : (l : Int) < (n : Int) := by omega
  clear hi h ho ha hb call ida idl
  go_enter Try.func65, Try.ntmps65
  obtain ⟨ga_, gb_, ea, eb, ga1_, gb1_, hrd⟩ := P0.out.rd (by omega)
  first | (subst ea; subst eb) | (injection ea with ea; injection ea with ea; subst ea; injection eb with eb; injection eb with eb; subst eb)
  have x0_ := P0.out.g.x.cell 0
  have x1_ := P0.out.g.x.cell 1
  have xl_ := P0.out.g.x.lt
  obtain ⟨l0_, -, l1_, l2_⟩ := hrd l (by omega)
  rw [HA.out] at l1_
  rw [HB.out] at l2_
  clear hrd
  go_wp2_with fail
  refine (CALL.out W P0.out).mono ?_
  rintro e w1 ⟨rfl, A1, n1, c1, B1, d1, p1, f1⟩
  have P1 : Hid (LsP w0 w1 X A1 n1 c1 B1 d1 t1) := Lib.hid p1
  have F1 := Lib.hid (F0.out.trans f1)
  clear p1 f1 CALL P0 F0 x0_ x1_ xl_ ga1_ gb1_ l0_ l1_ l2_
  have x2 := P1.out.g.x.cell 2
  have xl := P1.out.g.x.lt
  have n1e := P1.out.hr
  have n14 : n1 ≤ 401 := by have := HI1.out.len; omega
  have HA1 : Hid (Idx t1.1 a) := Lib.hid (O1.out.idx IDA.out)
  have ha1 := HA1.out.2
  rw [n1e] at ha1
  cases hf : t1.2 with
  | true =>
    have HE : Hid (rfLeft t1 a zi = (t1, 0)) := Lib.hid (by unfold rfLeft; rw [hf]; rfl)
    clear HE0
    rw [hf] at x2
    go_wp2_with fail
    go_ret
    rw [HE.out]
    exact ⟨rfl, A1, n1, c1, B1, d1, P1.out, F1.out⟩
  | false =>
    have iz : Idx t1.1 zi := O1.out.ix hf
    obtain ⟨z, rfl⟩ : ∃ z : Nat, zi = z := ⟨zi.toNat, by have := iz.1; omega⟩
    have HZ := Lib.hid iz
    have hz1 := iz.2
    rw [n1e] at hz1
    rw [hf] at x2
    have Hf := Lib.hid hf
    clear iz hf n1e
    have loa := HI1.out.i.lo a (by rw [P1.out.hr]; omega)
    have loz := HI1.out.i.lo z (by rw [P1.out.hr]; omega)
    obtain ⟨Dz, hDz⟩ : ∃ Dz, lvD t1.1 z = Dz := ⟨_, rfl⟩
    obtain ⟨Da, hDa⟩ : ∃ Da, lvD t1.1 a = Da := ⟨_, rfl⟩
    rw [hDz] at loz
    rw [hDa] at loa
    have HDz := Lib.hid hDz
    have HDa := Lib.hid hDa
    clear hDz hDa
    have z0 : (0 : Int) ≤ (z : Int) := by omega
    have a0 : (0 : Int) ≤ (a : Int) := by omega
    have ua : IntKind.i64.wrap (Da + 1) = Da + 1 := IntWalk.i64_in _ (by omega)
    by_cases q1 : Dz ≤ Da + 1
    · have HE := Lib.hid (show rfLeft t1 a (z : Int) = rfPair t1 a z by unfold rfLeft; rw [Hf.out, if_neg (by decide), HDz.out, HDa.out, if_pos q1])
      have hup := upc w1.heap.size w1
      obtain ⟨ga_5, gb_5, ea, eb, ga1_5, gb1_5, hrd⟩ := P1.out.rd (by omega)
      first | (subst ea; subst eb) | (injection ea with ea; injection ea with ea; subst ea; injection eb with eb; injection eb with eb; subst eb)
      have x0_5 := P1.out.g.x.cell 0
      have x1_5 := P1.out.g.x.cell 1
      have xl_5 := P1.out.g.x.lt
      obtain ⟨z0_5, -, z1_5, z2_5⟩ := hrd z (by omega)
      rw [HDz.out] at z0_5
      obtain ⟨a0_5, -, a1_5, a2_5⟩ := hrd a (by omega)
      rw [HDa.out] at a0_5
      clear hrd
      go_wp2_with fail
      refine wp_region_up w1.heap.size (by kernel_rfl) (by kernel_rfl) ?_
      repeat (go_big_quiet_step ((fail)))
      refine wpQuiet_nil ?_
      intro w5 hup_w5
      have hb := up_of hup_w5
      have P5 := Lib.hid (P1.out.next hb)
      have F5 := Lib.hid (F1.out.trans (LvF.of_below hb))
      clear hb hup hup_w5 x0_5 x1_5 xl_5 ga1_5 gb1_5 z0_5 z1_5 z2_5 a0_5 a1_5 a2_5
      have O2 := Lib.hid (rfPair_do HI1.out (fun _ => HA1.out) (fun _ => HZ.out))
      have C2 := Lib.hid (rfPair_any w0 X (a : Int) (z : Int) t1 _ n1 c1 _ d1 w5 HI1.out (fun _ => HA1.out) (fun _ => HZ.out) P5.out)
      generalize rfPair t1 (a : Int) (z : Int) = u2 at *
      obtain ⟨t2, i2⟩ := u2
      have HI2 : Hid (RfI t2) := Lib.hid O2.out.i
      go_wp2_with fail
      refine C2.out.mono ?_
      rintro e w6 ⟨rfl, A2, n2, c2, B2, d2, p, f⟩
      have P2 : Hid (LsP w0 w6 X A2 n2 c2 B2 d2 t2) := Lib.hid p
      have F2 := Lib.hid (F5.out.trans f)
      have ln2 : n1 ≤ n2 := by have h1 := O2.out.grow; have h2 := P2.out.hr; have h3 := P5.out.hr; (try simp only at h1); omega
      clear p f C2
      go_wp2_with fail
      go_ret
      rw [HE.out]
      exact ⟨rfl, A2, n2, c2, B2, d2, P2.out, F2.out⟩
    · obtain ⟨_, idc, idd, ltc, ltd, _⟩ := HI1.out.i.deep HZ.out (by rw [HDz.out]; omega)
      obtain ⟨zc, hc⟩ : ∃ k : Nat, (lvR t1.1 z).a = k := ⟨(lvR t1.1 z).a.toNat, by have := idc.1; omega⟩
      obtain ⟨zd, hd⟩ : ∃ k : Nat, (lvR t1.1 z).b = k := ⟨(lvR t1.1 z).b.toNat, by have := idd.1; omega⟩
      rw [hc] at idc ltc
      rw [hd] at idd ltd
      have HC := Lib.hid hc
      have HD := Lib.hid hd
      have IC := Lib.hid idc
      have ID := Lib.hid idd
      have loc := HI1.out.i.lo zc (by have := idc.2; omega)
      have lod := HI1.out.i.lo zd (by have := idd.2; omega)
      obtain ⟨Dc, hDc⟩ : ∃ Dc, lvD t1.1 zc = Dc := ⟨_, rfl⟩
      obtain ⟨Dd, hDd⟩ : ∃ Dd, lvD t1.1 zd = Dd := ⟨_, rfl⟩
      rw [hDc] at loc
      rw [hDd] at lod
      have HDc := Lib.hid hDc
      have HDd := Lib.hid hDd
      have c0 : (0 : Int) ≤ (zc : Int) := by omega
      have d0 : (0 : Int) ≤ (zd : Int) := by omega
      clear hc hd idc idd hDc hDd
      have hup := upc w1.heap.size w1
      obtain ⟨ga_5, gb_5, ea, eb, ga1_5, gb1_5, hrd⟩ := P1.out.rd (by omega)
      first | (subst ea; subst eb) | (injection ea with ea; injection ea with ea; subst ea; injection eb with eb; injection eb with eb; subst eb)
      have x0_5 := P1.out.g.x.cell 0
      have x1_5 := P1.out.g.x.cell 1
      have xl_5 := P1.out.g.x.lt
      obtain ⟨z0_5, -, z1_5, z2_5⟩ := hrd z (by omega)
      rw [HDz.out] at z0_5
      obtain ⟨a0_5, -, a1_5, a2_5⟩ := hrd a (by omega)
      rw [HDa.out] at a0_5
      clear hrd
      go_wp2_with fail
      refine wp_region_up w1.heap.size (by kernel_rfl) (by kernel_rfl) ?_
      repeat (go_big_quiet_step ((fail)))
      refine wpQuiet_nil ?_
      intro w5 hup_w5
      have hb := up_of hup_w5
      have P5 := Lib.hid (P1.out.next hb)
      have F5 := Lib.hid (F1.out.trans (LvF.of_below hb))
      clear hb hup hup_w5 x0_5 x1_5 xl_5 ga1_5 gb1_5 z0_5 z1_5 z2_5 a0_5 a1_5 a2_5
      by_cases q2 : Dc ≤ Dd
      · have HE := Lib.hid (show rfLeft t1 a (z : Int) = rfPair (rfPair t1 a zc).1 (rfPair t1 a zc).2 zd by unfold rfLeft; rw [Hf.out, if_neg (by decide), HDz.out, HDa.out, if_neg (show ¬ Dz ≤ Da + 1 by omega), HC.out, HD.out, HDc.out, HDd.out, if_pos q2])
        have hup := upc w5.heap.size w5
        obtain ⟨ga_7, gb_7, ea, eb, ga1_7, gb1_7, hrd⟩ := P5.out.rd (by omega)
        first | (subst ea; subst eb) | (injection ea with ea; injection ea with ea; subst ea; injection eb with eb; injection eb with eb; subst eb)
        have x0_7 := P5.out.g.x.cell 0
        have x1_7 := P5.out.g.x.cell 1
        have xl_7 := P5.out.g.x.lt
        obtain ⟨z0_7, -, z1_7, z2_7⟩ := hrd z (by omega)
        rw [HC.out] at z1_7
        rw [HD.out] at z2_7
        obtain ⟨zc0_7, -, zc1_7, zc2_7⟩ := hrd zc (by omega)
        rw [HDc.out] at zc0_7
        obtain ⟨zd0_7, -, zd1_7, zd2_7⟩ := hrd zd (by omega)
        rw [HDd.out] at zd0_7
        clear hrd
        go_wp2_with fail
        refine wp_region_up w5.heap.size (by kernel_rfl) (by kernel_rfl) ?_
        repeat (go_big_quiet_step ((fail)))
        refine wpQuiet_nil ?_
        intro w7 hup_w7
        have hb := up_of hup_w7
        have P7 := Lib.hid (P5.out.next hb)
        have F7 := Lib.hid (F5.out.trans (LvF.of_below hb))
        clear hb hup hup_w7 x0_7 x1_7 xl_7 ga1_7 gb1_7 z0_7 z1_7 z2_7 zc0_7 zc1_7 zc2_7 zd0_7 zd1_7 zd2_7
        have O2 := Lib.hid (rfPair_do HI1.out (fun _ => HA1.out) (fun _ => IC.out))
        have C2 := Lib.hid (rfPair_any w0 X (a : Int) (zc : Int) t1 _ n1 c1 _ d1 w7 HI1.out (fun _ => HA1.out) (fun _ => IC.out) P7.out)
        generalize rfPair t1 (a : Int) (zc : Int) = u2 at *
        obtain ⟨t2, i2⟩ := u2
        have HI2 : Hid (RfI t2) := Lib.hid O2.out.i
        go_wp2_with fail
        refine C2.out.mono ?_
        rintro e w8 ⟨rfl, A2, n2, c2, B2, d2, p, f⟩
        have P2 : Hid (LsP w0 w8 X A2 n2 c2 B2 d2 t2) := Lib.hid p
        have F2 := Lib.hid (F7.out.trans f)
        have ln2 : n1 ≤ n2 := by have h1 := O2.out.grow; have h2 := P2.out.hr; have h3 := P7.out.hr; (try simp only at h1); omega
        clear p f C2
        have O3 := Lib.hid (rfPair_do HI2.out O2.out.ix (fun _ => O2.out.idx ID.out))
        have C3 := Lib.hid (rfPair_any w0 X i2 (zd : Int) t2 _ n2 c2 _ d2 w8 HI2.out O2.out.ix (fun _ => O2.out.idx ID.out) P2.out)
        generalize rfPair t2 i2 (zd : Int) = u3 at *
        obtain ⟨t3, i3⟩ := u3
        have HI3 : Hid (RfI t3) := Lib.hid O3.out.i
        go_wp2_with fail
        refine C3.out.mono ?_
        rintro e w9 ⟨rfl, A3, n3, c3, B3, d3, p, f⟩
        have P3 : Hid (LsP w0 w9 X A3 n3 c3 B3 d3 t3) := Lib.hid p
        have F3 := Lib.hid (F2.out.trans f)
        have ln3 : n2 ≤ n3 := by have h1 := O3.out.grow; have h2 := P3.out.hr; have h3 := P2.out.hr; (try simp only at h1); omega
        clear p f C3
        go_wp2_with fail
        go_ret
        rw [HE.out]
        exact ⟨rfl, A3, n3, c3, B3, d3, P3.out, F3.out⟩
      · obtain ⟨_, ide, idf, lte, ltf, _⟩ := HI1.out.i.deep IC.out (by rw [HDc.out]; omega)
        obtain ⟨ca, hca⟩ : ∃ k : Nat, (lvR t1.1 zc).a = k := ⟨(lvR t1.1 zc).a.toNat, by have := ide.1; omega⟩
        obtain ⟨cb, hcb⟩ : ∃ k : Nat, (lvR t1.1 zc).b = k := ⟨(lvR t1.1 zc).b.toNat, by have := idf.1; omega⟩
        rw [hca] at ide lte
        rw [hcb] at idf ltf
        have HCA := Lib.hid hca
        have HCB := Lib.hid hcb
        have IE := Lib.hid ide
        have IF := Lib.hid idf
        clear hca hcb ide idf
        have HE := Lib.hid (show rfLeft t1 a (z : Int) = rfPair (rfPair (rfPair t1 a ca).1 cb zd).1 (rfPair t1 a ca).2 (rfPair (rfPair t1 a ca).1 cb zd).2 by unfold rfLeft; rw [Hf.out, if_neg (by decide), HDz.out, HDa.out, if_neg (show ¬ Dz ≤ Da + 1 by omega), HC.out, HD.out, HDc.out, HDd.out, if_neg q2, HCA.out, HCB.out])
        have hup := upc w5.heap.size w5
        obtain ⟨ga_7, gb_7, ea, eb, ga1_7, gb1_7, hrd⟩ := P5.out.rd (by omega)
        first | (subst ea; subst eb) | (injection ea with ea; injection ea with ea; subst ea; injection eb with eb; injection eb with eb; subst eb)
        have x0_7 := P5.out.g.x.cell 0
        have x1_7 := P5.out.g.x.cell 1
        have xl_7 := P5.out.g.x.lt
        obtain ⟨z0_7, -, z1_7, z2_7⟩ := hrd z (by omega)
        rw [HC.out] at z1_7
        rw [HD.out] at z2_7
        obtain ⟨zc0_7, -, zc1_7, zc2_7⟩ := hrd zc (by omega)
        rw [HDc.out] at zc0_7
        obtain ⟨zd0_7, -, zd1_7, zd2_7⟩ := hrd zd (by omega)
        rw [HDd.out] at zd0_7
        clear hrd
        go_wp2_with fail
        refine wp_region_up w5.heap.size (by kernel_rfl) (by kernel_rfl) ?_
        repeat (go_big_quiet_step ((fail)))
        refine wpQuiet_nil ?_
        intro w7 hup_w7
        have hb := up_of hup_w7
        have P7 := Lib.hid (P5.out.next hb)
        have F7 := Lib.hid (F5.out.trans (LvF.of_below hb))
        clear hb hup hup_w7 x0_7 x1_7 xl_7 ga1_7 gb1_7 z0_7 z1_7 z2_7 zc0_7 zc1_7 zc2_7 zd0_7 zd1_7 zd2_7
        obtain ⟨ga_8, gb_8, ea, eb, ga1_8, gb1_8, hrd⟩ := P7.out.rd (by omega)
        first | (subst ea; subst eb) | (injection ea with ea; injection ea with ea; subst ea; injection eb with eb; injection eb with eb; subst eb)
        have x0_8 := P7.out.g.x.cell 0
        have x1_8 := P7.out.g.x.cell 1
        have xl_8 := P7.out.g.x.lt
        obtain ⟨zc0_8, -, zc1_8, zc2_8⟩ := hrd zc (by omega)
        rw [HCA.out] at zc1_8
        rw [HCB.out] at zc2_8
        clear hrd
        have O2 := Lib.hid (rfPair_do HI1.out (fun _ => HA1.out) (fun _ => IE.out))
        have C2 := Lib.hid (rfPair_any w0 X (a : Int) (ca : Int) t1 _ n1 c1 _ d1 w7 HI1.out (fun _ => HA1.out) (fun _ => IE.out) P7.out)
        generalize rfPair t1 (a : Int) (ca : Int) = u2 at *
        obtain ⟨t2, i2⟩ := u2
        have HI2 : Hid (RfI t2) := Lib.hid O2.out.i
        go_wp2_with fail
        refine C2.out.mono ?_
        rintro e w9 ⟨rfl, A2, n2, c2, B2, d2, p, f⟩
        have P2 : Hid (LsP w0 w9 X A2 n2 c2 B2 d2 t2) := Lib.hid p
        have F2 := Lib.hid (F7.out.trans f)
        have ln2 : n1 ≤ n2 := by have h1 := O2.out.grow; have h2 := P2.out.hr; have h3 := P7.out.hr; (try simp only at h1); omega
        clear p f C2
        clear x0_8 x1_8 xl_8 ga1_8 gb1_8 zc0_8 zc1_8 zc2_8
        have HCB2 : Hid ((lvR t2.1 (zc : Int)).b = cb) := Lib.hid (by rw [O2.out.r IC.out]; exact HCB.out)
        obtain ⟨ga_9, gb_9, ea, eb, ga1_9, gb1_9, hrd⟩ := P2.out.rd (by omega)
        first | (subst ea; subst eb) | (injection ea with ea; injection ea with ea; subst ea; injection eb with eb; injection eb with eb; subst eb)
        have x0_9 := P2.out.g.x.cell 0
        have x1_9 := P2.out.g.x.cell 1
        have xl_9 := P2.out.g.x.lt
        obtain ⟨zc0_9, -, zc1_9, zc2_9⟩ := hrd zc (by omega)
        rw [HCB2.out] at zc2_9
        clear hrd
        have O3 := Lib.hid (rfPair_do HI2.out (fun _ => O2.out.idx IF.out) (fun _ => O2.out.idx ID.out))
        have C3 := Lib.hid (rfPair_any w0 X (cb : Int) (zd : Int) t2 _ n2 c2 _ d2 w9 HI2.out (fun _ => O2.out.idx IF.out) (fun _ => O2.out.idx ID.out) P2.out)
        generalize rfPair t2 (cb : Int) (zd : Int) = u3 at *
        obtain ⟨t3, i3⟩ := u3
        have HI3 : Hid (RfI t3) := Lib.hid O3.out.i
        go_wp2_with fail
        refine C3.out.mono ?_
        rintro e w10 ⟨rfl, A3, n3, c3, B3, d3, p, f⟩
        have P3 : Hid (LsP w0 w10 X A3 n3 c3 B3 d3 t3) := Lib.hid p
        have F3 := Lib.hid (F2.out.trans f)
        have ln3 : n2 ≤ n3 := by have h1 := O3.out.grow; have h2 := P3.out.hr; have h3 := P2.out.hr; (try simp only at h1); omega
        clear p f C3
        clear x0_9 x1_9 xl_9 ga1_9 gb1_9 zc0_9 zc1_9 zc2_9
        have b1 : t3.2 = false → t2.2 = false := fun e => by
          cases q : t2.2 with
          | false => rfl
          | true => have h := O3.out.full q; (try simp only at h); rw [h] at e; cases e
        have O4 := Lib.hid (rfPair_do HI3.out (fun e => O3.out.idx (O2.out.ix (b1 e))) O3.out.ix)
        have C4 := Lib.hid (rfPair_any w0 X i2 i3 t3 _ n3 c3 _ d3 w10 HI3.out (fun e => O3.out.idx (O2.out.ix (b1 e))) O3.out.ix P3.out)
        generalize rfPair t3 i2 i3 = u4 at *
        obtain ⟨t4, i4⟩ := u4
        have HI4 : Hid (RfI t4) := Lib.hid O4.out.i
        go_wp2_with fail
        refine C4.out.mono ?_
        rintro e w11 ⟨rfl, A4, n4, c4, B4, d4, p, f⟩
        have P4 : Hid (LsP w0 w11 X A4 n4 c4 B4 d4 t4) := Lib.hid p
        have F4 := Lib.hid (F3.out.trans f)
        have ln4 : n3 ≤ n4 := by have h1 := O4.out.grow; have h2 := P4.out.hr; have h3 := P3.out.hr; (try simp only at h1); omega
        clear p f C4
        go_wp2_with fail
        go_ret
        rw [HE.out]
        exact ⟨rfl, A4, n4, c4, B4, d4, P4.out, F4.out⟩
set_option maxHeartbeats 8000000 in
set_option maxRecDepth 100000 in
theorem rfRight_any (w0 : World) (X : Nat) (l r a b : Nat) (s : LvS) (u1 : (LvS × Bool) × Int) (A : Option Addr) (n c : Nat) (B : Option Addr) (d : Nat) (W : World) (hi : LvI s) (hl4 : s.rs.length ≤ 401) (idl : Idx s r) (ha : (lvR s r).b = a) (hb : (lvR s r).a = b) (ida : Idx s a)
    (ho : RfO (s, false) u1.1 u1.2) (call : ∀ W4, LsP w0 W4 X A n c B d (s, false) → Calls Try.prog 45 #[.pointer (some ⟨X, 0, none⟩), .int .i64 l, .int .i64 b] W4 (LsQ w0 W4 X (.slice A n c) (.slice B n d) u1)) (h : LsP w0 W X A n c B d (s, false)) :
    Calls Try.prog 66 #[.pointer (some ⟨X, 0, none⟩), .int .i64 l, .int .i64 r] W (LsQ w0 W X (.slice A n c) (.slice B n d) (rfRight u1.1 a u1.2)) := by
  have HI := Lib.hid hi
  have P0 := Lib.hid h
  have O1 := Lib.hid ho
  have HA := Lib.hid ha
  have HB := Lib.hid hb
  have CALL := Lib.hid call
  have IDA := Lib.hid ida
  have hln : r < n := by have := idl.2; have := h.hr; simp only at this; omega
  have hn4 : n ≤ 401 := by have := h.hr; simp only at this; omega
  have F0 := Lib.hid (LvF.of_below (X := X) (M := X) (v := .slice A n c) (u := .slice B n d) (Below.refl W.heap.size W))
  obtain ⟨t1, zi⟩ := u1
  simp only at O1
  have HI1 : Hid (RfI t1) := Lib.hid O1.out.i
  have HE0 := Lib.hid (show rfRight t1 a zi = rfRight t1 a zi from rfl)
  have r0 : (0 : Int) ≤ (r : Int) := by omega
  have r1_ : (r : Int) < (n : Int) := by omega
  clear hi h ho ha hb call ida idl
  go_enter Try.func66, Try.ntmps66
  obtain ⟨ga_, gb_, ea, eb, ga1_, gb1_, hrd⟩ := P0.out.rd (by omega)
  first | (subst ea; subst eb) | (injection ea with ea; injection ea with ea; subst ea; injection eb with eb; injection eb with eb; subst eb)
  have x0_ := P0.out.g.x.cell 0
  have x1_ := P0.out.g.x.cell 1
  have xl_ := P0.out.g.x.lt
  obtain ⟨r0_, -, r1_, r2_⟩ := hrd r (by omega)
  rw [HB.out] at r1_
  rw [HA.out] at r2_
  clear hrd
  go_wp2_with fail
  refine (CALL.out W P0.out).mono ?_
  rintro e w1 ⟨rfl, A1, n1, c1, B1, d1, p1, f1⟩
  have P1 : Hid (LsP w0 w1 X A1 n1 c1 B1 d1 t1) := Lib.hid p1
  have F1 := Lib.hid (F0.out.trans f1)
  clear p1 f1 CALL P0 F0 x0_ x1_ xl_ ga1_ gb1_ r0_ r1_ r2_
  have x2 := P1.out.g.x.cell 2
  have xl := P1.out.g.x.lt
  have n1e := P1.out.hr
  have n14 : n1 ≤ 401 := by have := HI1.out.len; omega
  have HA1 : Hid (Idx t1.1 a) := Lib.hid (O1.out.idx IDA.out)
  have ha1 := HA1.out.2
  rw [n1e] at ha1
  cases hf : t1.2 with
  | true =>
    have HE : Hid (rfRight t1 a zi = (t1, 0)) := Lib.hid (by unfold rfRight; rw [hf]; rfl)
    clear HE0
    rw [hf] at x2
    go_wp2_with fail
    go_ret
    rw [HE.out]
    exact ⟨rfl, A1, n1, c1, B1, d1, P1.out, F1.out⟩
  | false =>
    have iz : Idx t1.1 zi := O1.out.ix hf
    obtain ⟨z, rfl⟩ : ∃ z : Nat, zi = z := ⟨zi.toNat, by have := iz.1; omega⟩
    have HZ := Lib.hid iz
    have hz1 := iz.2
    rw [n1e] at hz1
    rw [hf] at x2
    have Hf := Lib.hid hf
    clear iz hf n1e
    have loa := HI1.out.i.lo a (by rw [P1.out.hr]; omega)
    have loz := HI1.out.i.lo z (by rw [P1.out.hr]; omega)
    obtain ⟨Dz, hDz⟩ : ∃ Dz, lvD t1.1 z = Dz := ⟨_, rfl⟩
    obtain ⟨Da, hDa⟩ : ∃ Da, lvD t1.1 a = Da := ⟨_, rfl⟩
    rw [hDz] at loz
    rw [hDa] at loa
    have HDz := Lib.hid hDz
    have HDa := Lib.hid hDa
    clear hDz hDa
    have z0 : (0 : Int) ≤ (z : Int) := by omega
    have a0 : (0 : Int) ≤ (a : Int) := by omega
    have ua : IntKind.i64.wrap (Da + 1) = Da + 1 := IntWalk.i64_in _ (by omega)
    by_cases q1 : Dz ≤ Da + 1
    · have HE := Lib.hid (show rfRight t1 a (z : Int) = rfPair t1 z a by unfold rfRight; rw [Hf.out, if_neg (by decide), HDz.out, HDa.out, if_pos q1])
      have hup := upc w1.heap.size w1
      obtain ⟨ga_5, gb_5, ea, eb, ga1_5, gb1_5, hrd⟩ := P1.out.rd (by omega)
      first | (subst ea; subst eb) | (injection ea with ea; injection ea with ea; subst ea; injection eb with eb; injection eb with eb; subst eb)
      have x0_5 := P1.out.g.x.cell 0
      have x1_5 := P1.out.g.x.cell 1
      have xl_5 := P1.out.g.x.lt
      obtain ⟨z0_5, -, z1_5, z2_5⟩ := hrd z (by omega)
      rw [HDz.out] at z0_5
      obtain ⟨a0_5, -, a1_5, a2_5⟩ := hrd a (by omega)
      rw [HDa.out] at a0_5
      clear hrd
      go_wp2_with fail
      refine wp_region_up w1.heap.size (by kernel_rfl) (by kernel_rfl) ?_
      repeat (go_big_quiet_step ((fail)))
      refine wpQuiet_nil ?_
      intro w5 hup_w5
      have hb := up_of hup_w5
      have P5 := Lib.hid (P1.out.next hb)
      have F5 := Lib.hid (F1.out.trans (LvF.of_below hb))
      clear hb hup hup_w5 x0_5 x1_5 xl_5 ga1_5 gb1_5 z0_5 z1_5 z2_5 a0_5 a1_5 a2_5
      have O2 := Lib.hid (rfPair_do HI1.out (fun _ => HZ.out) (fun _ => HA1.out))
      have C2 := Lib.hid (rfPair_any w0 X (z : Int) (a : Int) t1 _ n1 c1 _ d1 w5 HI1.out (fun _ => HZ.out) (fun _ => HA1.out) P5.out)
      generalize rfPair t1 (z : Int) (a : Int) = u2 at *
      obtain ⟨t2, i2⟩ := u2
      have HI2 : Hid (RfI t2) := Lib.hid O2.out.i
      go_wp2_with fail
      refine C2.out.mono ?_
      rintro e w6 ⟨rfl, A2, n2, c2, B2, d2, p, f⟩
      have P2 : Hid (LsP w0 w6 X A2 n2 c2 B2 d2 t2) := Lib.hid p
      have F2 := Lib.hid (F5.out.trans f)
      have ln2 : n1 ≤ n2 := by have h1 := O2.out.grow; have h2 := P2.out.hr; have h3 := P5.out.hr; (try simp only at h1); omega
      clear p f C2
      go_wp2_with fail
      go_ret
      rw [HE.out]
      exact ⟨rfl, A2, n2, c2, B2, d2, P2.out, F2.out⟩
    · obtain ⟨_, idc, idd, ltc, ltd, _⟩ := HI1.out.i.deep HZ.out (by rw [HDz.out]; omega)
      obtain ⟨idc, idd, ltc, ltd⟩ : Idx t1.1 (lvR t1.1 z).b ∧ Idx t1.1 (lvR t1.1 z).a ∧ (lvR t1.1 z).b < (z : Int) ∧ (lvR t1.1 z).a < (z : Int) := ⟨idd, idc, ltd, ltc⟩
      obtain ⟨zc, hc⟩ : ∃ k : Nat, (lvR t1.1 z).b = k := ⟨(lvR t1.1 z).b.toNat, by have := idc.1; omega⟩
      obtain ⟨zd, hd⟩ : ∃ k : Nat, (lvR t1.1 z).a = k := ⟨(lvR t1.1 z).a.toNat, by have := idd.1; omega⟩
      rw [hc] at idc ltc
      rw [hd] at idd ltd
      have HC := Lib.hid hc
      have HD := Lib.hid hd
      have IC := Lib.hid idc
      have ID := Lib.hid idd
      have loc := HI1.out.i.lo zc (by have := idc.2; omega)
      have lod := HI1.out.i.lo zd (by have := idd.2; omega)
      obtain ⟨Dc, hDc⟩ : ∃ Dc, lvD t1.1 zc = Dc := ⟨_, rfl⟩
      obtain ⟨Dd, hDd⟩ : ∃ Dd, lvD t1.1 zd = Dd := ⟨_, rfl⟩
      rw [hDc] at loc
      rw [hDd] at lod
      have HDc := Lib.hid hDc
      have HDd := Lib.hid hDd
      have c0 : (0 : Int) ≤ (zc : Int) := by omega
      have d0 : (0 : Int) ≤ (zd : Int) := by omega
      clear hc hd idc idd hDc hDd
      have hup := upc w1.heap.size w1
      obtain ⟨ga_5, gb_5, ea, eb, ga1_5, gb1_5, hrd⟩ := P1.out.rd (by omega)
      first | (subst ea; subst eb) | (injection ea with ea; injection ea with ea; subst ea; injection eb with eb; injection eb with eb; subst eb)
      have x0_5 := P1.out.g.x.cell 0
      have x1_5 := P1.out.g.x.cell 1
      have xl_5 := P1.out.g.x.lt
      obtain ⟨z0_5, -, z1_5, z2_5⟩ := hrd z (by omega)
      rw [HDz.out] at z0_5
      obtain ⟨a0_5, -, a1_5, a2_5⟩ := hrd a (by omega)
      rw [HDa.out] at a0_5
      clear hrd
      go_wp2_with fail
      refine wp_region_up w1.heap.size (by kernel_rfl) (by kernel_rfl) ?_
      repeat (go_big_quiet_step ((fail)))
      refine wpQuiet_nil ?_
      intro w5 hup_w5
      have hb := up_of hup_w5
      have P5 := Lib.hid (P1.out.next hb)
      have F5 := Lib.hid (F1.out.trans (LvF.of_below hb))
      clear hb hup hup_w5 x0_5 x1_5 xl_5 ga1_5 gb1_5 z0_5 z1_5 z2_5 a0_5 a1_5 a2_5
      by_cases q2 : Dc ≤ Dd
      · have HE := Lib.hid (show rfRight t1 a (z : Int) = rfPair (rfPair t1 zc a).1 zd (rfPair t1 zc a).2 by unfold rfRight; rw [Hf.out, if_neg (by decide), HDz.out, HDa.out, if_neg (show ¬ Dz ≤ Da + 1 by omega), HC.out, HD.out, HDc.out, HDd.out, if_pos q2])
        have hup := upc w5.heap.size w5
        obtain ⟨ga_7, gb_7, ea, eb, ga1_7, gb1_7, hrd⟩ := P5.out.rd (by omega)
        first | (subst ea; subst eb) | (injection ea with ea; injection ea with ea; subst ea; injection eb with eb; injection eb with eb; subst eb)
        have x0_7 := P5.out.g.x.cell 0
        have x1_7 := P5.out.g.x.cell 1
        have xl_7 := P5.out.g.x.lt
        obtain ⟨z0_7, -, z1_7, z2_7⟩ := hrd z (by omega)
        rw [HD.out] at z1_7
        rw [HC.out] at z2_7
        obtain ⟨zc0_7, -, zc1_7, zc2_7⟩ := hrd zc (by omega)
        rw [HDc.out] at zc0_7
        obtain ⟨zd0_7, -, zd1_7, zd2_7⟩ := hrd zd (by omega)
        rw [HDd.out] at zd0_7
        clear hrd
        go_wp2_with fail
        refine wp_region_up w5.heap.size (by kernel_rfl) (by kernel_rfl) ?_
        repeat (go_big_quiet_step ((fail)))
        refine wpQuiet_nil ?_
        intro w7 hup_w7
        have hb := up_of hup_w7
        have P7 := Lib.hid (P5.out.next hb)
        have F7 := Lib.hid (F5.out.trans (LvF.of_below hb))
        clear hb hup hup_w7 x0_7 x1_7 xl_7 ga1_7 gb1_7 z0_7 z1_7 z2_7 zc0_7 zc1_7 zc2_7 zd0_7 zd1_7 zd2_7
        have O2 := Lib.hid (rfPair_do HI1.out (fun _ => IC.out) (fun _ => HA1.out))
        have C2 := Lib.hid (rfPair_any w0 X (zc : Int) (a : Int) t1 _ n1 c1 _ d1 w7 HI1.out (fun _ => IC.out) (fun _ => HA1.out) P7.out)
        generalize rfPair t1 (zc : Int) (a : Int) = u2 at *
        obtain ⟨t2, i2⟩ := u2
        have HI2 : Hid (RfI t2) := Lib.hid O2.out.i
        go_wp2_with fail
        refine C2.out.mono ?_
        rintro e w8 ⟨rfl, A2, n2, c2, B2, d2, p, f⟩
        have P2 : Hid (LsP w0 w8 X A2 n2 c2 B2 d2 t2) := Lib.hid p
        have F2 := Lib.hid (F7.out.trans f)
        have ln2 : n1 ≤ n2 := by have h1 := O2.out.grow; have h2 := P2.out.hr; have h3 := P7.out.hr; (try simp only at h1); omega
        clear p f C2
        have O3 := Lib.hid (rfPair_do HI2.out (fun _ => O2.out.idx ID.out) O2.out.ix)
        have C3 := Lib.hid (rfPair_any w0 X (zd : Int) i2 t2 _ n2 c2 _ d2 w8 HI2.out (fun _ => O2.out.idx ID.out) O2.out.ix P2.out)
        generalize rfPair t2 (zd : Int) i2 = u3 at *
        obtain ⟨t3, i3⟩ := u3
        have HI3 : Hid (RfI t3) := Lib.hid O3.out.i
        go_wp2_with fail
        refine C3.out.mono ?_
        rintro e w9 ⟨rfl, A3, n3, c3, B3, d3, p, f⟩
        have P3 : Hid (LsP w0 w9 X A3 n3 c3 B3 d3 t3) := Lib.hid p
        have F3 := Lib.hid (F2.out.trans f)
        have ln3 : n2 ≤ n3 := by have h1 := O3.out.grow; have h2 := P3.out.hr; have h3 := P2.out.hr; (try simp only at h1); omega
        clear p f C3
        go_wp2_with fail
        go_ret
        rw [HE.out]
        exact ⟨rfl, A3, n3, c3, B3, d3, P3.out, F3.out⟩
      · obtain ⟨_, ide, idf, lte, ltf, _⟩ := HI1.out.i.deep IC.out (by rw [HDc.out]; omega)
        obtain ⟨ca, hca⟩ : ∃ k : Nat, (lvR t1.1 zc).a = k := ⟨(lvR t1.1 zc).a.toNat, by have := ide.1; omega⟩
        obtain ⟨cb, hcb⟩ : ∃ k : Nat, (lvR t1.1 zc).b = k := ⟨(lvR t1.1 zc).b.toNat, by have := idf.1; omega⟩
        rw [hca] at ide lte
        rw [hcb] at idf ltf
        have HCA := Lib.hid hca
        have HCB := Lib.hid hcb
        have IE := Lib.hid ide
        have IF := Lib.hid idf
        clear hca hcb ide idf
        have HE := Lib.hid (show rfRight t1 a (z : Int) = rfPair (rfPair (rfPair t1 zd ca).1 cb a).1 (rfPair t1 zd ca).2 (rfPair (rfPair t1 zd ca).1 cb a).2 by unfold rfRight; rw [Hf.out, if_neg (by decide), HDz.out, HDa.out, if_neg (show ¬ Dz ≤ Da + 1 by omega), HC.out, HD.out, HDc.out, HDd.out, if_neg q2, HCA.out, HCB.out])
        have hup := upc w5.heap.size w5
        obtain ⟨ga_7, gb_7, ea, eb, ga1_7, gb1_7, hrd⟩ := P5.out.rd (by omega)
        first | (subst ea; subst eb) | (injection ea with ea; injection ea with ea; subst ea; injection eb with eb; injection eb with eb; subst eb)
        have x0_7 := P5.out.g.x.cell 0
        have x1_7 := P5.out.g.x.cell 1
        have xl_7 := P5.out.g.x.lt
        obtain ⟨z0_7, -, z1_7, z2_7⟩ := hrd z (by omega)
        rw [HD.out] at z1_7
        rw [HC.out] at z2_7
        obtain ⟨zc0_7, -, zc1_7, zc2_7⟩ := hrd zc (by omega)
        rw [HDc.out] at zc0_7
        obtain ⟨zd0_7, -, zd1_7, zd2_7⟩ := hrd zd (by omega)
        rw [HDd.out] at zd0_7
        clear hrd
        go_wp2_with fail
        refine wp_region_up w5.heap.size (by kernel_rfl) (by kernel_rfl) ?_
        repeat (go_big_quiet_step ((fail)))
        refine wpQuiet_nil ?_
        intro w7 hup_w7
        have hb := up_of hup_w7
        have P7 := Lib.hid (P5.out.next hb)
        have F7 := Lib.hid (F5.out.trans (LvF.of_below hb))
        clear hb hup hup_w7 x0_7 x1_7 xl_7 ga1_7 gb1_7 z0_7 z1_7 z2_7 zc0_7 zc1_7 zc2_7 zd0_7 zd1_7 zd2_7
        obtain ⟨ga_8, gb_8, ea, eb, ga1_8, gb1_8, hrd⟩ := P7.out.rd (by omega)
        first | (subst ea; subst eb) | (injection ea with ea; injection ea with ea; subst ea; injection eb with eb; injection eb with eb; subst eb)
        have x0_8 := P7.out.g.x.cell 0
        have x1_8 := P7.out.g.x.cell 1
        have xl_8 := P7.out.g.x.lt
        obtain ⟨zc0_8, -, zc1_8, zc2_8⟩ := hrd zc (by omega)
        rw [HCA.out] at zc1_8
        rw [HCB.out] at zc2_8
        clear hrd
        have O2 := Lib.hid (rfPair_do HI1.out (fun _ => ID.out) (fun _ => IE.out))
        have C2 := Lib.hid (rfPair_any w0 X (zd : Int) (ca : Int) t1 _ n1 c1 _ d1 w7 HI1.out (fun _ => ID.out) (fun _ => IE.out) P7.out)
        generalize rfPair t1 (zd : Int) (ca : Int) = u2 at *
        obtain ⟨t2, i2⟩ := u2
        have HI2 : Hid (RfI t2) := Lib.hid O2.out.i
        go_wp2_with fail
        refine C2.out.mono ?_
        rintro e w9 ⟨rfl, A2, n2, c2, B2, d2, p, f⟩
        have P2 : Hid (LsP w0 w9 X A2 n2 c2 B2 d2 t2) := Lib.hid p
        have F2 := Lib.hid (F7.out.trans f)
        have ln2 : n1 ≤ n2 := by have h1 := O2.out.grow; have h2 := P2.out.hr; have h3 := P7.out.hr; (try simp only at h1); omega
        clear p f C2
        clear x0_8 x1_8 xl_8 ga1_8 gb1_8 zc0_8 zc1_8 zc2_8
        have HCB2 : Hid ((lvR t2.1 (zc : Int)).b = cb) := Lib.hid (by rw [O2.out.r IC.out]; exact HCB.out)
        obtain ⟨ga_9, gb_9, ea, eb, ga1_9, gb1_9, hrd⟩ := P2.out.rd (by omega)
        first | (subst ea; subst eb) | (injection ea with ea; injection ea with ea; subst ea; injection eb with eb; injection eb with eb; subst eb)
        have x0_9 := P2.out.g.x.cell 0
        have x1_9 := P2.out.g.x.cell 1
        have xl_9 := P2.out.g.x.lt
        obtain ⟨zc0_9, -, zc1_9, zc2_9⟩ := hrd zc (by omega)
        rw [HCB2.out] at zc2_9
        clear hrd
        have O3 := Lib.hid (rfPair_do HI2.out (fun _ => O2.out.idx IF.out) (fun _ => O2.out.idx HA1.out))
        have C3 := Lib.hid (rfPair_any w0 X (cb : Int) (a : Int) t2 _ n2 c2 _ d2 w9 HI2.out (fun _ => O2.out.idx IF.out) (fun _ => O2.out.idx HA1.out) P2.out)
        generalize rfPair t2 (cb : Int) (a : Int) = u3 at *
        obtain ⟨t3, i3⟩ := u3
        have HI3 : Hid (RfI t3) := Lib.hid O3.out.i
        go_wp2_with fail
        refine C3.out.mono ?_
        rintro e w10 ⟨rfl, A3, n3, c3, B3, d3, p, f⟩
        have P3 : Hid (LsP w0 w10 X A3 n3 c3 B3 d3 t3) := Lib.hid p
        have F3 := Lib.hid (F2.out.trans f)
        have ln3 : n2 ≤ n3 := by have h1 := O3.out.grow; have h2 := P3.out.hr; have h3 := P2.out.hr; (try simp only at h1); omega
        clear p f C3
        clear x0_9 x1_9 xl_9 ga1_9 gb1_9 zc0_9 zc1_9 zc2_9
        have b1 : t3.2 = false → t2.2 = false := fun e => by
          cases q : t2.2 with
          | false => rfl
          | true => have h := O3.out.full q; (try simp only at h); rw [h] at e; cases e
        have O4 := Lib.hid (rfPair_do HI3.out (fun e => O3.out.idx (O2.out.ix (b1 e))) O3.out.ix)
        have C4 := Lib.hid (rfPair_any w0 X i2 i3 t3 _ n3 c3 _ d3 w10 HI3.out (fun e => O3.out.idx (O2.out.ix (b1 e))) O3.out.ix P3.out)
        generalize rfPair t3 i2 i3 = u4 at *
        obtain ⟨t4, i4⟩ := u4
        have HI4 : Hid (RfI t4) := Lib.hid O4.out.i
        go_wp2_with fail
        refine C4.out.mono ?_
        rintro e w11 ⟨rfl, A4, n4, c4, B4, d4, p, f⟩
        have P4 : Hid (LsP w0 w11 X A4 n4 c4 B4 d4 t4) := Lib.hid p
        have F4 := Lib.hid (F3.out.trans f)
        have ln4 : n3 ≤ n4 := by have h1 := O4.out.grow; have h2 := P4.out.hr; have h3 := P3.out.hr; (try simp only at h1); omega
        clear p f C4
        go_wp2_with fail
        go_ret
        rw [HE.out]
        exact ⟨rfl, A4, n4, c4, B4, d4, P4.out, F4.out⟩
set_option maxHeartbeats 8000000 in
set_option maxRecDepth 100000 in
theorem rfLevel_any (w0 : World) (X : Nat) : ∀ (f : Nat) (l r : Nat) (s : LvS) (A : Option Addr) (n c : Nat) (B : Option Addr) (d : Nat) (W : World), LvI s → s.rs.length ≤ 401 → Idx s l → Idx s r → l + r ≤ f → LsP w0 W X A n c B d (s, false) →
    Calls Try.prog 45 #[.pointer (some ⟨X, 0, none⟩), .int .i64 l, .int .i64 r] W (LsQ w0 W X (.slice A n c) (.slice B n d) (rfLevel f s l r)) := by
  intro f
  induction f using Nat.strongRecOn with
  | ind f ih =>
    intro l r s A n c B d W hi hl4 hl hr hf h
    have IH := Lib.hid ih; clear ih
    have HI := Lib.hid hi
    have P0 := Lib.hid h
    have HL := Lib.hid hl
    have HR := Lib.hid hr
    have hn4 : n ≤ 401 := by have := h.hr; simp only at this; omega
    have hln : l < n := by have := hl.2; have := h.hr; simp only at this; omega
    have hrn : r < n := by have := hr.2; have := h.hr; simp only at this; omega
    have dl := hi.lo l (by have := hl.2; omega)
    have dr := hi.lo r (by have := hr.2; omega)
    have HE := Lib.hid (rfLevel_eq (f := f) hi hl hr (by omega))
    have H4 := Lib.hid hl4
    have F0 := Lib.hid (LvF.of_below (X := X) (M := X) (v := .slice A n c) (u := .slice B n d) (Below.refl W.heap.size W))
    have x2 := h.g.x.cell 2
    have xl := h.g.x.lt
    obtain ⟨D1, hD1⟩ : ∃ D1, lvD s l = D1 := ⟨_, rfl⟩
    obtain ⟨D2, hD2⟩ : ∃ D2, lvD s r = D2 := ⟨_, rfl⟩
    have HE2 := HE.out
    rw [hD1, hD2] at HE2
    rw [hD1] at dl
    rw [hD2] at dr
    have HD1 := Lib.hid hD1
    have HD2 := Lib.hid hD2
    have l0 : (0 : Int) ≤ (l : Int) := by omega
    have r0 : (0 : Int) ≤ (r : Int) := by omega
    have u1 : IntKind.i64.wrap (D1 + 1) = D1 + 1 := IntWalk.i64_in _ (by omega)
    have u2 : IntKind.i64.wrap (D2 + 1) = D2 + 1 := IntWalk.i64_in _ (by omega)
    clear hi h hl hr hD1 hD2 HE hl4
    by_cases h1 : 1 < D1 - D2
    · rw [if_pos h1] at HE2
      obtain ⟨_, ida, idb, lta, ltb, _⟩ := HI.out.deep HL.out (by rw [HD1.out]; omega)
      obtain ⟨a, ha⟩ : ∃ a : Nat, (lvR s l).a = a := ⟨(lvR s l).a.toNat, by have := ida.1; omega⟩
      obtain ⟨b, hb⟩ : ∃ b : Nat, (lvR s l).b = b := ⟨(lvR s l).b.toNat, by have := idb.1; omega⟩
      rw [ha, hb] at HE2
      have HA := Lib.hid ha
      have HB := Lib.hid hb
      rw [ha] at ida lta
      rw [hb] at idb ltb
      have IDA := Lib.hid ida
      have IDB := Lib.hid idb
      have O1 := Lib.hid (rfLevel_do (f - 1) HI.out H4.out IDB.out HR.out (by omega)).1
      have LF := Lib.hid (fun W3 (h3 : LsP w0 W3 X A n c B d (s, false)) => rfLeft_any w0 X l r a b s _ A n c B d W3 HI.out H4.out HL.out HA.out HB.out IDA.out O1 (fun W4 h4 => IH.out (f - 1) (by omega) b r s A n c B d W4 HI.out H4.out IDB.out HR.out (by omega) h4) h3)
      have HE := Lib.hid HE2
      clear HE2 ha hb ida idb IH lta ltb O1
      have t1 : D2 + 1 < D1 := by omega
      rw [HE.out]
      go_enter Try.func45, Try.ntmps45
      have hup := upc W.heap.size W
      obtain ⟨ga_2, gb_2, ea, eb, ga1_2, gb1_2, hrd⟩ := P0.out.rd (by omega)
      first | (subst ea; subst eb) | (injection ea with ea; injection ea with ea; subst ea; injection eb with eb; injection eb with eb; subst eb)
      have x0_2 := P0.out.g.x.cell 0
      have x1_2 := P0.out.g.x.cell 1
      have xl_2 := P0.out.g.x.lt
      obtain ⟨l0_2, -, l1_2, l2_2⟩ := hrd l (by omega)
      rw [HD1.out] at l0_2
      obtain ⟨r0_2, -, r1_2, r2_2⟩ := hrd r (by omega)
      rw [HD2.out] at r0_2
      clear hrd
      go_wp2_with fail
      refine wp_region_up W.heap.size (by kernel_rfl) (by kernel_rfl) ?_
      repeat (go_big_quiet_step ((fail)))
      refine wpQuiet_nil ?_
      intro w2 hup_w2
      have hb := up_of hup_w2
      have P2 := Lib.hid (P0.out.next hb)
      have F2 := Lib.hid (F0.out.trans (LvF.of_below hb))
      clear hb hup hup_w2 x0_2 x1_2 xl_2 ga1_2 gb1_2 l0_2 l1_2 l2_2 r0_2 r1_2 r2_2
      generalize rfLeft _ _ _ = tt at *
      go_wp2_with fail
      refine (LF.out w2 P2.out).mono ?_
      rintro e w5 ⟨rfl, A5, n5, c5, B5, d5, p5, f5⟩
      have P5 := Lib.hid p5
      have F5 := Lib.hid (F2.out.trans f5)
      clear p5 f5
      go_wp2_with fail
      go_ret
      exact ⟨rfl, A5, n5, c5, B5, d5, P5.out, F5.out⟩
    · by_cases h2 : D1 - D2 < -1
      · rw [if_neg h1, if_pos h2] at HE2
        obtain ⟨_, ida, idb, lta, ltb, _⟩ := HI.out.deep HR.out (by rw [HD2.out]; omega)
        obtain ⟨ida, idb, lta, ltb⟩ : Idx s (lvR s r).b ∧ Idx s (lvR s r).a ∧ (lvR s r).b < (r : Int) ∧ (lvR s r).a < (r : Int) := ⟨idb, ida, ltb, lta⟩
        obtain ⟨a, ha⟩ : ∃ a : Nat, (lvR s r).b = a := ⟨(lvR s r).b.toNat, by have := ida.1; omega⟩
        obtain ⟨b, hb⟩ : ∃ b : Nat, (lvR s r).a = b := ⟨(lvR s r).a.toNat, by have := idb.1; omega⟩
        rw [ha, hb] at HE2
        have HA := Lib.hid ha
        have HB := Lib.hid hb
        rw [ha] at ida lta
        rw [hb] at idb ltb
        have IDA := Lib.hid ida
        have IDB := Lib.hid idb
        have O1 := Lib.hid (rfLevel_do (f - 1) HI.out H4.out HL.out IDB.out (by omega)).1
        have LF := Lib.hid (fun W3 (h3 : LsP w0 W3 X A n c B d (s, false)) => rfRight_any w0 X l r a b s _ A n c B d W3 HI.out H4.out HR.out HA.out HB.out IDA.out O1 (fun W4 h4 => IH.out (f - 1) (by omega) l b s A n c B d W4 HI.out H4.out HL.out IDB.out (by omega) h4) h3)
        have HE := Lib.hid HE2
        clear HE2 ha hb ida idb IH lta ltb O1
        have t1 : ¬ D2 + 1 < D1 := by omega
        have t2 : D1 + 1 < D2 := by omega
        rw [HE.out]
        go_enter Try.func45, Try.ntmps45
        have hup := upc W.heap.size W
        obtain ⟨ga_2, gb_2, ea, eb, ga1_2, gb1_2, hrd⟩ := P0.out.rd (by omega)
        first | (subst ea; subst eb) | (injection ea with ea; injection ea with ea; subst ea; injection eb with eb; injection eb with eb; subst eb)
        have x0_2 := P0.out.g.x.cell 0
        have x1_2 := P0.out.g.x.cell 1
        have xl_2 := P0.out.g.x.lt
        obtain ⟨l0_2, -, l1_2, l2_2⟩ := hrd l (by omega)
        rw [HD1.out] at l0_2
        obtain ⟨r0_2, -, r1_2, r2_2⟩ := hrd r (by omega)
        rw [HD2.out] at r0_2
        clear hrd
        go_wp2_with fail
        refine wp_region_up W.heap.size (by kernel_rfl) (by kernel_rfl) ?_
        repeat (go_big_quiet_step ((fail)))
        refine wpQuiet_nil ?_
        intro w2 hup_w2
        have hb := up_of hup_w2
        have P2 := Lib.hid (P0.out.next hb)
        have F2 := Lib.hid (F0.out.trans (LvF.of_below hb))
        clear hb hup hup_w2 x0_2 x1_2 xl_2 ga1_2 gb1_2 l0_2 l1_2 l2_2 r0_2 r1_2 r2_2
        have hup := upc w2.heap.size w2
        obtain ⟨ga_3, gb_3, ea, eb, ga1_3, gb1_3, hrd⟩ := P2.out.rd (by omega)
        first | (subst ea; subst eb) | (injection ea with ea; injection ea with ea; subst ea; injection eb with eb; injection eb with eb; subst eb)
        have x0_3 := P2.out.g.x.cell 0
        have x1_3 := P2.out.g.x.cell 1
        have xl_3 := P2.out.g.x.lt
        obtain ⟨l0_3, -, l1_3, l2_3⟩ := hrd l (by omega)
        rw [HD1.out] at l0_3
        obtain ⟨r0_3, -, r1_3, r2_3⟩ := hrd r (by omega)
        rw [HD2.out] at r0_3
        clear hrd
        go_wp2_with fail
        refine wp_region_up w2.heap.size (by kernel_rfl) (by kernel_rfl) ?_
        repeat (go_big_quiet_step ((fail)))
        refine wpQuiet_nil ?_
        intro w3 hup_w3
        have hb := up_of hup_w3
        have P3 := Lib.hid (P2.out.next hb)
        have F3 := Lib.hid (F2.out.trans (LvF.of_below hb))
        clear hb hup hup_w3 x0_3 x1_3 xl_3 ga1_3 gb1_3 l0_3 l1_3 l2_3 r0_3 r1_3 r2_3
        generalize rfRight _ _ _ = tt at *
        go_wp2_with fail
        refine (LF.out w3 P3.out).mono ?_
        rintro e w5 ⟨rfl, A5, n5, c5, B5, d5, p5, f5⟩
        have P5 := Lib.hid p5
        have F5 := Lib.hid (F3.out.trans f5)
        clear p5 f5
        go_wp2_with fail
        go_ret
        exact ⟨rfl, A5, n5, c5, B5, d5, P5.out, F5.out⟩
      · rw [if_neg h1, if_neg h2] at HE2
        have HE := Lib.hid HE2
        clear HE2 IH
        have t1 : ¬ D2 + 1 < D1 := by omega
        have t2 : ¬ D1 + 1 < D2 := by omega
        rw [HE.out]
        have HI1 : Hid (RfI (s, false)) := Lib.hid ⟨HI.out, H4.out, fun e => (by cases e)⟩
        have C := Lib.hid (fun W3 (h3 : LsP w0 W3 X A n c B d (s, false)) => rfPair_any w0 X l r (s, false) A n c B d W3 HI1.out (fun _ => HL.out) (fun _ => HR.out) h3)
        generalize rfPair (s, false) (l : Int) (r : Int) = tt at *
        go_enter Try.func45, Try.ntmps45
        have hup := upc W.heap.size W
        obtain ⟨ga_2, gb_2, ea, eb, ga1_2, gb1_2, hrd⟩ := P0.out.rd (by omega)
        first | (subst ea; subst eb) | (injection ea with ea; injection ea with ea; subst ea; injection eb with eb; injection eb with eb; subst eb)
        have x0_2 := P0.out.g.x.cell 0
        have x1_2 := P0.out.g.x.cell 1
        have xl_2 := P0.out.g.x.lt
        obtain ⟨l0_2, -, l1_2, l2_2⟩ := hrd l (by omega)
        rw [HD1.out] at l0_2
        obtain ⟨r0_2, -, r1_2, r2_2⟩ := hrd r (by omega)
        rw [HD2.out] at r0_2
        clear hrd
        go_wp2_with fail
        refine wp_region_up W.heap.size (by kernel_rfl) (by kernel_rfl) ?_
        repeat (go_big_quiet_step ((fail)))
        refine wpQuiet_nil ?_
        intro w2 hup_w2
        have hb := up_of hup_w2
        have P2 := Lib.hid (P0.out.next hb)
        have F2 := Lib.hid (F0.out.trans (LvF.of_below hb))
        clear hb hup hup_w2 x0_2 x1_2 xl_2 ga1_2 gb1_2 l0_2 l1_2 l2_2 r0_2 r1_2 r2_2
        have hup := upc w2.heap.size w2
        obtain ⟨ga_3, gb_3, ea, eb, ga1_3, gb1_3, hrd⟩ := P2.out.rd (by omega)
        first | (subst ea; subst eb) | (injection ea with ea; injection ea with ea; subst ea; injection eb with eb; injection eb with eb; subst eb)
        have x0_3 := P2.out.g.x.cell 0
        have x1_3 := P2.out.g.x.cell 1
        have xl_3 := P2.out.g.x.lt
        obtain ⟨l0_3, -, l1_3, l2_3⟩ := hrd l (by omega)
        rw [HD1.out] at l0_3
        obtain ⟨r0_3, -, r1_3, r2_3⟩ := hrd r (by omega)
        rw [HD2.out] at r0_3
        clear hrd
        go_wp2_with fail
        refine wp_region_up w2.heap.size (by kernel_rfl) (by kernel_rfl) ?_
        repeat (go_big_quiet_step ((fail)))
        refine wpQuiet_nil ?_
        intro w3 hup_w3
        have hb := up_of hup_w3
        have P3 := Lib.hid (P2.out.next hb)
        have F3 := Lib.hid (F2.out.trans (LvF.of_below hb))
        clear hb hup hup_w3 x0_3 x1_3 xl_3 ga1_3 gb1_3 l0_3 l1_3 l2_3 r0_3 r1_3 r2_3
        go_wp2_with fail
        refine (C.out w3 P3.out).mono ?_
        rintro e w5 ⟨rfl, A5, n5, c5, B5, d5, p5, f5⟩
        have P5 := Lib.hid p5
        have F5 := Lib.hid (F3.out.trans f5)
        clear p5 f5
        go_wp2_with fail
        go_ret
        exact ⟨rfl, A5, n5, c5, B5, d5, P5.out, F5.out⟩
end Go.Proofs.Ytikhjoianbndhaa
