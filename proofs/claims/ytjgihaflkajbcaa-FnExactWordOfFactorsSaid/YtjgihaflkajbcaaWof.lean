/-
  The word of factors, in the program and in the reference.
-/
import Derived.Test.YtjgihaflkajbcaaLen
namespace Go.Proofs.Ytjgihaflkajbcaa
open Go.RowKit

/-- the word behind one factor more -/
def wstep (out : ByteArray) (f : Fac) : ByteArray := out ++ (f.l ++ out.extract f.a.toNat (f.a + f.b).toNat)
def wordOf : List Fac → ByteArray → ByteArray
  | [], out => out
  | f :: r, out => wordOf r (wstep out f)

theorem facStep_spec {z z' : Int} {f : Fac} (hz : 0 ≤ z) (h : facStep z f = some z') : 0 ≤ f.a ∧ 0 ≤ f.b ∧ f.a + f.b ≤ z ∧ z' = z + f.l.size + f.b ∧ (f.l.size ≠ 0 → f.a = 0 ∧ f.b = 0) := by
  unfold facStep at h
  split at h
  · rename_i h0
    split at h
    · obtain rfl := Option.some.inj h; omega
    · cases h
  · rename_i h0
    split at h
    · rename_i h1
      obtain rfl := Option.some.inj h
      have : f.l.size = 1 := by
        rcases Nat.lt_or_ge 1 f.l.size with q | q
        · have := letT_not (s := f.l) (by omega); rw [this] at h1; exact absurd h1.1 (by simp)
        · omega
      omega
    · cases h
theorem facLen_ge : ∀ (fs : List Fac) (z n : Int), 0 ≤ z → facLen fs z = some n → z ≤ n
  | [], z, n, _, h => by obtain rfl := Option.some.inj h; omega
  | f :: r, z, n, h0, h => by
    unfold facLen at h
    obtain ⟨z', h1, h2⟩ := Option.bind_eq_some_iff.1 h
    have := facStep_spec h0 h1
    have := facLen_ge r z' n (by omega) h2
    omega
theorem size_wstep {out : ByteArray} {f : Fac} (h : 0 ≤ f.a ∧ 0 ≤ f.b ∧ f.a + f.b ≤ out.size) : ((wstep out f).size : Int) = out.size + f.l.size + f.b := by
  unfold wstep
  rw [ByteArray.size_append, ByteArray.size_append, ByteArray.size_extract]
  omega
theorem ba_ext {a b : ByteArray} (h : a.data.toList = b.data.toList) : a = b := by
  obtain ⟨⟨x⟩⟩ := a; obtain ⟨⟨y⟩⟩ := b; simp_all
theorem ba_empty {a : ByteArray} (h : a.size = 0) : a = ⟨#[]⟩ := by
  apply ba_ext
  have := byte_len a
  rw [h] at this
  rw [List.eq_nil_of_length_eq_zero this]
theorem empty_app (a : ByteArray) : (⟨#[]⟩ : ByteArray) ++ a = a := by apply ba_ext; simp
theorem app_empty (a : ByteArray) : a ++ (⟨#[]⟩ : ByteArray) = a := by apply ba_ext; simp

set_option maxHeartbeats 1000000 in
theorem implWof_any (A : Option Addr) (n c : Nat) (fs : List Fac) (w : World) (hn : n ≤ maxLen)
    (hr : Rd w w.heap.size A n 3 Fac.cells fs) (hs : ∀ f ∈ fs, f.l.size ≤ maxLen) (N : Int) (hx : facTotal fs = some N) (hN : N ≤ 2000) :
    Calls Try.prog 27 #[.slice A n c] w (Ret (.tuple #[.string (wordOf fs ⟨#[]⟩), .int .i64 0]) w) := by
  have hl := Lib.hid hr.len
  have hx' : facLen (fs.drop 0) 0 = some N := by
    unfold facTotal at hx
    split at hx
    · cases hx
    · exact hx
  have HR := Lib.hid hx'
  clear hx'
  have hFL := implFL_any A n c fs w hn hr hs _ hx
  have HFL := Lib.hid hFL
  clear hFL
  have Hx := Lib.hid hx; clear hx
  unfold maxLen at hn
  have HW := Lib.hid (show wordOf (fs.drop 0) ⟨#[]⟩ = wordOf fs ⟨#[]⟩ from rfl)
  go_enter Try.func27, Try.ntmps27
  go_wp2_with fail
  refine HFL.out.mono ?_
  rintro e w1 ⟨rfl, hb1⟩
  unfold lenTuple
  go_wp2_with fail
  go_loopw [6, 23] (fun t i w' => ∃ (k : Nat) (out : ByteArray), i = .int .i64 k ∧ t = .string out ∧ k ≤ n ∧ Below w.heap.size w w' ∧ Hid (facLen (fs.drop k) out.size = some N) ∧ Hid (wordOf (fs.drop k) out = wordOf fs ⟨#[]⟩)) (fun _ i _ => n - (intOf i).toNat)
  case atStart => exact ⟨0, ⟨#[]⟩, rfl, rfl, by omega, hb1, HR, HW⟩
  case round =>
    obtain ⟨k, out, rfl, rfl, hk, hb, H, HW'⟩ := hrel
    by_cases hlt : k < n
    · obtain ⟨b, o, x, rfl, hB, gx, c0, c1, c2⟩ := (hr.below hb).fac hlt
      have hd := drop_cons gx
      have hstep := H.out
      rw [hd] at hstep
      unfold facLen at hstep
      obtain ⟨z', g1, g2⟩ := Option.bind_eq_some_iff.1 hstep
      obtain ⟨k0, k1, k2, k3, k4⟩ := facStep_spec (by omega) g1
      have k5 := facLen_ge _ _ _ (by omega) g2
      have hxm : x.l.size ≤ 2000 := by omega
      have hom : out.size ≤ 2000 := by omega
      have hsz := Lib.hid (size_wstep (out := out) (f := x) ⟨k0, k1, k2⟩)
      have G2 := Lib.hid (show facLen (fs.drop (k + 1)) (wstep out x).size = some N by rw [hsz.out, ← k3]; exact g2)
      have HW2 := Lib.hid (show wordOf (fs.drop (k + 1)) (wstep out x) = wordOf fs ⟨#[]⟩ by rw [← HW'.out, hd]; rfl)
      clear hd hstep g1 g2 k3 k4 k5 gx H HW'
      have hup := upc (wr.heap.size + 1) (wr.alloc (.cells #[.string x.l, .int .i64 x.a, .int .i64 x.b] 58))
      have k6 : 0 ≤ x.a + x.b := by omega
      go_wp2_with fail
      refine wp_region_up (wr.heap.size+1) (by kernel_rfl) (by kernel_rfl) ?_
      repeat (go_big_quiet_step (fail))
      refine wpQuiet_nil ?_
      intro w2 hup_w2
      have hb2 := up_of hup_w2
      go_wp2
      go_roundw
      case rel => exact ⟨k + 1, wstep out x, by go_num, rfl, by omega, (hb.alloc hb.size _).trans (hb2.mono (by have := hb.size; omega)), G2, HW2⟩
      case measure => simp [intOf]; omega
    · have e := Lib.hid (show out = wordOf fs ⟨#[]⟩ by rw [← HW'.out, List.drop_of_length_le (by rw [hl.out]; omega)]; rfl)
      go_wp2
      go_ret2
      exact ⟨by rw [← e.out]; rfl, hb⟩

set_option maxHeartbeats 1000000 in
theorem specWof_any (A : Option Addr) (n c : Nat) (fs : List Fac) (w : World) (hn : n ≤ maxLen)
    (hr : Rd w w.heap.size A n 3 Fac.cells fs) (hs : ∀ f ∈ fs, f.l.size ≤ maxLen) (N : Int) (hx : facTotal fs = some N) (hN : N ≤ 2000) :
    Calls Try.prog 26 #[.slice A n c] w (Ret (.tuple #[.string (wordOf fs ⟨#[]⟩), .int .i64 0]) w) := by
  have hl := Lib.hid hr.len
  have hx' : facLen (fs.drop 0) 0 = some N := by
    unfold facTotal at hx
    split at hx
    · cases hx
    · exact hx
  have HR := Lib.hid hx'
  clear hx'
  have HFL := Lib.hid (specLength_any A n c fs w hn hr hs)
  have Hx := Lib.hid hx; clear hx
  unfold maxLen at hn
  have HW := Lib.hid (show wordOf (fs.drop 0) ⟨#[]⟩ = wordOf fs ⟨#[]⟩ from rfl)
  go_enter Try.func26, Try.ntmps26
  go_wp2_with fail
  refine HFL.out.mono ?_
  rintro e w1 ⟨rfl, hb1⟩
  rw [Hx.out, optTuple_some]
  go_wp2_with fail
  go_loopw [6, 7] (fun t i w' => ∃ (k : Nat) (out : ByteArray), i = .int .i64 k ∧ t = .string out ∧ k ≤ n ∧ Below w.heap.size w w' ∧ Hid (facLen (fs.drop k) out.size = some N) ∧ Hid (wordOf (fs.drop k) out = wordOf fs ⟨#[]⟩)) (fun _ i _ => n - (intOf i).toNat)
  case atStart => exact ⟨0, ⟨#[]⟩, rfl, rfl, by omega, hb1, HR, HW⟩
  case round =>
    obtain ⟨k, out, rfl, rfl, hk, hb, H, HW'⟩ := hrel
    by_cases hlt : k < n
    · obtain ⟨b, o, x, rfl, hB, gx, c0, c1, c2⟩ := (hr.below hb).fac hlt
      have hB' : b < wr.heap.size := by have := hb.size; omega
      have hd := drop_cons gx
      have hstep := H.out
      rw [hd] at hstep
      unfold facLen at hstep
      obtain ⟨z', g1, g2⟩ := Option.bind_eq_some_iff.1 hstep
      obtain ⟨k0, k1, k2, k3, k4⟩ := facStep_spec (by omega) g1
      have k5 := facLen_ge _ _ _ (by omega) g2
      have hxm : x.l.size ≤ 2000 := by omega
      have hom : out.size ≤ 2000 := by omega
      have hsz := Lib.hid (size_wstep (out := out) (f := x) ⟨k0, k1, k2⟩)
      have G2 := Lib.hid (show facLen (fs.drop (k + 1)) (wstep out x).size = some N by rw [hsz.out, ← k3]; exact g2)
      have HW2 := Lib.hid (show wordOf (fs.drop (k + 1)) (wstep out x) = wordOf fs ⟨#[]⟩ by rw [← HW'.out, hd]; rfl)
      have K4 := Lib.hid k4
      clear hd hstep g1 g2 k3 k4 k5 gx H HW'
      have k6 : 0 ≤ x.a + x.b := by omega
      by_cases h0 : x.l.size = 0
      · have hl0 := size0 h0
        have e := Lib.hid (show wstep out x = out ++ out.extract x.a.toNat (x.a + x.b).toNat by unfold wstep; rw [ba_empty h0, empty_app])
        clear h0
        have i0 : (0 : Int) ≤ (k : Int) := by omega
        have i1 : (k : Int) < (n : Int) := by omega
        have hup := upc wr.heap.size wr
        go_wp2_with fail
        refine wp_region_up wr.heap.size (by kernel_rfl) (by kernel_rfl) ?_
        repeat (go_big_quiet_step (fail))
        refine wpQuiet_nil ?_
        intro w2 hup_w2
        have hb2 := up_of hup_w2
        go_wp2
        go_roundw
        case rel => exact ⟨k + 1, wstep out x, by go_num, by rw [e.out], by omega, hb.trans (hb2.mono hb.size), G2, HW2⟩
        case measure => simp [intOf]; omega
      · have hl0 := size1 h0
        have hl1 := size1' h0
        have e := Lib.hid (show wstep out x = out ++ x.l by
          obtain ⟨q1, q2⟩ := K4.out h0
          unfold wstep
          rw [q1, q2, ba_empty (a := out.extract _ _) (by simp), app_empty])
        go_wp2
        go_roundw
        case rel => exact ⟨k + 1, wstep out x, by go_num, by rw [e.out], by omega, hb, G2, HW2⟩
        case measure => simp [intOf]; omega
    · have e := Lib.hid (show out = wordOf fs ⟨#[]⟩ by rw [← HW'.out, List.drop_of_length_le (by rw [hl.out]; omega)]; rfl)
      go_wp2
      go_ret2
      exact ⟨by rw [← e.out]; rfl, hb⟩
end Go.Proofs.Ytjgihaflkajbcaa
