
/-
  FactorsText on both sides.
-/
import Derived.Test.YtkkadlihlbpbiaaDoorDec
import Derived.Test.YtkkadlihlbpbiaaDoorLen
import Derived.WalkSmall
import Derived.Lib.LaidTab
namespace Go.Proofs.YtkkadlihlbpbiaaDoor
open Go.RowKit

theorem Calls.upR {P : Program} {f : FuncId} {args : Array Value} {B : Nat} {w : World} {x : Up B w} {v : Value} (hB : B ≤ w.heap.size) (h : Calls P f args x.w' (Ret v x.w')) : Calls P f args x.w' fun e w'' => e = .returned v ∧ ∃ y : Up B w, w'' = y.w' := Calls.up hB h
def nlB : ByteArray := ⟨#[10]⟩
def spB : ByteArray := ⟨#[32]⟩
/-- a factor's line -/
def lineT (f : Fac) : ByteArray := if f.l.size = 0 then ((decS f.a.toNat ++ spB) ++ decS f.b.toNat) ++ nlB else f.l ++ nlB
def textT : List Fac → ByteArray → ByteArray
  | [], out => out
  | f :: r, out => textT r (out ++ lineT f)
def txtF (fs : List Fac) : ByteArray := if (facTotal fs).isSome then textT fs ⟨#[]⟩ else ⟨#[]⟩
/-- what is asked of a factor -/
def FacOk (f : Fac) : Prop := (f.l.size = 0 ∧ 0 ≤ f.a ∧ f.a ≤ 1000000000000000 ∧ 0 ≤ f.b ∧ f.b ≤ 1000000000000000) ∨ f.l.size = 1
theorem facLen_ok : ∀ (fs : List Fac) (t N : Int), 0 ≤ t → t ≤ 1000000000000000 → facLen fs t = some N → ∀ f ∈ fs, FacOk f
  | [], _, _, _, _, _, f, hf => by simp at hf
  | g :: r, t, N, h0, h1, h, f, hf => by
    unfold facLen at h
    obtain ⟨m, hm, h2⟩ := Option.bind_eq_some_iff.1 h
    unfold facStep at hm
    split at hm
    · rename_i hl
      split at hm
      · rename_i hc
        injection hm with hm
        rcases List.mem_cons.1 hf with rfl | hf
        · exact .inl ⟨hl, by omega, by omega, by omega, by omega⟩
        · exact facLen_ok r m N (by omega) (by omega) h2 f hf
      · cases hm
    · rename_i hl
      split at hm
      · rename_i hc
        injection hm with hm
        rcases List.mem_cons.1 hf with rfl | hf
        · obtain ⟨c, hcc⟩ : ∃ c, f.l = ⟨#[c]⟩ := by
            by_cases h1 : f.l.size = 1
            · exact one_byte h1
            · have := hc.1
              rw [letT_not h1] at this; cases this
          right; rw [hcc]; rfl
        · exact facLen_ok r m N (by omega) (by omega) h2 f hf
      · cases hm
theorem facTotal_ok {fs : List Fac} {N : Int} (h : facTotal fs = some N) : fs.length ≤ 120 ∧ ∀ f ∈ fs, FacOk f := by
  unfold facTotal at h
  split at h
  · cases h
  · exact ⟨by omega, facLen_ok fs 0 N (by omega) (by omega) h⟩
theorem lineT_size {f : Fac} (h : FacOk f) : (lineT f).size ≤ 3000000000000000 := by
  unfold lineT
  rcases h with ⟨h0, h1, h2, h3, h4⟩ | h0
  · rw [if_pos h0]
    simp only [ByteArray.size_append]
    have e1 := decS_size f.a.toNat
    have e2 := decS_size f.b.toNat
    have e3 : nlB.size = 1 := rfl
    have e4 : spB.size = 1 := rfl
    omega
  · rw [if_neg (by omega), ByteArray.size_append, h0]
    have e3 : nlB.size = 1 := rfl
    omega
abbrev TabD (w : World) : Prop := Lib.TabIs Tryd.prog w "internal/strconv.uint64pow10" .u64 Lib.pow10Tab
theorem tab_glob : Tryd.prog.globalNamed "internal/strconv.uint64pow10" = some 5 := by kernel_rfl
theorem tab_lt {w : World} (h : TabD w) : 5 < w.heap.size := by
  have := h.cell tab_glob 0 (by decide)
  rcases Nat.lt_or_ge 5 w.heap.size with q | q
  · exact q
  · unfold World.cell? at this
    rw [Array.getElem?_eq_none (by omega)] at this
    simp at this
theorem tab_up {w w' : World} (h : TabD w) (hb : Below w.heap.size w w') : TabD w' := var?_below hb tab_glob (tab_lt h) h
set_option maxHeartbeats 2000000 in
set_option maxRecDepth 100000 in
theorem implTxt_any (A : Option Addr) (n c : Nat) (fs : List Fac) (w : World) (hn : n ≤ 1048576) (hr : Rd w w.heap.size A n 3 Fac.cells fs) (hs : ∀ f ∈ fs, f.l.size ≤ maxLen) (ht : TabD w) :
    Calls Tryd.prog 17 #[.slice A n c] w (Ret (.string (txtF fs)) w) := by
  have hl := Lib.hid hr.len
  have HR := Lib.hid hr
  have HT := Lib.hid ht
  rcases hx : facTotal fs with _ | N
  · have HV := Lib.hid (implValid_any A n c fs w (by unfold maxLen; omega) hr hs none hx)
    have e := Lib.hid (show txtF fs = ⟨#[]⟩ by unfold txtF; rw [hx]; rfl)
    clear hx ht hr hs
    go_enter Tryd.func17, Tryd.ntmps17
    go_wp2_with fail
    refine HV.out.mono ?_
    rintro e1 w1 ⟨rfl, hb1⟩
    go_wp2_with fail
    go_ret
    exact ⟨by rw [e.out]; rfl, hb1⟩
  · have HV := Lib.hid (implValid_any A n c fs w (by unfold maxLen; omega) hr hs (some N) hx)
    have e := Lib.hid (show txtF fs = textT fs ⟨#[]⟩ by unfold txtF; rw [hx]; rfl)
    obtain ⟨h120, hok⟩ := facTotal_ok hx
    have hn2 : n ≤ 120 := by have := hl.out; omega
    have HOk := Lib.hid hok
    clear hx ht hr hs hok h120
    go_enter Tryd.func17, Tryd.ntmps17
    go_wp2_with fail
    refine HV.out.mono ?_
    rintro e1 w1 ⟨rfl, hb1⟩
    have HB1 := Lib.hid hb1
    clear hb1
    go_wp2_with fail
    go_loopw [3, 11] (fun o_ i_ w' => ∃ (i : Nat) (out : ByteArray), o_ = .string out ∧ i_ = .int .i64 i ∧ i ≤ n ∧ out.size ≤ i * 3000000000000000 ∧ Hid (textT (fs.drop i) out = textT fs ⟨#[]⟩) ∧ Hid (Below w.heap.size w w')) (fun _ i_ _ => n - (intOf i_).toNat)
    case atStart => exact ⟨0, ⟨#[]⟩, rfl, rfl, by omega, by show 0 ≤ _; omega, Lib.hid rfl, HB1⟩
    case round =>
      obtain ⟨i, out, rfl, rfl, hi, hos, HE, HB⟩ := hrel
      by_cases hlt : i < n
      · obtain ⟨b, o, x, rfl, hB, gx, c0, c1, c2⟩ := (HR.out.next HB.out).fac hlt
        have HE2 := Lib.hid (show textT (fs.drop (i + 1)) (out ++ lineT x) = textT fs ⟨#[]⟩ by rw [← HE.out, drop_cons gx]; rfl)
        have hxo := HOk.out x (List.mem_of_getElem? gx)
        have hls := lineT_size hxo
        have HXo := Lib.hid hxo
        have i0 : (0 : Int) ≤ (i : Int) := by omega
        have i1 : (i : Int) < (n : Int) := by omega
        clear gx HE hxo
        by_cases h0 : x.l.size = 0
        · have e0 := size0 h0
          have hlx := show lineT x = ((decS x.a.toNat ++ spB) ++ decS x.b.toNat) ++ nlB by unfold lineT; rw [if_pos h0]
          rcases HXo.out with ⟨_, ha0, ha1, hb0, hb1⟩ | hq
          · obtain ⟨p, hp⟩ : ∃ p : Nat, x.a = p := ⟨x.a.toNat, by omega⟩
            obtain ⟨q, hq⟩ : ∃ q : Nat, x.b = q := ⟨x.b.toNat, by omega⟩
            rw [hp] at c1
            rw [hq] at c2
            rw [hp, hq, Int.toNat_natCast, Int.toNat_natCast] at hlx
            rw [hlx] at HE2 hls
            have D1 := Lib.hid (fun (W : World) (hb : Below w.heap.size w W) => implDec_any p (by omega) W (tab_up HT.out hb))
            have D2 := Lib.hid (fun (W : World) (hb : Below w.heap.size w W) => implDec_any q (by omega) W (tab_up HT.out hb))
            have p15 : p ≤ 1000000000000000 := by omega
            have q15 : q ≤ 1000000000000000 := by omega
            clear hlx h0 hp hq ha0 ha1 hb0 hb1
            have s1 := decS_size p
            have s2 := decS_size q
            have z1 : ¬ 9223372036854775807 < (decS p).size + 1 := by omega
            have z2 : ¬ 9223372036854775807 < (decS p).size + 1 + (decS q).size := by omega
            have z3 : ¬ 9223372036854775807 < (decS p).size + 1 + (decS q).size + 1 := by omega
            have z4 : ¬ 9223372036854775807 < out.size + ((decS p).size + 1 + (decS q).size + 1) := by omega
            clear s1 s2
            go_wp2_with fail
            refine named fun w2 H2 => ?_
            have hb2 : Below wr.heap.size wr w2 := by rw [H2.out]; (repeat first | exact Below.refl _ _ | assumption | refine Below.drew ?_ | refine Below.alloc ?_ (by first | exact Nat.le_refl _ | (simp; done) | omega | (simp; omega)) _ | refine Below.setCell ?_ (by first | exact Nat.le_refl _ | (simp; done) | omega | (simp; omega)) _)
            have BX := Lib.hid (show Blk w2 wr.heap.size 32 #[.string x.l, .int .i64 (p : Int), .int .i64 (q : Int)] by rw [H2.out]; exact Blk.new _ _ _)
            have HB2 := Lib.hid (HB.out.trans (hb2.mono HB.out.size))
            obtain ⟨y0, y1, y2⟩ := BX.out.three
            have yl := BX.out.lt
            have hup := upc w2.heap.size w2
            clear H2
            refine wp_region_up w2.heap.size (by kernel_rfl) (by kernel_rfl) ?_
            repeat (go_big_quiet_step ((first | (go_at_call 27; exact Calls.up (Nat.le_refl _) (D1.out _ (HB2.out.trans ((Up.h _).mono HB2.out.size)))) | (go_at_call 27; exact Calls.up (Nat.le_refl _) (D2.out _ (HB2.out.trans ((Up.h _).mono HB2.out.size)))))))
            refine wpQuiet_nil ?_
            intro w3 hup_w3
            have hb3 := up_of hup_w3
            go_wp2_with fail
            go_roundw
            case rel => exact ⟨i + 1, out ++ (((decS p ++ spB) ++ decS q) ++ nlB), rfl, by go_num, by omega, by rw [ByteArray.size_append]; omega, HE2, Lib.hid (HB2.out.trans (hb3.mono HB2.out.size))⟩
            case measure => simp [intOf]; omega
          · omega
        · have e0 := size1 h0
          have e1 := size1' h0
          have hlx := show lineT x = x.l ++ nlB by unfold lineT; rw [if_neg h0]
          rw [hlx] at HE2 hls
          rcases HXo.out with ⟨hq, _⟩ | hq
          · exact absurd hq h0
          have Hq := Lib.hid hq
          have z1 : ¬ 9223372036854775807 < x.l.size + 1 := by omega
          have z2 : ¬ 9223372036854775807 < out.size + (x.l.size + 1) := by omega
          clear hlx h0 hq
          go_wp2_with fail
          go_roundw
          case rel => exact ⟨i + 1, out ++ (x.l ++ nlB), rfl, by go_num, by omega, by rw [ByteArray.size_append]; omega, HE2, Lib.hid (HB.out.alloc HB.out.size _)⟩
          case measure => simp [intOf]; omega
      · have ho : out = textT fs ⟨#[]⟩ := by rw [← HE.out, List.drop_of_length_le (by have := hl.out; omega)]; rfl
        have HO := Lib.hid ho
        clear ho
        go_wp2_with fail
        go_ret
        exact ⟨by rw [e.out, ← HO.out]; rfl, HB.out⟩
set_option maxHeartbeats 2000000 in
set_option maxRecDepth 100000 in
theorem l06Text_any (A : Option Addr) (n c : Nat) (fs : List Fac) (w : World) (hn2 : n ≤ 120) (hr : Rd w w.heap.size A n 3 Fac.cells fs) (hok : ∀ f ∈ fs, FacOk f) :
    Calls Tryd.prog 12 #[.slice A n c] w (Ret (.string (textT fs ⟨#[]⟩)) w) := by
  have hl := Lib.hid hr.len
  have HR := Lib.hid hr
  have HOk := Lib.hid hok
  clear hr hok
  go_enter Tryd.func12, Tryd.ntmps12
  go_wp2_with fail
  go_loopw [3, 4] (fun o_ i_ w' => ∃ (i : Nat) (out : ByteArray), o_ = .string out ∧ i_ = .int .i64 i ∧ i ≤ n ∧ out.size ≤ i * 3000000000000000 ∧ Hid (textT (fs.drop i) out = textT fs ⟨#[]⟩) ∧ Hid (Below w.heap.size w w')) (fun _ i_ _ => n - (intOf i_).toNat)
  case atStart => exact ⟨0, ⟨#[]⟩, rfl, rfl, by omega, by show 0 ≤ _; omega, Lib.hid rfl, Lib.hid (Below.refl _ _)⟩
  case round =>
    obtain ⟨i, out, rfl, rfl, hi, hos, HE, HB⟩ := hrel
    by_cases hlt : i < n
    · obtain ⟨b, o, x, rfl, hB, gx, c0, c1, c2⟩ := (HR.out.next HB.out).fac hlt
      have HE2 := Lib.hid (show textT (fs.drop (i + 1)) (out ++ lineT x) = textT fs ⟨#[]⟩ by rw [← HE.out, drop_cons gx]; rfl)
      have hxo := HOk.out x (List.mem_of_getElem? gx)
      have hls := lineT_size hxo
      have HXo := Lib.hid hxo
      have i0 : (0 : Int) ≤ (i : Int) := by omega
      have i1 : (i : Int) < (n : Int) := by omega
      clear gx HE hxo
      by_cases h0 : x.l.size = 0
      · have e0 := size0 h0
        have hlx := show lineT x = ((decS x.a.toNat ++ spB) ++ decS x.b.toNat) ++ nlB by unfold lineT; rw [if_pos h0]
        rcases HXo.out with ⟨_, ha0, ha1, hb0, hb1⟩ | hq
        · obtain ⟨p, hp⟩ : ∃ p : Nat, x.a = p := ⟨x.a.toNat, by omega⟩
          obtain ⟨q, hq⟩ : ∃ q : Nat, x.b = q := ⟨x.b.toNat, by omega⟩
          rw [hp] at c1
          rw [hq] at c2
          rw [hp, hq, Int.toNat_natCast, Int.toNat_natCast] at hlx
          rw [hlx] at HE2 hls
          have D1 := Lib.hid (fun (W : World) => specDec_any p p W rfl (by omega))
          have D2 := Lib.hid (fun (W : World) => specDec_any q q W rfl (by omega))
          have p15 : p ≤ 1000000000000000 := by omega
          have q15 : q ≤ 1000000000000000 := by omega
          clear hlx h0 hp hq ha0 ha1 hb0 hb1
          have s1 := decS_size p
          have s2 := decS_size q
          have z1 : ¬ 9223372036854775807 < (decS p).size + 1 := by omega
          have z2 : ¬ 9223372036854775807 < (decS p).size + 1 + (decS q).size := by omega
          have z3 : ¬ 9223372036854775807 < (decS p).size + 1 + (decS q).size + 1 := by omega
          have z4 : ¬ 9223372036854775807 < out.size + ((decS p).size + 1 + (decS q).size + 1) := by omega
          clear s1 s2
          have hup := upc wr.heap.size wr
          go_wp2_with fail
          refine wp_region_up wr.heap.size (by kernel_rfl) (by kernel_rfl) ?_
          repeat (go_big_quiet_step ((first | (go_at_call 21; with_reducible exact Calls.upR (Nat.le_refl _) (D1.out _)) | (go_at_call 21; with_reducible exact Calls.upR (Nat.le_refl _) (D2.out _)))))
          refine wpQuiet_nil ?_
          intro w3 hup_w3
          have hb3 := up_of hup_w3
          go_wp2_with fail
          go_roundw
          case rel => exact ⟨i + 1, out ++ (((decS p ++ spB) ++ decS q) ++ nlB), rfl, by go_num, by omega, by rw [ByteArray.size_append]; omega, HE2, Lib.hid (HB.out.trans (hb3.mono HB.out.size))⟩
          case measure => simp [intOf]; omega
        · omega
      · have e0 := size1 h0
        have e1 := size1' h0
        have hlx := show lineT x = x.l ++ nlB by unfold lineT; rw [if_neg h0]
        rw [hlx] at HE2 hls
        rcases HXo.out with ⟨hq, _⟩ | hq
        · exact absurd hq h0
        have Hq := Lib.hid hq
        have z1 : ¬ 9223372036854775807 < x.l.size + 1 := by omega
        have z2 : ¬ 9223372036854775807 < out.size + (x.l.size + 1) := by omega
        clear hlx h0 hq
        go_wp2_with fail
        go_roundw
        case rel => exact ⟨i + 1, out ++ (x.l ++ nlB), rfl, by go_num, by omega, by rw [ByteArray.size_append]; omega, HE2, HB⟩
        case measure => simp [intOf]; omega
    · have ho : out = textT fs ⟨#[]⟩ := by rw [← HE.out, List.drop_of_length_le (by have := hl.out; omega)]; rfl
      have HO := Lib.hid ho
      clear ho
      go_wp2_with fail
      go_ret
      exact ⟨by rw [← HO.out]; rfl, HB.out⟩
end Go.Proofs.YtkkadlihlbpbiaaDoor
