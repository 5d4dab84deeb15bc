/-
  The statement FnPhrases: for all bytes, the phrases of the word that is drawn from them give it, each but the last is a new one, and all but its last letter is an earlier phrase. No condition.
-/
import Derived.Test.YtjgihaflkajbcaaPhrMath
import Derived.Test.YtjgihaflkajbcaaP6Word
import Derived.Test.YtjgihaflkajbcaaLaw
namespace Go.Proofs.Ytjgihaflkajbcaa
open Go.ChangeShapes Go.WideShapes Go.ChangeAt Go.RowKit

/-- the inner loop: has an earlier phrase been met, or is there one left to meet? -/
def PSeen (out : List ByteArray) (i k : Nat) (p : ByteArray) (b : Bool) : Prop := b = true ∨ ∃ (k' : Nat) (q : ByteArray), k ≤ k' ∧ k' < i ∧ out[k']? = some q ∧ (q = initS p ∨ q = p)
theorem pseen_start {s : ByteArray} {out : List ByteArray} (h : PInv s s.size out) {i : Nat} {p : ByteArray} (hp : out[i]? = some p) : PSeen out i 0 p (decide (p.size ≤ 1)) := by
  rcases h.before i p hp with q | ⟨k, q, hk, hq, hqq⟩
  · exact .inl (by simpa using q)
  · exact .inr ⟨k, q, by omega, hk, hq, hqq⟩
theorem pseen_step {out : List ByteArray} {i k : Nat} {p x : ByteArray} {b : Bool} (h : PSeen out i k p b) (hx : out[k]? = some x) (b' : Bool) (hb : b = true → b' = true) (hb' : x = initS p ∨ x = p → b' = true) : PSeen out i (k + 1) p b' := by
  rcases h with h | ⟨k', q, h1, h2, h3, h4⟩
  · exact .inl (hb h)
  · by_cases he : k' = k
    · subst he
      obtain rfl : q = x := by rw [h3] at hx; exact Option.some.inj hx
      exact .inl (hb' h4)
    · exact .inr ⟨k', q, by omega, h2, h3, h4⟩
theorem pseen_end {out : List ByteArray} {i : Nat} {p : ByteArray} {b : Bool} (h : PSeen out i i p b) : b = true := by
  rcases h with h | ⟨k', q, h1, h2, _⟩
  · exact h
  · omega
theorem catS_snoc {out : List ByteArray} {i : Nat} {p : ByteArray} (hp : out[i]? = some p) : catS (out.take i) ++ p = catS (out.take (i + 1)) := by
  have hi := (List.getElem?_eq_some_iff.1 hp)
  obtain ⟨hi, he⟩ := hi
  rw [List.take_succ_eq_append_getElem hi, catS_app, he]
  simp [catS, app_empty']

theorem catS_take_size (out : List ByteArray) (j : Nat) : (catS (out.take j)).size ≤ (catS out).size := by
  conv => rhs; rw [← List.take_append_drop j out, catS_app, ByteArray.size_append]
  omega
theorem beq_ne {a b : ByteArray} (h : a ≠ b) : (a.toList == b.toList) = false := by rw [tl_beq]; simpa using h
theorem initS_ne {p : ByteArray} (h : 0 < p.size) : p ≠ initS p := by
  intro e
  have h1 : (initS p).size = p.size := by rw [← e]
  unfold initS at h1
  rw [ByteArray.size_extract] at h1
  omega
set_option maxHeartbeats 4000000 in
set_option maxRecDepth 100000 in
theorem walkPhrases (A : Option Addr) (n c : Nat) (zs : List Int) (D : Option Addr) (m d : Nat) (ys : List Int) (w : World)
    (hn : n ≤ maxLen) (hx : Rd w w.heap.size A n 1 (fun z => [.int .u8 z]) zs) (ox : ∀ z ∈ zs, 0 ≤ z ∧ z < 256) (hm : m ≤ maxLen) (_hy : Rd w w.heap.size D m 1 (fun z => [.int .u8 z]) ys) (_oy : ∀ z ∈ ys, 0 ≤ z ∧ z < 256) :
    Calls Try.prog 3 #[.slice A n c, .slice D m d] w (Ret (.bool true) w) := by
  by_cases h1 : 4096 < n
  · have h1' := Lib.hid (decide_eq_true h1)
    go_enter Try.func3, Try.ntmps3
    go_wp2_with fail
    refine (f6big_any A n c w hn true h1'.out).mono ?_
    rintro e w1 ⟨rfl, hb1⟩
    go_wp2_with fail
    go_ret
    exact ⟨rfl, hb1⟩
  by_cases h2 : 4096 < m
  · have h1' := Lib.hid (decide_eq_false h1)
    have h2' := Lib.hid (decide_eq_true h2)
    go_enter Try.func3, Try.ntmps3
    go_wp2_with fail
    refine (f6big_any A n c w hn false h1'.out).mono ?_
    rintro e w1 ⟨rfl, hb1⟩
    go_wp2_with fail
    refine (f6big_any D m d w1 hm true h2'.out).mono ?_
    rintro e w2 ⟨rfl, hb2⟩
    go_wp2_with fail
    go_ret
    exact ⟨rfl, hb1.trans (hb2.mono hb1.size)⟩
  have h1' := Lib.hid (decide_eq_false h1)
  have h2' := Lib.hid (decide_eq_false h2)
  have hbs := hx.bytes ox
  go_enter Try.func3, Try.ntmps3
  go_wp2_with fail
  refine (f6big_any A n c w hn false h1'.out).mono ?_
  rintro e w1 ⟨rfl, hb1⟩
  go_wp2_with fail
  refine (f6big_any D m d w1 hm false h2'.out).mono ?_
  rintro e w2 ⟨rfl, hb2⟩
  have b2 := hb1.trans (hb2.mono hb1.size)
  go_wp2_with fail
  refine (p6Word_any A n c _ 30 w2 (by omega) (hbs.next b2) (by omega) (by omega)).mono ?_
  rintro e w3 ⟨s, rfl, hs, hl, hb3⟩
  have b3 := b2.trans (hb3.mono b2.size)
  have hok : okW s = true := by rw [okW_all (by omega)]; exact hl
  have Hph := Lib.hid (show phrOf s = phr s 0 [] by simp only [phrOf, hok, if_true])
  have Hc := Lib.hid (show codeW s = 0 by simp only [codeW, hok, if_true])
  have Hs := Lib.hid hok
  have Hinv := Lib.hid (phr_all s)
  clear hok hl
  have hlen := phrOf_len s
  go_wp2_with fail
  refine (implPhrasesOf_any s w3 (by unfold maxLen; omega)).mono ?_
  rintro e w4 ⟨A4, c4, rfl, own4, hb4⟩
  have b4 := b3.trans (hb4.mono b3.size)
  rw [Hph.out] at own4 hlen
  rw [Hph.out, Hc.out]
  have R4 := Lib.hid (Rd.of_own (enc := strE) (fun _ _ => rfl) rfl own4)
  clear own4
  have Hn := Lib.hid (show (phr s 0 []).length = (phr s 0 []).length from rfl)
  generalize hout : phr s 0 [] = out at *
  generalize hN : out.length = N at *
  have HN := Lib.hid hN
  clear hN hout hbs hx Hph Hn
  go_wp2_with fail
  go_loopw [8, 9] (fun a_ i_ w' => ∃ (i : Nat) (a : ByteArray), i_ = .int .i64 i ∧ a_ = .string a ∧ i ≤ N ∧ Hid (a = catS (out.take i)) ∧ Below w4.heap.size w4 w') (fun _ i_ _ => N - (intOf i_).toNat)
  case atStart => exact ⟨0, ⟨#[]⟩, rfl, rfl, by omega, Lib.hid (by simp [catS]), Below.refl _ _⟩
  case round =>
    obtain ⟨i, a, rfl, rfl, hi, ha, hb⟩ := hrel
    by_cases hlt : i < N
    · obtain ⟨b, o, p, rfl, hB, gx, c0⟩ := (show Rd w4 w4.heap.size A4 N 1 (fun s => [.string s]) out from R4.out).next hb |>.str hlt
      have hp0 := Hinv.out.pos i p gx
      have hps := pseen_start Hinv.out gx
      have Hcat := Lib.hid (show a ++ p = catS (out.take (i + 1)) by rw [ha.out]; exact catS_snoc gx)
      have Hps := Lib.hid hps; clear hps
      have hsz : a.size + p.size ≤ 30 := by
        have h3 := catS_take_size out (i + 1)
        rw [← Hcat.out, ByteArray.size_append, Hinv.out.cat, ByteArray.size_extract] at h3
        omega
      have Gx := Lib.hid gx; clear gx
      have hne : p.toList ≠ [] := size1 (by omega)
      have hne' : p.toList.isEmpty = false := size1' (by omega)
      obtain ⟨wo, rfl⟩ : ∃ wo : World, wo = wr := ⟨_, rfl⟩
      have HP : Hid (PSeen out i 0 p (decide ((p.size : Int) ≤ 1))) := Lib.hid (by
        rw [show decide ((p.size : Int) ≤ 1) = decide (p.size ≤ 1) from by rw [decide_eq_decide]; omega]; exact Hps.out)
      clear Hps
      go_wp2_with fail
      go_loopw [10, 11] (fun b_ k_ w' => ∃ (k : Nat) (b : Bool), k_ = .int .i64 k ∧ b_ = .bool b ∧ k ≤ i ∧ Hid (PSeen out i k p b) ∧ Below wo.heap.size wo w') (fun _ k_ _ => i - (intOf k_).toNat)
      case atStart => exact ⟨0, _, rfl, rfl, by omega, HP, Below.refl _ _⟩
      case round =>
        obtain ⟨k, bb, rfl, rfl, hk, hps, hbo⟩ := hrel
        by_cases hki : k < i
        · obtain ⟨_, _, x, hA, hB', gy, c1⟩ := (((show Rd w4 w4.heap.size (some ⟨b, o, none⟩) N 1 (fun s => [.string s]) out from R4.out).next hb).next hbo).str (show k < N by omega)
          obtain ⟨rfl, rfl⟩ : b = _ ∧ o = _ := by injection hA with hA; injection hA with h1 h2; exact ⟨h1, h2⟩
          clear hA
          have Gy := Lib.hid gy; clear gy
          have c0' := (hbo.cell (p := ⟨b, o + i, none⟩) (by show b < _; omega)).trans c0
          have hup := upc wr.heap.size wr
          have i0 : (0 : Int) ≤ k := by omega
          have i1 : (k : Int) < N := by omega
          have i2 : (0 : Int) ≤ i := by omega
          have i3 : (i : Int) < N := by omega
          by_cases hxp : x = p
          · obtain rfl := hxp
            have hiN : ¬ (i + 1 < out.length) := fun h => Hinv.out.new' k i x x hki h Gy.out Gx.out rfl
            rw [HN.out] at hiN
            have d1 : decide ((i : Int) + 1 < (N : Int)) = false := decide_eq_false (by omega)
            clear hiN
            go_wp2_with fail
            refine wp_region_up wr.heap.size (by kernel_rfl) (by kernel_rfl) ?_
            repeat (go_big_quiet_step (fail))
            refine wpQuiet_nil ?_
            intro w5 hup_w5
            have hb5 := up_of hup_w5
            clear d1
            have c2 := (hb5.cell (p := ⟨b, o + k, none⟩) (by show b < _; omega)).trans c1
            have c3 := (hb5.cell (p := ⟨b, o + i, none⟩) (by show b < _; omega)).trans c0'
            have hbw5 : b < w5.heap.size := by have := hb5.size; omega
            have hup5 := upc w5.heap.size w5
            clear hup
            cases bb
            · have hd := beq_ne (initS_ne hp0)
              unfold initS at hd
              have hs0 : (1 : Int) ≤ x.size := by omega
              go_wp2_with fail
              refine wp_region_up w5.heap.size (by kernel_rfl) (by kernel_rfl) ?_
              repeat (go_big_quiet_step (fail))
              refine wpQuiet_nil ?_
              intro w6 hup_w6
              have hb6 := up_of hup_w6
              go_wp2_with fail
              go_roundw
              case rel => exact ⟨k + 1, true, by go_num, rfl, by omega, Lib.hid (.inl rfl), hbo.trans ((hb5.trans (hb6.mono hb5.size)).mono hbo.size)⟩
              case measure => simp [intOf]; omega
            · go_wp2_with fail
              refine wp_region_up w5.heap.size (by kernel_rfl) (by kernel_rfl) ?_
              repeat (go_big_quiet_step (fail))
              refine wpQuiet_nil ?_
              intro w6 hup_w6
              have hb6 := up_of hup_w6
              go_wp2_with fail
              go_roundw
              case rel => exact ⟨k + 1, true, by go_num, rfl, by omega, Lib.hid (.inl rfl), hbo.trans ((hb5.trans (hb6.mono hb5.size)).mono hbo.size)⟩
              case measure => simp [intOf]; omega
          · have hxe := beq_ne hxp
            have Hstep := Lib.hid (fun b' hb hb' => pseen_step hps.out Gy.out b' hb hb')
            have Hxp := Lib.hid hxp; clear hxp
            go_wp2_with fail
            refine wp_region_up wr.heap.size (by kernel_rfl) (by kernel_rfl) ?_
            repeat (go_big_quiet_step (fail))
            refine wpQuiet_nil ?_
            intro w5 hup_w5
            have hb5 := up_of hup_w5
            have c2 := (hb5.cell (p := ⟨b, o + k, none⟩) (by show b < _; omega)).trans c1
            have c3 := (hb5.cell (p := ⟨b, o + i, none⟩) (by show b < _; omega)).trans c0'
            have hbw5 : b < w5.heap.size := by have := hb5.size; omega
            have hup5 := upc w5.heap.size w5
            clear hup
            cases bb
            · by_cases hxi : x = initS p
              · have hd : (x.toList == (initS p).toList) = true := by rw [hxi]; simp
                unfold initS at hd
                have Hxi := Lib.hid hxi; clear hxi
                have hs1 : (1 : Int) ≤ p.size := by omega
                go_wp2_with fail
                refine wp_region_up w5.heap.size (by kernel_rfl) (by kernel_rfl) ?_
                repeat (go_big_quiet_step (fail))
                refine wpQuiet_nil ?_
                intro w6 hup_w6
                have hb6 := up_of hup_w6
                go_wp2_with fail
                go_roundw
                case rel => exact ⟨k + 1, true, by go_num, rfl, by omega, Lib.hid (.inl rfl), hbo.trans ((hb5.trans (hb6.mono hb5.size)).mono hbo.size)⟩
                case measure => simp [intOf]; omega
              · have hd := beq_ne hxi
                unfold initS at hd
                have Hxi := Lib.hid hxi; clear hxi
                have hs1 : (1 : Int) ≤ p.size := by omega
                go_wp2_with fail
                refine wp_region_up w5.heap.size (by kernel_rfl) (by kernel_rfl) ?_
                repeat (go_big_quiet_step (fail))
                refine wpQuiet_nil ?_
                intro w6 hup_w6
                have hb6 := up_of hup_w6
                go_wp2_with fail
                go_roundw
                case rel => exact ⟨k + 1, false, by go_num, rfl, by omega, Lib.hid (Hstep.out false (fun h => by cases h) (fun h => by rcases h with h | h; exact absurd h Hxi.out; exact absurd h Hxp.out)), hbo.trans ((hb5.trans (hb6.mono hb5.size)).mono hbo.size)⟩
                case measure => simp [intOf]; omega
            · go_wp2_with fail
              refine wp_region_up w5.heap.size (by kernel_rfl) (by kernel_rfl) ?_
              repeat (go_big_quiet_step (fail))
              refine wpQuiet_nil ?_
              intro w6 hup_w6
              have hb6 := up_of hup_w6
              go_wp2_with fail
              go_roundw
              case rel => exact ⟨k + 1, true, by go_num, rfl, by omega, Lib.hid (.inl rfl), hbo.trans ((hb5.trans (hb6.mono hb5.size)).mono hbo.size)⟩
              case measure => simp [intOf]; omega
        · have hki' : k = i := by omega
          obtain rfl := hki'
          obtain rfl := pseen_end hps.out
          have c0' := (hbo.cell (p := ⟨b, o + k, none⟩) (by show b < _; omega)).trans c0
          clear hki
          go_wp2_with fail
          go_roundw
          case rel => exact ⟨k + 1, a ++ p, by go_num, rfl, by omega, Hcat, hb.trans (hbo.mono hb.size)⟩
          case measure => simp [intOf]; omega
    · have hall := Lib.hid (show a = s by
        rw [ha.out, List.take_of_length_le (by rw [HN.out]; omega), Hinv.out.cat]; simp)
      obtain rfl := hall.out
      go_wp2_with fail
      go_ret
      exact ⟨rfl, b4.trans (hb.mono b4.size)⟩

theorem fnPhrases_contract (H : Type) (enc : TypeId × Value → H) (W : World) (base : Nat) (args : Array Value) (ds gs : List (DataW H)) (before : List MemPlace)
    (hval : ∀ (j : Nat) t v, Try.f3.params[j]? = some t → args[j]? = some v → Value.okWide Try.prog W .any base t v)
    (hW : DataW.Whole enc Try.prog Try.f3.params.toList Rows.fnPhrasesSpec.vars false W args.toList ds gs before) :
    Calls Try.prog 3 args W fun e W' => ∃ v, e = .returned v ∧ Rows.fnPhrasesSpec.post enc Try.prog Try.f3 false true false false W args v W' := by
  have hW' := hW
  obtain ⟨p, q, hA0, hV, rfl, hfz, hnd⟩ := hW
  have hA : DataW.TrodAll enc Try.prog W 0 (fun _ => true) true Try.f3.params.toList args.toList ds p := hA0
  rw [Try.params3] at hA hval
  obtain ⟨v0, vs0, d0, ds0, p0, q0, hargs, rfl, rfl, h0, r0⟩ := trodAll_cons hA
  obtain ⟨v1, vs1, d1, ds1, p1, q1, rfl, rfl, rfl, h1, r1⟩ := trodAll_cons r0
  obtain ⟨rfl, rfl, rfl⟩ := trodAll_nil r1
  obtain rfl : args = #[v0, v1] := by cases args; simp_all
  obtain ⟨rfl, rfl⟩ := trodVars_none hV
  obtain ⟨A0, n0, c0, zs0, rfl, hn0, rd0, ok0⟩ := open_bytes Try.underlying22 Try.underlying5 (by kernel_rfl) (hval 0 22 v0 rfl rfl) h0
  obtain ⟨A1, n1, c1, zs1, rfl, hn1, rd1, ok1⟩ := open_bytes Try.underlying22 Try.underlying5 (by kernel_rfl) (hval 1 22 v1 rfl rfl) h1
  clear hA0
  refine (walkPhrases A0 n0 c0 zs0 A1 n1 c1 zs1 W hn0 rd0 ok0 hn1 rd1 ok1).mono fun e W' ⟨he, hb⟩ => ?_
  subst he
  exact ⟨_, rfl, law_post laidOut hW' rfl 4 Try.underlying4 (by kernel_rfl) (by rw [Try.params3]; intro t ht; simp at ht; first | (subst ht; exact ⟨by kernel_rfl, of_decide_eq_true (by kernel_rfl)⟩) | (rcases ht with rfl | rfl <;> exact ⟨by kernel_rfl, of_decide_eq_true (by kernel_rfl)⟩) | (rcases ht with rfl | rfl | rfl <;> exact ⟨by kernel_rfl, of_decide_eq_true (by kernel_rfl)⟩) | (rcases ht with rfl | rfl | rfl | rfl <;> exact ⟨by kernel_rfl, of_decide_eq_true (by kernel_rfl)⟩)) rfl hb⟩

set_option maxRecDepth 100000 in
theorem fnPhrases_lifted (os : Os) (started : os.Started) (H : Type) (enc : TypeId × Value → H) :
    ReturnsInHanded {} Try.checked os 3 .any (Rows.fnPhrasesSpec.pre6 enc Try.prog Try.f3 Rows.fnPhrasesRow.domain false) (Rows.fnPhrasesSpec.post enc Try.prog Try.f3 false true false false) := by
  refine returnsInHanded_of_change (C := Try.checked) own started (by kernel_rfl) Try.func3
    (ChangeSpec.witness6 (enc := enc) (C := Try.checked) false ⟨#[], #[.slice none 0 0, .slice none 0 0], []⟩ 8 (by kernel_rfl) (by kernel_rfl) (by kernel_rfl) (by kernel_rfl)) ?_
  intro W base args ds gs before hval0 hW hcnd _
  exact fnPhrases_contract H enc W base args ds gs before hval0 hW

theorem fnPhrases_holds : Rows.FnPhrasesSaid :=
  OpenClaim.holds_of_wide 3 Try.f3 rfl rfl rfl rfl rfl rfl rfl ⟨rfl, rfl, rfl, rfl, rfl⟩ rfl rfl rfl rfl rfl (by as_aux_lemma => kernel_rfl) Try.func3
    (joined_mk (by as_aux_lemma => kernel_rfl) laidOut mapsRowed' (by as_aux_lemma => kernel_rfl) (by as_aux_lemma => kernel_rfl) (by as_aux_lemma => kernel_rfl) (by as_aux_lemma => kernel_rfl) (by as_aux_lemma => kernel_rfl) (by as_aux_lemma => kernel_rfl) plainKeys' rfl heard' mayEnter' lifts' make' (by as_aux_lemma => kernel_rfl))
    (of_decide_eq_true (by kernel_rfl)) (by unfold Func.isWrapper; first | (rw [if_pos (by decide +kernel)]; kernel_rfl) | (rw [if_neg (by decide +kernel)]; exact ⟨rfl, rfl⟩))
    (fun os started H enc _ => fnPhrases_lifted os started H enc)

end Go.Proofs.Ytjgihaflkajbcaa
