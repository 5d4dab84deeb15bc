/-
  The statement FnBalanced: for all bytes, the word of the grammar that is drawn from them is balanced just if no beginning has more of the letter that shuts and both occur as often, and one whose letters are put in pairs is balanced always. No condition.
-/
import Derived.Test.YtfanphhlagjkdaaP5

namespace Go.Proofs.Ytfanphhlagjkdaa
open Go.ChangeShapes Go.WideShapes Go.ChangeAt Go.RowKit

def s97 : ByteArray := ⟨#[97]⟩
def s98 : ByteArray := ⟨#[98]⟩
def prW : List ByteArray := [⟨#[97, 98]⟩, ⟨#[97, 97, 98, 98]⟩, ⟨#[99]⟩, ⟨#[100]⟩]
theorem balV_ab {rs : List Fac} (h : (gOk rs).isSome = true) (hwf : WF rs) : balV rs ⟨#[97]⟩ ⟨#[98]⟩ = .tuple #[.bool (decide (0 ≤ (climL (balW 0 1) (wdN rs)).l) && decide ((climL (balW 0 1) (wdN rs)).t = 0)), .int .i64 0] := by
  have hl := (climL_ok (balW 0 1) (wdN rs)).l0
  unfold balV
  rw [if_neg (by rw [h]; decide), if_neg (by decide), if_neg (by decide), if_neg (by decide)]
  have e : climT (balW (letN ⟨#[97]⟩) (letN ⟨#[98]⟩)) rs = climL (balW 0 1) (wdN rs) := climT_word hwf
  rw [e]
  have : decide ((climL (balW 0 1) (wdN rs)).l = 0) = decide (0 ≤ (climL (balW 0 1) (wdN rs)).l) := by rw [decide_eq_decide]; omega
  rw [this]
theorem map_pr {rs : List Fac} (h : (gOk rs).isSome = true) : mapOk rs prW = true := by
  unfold mapOk prW
  rw [h]; rfl
/-- a text's letter -/
theorem tx_at (u : List Nat) (hu : ∀ x ∈ u, x < 4) (i : Nat) (hi : i < (tx u).size) : (tx u)[i].toNat = 97 + u.getD i 0 ∧ u.getD i 0 < 4 := by
  have hl : i < u.length := by rw [← tx_size]; exact hi
  have hb : u.getD i 0 < 4 := by
    rw [List.getD_eq_getElem?_getD, List.getElem?_eq_getElem hl]
    exact hu _ (List.getElem_mem hl)
  refine ⟨?_, hb⟩
  have h1 := at_byte (tx u) i hi
  rw [tx_toList, txB, List.getElem?_map, List.getElem?_eq_getElem hl] at h1
  injection h1 with h1
  rw [← h1, List.getD_eq_getElem?_getD, List.getElem?_eq_getElem hl, UInt8.toNat_ofNat']
  rw [List.getD_eq_getElem?_getD, List.getElem?_eq_getElem hl] at hb
  simp only [Option.getD_some] at hb ⊢
  omega
theorem bal_w (k : Nat) : -1 ≤ (balW 0 1).getD k 0 ∧ (balW 0 1).getD k 0 ≤ 1 := by
  match k with
  | 0 => decide
  | 1 => decide
  | 2 => decide
  | 3 => decide
  | k + 4 => exact ⟨by show -1 ≤ (0 : Int); omega, by show (0 : Int) ≤ 1; omega⟩
theorem rd_strs {w : World} {g : Nat} {t : TypeId} {a b c d : ByteArray} (h : Blk w g t #[.string a, .string b, .string c, .string d]) : Rd w w.heap.size (some ⟨g, 0, none⟩) 4 1 strEM [a, b, c, d] := by
  refine ⟨rfl, fun _ => ⟨g, 0, rfl, h.lt, fun k x hx j v hv => ?_⟩⟩
  obtain ⟨hk, rfl⟩ := List.getElem?_eq_some_iff.1 hx
  obtain ⟨hj, rfl⟩ := List.getElem?_eq_some_iff.1 hv
  have hj0 : j = 0 := by simp [strEM] at hj; exact hj
  subst hj0
  have := h.cell k
  rcases (show k = 0 ∨ k = 1 ∨ k = 2 ∨ k = 3 by simp at hk; omega) with rfl | rfl | rfl | rfl <;> simpa [strEM] using this
set_option maxHeartbeats 4000000 in
set_option maxRecDepth 100000 in
theorem walkBalanced (A : Option Addr) (n c : Nat) (zs : List Int) (D : Option Addr) (m d : Nat) (ys : List Int) (w : World)
    (hn : n ≤ maxLen) (hx : Rd w w.heap.size A n 1 (fun z => [.int .u8 z]) zs) (ox : ∀ z ∈ zs, 0 ≤ z ∧ z < 256) (hm : m ≤ maxLen) (_hy : Rd w w.heap.size D m 1 (fun z => [.int .u8 z]) ys) (_oy : ∀ z ∈ ys, 0 ≤ z ∧ z < 256) :
    Calls Try.prog 5 #[.slice A n c, .slice D m d] w (Ret (.bool true) w) := by
  by_cases h1 : 4096 < n
  · have h1' := Lib.hid (decide_eq_true h1)
    go_enter Try.func5, Try.ntmps5
    go_wp2_with fail
    refine (f6big_any A n c w hn true h1'.out).mono ?_
    rintro e w1 ⟨rfl, hb1⟩
    go_wp2_with fail
    go_ret
    exact ⟨rfl, hb1⟩
  by_cases h2 : 4096 < m
  · have h1' := Lib.hid (decide_eq_false h1)
    have h2' := Lib.hid (decide_eq_true h2)
    go_enter Try.func5, Try.ntmps5
    go_wp2_with fail
    refine (f6big_any A n c w hn false h1'.out).mono ?_
    rintro e w1 ⟨rfl, hb1⟩
    go_wp2_with fail
    refine (f6big_any D m d w1 hm true h2'.out).mono ?_
    rintro e w2 ⟨rfl, hb2⟩
    go_wp2_with fail
    go_ret
    exact ⟨rfl, hb1.trans (hb2.mono hb1.size)⟩
  have h1' := Lib.hid (decide_eq_false h1)
  have h2' := Lib.hid (decide_eq_false h2)
  have hbs := Lib.hid (hx.bytes ox)
  clear hx
  go_enter Try.func5, Try.ntmps5
  go_wp2_with fail
  refine (f6big_any A n c w hn false h1'.out).mono ?_
  rintro e w1 ⟨rfl, hb1⟩
  go_wp2_with fail
  refine (f6big_any D m d w1 hm false h2'.out).mono ?_
  rintro e w2 ⟨rfl, hb2⟩
  have b2 := hb1.trans (hb2.mono hb1.size)
  go_wp2_with fail
  refine (p6Grammar_any A n c _ w2 (by omega) (hbs.out.next b2)).mono ?_
  rintro e w3 ⟨A3, c3, rs, rfl, ok, own3, hb3⟩
  have Hgok := Lib.hid ok.gok
  have Hwf := Lib.hid ok.wf
  have Hsz := Lib.hid (wf_sz ok.wf)
  have hfew := ok.few
  have hlen8 := ok.len
  have HL4 := Lib.hid (wdN_let ok.wf)
  obtain ⟨ls, hls⟩ := Option.isSome_iff_exists.1 Hgok.out
  have b3 := Lib.hid (b2.trans (hb3.mono b2.size))
  have R3 := Lib.hid (Rd.of_own (fun x _ => fac_len x) rfl own3)
  have UW := Lib.hid (fun W (hb : Below w3.heap.size w3 W) => unpackWord_any A3 rs.length c3 rs ls W (R3.out.next hb) Hsz.out hls (by omega))
  have BV := Lib.hid (fun W (hb : Below w3.heap.size w3 W) => implBal_any A3 rs.length c3 rs ⟨#[97]⟩ ⟨#[98]⟩ W (by omega) (R3.out.next hb) Hsz.out (by decide) (by decide))
  rw [balV_ab Hgok.out Hwf.out] at BV
  have HMo := Lib.hid (map_pr Hgok.out)
  have MP := Lib.hid (fun W (hb : Below w3.heap.size w3 W) (B : Option Addr) (hw : Rd W W.heap.size B 4 1 strEM prW) => specMap_any A3 rs.length c3 rs B 4 4 prW W (by omega) (by omega) (R3.out.next hb) hw Hsz.out (by decide))
  have HMw := Lib.hid (fun (h : mapC rs prW = 0) => map_word HMo.out h)
  have HMc := Lib.hid (mapC_or HMo.out)
  generalize mapF rs prW = T at *
  generalize mapC rs prW = C at *
  generalize rs.length = n3 at *
  clear hls ok own3 hb3 hb1 hb2 hbs R3 Hsz h1 h2 ox hn hm
  have HT := Lib.hid (fun (h : C = 0) => (HMw.out h).1)
  have HTw := Lib.hid (fun (h : C = 0) => (HMw.out h).2)
  clear HMw
  generalize wdN rs = u at *
  have Hs := Lib.hid (tx_at u HL4.out)
  have hsz := tx_size u
  generalize tx u = s at *
  have HU := Lib.hid hsz
  have hs8 : s.size ≤ 8 := by omega
  have BG0 := Lib.hid (Blk.new w3 26 #[.slice A3 n3 c3])
  have g0 := BG0.out.cell 0
  have gl0 := BG0.out.lt
  clear hsz
  go_wp2_with fail
  refine namedC fun w4 H4 => ?_
  have hb4 : Below w3.heap.size w3 w4 := by rw [H4.out]; (repeat first | exact Below.refl _ _ | assumption | refine Below.drew ?_ | refine Below.alloc ?_ (by first | exact Nat.le_refl _ | (simp; done) | omega | (simp; omega)) _ | refine Below.setCell ?_ (by first | exact Nat.le_refl _ | (simp; done) | omega | (simp; omega)) _)
  have BG4 := Lib.hid (show Blk w4 w3.heap.size 26 #[.slice A3 n3 c3] by rw [H4.out]; exact Blk.new _ _ _)
  clear H4 BG0 g0 gl0
  refine (UW.out w4 hb4).mono ?_
  rintro e w5 ⟨rfl, hb5⟩
  have b5 := Lib.hid (hb4.trans (hb5.mono hb4.size))
  have BG5 := Lib.hid (BG4.out.next hb5)
  have g5 := BG5.out.cell 0
  have gl5 := BG5.out.lt
  clear hb4 hb5 BG4
  go_wp2_with fail
  refine (BV.out w5 b5.out).mono ?_
  rintro e w6 ⟨rfl, hb6⟩
  have b6 := Lib.hid (b5.out.trans (hb6.mono b5.out.size))
  have BG6 := Lib.hid (BG5.out.next hb6)
  clear hb6 g5 gl5 BG5 UW
  obtain ⟨yes, hyes⟩ : ∃ yes, (decide (0 ≤ (climL (balW 0 1) u).l) && decide ((climL (balW 0 1) u).t = 0)) = yes := ⟨_, rfl⟩
  have HY := Lib.hid hyes
  rw [hyes]
  clear hyes
  go_wp2_with fail
  go_loop [10, 11, 12] (fun h_ g_ i_ => ∃ (i : Nat) (h : Int) (g : Bool), i_ = .int .i64 i ∧ h_ = .int .i64 h ∧ g_ = .bool g ∧ i ≤ s.size ∧ -(i : Int) ≤ h ∧ h ≤ (i : Int) ∧ Hid (h = (climL (balW 0 1) (u.take i)).t) ∧ Hid (g = decide (0 ≤ (climL (balW 0 1) (u.take i)).l))) (fun _ _ i_ => s.size - (intOf i_).toNat)
  case atStart => exact ⟨0, 0, true, rfl, rfl, rfl, by omega, by omega, by omega, Lib.hid rfl, Lib.hid rfl⟩
  case round =>
    obtain ⟨i, h, g, rfl, rfl, rfl, hi, hh0, hh1, Hh, Hg⟩ := hrel
    by_cases hlt : i < s.size
    · have hlu : i < u.length := by rw [← HU.out]; exact hlt
      obtain ⟨hb, hk⟩ := Hs.out i hlt
      have hst := climL_low (balW 0 1) (u.take i) (u.getD i 0)
      have htk : u.take i ++ [u.getD i 0] = u.take (i + 1) := by rw [List.take_succ_eq_append_getElem hlu, List.getD_eq_getElem?_getD, List.getElem?_eq_getElem hlu]; rfl
      rw [htk] at hst
      have hw := bal_w (u.getD i 0)
      obtain ⟨hl1, ht1⟩ := hst
      have Hl1 := Lib.hid hl1
      have Ht1 := Lib.hid ht1
      have hG : ∀ z : Int, z = h + (balW 0 1).getD (u.getD i 0) 0 → Hid (z = (climL (balW 0 1) (u.take (i + 1))).t) ∧ Hid ((g && decide (0 ≤ z)) = decide (0 ≤ (climL (balW 0 1) (u.take (i + 1))).l)) := fun z hz => by
        have e1 : z = (climL (balW 0 1) (u.take (i + 1))).t := by rw [Ht1.out, hz, Hh.out]
        refine ⟨Lib.hid e1, Lib.hid ?_⟩
        rw [e1, Hg.out, ← Bool.decide_and, decide_eq_decide]
        exact Hl1.out.symm
      have HG := Lib.hid hG
      clear htk hl1 ht1 hG
      rcases (show u.getD i 0 = 0 ∨ u.getD i 0 = 1 ∨ u.getD i 0 = 2 ∨ u.getD i 0 = 3 by omega) with hk0 | hk0 | hk0 | hk0
      all_goals
        rw [hk0] at hb HG hw
        clear hk hk0
      · have z1 := HG.out (h + 1) rfl
        have um : IntKind.i64.wrap (h + 1) = h + 1 := IntWalk.i64_in _ (by omega)
        obtain ⟨y1, y2⟩ := z1
        cases g
        all_goals
          go_wp2_with fail
          go_round
          case rel => exact ⟨i + 1, h + 1, _, by go_num, rfl, rfl, by omega, by omega, by omega, y1, Lib.hid (by have q := y2.out; first | exact q | (simp only [Bool.true_and, Bool.false_and] at q; rw [← q, decide_eq_decide]; omega) | simpa using q)⟩
          case measure => simp [intOf]; omega
      · have z1 := HG.out (h - 1) rfl
        have um : IntKind.i64.wrap (h - 1) = h - 1 := IntWalk.i64_in _ (by omega)
        obtain ⟨y1, y2⟩ := z1
        cases g
        all_goals
          go_wp2_with fail
          go_round
          case rel => exact ⟨i + 1, h - 1, _, by go_num, rfl, rfl, by omega, by omega, by omega, y1, Lib.hid (by have q := y2.out; first | exact q | (simp only [Bool.true_and, Bool.false_and] at q; rw [← q, decide_eq_decide]; omega) | simpa using q)⟩
          case measure => simp [intOf]; omega
      · have z1 := HG.out h (by show h = h + 0; omega)
        obtain ⟨y1, y2⟩ := z1
        cases g
        all_goals
          go_wp2_with fail
          go_round
          case rel => exact ⟨i + 1, h, _, by go_num, rfl, rfl, by omega, by omega, by omega, y1, Lib.hid (by have q := y2.out; first | exact q | (simp only [Bool.true_and, Bool.false_and] at q; rw [← q, decide_eq_decide]; omega) | simpa using q)⟩
          case measure => simp [intOf]; omega
      · have z1 := HG.out h (by show h = h + 0; omega)
        obtain ⟨y1, y2⟩ := z1
        cases g
        all_goals
          go_wp2_with fail
          go_round
          case rel => exact ⟨i + 1, h, _, by go_num, rfl, rfl, by omega, by omega, by omega, y1, Lib.hid (by have q := y2.out; first | exact q | (simp only [Bool.true_and, Bool.false_and] at q; rw [← q, decide_eq_decide]; omega) | simpa using q)⟩
          case measure => simp [intOf]; omega
    · have hty : (g && decide (h = 0)) = yes := by
        rw [← HY.out, Hg.out, Hh.out, List.take_of_length_le (by rw [← HU.out]; omega)]
      have HTy := Lib.hid hty
      have g6 := BG6.out.cell 0
      have gl6 := BG6.out.lt
      have c0 : ¬ (i : Int) < (s.size : Int) := by omega
      clear hty Hg Hh hh0 hh1
      rcases HMc.out with rfl | rfl
      · have HgT := Lib.hid (HT.out rfl)
        have HwT := Lib.hid (show WF T by obtain ⟨lt, hlt⟩ := Option.isSome_iff_exists.1 HgT.out; exact wf_of (gOk_lens hlt).1)
        have hT4 : T.length ≤ 400 := by obtain ⟨lt, hlt⟩ := Option.isSome_iff_exists.1 HgT.out; exact (gOk_lens hlt).2.1
        have HTW := Lib.hid (HTw.out rfl)
        have hpr := clim_pairs u HL4.out
        have hpr := (show (climL (balW 0 1) (mapW prW u)).t = 0 ∧ (climL (balW 0 1) (mapW prW u)).l = 0 from hpr)
        cases g
        all_goals
          by_cases hz : h = 0
          all_goals
            obtain ⟨gd, hgd⟩ : ∃ gd, gd = yes := ⟨_, rfl⟩
            rw [← hgd] at HTy
            have hyv := HTy.out
            simp only [hz, Bool.false_and, Bool.true_and, decide_true, decide_false] at hyv
            subst hyv
            subst hgd
            have hzb : (h == 0) = decide (h = 0) := by rw [Bool.eq_iff_iff]; simp
            simp only [hz, decide_true, decide_false] at hzb
            go_wp2_with fail
            refine namedC fun w7 H7 => ?_
            have hb7 : Below w6.heap.size w6 w7 := by rw [H7.out]; (repeat first | exact Below.refl _ _ | assumption | refine Below.drew ?_ | refine Below.alloc ?_ (by first | exact Nat.le_refl _ | (simp; done) | omega | (simp; omega)) _ | refine Below.setCell ?_ (by first | exact Nat.le_refl _ | (simp; done) | omega | (simp; omega)) _)
            have RS := Lib.hid (rd_strs (show Blk w7 w6.heap.size 9 #[.string ⟨#[97, 98]⟩, .string ⟨#[97, 97, 98, 98]⟩, .string ⟨#[99]⟩, .string ⟨#[100]⟩] by rw [H7.out]; exact Blk.new _ _ _))
            have b7 := Lib.hid (b6.out.trans (hb7.mono b6.out.size))
            clear H7 hb7 g6 gl6
            refine (MP.out w7 b7.out (some ⟨w6.heap.size, 0, none⟩) RS.out).mono ?_
            rintro e w8 ⟨A8, c8, rfl, own8, hb8⟩
            have b8 := Lib.hid (b7.out.trans (hb8.mono b7.out.size))
            have O8 := Lib.hid own8
            clear own8 hb8
            have BT := Lib.hid (Blk.new w8 26 #[.slice A8 T.length c8])
            have q0 := BT.out.cell 0
            have ql := BT.out.lt
            have BV2 := Lib.hid (implBal_any A8 T.length c8 T ⟨#[97]⟩ ⟨#[98]⟩ (w8.alloc (.cells #[.slice A8 T.length c8] 26)) (by omega) ((Rd.of_own (fun x _ => fac_len x) rfl O8.out).next ((Below.refl _ _).alloc (Nat.le_refl _) _)) (wf_sz HwT.out) (by decide) (by decide))
            rw [balV_ab HgT.out HwT.out, HTW.out, hpr.1, hpr.2] at BV2
            go_wp2_with fail
            refine BV2.out.mono ?_
            rintro e w9 ⟨rfl, hb9⟩
            have b9 := Lib.hid ((b8.out.alloc b8.out.size (.cells #[.slice A8 T.length c8] 26)).trans (hb9.mono (by have := b8.out.size; simp; omega)))
            clear hb9
            go_wp2_with fail
            go_ret
            exact ⟨rfl, b3.out.trans (b9.out.mono b3.out.size)⟩
      · cases g
        all_goals
          by_cases hz : h = 0
          all_goals
            obtain ⟨gd, hgd⟩ : ∃ gd, gd = yes := ⟨_, rfl⟩
            rw [← hgd] at HTy
            have hyv := HTy.out
            simp only [hz, Bool.false_and, Bool.true_and, decide_true, decide_false] at hyv
            subst hyv
            subst hgd
            have hzb : (h == 0) = decide (h = 0) := by rw [Bool.eq_iff_iff]; simp
            simp only [hz, decide_true, decide_false] at hzb
            go_wp2_with fail
            refine namedC fun w7 H7 => ?_
            have hb7 : Below w6.heap.size w6 w7 := by rw [H7.out]; (repeat first | exact Below.refl _ _ | assumption | refine Below.drew ?_ | refine Below.alloc ?_ (by first | exact Nat.le_refl _ | (simp; done) | omega | (simp; omega)) _ | refine Below.setCell ?_ (by first | exact Nat.le_refl _ | (simp; done) | omega | (simp; omega)) _)
            have RS := Lib.hid (rd_strs (show Blk w7 w6.heap.size 9 #[.string ⟨#[97, 98]⟩, .string ⟨#[97, 97, 98, 98]⟩, .string ⟨#[99]⟩, .string ⟨#[100]⟩] by rw [H7.out]; exact Blk.new _ _ _))
            have b7 := Lib.hid (b6.out.trans (hb7.mono b6.out.size))
            clear H7 hb7 g6 gl6
            refine (MP.out w7 b7.out (some ⟨w6.heap.size, 0, none⟩) RS.out).mono ?_
            rintro e w8 ⟨A8, c8, rfl, own8, hb8⟩
            have b8 := Lib.hid (b7.out.trans (hb8.mono b7.out.size))
            have O8 := Lib.hid own8
            clear own8 hb8
            have BT := Lib.hid (Blk.new w8 26 #[.slice A8 T.length c8])
            have q0 := BT.out.cell 0
            have ql := BT.out.lt
            go_wp2_with fail
            go_ret
            exact ⟨rfl, b3.out.trans ((b8.out.alloc b8.out.size _).mono b3.out.size)⟩
set_option maxRecDepth 100000 in
theorem fnBalanced_contract (H : Type) (enc : TypeId × Value → H) (W : World) (base : Nat) (args : Array Value) (ds gs : List (DataW H)) (before : List MemPlace)
    (hval : ∀ (j : Nat) t v, Try.f5.params[j]? = some t → args[j]? = some v → Value.okWide Try.prog W .any base t v)
    (hW : DataW.Whole enc Try.prog Try.f5.params.toList Rows.fnBalancedSpec.vars false W args.toList ds gs before) :
    Calls Try.prog 5 args W fun e W' => ∃ v, e = .returned v ∧ Rows.fnBalancedSpec.post enc Try.prog Try.f5 false true false false W args v W' := by
  have hW' := hW
  obtain ⟨p, q, hA0, hV, rfl, hfz, hnd⟩ := hW
  have hA : DataW.TrodAll enc Try.prog W 0 (fun _ => true) true Try.f5.params.toList args.toList ds p := hA0
  rw [Try.params5] at hA hval
  obtain ⟨v0, vs0, d0, ds0, p0, q0, hargs, rfl, rfl, h0, r0⟩ := trodAll_cons hA
  obtain ⟨v1, vs1, d1, ds1, p1, q1, rfl, rfl, rfl, h1, r1⟩ := trodAll_cons r0
  obtain ⟨rfl, rfl, rfl⟩ := trodAll_nil r1
  obtain rfl : args = #[v0, v1] := by cases args; simp_all
  obtain ⟨rfl, rfl⟩ := trodVars_none hV
  obtain ⟨A0, n0, c0, zs0, rfl, hn0, rd0, ok0⟩ := open_bytes Try.underlying22 Try.underlying5 (by kernel_rfl) (hval 0 22 v0 rfl rfl) h0
  obtain ⟨A1, n1, c1, zs1, rfl, hn1, rd1, ok1⟩ := open_bytes Try.underlying22 Try.underlying5 (by kernel_rfl) (hval 1 22 v1 rfl rfl) h1
  clear hA0
  refine (walkBalanced A0 n0 c0 zs0 A1 n1 c1 zs1 W hn0 rd0 ok0 hn1 rd1 ok1).mono fun e W' ⟨he, hb⟩ => ?_
  subst he
  exact ⟨_, rfl, law_post laidOut hW' rfl 4 Try.underlying4 (by kernel_rfl) (by rw [Try.params5]; intro t ht; simp at ht; first | (subst ht; exact ⟨by kernel_rfl, of_decide_eq_true (by kernel_rfl)⟩) | (rcases ht with rfl | rfl <;> exact ⟨by kernel_rfl, of_decide_eq_true (by kernel_rfl)⟩) | (rcases ht with rfl | rfl | rfl <;> exact ⟨by kernel_rfl, of_decide_eq_true (by kernel_rfl)⟩) | (rcases ht with rfl | rfl | rfl | rfl <;> exact ⟨by kernel_rfl, of_decide_eq_true (by kernel_rfl)⟩)) rfl hb⟩

set_option maxRecDepth 100000 in
theorem fnBalanced_lifted (os : Os) (started : os.Started) (H : Type) (enc : TypeId × Value → H) :
    ReturnsInHanded {} Try.checked os 5 .any (Rows.fnBalancedSpec.pre6 enc Try.prog Try.f5 Rows.fnBalancedRow.domain false) (Rows.fnBalancedSpec.post enc Try.prog Try.f5 false true false false) := by
  refine returnsInHanded_of_change (C := Try.checked) own started (by kernel_rfl) Try.func5
    (ChangeSpec.witness6 (enc := enc) (C := Try.checked) false ⟨#[], #[.slice none 0 0, .slice none 0 0], []⟩ 8 (by kernel_rfl) (by kernel_rfl) (by kernel_rfl) (by kernel_rfl)) ?_
  intro W base args ds gs before hval0 hW hcnd _
  exact fnBalanced_contract H enc W base args ds gs before hval0 hW

theorem fnBalanced_holds : Rows.FnBalancedSaid :=
  OpenClaim.holds_of_wide 5 Try.f5 rfl rfl rfl rfl rfl rfl rfl ⟨rfl, rfl, rfl, rfl, rfl⟩ rfl rfl rfl rfl rfl (by as_aux_lemma => kernel_rfl) Try.func5
    (joined_mk (by as_aux_lemma => kernel_rfl) laidOut mapsRowed' (by as_aux_lemma => kernel_rfl) (by as_aux_lemma => kernel_rfl) (by as_aux_lemma => kernel_rfl) (by as_aux_lemma => kernel_rfl) (by as_aux_lemma => kernel_rfl) (by as_aux_lemma => kernel_rfl) plainKeys' rfl heard' mayEnter' lifts' make' (by as_aux_lemma => kernel_rfl))
    (of_decide_eq_true (by kernel_rfl)) (by unfold Func.isWrapper; first | (rw [if_pos (by decide +kernel)]; kernel_rfl) | (rw [if_neg (by decide +kernel)]; exact ⟨rfl, rfl⟩))
    (fun os started H enc _ => fnBalanced_lifted os started H enc)

end Go.Proofs.Ytfanphhlagjkdaa
