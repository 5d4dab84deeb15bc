
/-
  Factors that are read, in the program.
-/
import Derived.Test.YtkkadlihlbpbiaaDoorRfS
import Derived.Test.YtkkadlihlbpbiaaDoorShelf
namespace Go.Proofs.YtkkadlihlbpbiaaDoor
open Go.RowKit

theorem splitB_bas (s : ByteArray) (c : UInt8) : Lib.splitB ⟨#[c]⟩ 0 (Lib.countB s ⟨#[c]⟩) s = bas (spl c s.data.toList) := by
  have h := Lib.splitB_data ⟨#[c]⟩ 0 (Lib.countB s ⟨#[c]⟩) s
  have e : Lib.countB s ⟨#[c]⟩ = Lib.count s.data.toList [c] := rfl
  rw [e] at h ⊢
  have h2 : Lib.splitK (⟨#[c]⟩ : ByteArray).data.toList 0 (Lib.count s.data.toList [c]) s.data.toList = spl c s.data.toList := split_spl c _ _ (Nat.le_refl _)
  rw [h2] at h
  unfold bas
  rw [← h, List.map_map]
  conv => lhs; rw [← List.map_id (Lib.splitB _ _ _ _)]
  refine List.map_congr_left fun x _ => ?_
  show x = ⟨x.data.toList.toArray⟩
  rw [Array.toArray_toList]
theorem flat_strE (L : List ByteArray) : L.flatMap strE = L.map Value.string := by
  induction L with
  | nil => rfl
  | cons a r ih => rw [List.flatMap_cons, List.map_cons, ← ih]; rfl
/-- what the library's variables hold -/
structure EnvR (m : Int) (es er : Value) (W : World) : Prop where
  h0 : W.cell? ⟨0, 0, none⟩ = some (.int .i64 m)
  h1 : W.cell? ⟨1, 0, none⟩ = some es
  h2 : W.cell? ⟨2, 0, none⟩ = some er
  e1 : ∃ te pe, es = .iface te pe
  e2 : ∃ te pe, er = .iface te pe
  ht : TabD W
theorem EnvR.next {m : Int} {es er : Value} {W W' : World} (h : EnvR m es er W) (hb : Below W.heap.size W W') : EnvR m es er W' :=
  ⟨(hb.cell (p := ⟨_, 0, none⟩) (Lib.lt_of_cell h.h0)).trans h.h0, (hb.cell (p := ⟨_, 0, none⟩) (Lib.lt_of_cell h.h1)).trans h.h1, (hb.cell (p := ⟨_, 0, none⟩) (Lib.lt_of_cell h.h2)).trans h.h2, h.e1, h.e2, tab_up h.ht hb⟩
theorem parse_any {m : Int} {es er : Value} (l : List UInt8) (W : World) (hE : EnvR m es er W) (hl : l.length ≤ 4000) :
    Calls Tryd.prog 15 #[.string ⟨l.toArray⟩, .int .i64 10, .int .i64 64] W (fun e w' => ∃ ev, e = .returned (.tuple #[.int .i64 (pI l), ev]) ∧ Below W.heap.size W w') := by
  have hs : (⟨l.toArray⟩ : ByteArray).size ≤ 4000 := by show l.toArray.size ≤ _; rw [List.size_toArray]; exact hl
  have hd : (⟨l.toArray⟩ : ByteArray).data.toList = l := rfl
  obtain ⟨t1, p1, q1⟩ := hE.e1
  obtain ⟨t2, p2, q2⟩ := hE.e2
  rcases hp : Lib.parseIntB 64 l with v | _ | _
  · have hv : pI l = v := by unfold pI; rw [hp]
    rw [hv]
    refine (Tryd.strconv_ParseInt_10_at64_ok ⟨l.toArray⟩ (by omega) v (by rw [hd]; exact hp) W).mono ?_
    rintro e w' ⟨rfl, hw⟩
    refine ⟨_, rfl, ?_⟩
    rcases hw with rfl | ⟨t, rfl⟩
    · exact Below.refl _ _
    · exact Lib.bytesWorld_below _ _ _
  · have hv : pI l = 0 := by unfold pI; rw [hp]
    rw [hv]
    refine (Any.strconv_ParseInt_10_at64_syntax Tryd.laysC174 ⟨l.toArray⟩ (by omega) (by rw [hd]; exact hp) es W hE.h1 (.inr ⟨t1, p1, q1⟩)).mono ?_
    rintro e w' ⟨N, rfl, _, _, hb⟩
    exact ⟨_, rfl, hb⟩
  · have hv : pI l = Lib.intSat 64 l := by unfold pI; rw [hp]
    rw [hv]
    refine (Tryd.strconv_ParseInt_10_at64_range ⟨l.toArray⟩ (by omega) (by rw [hd]; exact hp) er W hE.h2 (.inr ⟨t2, p2, q2⟩)).mono ?_
    rintro e w' ⟨N, rfl, _, _, hb⟩
    exact ⟨_, rfl, hb⟩
theorem cutI_any {m : Int} {es er : Value} (l : List UInt8) (W : World) (hE : EnvR m es er W) (hl : l.length ≤ 4000) :
    Calls Tryd.prog 14 #[.string ⟨l.toArray⟩, .string ⟨#[32]⟩] W (Ret (.tuple #[.string ⟨(Lib.cut l [32]).1.toArray⟩, .string ⟨(Lib.cut l [32]).2.1.toArray⟩, .bool (Lib.cut l [32]).2.2]) W) := by
  have hs : (⟨l.toArray⟩ : ByteArray).size ≤ 4000 := by show l.toArray.size ≤ _; rw [List.size_toArray]; exact hl
  refine (Tryd.strings_Cut ⟨l.toArray⟩ ⟨#[32]⟩ m W (by omega) hE.h0).mono ?_
  rintro e w' ⟨rfl, n, rfl⟩
  exact ⟨rfl, rfl, rfl, rfl, Nat.le_refl _, fun _ _ => rfl⟩
theorem splitI_any {m : Int} {es er : Value} (s : ByteArray) (W : World) (hE : EnvR m es er W) (hs : s.size ≤ 4000) :
    Calls Tryd.prog 13 #[.string s, .string ⟨#[10]⟩] W (RetNew W 9 1 strE (bas (spl 10 s.data.toList))) := by
  refine (Tryd.strings_Split s ⟨#[10]⟩ m W (by omega) hE.h0 (by show 1 ≤ 1; omega)).mono ?_
  rintro e w' ⟨rfl, rfl⟩
  have hlen : (bas (spl 10 s.data.toList)).length = Lib.countB s ⟨#[10]⟩ + 1 := by
    rw [← splitB_bas]; exact Lib.splitB_all ⟨#[10]⟩ (by show 1 ≤ 1; omega) 0 _ s rfl
  have hc := Lib.countB_le ⟨#[10]⟩ (by show 1 ≤ 1; omega) s.size s (Nat.le_refl _)
  rw [splitB_bas]
  generalize Lib.countB s ⟨#[10]⟩ = K at *
  generalize bas (spl 10 s.data.toList) = L at *
  refine ⟨_, K + 1, ret_slice hlen.symm, ?_, (Below.refl _ _).alloc (Nat.le_refl _) _⟩
  have hf := flat_strE L
  refine ⟨by rw [hf, List.length_map, Nat.mul_one], .inr ⟨W.heap.size, K + 1, (L.map Value.string).toArray, rfl, Nat.le_refl _, heap_alloc_new _ _, by omega, by unfold maxLen; omega, by simp [hlen], ?_⟩⟩
  rw [hf, List.toList_toArray, List.take_of_length_le (by rw [List.length_map, Nat.mul_one]; exact Nat.le_refl _)]
theorem lineI_size {l : List UInt8} (h : l.length ≤ 4000) : (lineI l).l.size ≤ maxLen := by
  unfold lineI maxLen
  split
  · show (0 : Nat) ≤ _; omega
  · show l.toArray.size ≤ _
    rw [List.size_toArray]; omega
theorem cut_small (l : List UInt8) : (Lib.cut l [32]).1.length ≤ l.length ∧ (Lib.cut l [32]).2.1.length ≤ l.length := by
  unfold Lib.cut
  split
  · exact ⟨by rw [List.length_take]; omega, by rw [List.length_drop]; omega⟩
  · exact ⟨Nat.le_refl _, by show 0 ≤ _; omega⟩
/-- what the loop over the lines keeps -/
structure LpW (w W : World) (lb lo : Nat) (LS : List (List UInt8)) (A : Option Addr) (i c : Nat) (out : List Fac) : Prop where
  own : W.ownsRow w.heap.size 32 3 (.slice A i c) i (out.flatMap Fac.cells)
  ne : some lb ≠ (Value.slice A i c).ownBlock
  lt : lb < W.heap.size
  rd : ∀ (k : Nat) (x : List UInt8), LS[k]? = some x → W.cell? ⟨lb, lo + k, none⟩ = some (.string ⟨x.toArray⟩)
  be : Below w.heap.size w W
section
variable {w W W' : World} {lb lo : Nat} {LS : List (List UInt8)} {A : Option Addr} {i c : Nat} {out : List Fac}
theorem LpW.next (h : LpW w W lb lo LS A i c out) (hb : Below W.heap.size W W') : LpW w W' lb lo LS A i c out :=
  ⟨own_next h.own hb, h.ne, Nat.lt_of_lt_of_le h.lt hb.size, fun k x hx => (hb.cell (p := ⟨lb, lo + k, none⟩) h.lt).trans (h.rd k x hx), h.be.trans (hb.mono h.be.size)⟩
theorem LpW.alloc (h : LpW w W lb lo LS A i c out) (o : Obj) : LpW w (W.alloc o) lb lo LS A i c out := h.next ((Below.refl _ _).alloc (Nat.le_refl _) o)
theorem LpW.push (h : LpW w W lb lo LS A i c out) {A' : Option Addr} {i' c' : Nat} {out' : List Fac} (ho : W'.ownsRow w.heap.size 32 3 (.slice A' i' c') i' (out'.flatMap Fac.cells)) (hg : W.grownBy W' (Value.slice A i c).ownBlock)
    (hat : (Value.slice A' i' c').ownBlock = (Value.slice A i c).ownBlock ∨ (Value.slice A' i' c').ownBlock = some W.heap.size) : LpW w W' lb lo LS A' i' c' out' := by
  refine ⟨ho, ?_, Nat.lt_of_lt_of_le h.lt hg.size, fun k x hx => hg.cell (h.rd k x hx) h.ne, h.be.grown hg h.be.size (own_ge h.own)⟩
  rcases hat with e | e
  · rw [e]; exact h.ne
  · rw [e]; intro q; injection q with q; have := h.lt; omega
theorem LpW.setCell (h : LpW w W lb lo LS A i c out) {g : Nat} (hg : w.heap.size ≤ g) (hl : lb ≠ g) (ho : (Value.slice A i c).ownBlock ≠ some g) (j : Nat) (u : Value) : LpW w (W.setCell ⟨g, j, none⟩ u) lb lo LS A i c out :=
  ⟨h.own.kept (gb_set W g j u) (.inr ho), h.ne, by simpa [World.setCell] using h.lt, fun k x hx => (gb_set W g j u).cell (h.rd k x hx) (by intro e; injection e with e; exact hl e), h.be.setCell hg u⟩
end
set_option maxHeartbeats 2000000 in
set_option maxRecDepth 100000 in
theorem implRead_any {mx : Int} {es er : Value} (s : ByteArray) (w : World) (hE : EnvR mx es er w) : Calls Tryd.prog 5 #[.string s] w (RetNewC w 32 3 Fac.cells (rdL readI s).1 (rdL readI s).2) := by
  have HE := Lib.hid (fun (W : World) (h : Below w.heap.size w W) => hE.next h)
  clear hE
  by_cases h4 : 4000 < s.size
  · have i1 : (4000 : Int) < (s.size : Int) := by omega
    have e1 := Lib.hid (show rdL readI s = ([], 2) by unfold rdL; rw [if_pos h4])
    go_enter Tryd.func5, Tryd.ntmps5
    go_wp2_with fail
    go_ret2
    rw [e1.out]
    exact ⟨none, 0, rfl, World.ownsRow_nil _ _ _ _, Below.refl _ _⟩
  have i1 : ¬ (4000 : Int) < (s.size : Int) := by omega
  have e1 := Lib.hid (show rdL readI s = if (facTotal (readI s.data.toList)).isSome = true ∧ textT (readI s.data.toList) ⟨#[]⟩ = s then (readI s.data.toList, 0) else ([], 5) by unfold rdL; rw [if_neg h4])
  have hcnt := spl_count 10 s.data.toList
  rw [len_byteR] at hcnt
  have hpos := List.length_pos_iff.2 (spl_ne 10 s.data.toList)
  have hsm := Lib.hid (fun x hx => by have h := spl_small 10 s.data.toList x hx; rw [len_byteR] at h; exact h)
  have hrd := Lib.hid (show readI s.data.toList = ((spl 10 s.data.toList).take ((spl 10 s.data.toList).length - 1)).map lineI by unfold readI; rw [List.dropLast_eq_take])
  have SPc := Lib.hid (fun W (h : Below w.heap.size w W) => splitI_any s W (HE.out W h) (by omega))
  generalize readI s.data.toList = RD at *
  generalize spl 10 s.data.toList = LS at *
  have hbl : (bas LS).length = LS.length := by unfold bas; simp
  obtain ⟨m, hm⟩ : ∃ m, LS.length = m := ⟨_, rfl⟩
  obtain ⟨M, hM⟩ : ∃ M, m = M + 1 := ⟨m - 1, by omega⟩
  go_enter Tryd.func5, Tryd.ntmps5
  go_wp2_with fail
  refine (SPc.out _ (by (repeat first | exact Below.refl _ _ | assumption | refine Below.drew ?_ | refine Below.alloc ?_ (by first | exact Nat.le_refl _ | (simp; done) | omega | (simp; omega)) _ | refine Below.setCell ?_ (by first | exact Nat.le_refl _ | (simp; done) | omega | (simp; omega)) _))).mono ?_
  rintro e w1 ⟨A1, c1, rfl, own1, hb1⟩
  rw [hbl, hm] at own1 ⊢
  have r1 := (show Rd w1 w1.heap.size A1 m 1 (fun s => [.string s]) (bas LS) from Rd.of_own (enc := strE) (fun _ _ => rfl) (hbl.trans hm) own1)
  obtain ⟨lb, lo, rfl, hlB, hc1⟩ := r1.2 (by omega)
  have hlb : w.heap.size < lb := by
    have := (own1.lt lb rfl).1
    simp at this; omega
  have hcap : m ≤ c1 := by
    rcases own1.2 with ⟨h, _⟩ | ⟨g, cap, cur, h, _, _, h3, _⟩
    · cases h
    · injection h with _ _ h; omega
  have RL := Lib.hid (fun (k : Nat) (x : List UInt8) (hk : LS[k]? = some x) => show w1.cell? ⟨lb, lo + k, none⟩ = some (.string ⟨x.toArray⟩) by
    have := hc1 k _ (bas_get hk) 0 _ rfl
    simpa using this)
  have O1 := Lib.hid (own_next (World.ownsRow_made (base := w.heap.size) (e := 32) (size := 3) w #[] 0 (Nat.le_refl _) (by unfold maxLen; omega) rfl) hb1)
  have b1 := Lib.hid ((show Below w.heap.size w (w.alloc (.cells #[] 32)) from (by (repeat first | exact Below.refl _ _ | assumption | refine Below.drew ?_ | refine Below.alloc ?_ (by first | exact Nat.le_refl _ | (simp; done) | omega | (simp; omega)) _ | refine Below.setCell ?_ (by first | exact Nat.le_refl _ | (simp; done) | omega | (simp; omega)) _))).trans (hb1.mono (by simp)))
  have u1 : IntKind.i64.wrap ((m : Int) - 1) = (M : Int) := by rw [IntWalk.i64_in _ (by omega)]; omega
  have M0 : (0 : Int) ≤ (M : Int) := by omega
  have M1 : (M : Int) ≤ (c1 : Int) := by omega
  have w1s : Hid (w.heap.size ≤ w1.heap.size) := Lib.hid b1.out.size
  clear own1 hb1 SPc r1 hc1
  go_wp2_with fail
  go_loopw [4, 24] (fun o_ i_ w' => ∃ (A : Option Addr) (c i : Nat), o_ = .slice A i c ∧ i_ = .int .i64 i ∧ i ≤ M ∧ Hid (LpW w w' lb lo LS A i c ((LS.take i).map lineI))) (fun _ i_ _ => M - (intOf i_).toNat)
  case atStart => exact ⟨some ⟨w.heap.size, 0, none⟩, 0, 0, rfl, rfl, by omega, Lib.hid ⟨by simpa using O1.out, by intro e; injection e with e; have e' : lb = w.heap.size := e; omega, hlB, RL.out, b1.out⟩⟩
  case round =>
    obtain ⟨A, c, i, rfl, rfl, him, HP⟩ := hrel
    clear O1 RL b1 hlB
    by_cases hlt : i < M
    · obtain ⟨x, hx⟩ : ∃ x, LS[i]? = some x := ⟨_, List.getElem?_eq_getElem (by omega)⟩
      have l0 := HP.out.rd i x hx
      have hxs : x.length ≤ s.size := hsm.out x (List.mem_of_getElem? hx)
      have hsn := Lib.hid (show (LS.take (i + 1)).map lineI = (LS.take i).map lineI ++ [lineI x] by rw [List.take_add_one, hx]; simp)
      have i0 : (0 : Int) ≤ (i : Int) := by omega
      have i2 : (i : Int) < (M : Int) := by omega
      have i3 : (i : Int) < (m : Int) := by omega
      have u2 : IntKind.i64.wrap ((i : Int) + 1) = (i : Int) + 1 := IntWalk.i64_in _ (by omega)
      have CU := Lib.hid (cutI_any x wr (HE.out wr HP.out.be) (by omega))
      have hlz := lineI_size (l := x) (by omega)
      have hcs := cut_small x
      have hle : lineI x = if (Lib.cut x [32]).2.2 then ⟨⟨#[]⟩, pI (Lib.cut x [32]).1, pI (Lib.cut x [32]).2.1⟩ else ⟨⟨x.toArray⟩, 0, 0⟩ := rfl
      generalize Lib.cut x [32] = cc at *
      obtain ⟨p, q, r⟩ := cc
      have hcs1 : p.length ≤ x.length := hcs.1
      have hcs2 : q.length ≤ x.length := hcs.2
      have hle2 : lineI x = if r then ⟨⟨#[]⟩, pI p, pI q⟩ else ⟨⟨x.toArray⟩, 0, 0⟩ := hle
      have PP := Lib.hid (fun (W : World) (h : Below w.heap.size w W) => parse_any p W (HE.out W h) (by omega))
      have PQ := Lib.hid (fun (W : World) (h : Below w.heap.size w W) => parse_any q W (HE.out W h) (by omega))
      clear hx hcs hle
      cases r
      · have hline := Lib.hid (show lineI x = ⟨⟨x.toArray⟩, 0, 0⟩ from hle2)
        clear hle2 PP PQ
        go_wp2_with fail
        refine CU.out.mono ?_
        rintro e w2 ⟨rfl, hb2⟩
        have P2 := Lib.hid (((HP.out.next hb2).alloc (.cells #[.string ⟨x.toArray⟩, .int .i64 0, .int .i64 0] 32)).alloc (.cells #[.string ⟨x.toArray⟩, .int .i64 0, .int .i64 0] 32))
        have G2 : ((w2.alloc (.cells #[.string ⟨x.toArray⟩, .int .i64 0, .int .i64 0] 32)).alloc (.cells #[.string ⟨x.toArray⟩, .int .i64 0, .int .i64 0] 32)).heap[w2.heap.size + 1]? = some (.cells #[.string ⟨x.toArray⟩, .int .i64 0, .int .i64 0] 32 (0, 0)) := by
          have := heap_alloc_new (w2.alloc (.cells #[.string ⟨x.toArray⟩, .int .i64 0, .int .i64 0] 32)) (.cells #[.string ⟨x.toArray⟩, .int .i64 0, .int .i64 0] 32)
          simpa using this
        go_wp2_with
          (at_builtin
           refine wpList_pushG rfl _ _ _ rfl w.heap.size 32 3 32 elem_factorR Fac.cells A i c ((LS.take i).map lineI) rfl P2.out.own (w2.heap.size + 1) ⟨⟨x.toArray⟩, 0, 0⟩ _ _ _ rfl G2 rfl rfl (one_facR _) (by omega) (by omega) (by unfold maxLen; omega) P2.out.be.size ?_
           intro A9 c9 w9 own9 hg9 hat9
           have P9 := Lib.hid (P2.out.push own9 hg9 hat9)
           clear own9 hg9 hat9)
        go_roundw
        case rel => exact ⟨A9, c9, i + 1, rfl, by go_num, by omega, Lib.hid (by rw [hsn.out, hline.out]; exact P9.out)⟩
        case measure => simp [intOf]; omega
      · have hline := Lib.hid (show lineI x = ⟨⟨#[]⟩, pI p, pI q⟩ from hle2)
        clear hle2
        go_wp2_with fail
        refine CU.out.mono ?_
        rintro e w2 ⟨rfl, hb2⟩
        have P2 := Lib.hid ((HP.out.next hb2).alloc (.cells #[.string ⟨#[]⟩, .int .i64 0, .int .i64 0] 32))
        have hlw := HP.out.lt
        have hbw := HP.out.be.size
        have hbs := hb2.size
        have hno := Lib.hid (show (Value.slice A i c).ownBlock ≠ some w2.heap.size from fun e => by have := (HP.out.own.lt _ e).2; omega)
        clear hb2
        go_wp2_with fail
        refine (PP.out _ P2.out.be).mono ?_
        rintro e w3 ⟨ev1, rfl, hb3⟩
        have P3 := Lib.hid (P2.out.next hb3)
        have B3 := Lib.hid (Blk.below (show Blk (w2.alloc (.cells #[.string ⟨#[]⟩, .int .i64 0, .int .i64 0] 32)) w2.heap.size 32 #[.string ⟨#[]⟩, .int .i64 0, .int .i64 0] from heap_alloc_new _ _) hb3 (by simp))
        clear P2 hb3 PP
        generalize hgg : w2.heap.size = g at *
        have q1 : w3.cell? ⟨g, 1, none⟩ = some (.int .i64 0) := by rw [B3.out.cell 1]; rfl
        have f1 : w3.frozen? ⟨g, 1, none⟩ = false := B3.out.frozen 1
        have P3' := Lib.hid (P3.out.setCell (g := g) (by omega) (by omega) hno.out 1 (.int .i64 (pI p)))
        have B3' := Lib.hid (B3.out.set_ 1 (.int .i64 (pI p)))
        go_wp2_with fail
        refine (PQ.out _ P3'.out.be).mono ?_
        rintro e w4 ⟨ev2, rfl, hb4⟩
        have P4 := Lib.hid (P3'.out.next hb4)
        have B4 := Lib.hid (B3'.out.below hb4 (by have := (Array.getElem?_eq_some_iff.1 B3'.out).1; exact this))
        clear P3 P3' B3 B3' hb4 q1 f1
        have q2 : w4.cell? ⟨g, 2, none⟩ = some (.int .i64 0) := by rw [B4.out.cell 2]; rfl
        have f2 : w4.frozen? ⟨g, 2, none⟩ = false := B4.out.frozen 2
        have P5 := Lib.hid (P4.out.setCell (g := g) (by omega) (by omega) hno.out 2 (.int .i64 (pI q)))
        have B5 := Lib.hid (B4.out.set_ 2 (.int .i64 (pI q)))
        have k0 : (w4.setCell ⟨g, 2, none⟩ (.int .i64 (pI q))).cell? ⟨g, 0, none⟩ = some (.string ⟨#[]⟩) := by rw [B5.out.cell 0]; rfl
        have k1 : (w4.setCell ⟨g, 2, none⟩ (.int .i64 (pI q))).cell? ⟨g, 1, none⟩ = some (.int .i64 (pI p)) := by rw [B5.out.cell 1]; rfl
        have k2 : (w4.setCell ⟨g, 2, none⟩ (.int .i64 (pI q))).cell? ⟨g, 2, none⟩ = some (.int .i64 (pI q)) := by rw [B5.out.cell 2]; rfl
        generalize pI p = np at *
        generalize pI q = nq at *
        have P6 := Lib.hid (P5.out.alloc (.cells #[.string ⟨#[]⟩, .int .i64 np, .int .i64 nq] 32))
        have G6 : ((w4.setCell ⟨g, 2, none⟩ (.int .i64 nq)).alloc (.cells #[.string ⟨#[]⟩, .int .i64 np, .int .i64 nq] 32)).heap[w4.heap.size]? = some (.cells #[.string ⟨#[]⟩, .int .i64 np, .int .i64 nq] 32 (0, 0)) := by
          have := heap_alloc_new (w4.setCell ⟨g, 2, none⟩ (.int .i64 nq)) (.cells #[.string ⟨#[]⟩, .int .i64 np, .int .i64 nq] 32)
          simpa [World.setCell] using this
        go_wp2_with
          (at_builtin
           refine wpList_pushG rfl _ _ _ rfl w.heap.size 32 3 32 elem_factorR Fac.cells A i c ((LS.take i).map lineI) rfl P6.out.own w4.heap.size ⟨⟨#[]⟩, np, nq⟩ _ _ _ rfl G6 rfl rfl (one_facR _) (by omega) (by omega) (by unfold maxLen; omega) P6.out.be.size ?_
           intro A9 c9 w9 own9 hg9 hat9
           have P9 := Lib.hid (P6.out.push own9 hg9 hat9)
           clear own9 hg9 hat9)
        go_roundw
        case rel => exact ⟨A9, c9, i + 1, rfl, by go_num, by omega, Lib.hid (by rw [hsn.out, hline.out]; exact P9.out)⟩
        case measure => simp [intOf]; omega
    · obtain rfl : i = M := by omega
      have i2 : ¬ (i : Int) < (i : Int) := by omega
      have hRD : (LS.take i).map lineI = RD := by rw [hrd.out, hm, hM]; rfl
      rw [hRD] at HP
      have hlRD : RD.length = i := by rw [← hRD, List.length_map, List.length_take]; omega
      have R9 := Lib.hid (Rd.of_own (fun x _ => len_factorR x) hlRD HP.out.own)
      have HSz := Lib.hid (show ∀ f ∈ RD, f.l.size ≤ maxLen from fun f hf => by
        rw [← hRD] at hf
        obtain ⟨x, hx, rfl⟩ := List.mem_map.1 hf
        exact lineI_size (by have := hsm.out x (List.mem_of_mem_take hx); omega))
      have B9 := Lib.hid HP.out.be
      have OW := Lib.hid HP.out.own
      have HT9 := Lib.hid (HE.out wr HP.out.be).ht
      clear hRD hrd hsm HP
      rcases hft : facTotal RD with _ | N
      · have HV := Lib.hid (implValid_any A i c RD wr (by unfold maxLen; omega) R9.out HSz.out none hft)
        have e2 := Lib.hid (show rdL readI s = ([], 5) by rw [e1.out, if_neg (by rw [hft]; simp)])
        clear hft e1
        go_wp2_with fail
        refine HV.out.mono ?_
        rintro e w3 ⟨rfl, hb3⟩
        have B3 := Lib.hid (B9.out.trans (hb3.mono B9.out.size))
        clear hb3
        go_wp2_with fail
        go_ret2
        rw [e2.out]
        exact ⟨none, 0, rfl, World.ownsRow_nil _ _ _ _, B3.out⟩
      · have HV := Lib.hid (implValid_any A i c RD wr (by unfold maxLen; omega) R9.out HSz.out (some N) hft)
        have hT0 : txtF RD = textT RD ⟨#[]⟩ := by unfold txtF; rw [if_pos (by rw [hft]; rfl)]
        have HT := Lib.hid (fun (W : World) (h : Below wr.heap.size wr W) => implTxt_any A i c RD W (by omega) (R9.out.next h) HSz.out (tab_up HT9.out h))
        rw [hT0] at HT
        have e2 := Lib.hid (show rdL readI s = if textT RD ⟨#[]⟩ = s then (RD, 0) else ([], 5) by
          rw [e1.out]
          by_cases h : textT RD ⟨#[]⟩ = s
          · rw [if_pos h, if_pos ⟨by rw [hft]; rfl, h⟩]
          · rw [if_neg h, if_neg (fun q => h q.2)])
        clear hT0
        generalize textT RD ⟨#[]⟩ = T at *
        clear hft e1
        go_wp2_with fail
        refine HV.out.mono ?_
        rintro e w3 ⟨rfl, hb3⟩
        have B3 := Lib.hid (B9.out.trans (hb3.mono B9.out.size))
        have O3 := Lib.hid (own_next OW.out hb3)
        have HT3 := Lib.hid (HT.out w3 hb3)
        clear hb3
        go_wp2_with fail
        refine HT3.out.mono ?_
        rintro e w4 ⟨rfl, hb4⟩
        have B4 := Lib.hid (B3.out.trans (hb4.mono B3.out.size))
        have O4 := Lib.hid (own_next O3.out hb4)
        clear hb4
        by_cases hT : T = s
        · have e3 := Lib.hid (show rdL readI s = (RD, 0) by rw [e2.out, if_pos hT])
          clear e2
          subst hT
          go_wp2_with fail
          go_ret2
          rw [e3.out]
          exact ⟨A, c, ret_sliceC (k := 0) hlRD.symm, by show w4.ownsRow _ _ _ (.slice A RD.length c) RD.length _; rw [hlRD]; exact O4.out, B4.out⟩
        · have hTl : (T.toList == s.toList) = false := by rw [tl_beq]; simpa using hT
          have hTn : ¬ T.toList = s.toList := by rw [tl_inj]; exact hT
          have e3 := Lib.hid (show rdL readI s = ([], 5) by rw [e2.out, if_neg hT])
          clear hT
          go_wp2_with fail
          go_ret2
          rw [e3.out]
          exact ⟨none, 0, rfl, World.ownsRow_nil _ _ _ _, B4.out⟩
end Go.Proofs.YtkkadlihlbpbiaaDoor
