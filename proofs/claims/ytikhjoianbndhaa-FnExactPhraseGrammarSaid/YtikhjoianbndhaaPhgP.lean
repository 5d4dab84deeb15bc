/-
  PhraseGrammar in the program.
-/
import Derived.Test.YtikhjoianbndhaaPhgI
import Derived.Test.YtikhjoianbndhaaMade
import Derived.Test.YtikhjoianbndhaaLtrP
import Derived.Test.YtikhjoianbndhaaTold
namespace Go.Proofs.Ytikhjoianbndhaa
open Go.RowKit

def pgF (s : ByteArray) : List Fac := if okW s = true then toldF (phgL s) else []
def pgC (s : ByteArray) : Int := if okW s = true then toldC (phgL s) else 1
theorem pgF_len (s : ByteArray) : (pgF s).length ≤ 1048576 := by
  unfold pgF
  split
  · have := toldF_len (phgL s); omega
  · simp
theorem phgL_short {s : ByteArray} (ho : okW s = true) : ShortV (phgL s) := fun k hk => by
  have := (phgL_ok ho).2 k hk
  unfold lenV at this
  omega
/-- what the map of numbers holds -/
def MapN (mm : List (ByteArray × Value)) (f : NumF) : Prop := ∀ x, mget x mm = (f x).map fun k => .int .i64 k
theorem MapN.put {mm : List (ByteArray × Value)} {f : NumF} (h : MapN mm f) (p : ByteArray) (k : Int) : MapN (mput p (.int .i64 k) mm) (numPut f p k) := fun x => by
  rw [mget_mput]
  unfold numPut
  by_cases hx : x = p
  · rw [if_pos hx, if_pos hx]; rfl
  · rw [if_neg hx, if_neg hx]; exact h x
theorem num0_take {ks : List UInt8} (hd : ks.Nodup) {i : Nat} {c : UInt8} (hc : ks[i]? = some c) : num0 (ks.take (i + 1)) = numPut (num0 (ks.take i)) ⟨#[c]⟩ (i : Int) := by
  have hi := (List.getElem?_eq_some_iff.1 hc).1
  have h1 : ks.take (i + 1) = ks.take i ++ [c] := by
    rw [List.take_succ_eq_append_getElem hi]
    congr 2
    exact (List.getElem?_eq_some_iff.1 hc).2
  have h2 : c ∉ ks.take i := by
    intro hm
    obtain ⟨j, hj⟩ := List.mem_iff_getElem?.1 hm
    rw [List.getElem?_take] at hj
    split at hj
    · rename_i hji
      have h3 : ks[j]'(by omega) = ks[i]'hi := by
        have e1 := (List.getElem?_eq_some_iff.1 hj).2
        have e2 := (List.getElem?_eq_some_iff.1 hc).2
        rw [e1, e2]
      have := (List.getElem_inj hd).1 h3
      omega
    · cases hj
  rw [h1, num0_snoc h2, List.length_take]
  congr 1
  omega
/-- 'PhraseGrammar' under way -/
structure PgW (w W : World) (G M : Nat) (A : Option Addr) (n c : Nat) (rs : List Fac) (B : Option Addr) (m d : Nat) (ks : List Int) (mm : List (ByteArray × Value)) (pv : Value) (np : Nat) (ps : List ByteArray) : Prop where
  p : MdW w W G w.heap.size #[.slice none 0 0] A n c rs B m d ks
  m : MapIs W M strK mm
  f : W.ownsRow w.heap.size 9 1 pv np (ps.flatMap strE)
  hm : w.heap.size < M ∧ M ≠ G
section
variable {w W W' : World} {G M : Nat} {A : Option Addr} {n c : Nat} {rs : List Fac} {B : Option Addr} {m d : Nat} {ks : List Int} {mm : List (ByteArray × Value)} {pv : Value} {np : Nat} {ps : List ByteArray}
theorem PgW.next (h : PgW w W G M A n c rs B m d ks mm pv np ps) (hb : Below W.heap.size W W') : PgW w W' G M A n c rs B m d ks mm pv np ps :=
  ⟨h.p.next hb, h.m.next hb, own_next h.f hb, h.hm⟩
theorem PgW.alloc (h : PgW w W G M A n c rs B m d ks mm pv np ps) (o : Obj) : PgW w (W.alloc o) G M A n c rs B m d ks mm pv np ps := h.next ((Below.refl _ _).alloc (Nat.le_refl _) _)
theorem PgW.push {A8 : Option Addr} {k8 c8 : Nat} {rs' : List Fac} (h : PgW w W G M A n c rs B m d ks mm pv np ps) (hq : W'.ownsRow w.heap.size 44 3 (.slice A8 k8 c8) k8 (rs'.flatMap Fac.cells)) (hg : W.grownBy W' (Value.slice A n c).ownBlock) :
    PgW w (W'.setCell ⟨G, 0, none⟩ (.slice A8 k8 c8)) G M A8 k8 c8 rs' B m d ks mm pv np ps :=
  ⟨h.p.push hq hg, (h.m.grown hg (h.m.ne_own h.p.q)).far h.hm.2 _, own_kept' (h.f.kept hg (own_ne h.f h.p.q (by decide))) (h.p.g.grown hg (own_blk_ne h.p.q h.p.g (by decide))) (by decide) _, h.hm⟩
theorem PgW.pushK {B8 : Option Addr} {k8 c8 : Nat} {ks' : List Int} (h : PgW w W G M A n c rs B m d ks mm pv np ps) (hq : W'.ownsRow w.heap.size 2 1 (.slice B8 k8 c8) k8 (ks'.flatMap intE)) (hg : W.grownBy W' (Value.slice B m d).ownBlock) : PgW w W' G M A n c rs B8 k8 c8 ks' mm pv np ps :=
  ⟨⟨h.p.q.kept hg (own_ne h.p.q h.p.k (by decide)), hq, h.p.g.grown hg (own_blk_ne h.p.k h.p.g (by decide)), h.p.o.grown hg (own_blk_ne h.p.k h.p.o (by decide)), h.p.e.grown hg h.p.e.size (own_ge h.p.k), h.p.hg, h.p.hn⟩,
    h.m.grown hg (h.m.ne_own h.p.k), h.f.kept hg (own_ne h.f h.p.k (by decide)), h.hm⟩
theorem PgW.put {mm' : List (ByteArray × Value)} (h : PgW w W G M A n c rs B m d ks mm pv np ps) (hm : MapIs W' M strK mm') (hg : W.grownBy W' (some M)) (hb : Below w.heap.size w W') : PgW w W' G M A n c rs B m d ks mm' pv np ps :=
  have ne : ∀ {e sz n : Nat} {v : Value} {xs : List Value}, W.ownsRow w.heap.size e sz v n xs → v.ownBlock = none ∨ v.ownBlock ≠ some M := fun ho => by
    have := h.m.ne_own ho
    exact .inr fun e => this e.symm
  ⟨⟨h.p.q.kept hg (ne h.p.q), h.p.k.kept hg (ne h.p.k), h.p.g.grown hg (by intro e; injection e with e; exact h.hm.2 e.symm), h.p.o.grown hg (by intro e; injection e with e; have := h.hm.1; omega), hb, h.p.hg, h.p.hn⟩, hm, h.f.kept hg (ne h.f), h.hm⟩
end
/-- a cell of the grammar's block put: other rows stay -/
theorem own_cell {W : World} {base e sz n : Nat} {v : Value} {xs : List Value} {G : Nat} {g : Array Value} (h : W.ownsRow base e sz v n xs) (hg : Blk W G 24 g) (hne : e ≠ 24) (x : Value) : (W.setCell ⟨G, 0, none⟩ x).ownsRow base e sz v n xs := own_kept' h hg hne x
set_option maxHeartbeats 8000000 in
set_option maxRecDepth 100000 in
theorem implPhG_any (s : ByteArray) (w : World) (hs : s.size ≤ 1048576) : Calls Try.prog 8 #[.string s] w (RetGC w (pgF s) (pgC s)) := by
  rcases ho : okW s with _ | _
  · have Ho := Lib.hid ho
    have hT := Lib.hid (show pgF s = [] by unfold pgF; rw [ho]; rfl)
    have hC := Lib.hid (show pgC s = 1 by unfold pgC; rw [ho]; rfl)
    rw [hT.out, hC.out]
    clear ho hT hC
    go_enter Try.func8, Try.ntmps8
    go_wp2_with fail
    refine (validWord_any s false _ (by unfold maxLen; omega) Ho.out).mono ?_
    rintro e w1 ⟨rfl, hb1⟩
    have B1 := (Blk.new w 24 #[.slice none 0 0]).next hb1
    have b1 : Below w.heap.size w w1 := ((Below.refl w.heap.size w).alloc (Nat.le_refl _) (.cells #[.slice none 0 0] 24)).trans (hb1.mono (by simp))
    have d1 := B1.cell 0
    have f1 := B1.frozen
    have l1 := B1.lt
    have B5 := B1.set_ 0 (.slice none 0 0)
    have x5 : (w1.setCell ⟨w.heap.size, 0, none⟩ (.slice none 0 0)).cell? ⟨w.heap.size, 0, none⟩ = some (.slice none 0 0) := by rw [B5.cell 0]; rfl
    have b5 := b1.setCell (p := ⟨w.heap.size, 0, none⟩) (Nat.le_refl _) (.slice none 0 0)
    clear B5 B1
    go_wp2_with fail
    refine bodyPost_ret (v := .tuple #[.agg #[.slice none 0 0], .int .i64 1]) (by simp [results, Try.results8, go_sem, x5]) rfl ⟨none, 0, rfl, World.ownsRow_nil _ _ _ _, b5⟩
  · have Ho := Lib.hid ho
    have hT := Lib.hid (show pgF s = toldF (phgL s) by unfold pgF; rw [ho]; rfl)
    have hC := Lib.hid (show pgC s = toldC (phgL s) by unfold pgC; rw [ho]; rfl)
    rw [hT.out, hC.out]
    have hs2 := okW_len2 ho
    have hkl := ksP_len s.data.toList
    have hnp := phr_len' ho
    have HOk := Lib.hid (phOk_of hs2)
    clear ho hT hC
    have hmm := @run_makeMap Try.prog
    go_enter Try.func8, Try.ntmps8
    go_wp2_with fail
    refine (validWord_any s true _ (by unfold maxLen; omega) Ho.out).mono ?_
    rintro e w1 ⟨rfl, hb1⟩
    have b1 : Below w.heap.size w w1 := ((Below.refl w.heap.size w).alloc (Nat.le_refl _) (.cells #[.slice none 0 0] 24)).trans (hb1.mono (by simp))
    have B1 := Lib.hid ((Blk.new w 24 #[.slice none 0 0]).next hb1)
    go_wp2_with fail
    refine (letters_any s w1 Ho.out).mono ?_
    rintro e w2 ⟨A, c, BB, dd, rfl, own2, _, hb2⟩
    have b2 : Below w.heap.size w w2 := b1.trans (hb2.mono b1.size)
    have B2 := Lib.hid (B1.out.next hb2)
    have O2 := Lib.hid (own2.mono b1.size)
    clear own2
    have hll : (lettersP s.data.toList).length = (ksP s.data.toList).length := by simp [lettersP]
    obtain ⟨n, hn⟩ : ∃ n, (lettersP s.data.toList).length = n := ⟨_, rfl⟩
    have HLL := Lib.hid hll
    have HN := Lib.hid hn
    rw [hn] at O2
    have hn4 : n ≤ 4 := by omega
    simp only [gramV, hn]
    clear hll hn
    go_wp2_with fail
    refine named fun w3 H3 => ?_
    have P3 := Lib.hid (show PgW w w3 w2.heap.size (w2.heap.size + 1) A n c (lettersP s.data.toList) (some ⟨w2.heap.size + 1 + 1, 0, none⟩) 0 0 [] [] (.slice none 0 0) 0 [] by
      rw [H3.out]
      refine ⟨⟨?_, ?_, ?_, ?_, ?_, b2.size, ?_⟩, ?_, World.ownsRow_nil _ _ _ _, ?_, ?_⟩
      · exact own_next O2.out (by (repeat first | exact Below.refl _ _ | assumption | refine Below.drew ?_ | refine Below.alloc ?_ (by first | exact Nat.le_refl _ | (simp; done) | omega | (simp; omega)) _ | refine Below.setCell ?_ (by first | exact Nat.le_refl _ | (simp; done) | omega | (simp; omega)) _))
      · have h := World.ownsRow_made (base := w.heap.size) (e := 2) (size := 1) ((w2.alloc (.cells #[.slice A n c] 24)).alloc (.map #[] 0)) #[] 0 (by have := b2.size; simp; omega) (by unfold maxLen; omega) rfl
        simpa using h
      · exact ((Blk.new w2 _ _).alloc _).alloc _
      · exact (((B2.out).alloc _).alloc _).alloc _
      · exact b2.trans (Below.mono (by (repeat first | exact Below.refl _ _ | assumption | refine Below.drew ?_ | refine Below.alloc ?_ (by first | exact Nat.le_refl _ | (simp; done) | omega | (simp; omega)) _ | refine Below.setCell ?_ (by first | exact Nat.le_refl _ | (simp; done) | omega | (simp; omega)) _)) b2.size)
      · have := B2.out.lt; omega
      · have h := MapIs.made (w2.alloc (.cells #[.slice A n c] 24)) strK
        simpa using h.alloc _
      · have := B2.out.lt; omega
      · omega)
    have hG : w.heap.size < w2.heap.size := B2.out.lt
    clear H3 hmm hb1 hb2 b1 b2 B1 B2 O2
    generalize w2.heap.size = G at *
    generalize G + 1 + 1 = LB at *
    generalize G + 1 = M at *
    go_loopw [29] (fun i_ w' => ∃ (i : Nat) (mm : List (ByteArray × Value)), i_ = .int .i64 i ∧ i ≤ n ∧ Hid (PgW w w' G M A n c (lettersP s.data.toList) (some ⟨LB, 0, none⟩) 0 0 [] mm (.slice none 0 0) 0 []) ∧ Hid (MapN mm (num0 ((ksP s.data.toList).take i)))) (fun i_ _ => n - (intOf i_).toNat)
    case atStart => exact ⟨0, [], rfl, by omega, P3, Lib.hid (fun x => by simp [num0]; rfl)⟩
    case round =>
      obtain ⟨i, mm, rfl, hi, P1, HM⟩ := hrel
      clear P3
      by_cases hlt : i < n
      · obtain ⟨b, o, x, rfl, hB, gx, c0, c1, c2⟩ := (Rd.of_own (fun x _ => fac_len x) HN.out P1.out.p.q).fac hlt
        obtain ⟨cc, hcc, hx⟩ := letters_at gx
        have HM2 := HM.out.put ⟨#[cc]⟩ (i : Int)
        rw [← num0_take (ksP_nodup _) hcc] at HM2
        have hxl : x.l = ⟨#[cc]⟩ := by rw [hx]; rfl
        rw [← hxl] at HM2
        have HM3 := Lib.hid HM2
        have i0 : (0 : Int) ≤ (i : Int) := by omega
        have i1 : (i : Int) < (n : Int) := by omega
        have P2 := Lib.hid (P1.out.alloc (.cells #[.string x.l, .int .i64 x.a, .int .i64 x.b] 44))
        clear gx hcc hx HM2 hxl HM
        go_wp2_with
          (at_mapUpdate
           refine wpList_put (w0 := w) rfl _ _ _ rfl (str_ok Try.underlying9) Try.underlying49 rfl x.l (.int .i64 i) rfl rfl P2.out.m w.heap.size rfl (by have := P2.out.hm.1; omega) P2.out.p.e ?_
           intro w9 hm9 hg9 hb9
           have P9 := Lib.hid (P2.out.put hm9 hg9 hb9))
        go_roundw
        case rel => exact ⟨i + 1, _, by go_num, by omega, P9, HM3⟩
        case measure => simp [intOf]; omega
      · obtain rfl : i = n := by omega
        have HM0 := HM.out
        rw [List.take_of_length_le (by have := HN.out; have := HLL.out; omega)] at HM0
        have HM1 := Lib.hid HM0
        clear HM HM0
        go_wp2_with (go_at_call 28; refine (implPhrases_any s _ hs2).mono ?_; rintro e w4 ⟨PA, pc, rfl, ownP, hbP⟩)
        have P4 := P1.out.next hbP
        obtain ⟨np, hnpe⟩ : ∃ np, (phr s 0 []).length = np := ⟨_, rfl⟩
        obtain ⟨ps, hpse⟩ : ∃ ps, phr s 0 [] = ps := ⟨_, rfl⟩
        have I0 := phI_init (w := s.data.toList) (fun c hc => by
          have h := Ho.out
          unfold okW at h
          simp only [Bool.and_eq_true, List.all_eq_true] at h
          exact h.2 c hc)
        have SG0 : phGo ps (phg0 s.data.toList) = phgS s := by rw [← hpse]; rfl
        rw [hnpe, hpse] at ownP
        rw [hpse] at hnpe HOk
        rw [hpse] at hnp
        rw [hnpe] at hnp
        have HNP := Lib.hid hnpe
        have P5 := Lib.hid (show PgW w w4 G M A i c (lettersP s.data.toList) (some ⟨LB, 0, none⟩) 0 0 [] mm (.slice PA np pc) np ps from ⟨P4.p, P4.m, ownP.mono P1.out.p.e.size, P4.hm⟩)
        have HI0 := Lib.hid I0
        have HG0 := Lib.hid SG0
        have HPS := Lib.hid hpse
        simp only [hpse, hnpe]
        clear P4 P1 I0 SG0 ownP hnpe hbP hpse hlt hi
        go_loopw [7, 42] (fun l_ j_ w' => ∃ (j n : Nat) (A : Option Addr) (c : Nat) (L : Option Addr) (d : Nat) (S : PhS) (mm : List (ByteArray × Value)), l_ = .slice L j d ∧ j_ = .int .i64 j ∧ j ≤ np ∧ n ≤ 4 + j ∧ Hid (S.rs.length = n) ∧ Hid (S.pl.length = j) ∧
          Hid (PhI s.data.toList S (ps.take j)) ∧ Hid (phGo (ps.drop j) S = phgS s) ∧ Hid (MapN mm S.m) ∧ Hid (PgW w w' G M A n c S.rs L j d S.pl mm (.slice PA np pc) np ps)) (fun _ j_ _ => np - (intOf j_).toNat)
        case atStart => exact ⟨0, i, A, c, _, 0, phg0 s.data.toList, mm, rfl, rfl, by omega, by omega, HN, Lib.hid rfl, Lib.hid (by rw [List.take_zero]; exact HI0.out), HG0, HM1, P5⟩
        case round =>
          clear P5 HM1 HI0 HG0 HN
          obtain ⟨j, n, A, c, L, d, S, mm, rfl, rfl, hj, hn4, HSn, HSp, HI, HG, HM, P1⟩ := hrel
          by_cases hlt : j < np
          · obtain ⟨b, o, p, rfl, hB, gx, c0⟩ := (Rd.of_own (enc := strE) (fun _ _ => rfl) HNP.out P1.out.f).str hlt
            obtain ⟨hp0, hp1, hp2, hp3⟩ := HOk.out j p gx
            have HGs := Lib.hid (show phGo (ps.drop (j + 1)) (phStep S p) = phgS s by rw [← HG.out, drop_cons gx]; rfl)
            have hst := HI.out.step hp0 hp1 hp2 hp3
            have htk : ps.take j ++ [p] = ps.take (j + 1) := by
              rw [List.take_succ_eq_append_getElem (by have := HNP.out; omega)]
              congr 2
              exact ((List.getElem?_eq_some_iff.1 gx).2).symm
            rw [htk] at hst
            have HIs := Lib.hid hst
            have j0 : (0 : Int) ≤ (j : Int) := by omega
            have j1 : (j : Int) < (np : Int) := by omega
            have HP2 := Lib.hid hp2
            have HP3 := Lib.hid hp3
            have hmp := HM.out p
            have look := fun (W : World) (mm : List (ByteArray × Value)) (h : MapIs W M strK mm) (x : ByteArray) (k : Int) (hk : mget x mm = some (.int .i64 k)) => (show (Instr.lookup 49 (.map (some M)) (.string x) false).run Try.prog W = .ok (.int .i64 k) W by
              have := h.look (str_ok Try.underlying9) Try.underlying49 (zero_i64 W) x
              rw [hk] at this; exact this)
            have Lk := Lib.hid look
            have zk2 : (j + 1) * 8 ≤ 140737488355328 := by omega
            have zkm2 : j + 1 ≤ maxLen := by unfold maxLen; omega
            clear hst htk gx hp2 hp3 look
            cases hsm : S.m p with
            | some k =>
              rw [hsm] at hmp
              have hmp' : mget p mm = some (.int .i64 k) := hmp
              have e1 := Lib.hid (show (mget p mm).getD (.int .i64 0) = .int .i64 k by rw [hmp']; rfl)
              have e2 := Lib.hid (show (mget p mm).isSome = true by rw [hmp']; rfl)
              have es := show phStep S p = ⟨S.rs, S.m, S.pl ++ [k]⟩ by unfold phStep; rw [hsm]
              rw [es] at HGs HIs
              have lk1 := Lk.out wr mm P1.out.m p k hmp'
              have P2 := Lib.hid (P1.out.alloc (.cells #[.int .i64 k] 2))
              clear hsm hmp hmp' es
              go_wp2_with
                (first
                  | (at_lookup
                     refine wpList_lookOk rfl _ _ rfl (str_ok Try.underlying9) Try.underlying49 (zero_i64 _) rfl p rfl P1.out.m ?_
                     rw [e1.out, e2.out])
                  | (at_builtin
                     refine wpList_push (w0 := w) rfl _ _ _ rfl w.heap.size 2 1 8 elem_int intE _ j d S.pl rfl P2.out.p.k wr.heap.size k #[.int .i64 k] 2 (0, 0) rfl (heap_alloc_new _ _) rfl rfl (by simp [intE, Value.oneCell']) (by omega) (by omega) (by unfold maxLen; omega) rfl P2.out.p.e ?_
                     intro A9 c9 w9 own9 hg9 hat9 hb9
                     have P9 := Lib.hid (P2.out.pushK own9 hg9)))
              go_roundw
              case rel => exact ⟨j + 1, n, A, c, A9, c9, ⟨S.rs, S.m, S.pl ++ [k]⟩, mm, rfl, by go_num, by omega, by omega, HSn, Lib.hid (by rw [List.length_append, HSp.out]; rfl), HIs, HGs, HM, P9⟩
              case measure => simp [intOf]; omega
            | none =>
              rw [hsm] at hmp
              have hmp' : mget p mm = none := hmp
              have e1 := Lib.hid (show (mget p mm).getD (.int .i64 0) = .int .i64 0 by rw [hmp']; rfl)
              have e2 := Lib.hid (show (mget p mm).isSome = false by rw [hmp']; rfl)
              obtain ⟨h1, h2, a, b', ha, hb'⟩ := HI.out.parts hsm hp0 HP2.out HP3.out
              have es : phStep S p = ⟨S.rs ++ [⟨⟨#[]⟩, a, b'⟩], numPut S.m p (n : Int), S.pl ++ [(n : Int)]⟩ := by unfold phStep; rw [hsm, ha, hb']; simp only [Option.getD_some, HSn.out]
              rw [es] at HGs HIs
              have va := HI.out.mv _ _ ha
              have vb := HI.out.mv _ _ hb'
              rw [HSn.out] at va vb
              obtain ⟨n1, hn1⟩ : ∃ n1, p.size = n1 + 1 := ⟨p.size - 1, by omega⟩
              have hia : mget (p.extract 0 n1) mm = some (.int .i64 a) := by
                have := HM.out (initS p)
                rw [ha] at this
                unfold initS at this
                rw [show p.size - 1 = n1 by omega] at this; exact this
              have hib : mget (p.extract n1 p.size) mm = some (.int .i64 b') := by
                have := HM.out (lastS p)
                rw [hb'] at this
                unfold lastS at this
                rw [show p.size - 1 = n1 by omega] at this; exact this
              have lka := Lk.out wr.drew mm (P1.out.m.drew) _ a hia
              have lkb := Lk.out wr.drew mm (P1.out.m.drew) _ b' hib
              have u1 : IntKind.i64.wrap ((p.size : Int) - 1) = (n1 : Int) := by rw [IntWalk.i64_in _ (by omega)]; omega
              have u2 : IntKind.i64.wrap ((n : Int) + 1 - 1) = (n : Int) := by rw [IntWalk.i64_in _ (by omega)]; omega
              have u3 : IntKind.i64.wrap (n : Int) = (n : Int) := IntWalk.i64_in _ (by omega)
              have q0 : (0 : Int) ≤ (n1 : Int) := by omega
              have q1 : (n1 : Int) ≤ (p.size : Int) := by omega
              have LC := Lib.hid (fun W => pair64_any a b' W (by omega) (by omega))
              obtain ⟨y, hy⟩ : ∃ y : Fac, ⟨⟨#[]⟩, a, b'⟩ = y := ⟨_, rfl⟩
              rw [hy] at LC HGs HIs
              have HMp := Lib.hid (HM.out.put p (n : Int))
              have P3 := Lib.hid (P1.out.next (Below.refl _ _).drew)
              have gl := P1.out.p.g.lt
              have gc := P1.out.p.g.cell 0
              have d3 := P3.out.p.g.cell 0
              have zk : (n + 1) * 32 ≤ 140737488355328 := by omega
              have zkm : n + 1 ≤ maxLen := by unfold maxLen; omega
              clear hsm hmp hmp' es hy ha hb' h2 hia hib va vb hn1
              go_wp2_with
                (at_lookup
                 refine wpList_lookOk rfl _ _ rfl (str_ok Try.underlying9) Try.underlying49 (zero_i64 _) rfl p rfl P1.out.m ?_
                 rw [e1.out, e2.out])
              go_region_law
                (first
                  | (refine step_push (by rfl) _ _ _ (by rfl) w.heap.size 44 3 32 elem_rule Fac.cells A n c S.rs (by rfl) P6.out.p.q _ y #[.string y.l, .int .i64 y.a, .int .i64 y.b] 44 (0, 0) (by rfl) (heap_alloc_new _ _) rfl rfl (one_fac _) (by omega) zk zkm P6.out.p.e.size ?_
                     intro A8 c8 w8 own8 hg8 old8
                     have P7 := Lib.hid (P6.out.push own8 hg8)
                     have B5 := P6.out.p.g.grown hg8 (own_blk_ne P6.out.p.q P6.out.p.g (by decide))
                     have d5 := B5.cell 0
                     have f5 := B5.frozen
                     have l5 := B5.lt)
                  | (go_simp
                     go_wp2_with (go_at_call 29; refine (LC.out _).mono ?_; rintro e w4 ⟨rfl, hb4⟩)
                     have P4 := Lib.hid (P3.out.next hb4)
                     have P6 := Lib.hid (P4.out.alloc (.cells #[.string y.l, .int .i64 y.a, .int .i64 y.b] 44))
                     have d4 := P4.out.p.g.cell 0
                     have l4 := P4.out.p.g.lt))
              all_goals
                have d7 := P7.out.p.g.cell 0
                have l7 := P7.out.p.g.lt
                clear lka lkb d3 d4 l4 d5 f5 l5 gl gc
                go_wp2_with
                  (first
                    | (at_mapUpdate
                       refine wpList_put (w0 := w) rfl _ _ _ rfl (str_ok Try.underlying9) Try.underlying49 rfl p (.int .i64 n) rfl rfl P7.out.m w.heap.size rfl (by have := P7.out.hm.1; omega) P7.out.p.e ?_
                       intro w9 hm9 hg9 hb9
                       have P9 := Lib.hid (P7.out.put hm9 hg9 hb9)
                       have lk9 := Lk.out w9 _ P9.out.m p (n : Int) (by rw [mget_mput, if_pos rfl])
                       have P10 := Lib.hid (P9.out.alloc (.cells #[.int .i64 (n : Int)] 2)))
                    | (at_builtin
                       refine wpList_push (w0 := w) rfl _ _ _ rfl w.heap.size 2 1 8 elem_int intE _ j d S.pl rfl P10.out.p.k w9.heap.size (n : Int) #[.int .i64 (n : Int)] 2 (0, 0) rfl (heap_alloc_new _ _) rfl rfl (by simp [intE, Value.oneCell']) (by omega) (by omega) (by unfold maxLen; omega) rfl P10.out.p.e ?_
                       intro A9 c9 w11 own9 hg11 hat9 hb11
                       have P11 := Lib.hid (P10.out.pushK own9 hg11)))
                go_roundw
                case rel => exact ⟨j + 1, n + 1, A8, c8, A9, c9, ⟨S.rs ++ [y], numPut S.m p (n : Int), S.pl ++ [(n : Int)]⟩, _, rfl, by go_num, by omega, by omega, Lib.hid (by rw [List.length_append, HSn.out]; rfl), Lib.hid (by rw [List.length_append, HSp.out]; rfl), HIs, HGs, HMp, P11⟩
                case measure => simp [intOf]; omega
          · obtain rfl : j = np := by omega
            have HN2 := HNP.out
            have eS : S = phgS s := by have := HG.out; rw [List.drop_of_length_le (by omega)] at this; exact this
            subst eS
            have hL : phgL s = chainL (phgS s).rs (phgS s).pl := rfl
            have hone := fun k => phg_one Ho.out (k := k)
            have hrg : ∀ k ∈ (phgS s).pl, -9223372036854775808 ≤ k ∧ k ≤ 9223372036854775807 := by
              intro k hk
              have I := phgS_ok Ho.out
              rw [I.pv] at hk
              obtain ⟨q, hq, rfl⟩ := List.mem_map.1 hk
              have h1 := I.md q hq
              cases e : (phgS s).m q with
              | none => rw [e] at h1; cases h1
              | some k => have := I.mv q k e; have := HSn.out; rw [Option.getD_some]; omega
            have hT := phgL_ok Ho.out
            have hV := phgL_short Ho.out
            have hLL := phgL_len Ho.out
            have hcl := chainL_len (phgS s).rs (phgS s).pl
            rw [← hL] at hcl
            rw [HSn.out, HSp.out] at hcl
            have HW := Lib.hid hT.1
            have HV := Lib.hid hV
            have HRg := Lib.hid hrg
            have HOne := Lib.hid hone
            have HLe := Lib.hid hL
            clear hT hV hrg hone hL HG HI HNP HN2
            go_wp2_with fail
            refine (made_any w G w.heap.size #[.slice none 0 0] A n c L j d (phgS s).rs (phgS s).pl wr (by omega) (by omega) HSn.out HSp.out HRg.out P1.out.p).mono ?_
            rintro e w5 ⟨rfl, A5, c5, M5⟩
            rw [← HLe.out] at M5
            have HM5 := Lib.hid M5
            clear M5 P1 HM HRg HLe
            obtain ⟨N, hN⟩ : ∃ N, (phgL s).length = N := ⟨_, rfl⟩
            have HNl := Lib.hid hN
            rw [hN] at HM5 hcl hLL
            have HCL := Lib.hid hcl
            clear hN hcl
            have gl := HM5.out.g.lt
            have gc := HM5.out.g.cell 0
            have gf := HM5.out.g.frozen
            go_upto_if 90 with fail
            go_cut [] (fun wx => Hid (MdW w wx G w.heap.size #[.slice none 0 0] A5 N c5 (phgL s) L j d (phgS s).pl))
            case first =>
              by_cases h1 : j = 1
              · subst h1
                obtain ⟨lb, lo, x0, rfl, hlB, g0, lc⟩ := (Rd.of_own (enc := intE) (fun _ _ => rfl) HSp.out HM5.out.k).int (show 0 < 1 by omega)
                have hpl : (phgS s).pl = [x0] := by
                  obtain ⟨z, hz⟩ := List.length_eq_one_iff.1 HSp.out
                  rw [hz] at g0 ⊢
                  simp at g0; rw [g0]
                obtain ⟨hr1, rfl⟩ := HOne.out x0 hpl
                obtain rfl : N = 1 := by have := HSn.out; have := HCL.out; omega
                have lc' : w5.cell? ⟨lb, lo, none⟩ = some (.int .i64 0) := by simpa using lc
                obtain ⟨g5, cp5, hv5, hb5, hlt5⟩ := HM5.out.q.form (by omega)
                have hcap : 1 ≤ c5 := by
                  rcases HM5.out.q.2 with ⟨_, h0⟩ | ⟨g, cap, cur, hv, _, _, hc, _⟩
                  · omega
                  · injection hv with _ _ e3; omega
                injection hv5 with e1 e2 e3
                subst e1
                subst e3
                have M6 := Lib.hid (MdW.cell HM5.out HM5.out.q)
                have hc1 : (1 : Int) ≤ (c5 : Int) := by omega
                clear hpl hr1 g0 lc hn4 hj hlt hnp hLL
                go_wp2_with fail
                go_region
                all_goals
                  go_wp2_with fail
                  go_meet
                  exact Lib.hid (M6.out.next (Below.refl _ _).drew)
              · have h1' : ¬ (j : Int) = 1 := by omega
                go_wp2_with fail
                go_meet
                exact HM5
            case rest =>
              have M6 := hcut
              clear gc gl gf HM5
              have gl := M6.out.g.lt
              have gc := M6.out.g.cell 0
              go_wp2_with fail
              refine (trimOrLimit_any A5 N c5 (phgL s) _ (by omega) (Rd.of_own (fun x _ => fac_len x) HNl.out M6.out.q) HW.out HV.out).mono ?_
              rintro e w7 ⟨A7, c7, rfl, own7, hb7⟩
              have b7 := M6.out.e.trans (hb7.mono M6.out.e.size)
              have B7 := Lib.hid (M6.out.o.next hb7)
              have O7 := Lib.hid (own7.mono M6.out.e.size)
              clear own7
              generalize toldF (phgL s) = T at *
              generalize toldC (phgL s) = TC at *
              have d5 := B7.out.cell 0
              have f5 := B7.out.frozen
              have l5 := B7.out.lt
              have B6 := B7.out.set_ 0 (.slice A7 T.length c7)
              have x6 : (w7.setCell ⟨w.heap.size, 0, none⟩ (.slice A7 T.length c7)).cell? ⟨w.heap.size, 0, none⟩ = some (.slice A7 T.length c7) := by rw [B6.cell 0]; rfl
              have b6 := b7.setCell (p := ⟨w.heap.size, 0, none⟩) (Nat.le_refl _) (.slice A7 T.length c7)
              have O6 := Lib.hid (own_kept' O7.out B7.out (by decide) (.slice A7 T.length c7) (i := 0))
              clear B6
              go_wp2_with fail
              exact bodyPost_ret (v := .tuple #[.agg #[.slice A7 T.length c7], .int .i64 TC]) (by simp [results, Try.results8, go_sem, x6]) rfl ⟨A7, c7, rfl, O6.out, b6⟩
end Go.Proofs.Ytikhjoianbndhaa
