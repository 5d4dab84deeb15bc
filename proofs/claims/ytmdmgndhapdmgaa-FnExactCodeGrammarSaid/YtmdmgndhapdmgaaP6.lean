/-
  Texts of this claim, merged: CdF CgA Law EditO CdO MarkG.
-/
import Derived.Test.YtmdmgndhapdmgaaP5
import Derived.ProofKit
import Derived.OpenShut
import Derived.JoinedCond
import Derived.Carry
import Derived.Deep.Slices
import Derived.Deep.Fields
import Derived.ChangeSame
import Derived.ChangeSlices
import Derived.SliceStrings
import Derived.Lib.SmallJoins


/-
  A coder marked: what the marks leave alone.
-/
namespace Go.Proofs.Ytmdmgndhapdmgaa
open Go.RowKit

set_option maxHeartbeats 1000000 in
theorem markCoderF_any (base : Nat) (S q : Int) (A O : Option Addr) (n c m d : Nat) (hs gs : List RowH) (nx : List (List Int)) (ot : List (List ByteArray)) (k : Nat) (w : World) (hb : base ≤ w.heap.size) (hn : n ≤ 1048576) (hm : m ≤ 1048576) (hk : k + sumL nx + sumL ot ≤ 1048576)
    (hA : TabR 60 2 intE w base A n c hs nx) (hO : TabR 63 9 strEM w base O m d gs ot) :
    Calls Try.prog 12 #[.agg #[.int .i64 S, .int .i64 q, .slice A n c, .slice O m d], .int .i64 (k : Int)] w fun e w' => e = .returned (.int .i64 ((k + sumL nx + sumL ot : Nat) : Int)) ∧ Below base w w' ∧ (∀ (b0 : Nat) (e : TypeId) (sz l : Nat) (v : Value) (xs : List Value), e ≠ 2 → e ≠ 9 → w.ownsRow b0 e sz v l xs → w'.ownsRow b0 e sz v l xs) ∧ (∀ (g : Nat) (t : TypeId) (cs : Array Value), t ≠ 2 → t ≠ 9 → Blk w g t cs → Blk w' g t cs) := by
  have B0 := Lib.hid (Blk.new w 36 #[.int .i64 S, .int .i64 q, .slice A n c, .slice O m d])
  have b0 := Lib.hid (show Below base w (w.alloc (.cells #[.int .i64 S, .int .i64 q, .slice A n c, .slice O m d] 36)) from (Below.refl _ _).alloc hb _)
  have A0 := Lib.hid (hA.alloc (.cells #[.int .i64 S, .int .i64 q, .slice A n c, .slice O m d] 36))
  have O0 := Lib.hid (hO.alloc (.cells #[.int .i64 S, .int .i64 q, .slice A n c, .slice O m d] 36))
  have M1 := Lib.hid (markTI_any base A n c k hs nx _ hn (by omega) A0.out)
  obtain ⟨x0, x1, x2, x3⟩ := B0.out.four
  have xl := B0.out.lt
  clear hA hO
  go_enter Try.func12, Try.ntmps12
  go_wp2_with fail
  refine M1.out.mono ?_
  rintro e w2 ⟨rfl, tab2, fr2⟩
  have hne : ∀ {b0 : Nat} {e : TypeId} {sz l : Nat} {v : Value} {xs : List Value}, (w.alloc (.cells #[.int .i64 S, .int .i64 q, .slice A n c, .slice O m d] 36)).ownsRow b0 e sz v l xs → e ≠ 2 → w2.ownsRow b0 e sz v l xs := fun ho hne => fr2.own ho fun i p g hp hv e => by
    have hx : nx[i]? = some (nx[i]'(by rw [A0.out.lx, ← A0.out.lg]; exact (List.getElem?_eq_some_iff.1 hp).1)) := List.getElem?_eq_getElem _
    rcases own_ne ho (A0.out.r i p _ hp hx).2 hne with h | h
    · rw [h] at e; cases e
    · exact h (by rw [e, hv])
  have O2 := Lib.hid (show TabR 63 9 strEM w2 base O m d gs ot from ⟨hne O0.out.o (by decide), O0.out.lg, O0.out.lx, fun i p y hp hy => ⟨(O0.out.r i p y hp hy).1, hne (O0.out.r i p y hp hy).2 (by decide)⟩, O0.out.d⟩)
  have B2 := Lib.hid (fr2.blk B0.out fun i p b hp hv e => by
    subst e
    have hx : nx[i]? = some (nx[i]'(by rw [A0.out.lx, ← A0.out.lg]; exact (List.getElem?_eq_some_iff.1 hp).1)) := List.getElem?_eq_getElem _
    exact own_blk_ne (A0.out.r i p _ hp hx).2 B0.out (by decide) hv.symm)
  have b2 := Lib.hid (b0.out.trans (fr2.below (Nat.le_trans hb b0.out.size) (fun i p b hp hv => (A0.out.ge i p b hp hv).1)))
  have HN := Lib.hid (fun (b0 : Nat) (e : TypeId) (sz l : Nat) (v : Value) (xs : List Value) (h1 : e ≠ 2) (h : w.ownsRow b0 e sz v l xs) => hne (own_next h ((Below.refl _ _).alloc (Nat.le_refl _) (.cells #[.int .i64 S, .int .i64 q, .slice A n c, .slice O m d] 36))) h1)
  have HB := Lib.hid (fun (g : Nat) (t : TypeId) (cs : Array Value) (h1 : t ≠ 2) (h : Blk w g t cs) => fr2.blk (h.alloc (.cells #[.int .i64 S, .int .i64 q, .slice A n c, .slice O m d] 36)) fun i p b hp hv e => by
    subst e
    have hx : nx[i]? = some (nx[i]'(by rw [A0.out.lx, ← A0.out.lg]; exact (List.getElem?_eq_some_iff.1 hp).1)) := List.getElem?_eq_getElem _
    exact own_blk_ne (A0.out.r i p _ hp hx).2 (h.alloc (.cells #[.int .i64 S, .int .i64 q, .slice A n c, .slice O m d] 36)) (Ne.symm h1) hv.symm)
  have M2 := Lib.hid (markTS_any base O m d (k + sumL nx) gs ot w2 hm hk O2.out)
  clear x0 x1 x2 x3 xl
  obtain ⟨x0, x1, x2, x3⟩ := B2.out.four
  have xl := B2.out.lt
  clear tab2 hne
  go_wp2_with fail
  refine M2.out.mono ?_
  rintro e w3 ⟨rfl, tab3, fr3⟩
  have b3 := Lib.hid (b2.out.trans (fr3.below (Nat.le_trans hb b2.out.size) (fun i p b hp hv => (O2.out.ge i p b hp hv).1)))
  have HN3 := Lib.hid (fun (b0 : Nat) (e : TypeId) (sz l : Nat) (v : Value) (xs : List Value) (h1 : e ≠ 2) (h2 : e ≠ 9) (h : w.ownsRow b0 e sz v l xs) => fr3.own (HN.out b0 e sz l v xs h1 h) fun i p g hp hv e => by
    have hx : ot[i]? = some (ot[i]'(by rw [O2.out.lx, ← O2.out.lg]; exact (List.getElem?_eq_some_iff.1 hp).1)) := List.getElem?_eq_getElem _
    rcases own_ne (HN.out _ _ _ _ _ _ h1 h) (O2.out.r i p _ hp hx).2 h2 with h | h
    · rw [h] at e; cases e
    · exact h (by rw [e, hv]))
  have HB3 := Lib.hid (fun (g : Nat) (t : TypeId) (cs : Array Value) (h1 : t ≠ 2) (h2 : t ≠ 9) (h : Blk w g t cs) => fr3.blk (HB.out g t cs h1 h) fun i p b hp hv e => by
    subst e
    have hx : ot[i]? = some (ot[i]'(by rw [O2.out.lx, ← O2.out.lg]; exact (List.getElem?_eq_some_iff.1 hp).1)) := List.getElem?_eq_getElem _
    exact own_blk_ne (O2.out.r i p _ hp hx).2 (HB.out _ t cs h1 h) (Ne.symm h2) hv.symm)
  clear fr3 tab3 fr2
  go_wp2_with fail
  go_ret
  exact ⟨rfl, b3.out, HN3.out, HB3.out⟩
end Go.Proofs.Ytmdmgndhapdmgaa


/-
  A coder's size, and a new grammar told into a box.
-/
namespace Go.Proofs.Ytmdmgndhapdmgaa
open Go.RowKit

theorem szRowsI_sum : ∀ (zs : List (List Int)) (left : Int), 0 ≤ szRowsI left zs → szRowsI left zs + (sumL zs : Nat) ≤ left
  | [], left, _ => by simp [szRowsI, sumL]
  | r :: rs, left, h => by
    rw [szRowsI] at h ⊢
    split
    · rename_i h1; rw [if_pos h1] at h; omega
    · rename_i h1
      rw [if_neg h1] at h
      have h2 := szRowsI_sum rs _ h
      have h3 : szIntAll left r = left - r.length := by
        unfold szIntAll at h1 ⊢
        split
        · rename_i h4; rw [if_pos h4] at h1; omega
        · rfl
      have h4 : sumL (r :: rs) = r.length + sumL rs := rfl
      omega
theorem szRowsS_sum : ∀ (zs : List (List ByteArray)) (left : Int), 0 ≤ szRowsS left zs → szRowsS left zs + (sumL zs : Nat) ≤ left
  | [], left, _ => by simp [szRowsS, sumL]
  | r :: rs, left, h => by
    rw [szRowsS] at h ⊢
    split
    · rename_i h1; rw [if_pos h1] at h; omega
    · rename_i h1
      rw [if_neg h1] at h
      have h2 := szRowsS_sum rs _ h
      have h3 : szStrAll left r ≤ left - r.length := by
        unfold szStrAll at h1 ⊢
        split
        · rename_i h4; rw [if_pos h4] at h1; omega
        · rename_i h4
          rw [if_neg h4] at h1
          have := (szStrs_le r (left - r.length) (by omega)).1
          omega
      have h4 : sumL (r :: rs) = r.length + sumL rs := rfl
      omega
theorem szCdr_le {nx : List (List Int)} {ot : List (List ByteArray)} (h : 0 ≤ szCdr 1048576 nx ot) :
    szCdr 1048576 nx ot ≤ 1048576 ∧ nx.length ≤ 1048576 ∧ ot.length ≤ 1048576 ∧ (∀ r ∈ nx, r.length ≤ 1048576) ∧ (∀ r ∈ ot, r.length ≤ 1048576 ∧ ∀ t ∈ r, t.size ≤ 1048576) ∧ szCdr 1048576 nx ot + (sumL nx + sumL ot + nx.length + ot.length : Nat) ≤ 1048576 := by
  have h1 : 0 ≤ szTabI 1048576 nx := by
    unfold szCdr at h
    split at h <;> omega
  have h2 : 0 ≤ szTabS (szTabI 1048576 nx) ot := by
    unfold szCdr at h
    rw [if_neg (by omega)] at h
    split at h <;> omega
  have e : szCdr 1048576 nx ot = szTabS (szTabI 1048576 nx) ot := by
    unfold szCdr
    rw [if_neg (by omega), if_neg (by omega)]
  obtain ⟨a1, a2, a3⟩ := szTabI_le h1
  obtain ⟨b1, b2, b3⟩ := szTabS_le h2
  have s1 : szTabI 1048576 nx + (sumL nx + nx.length : Nat) ≤ 1048576 := by
    unfold szTabI at h1 ⊢
    split
    · rename_i h4; rw [if_pos h4] at h1; omega
    · rename_i h4
      rw [if_neg h4] at h1
      have := szRowsI_sum nx _ h1
      omega
  have s2 : szTabS (szTabI 1048576 nx) ot + (sumL ot + ot.length : Nat) ≤ szTabI 1048576 nx := by
    unfold szTabS at h2 ⊢
    split
    · rename_i h4; rw [if_pos h4] at h2; omega
    · rename_i h4
      rw [if_neg h4] at h2
      have := szRowsS_sum ot _ h2
      omega
  refine ⟨by omega, by omega, by omega, fun r hr => ?_, fun r hr => ?_, by omega⟩
  · obtain ⟨l, hl, h3⟩ := a3 r hr
    have := (szIntAll_le h3).2; omega
  · obtain ⟨l, hl, h3⟩ := b3 r hr
    obtain ⟨_, h5, h6⟩ := szStrAll_le h3
    exact ⟨by omega, fun t ht => by have := h6 t ht; omega⟩
theorem cgR_len (S q : Int) (nx : List (List Int)) (ot : List (List ByteArray)) (rs : List Fac) : (cgR S q nx ot rs).1.length ≤ 1048576 := by
  unfold cgR
  split
  · unfold cgL
    split
    · simp
    · split
      · simp
      · rename_i h1
        have h2 : ¬ 400 < (mdA nx ot S.toNat q.toNat rs).1.length := fun h => h1 (.inl h)
        have h3 := trimL_le ((mdA nx ot S.toNat q.toNat rs).1.take (rootM nx ot S.toNat q.toNat rs + 1).toNat)
        have h4 := List.length_take_le (rootM nx ot S.toNat q.toNat rs + 1).toNat (mdA nx ot S.toNat q.toNat rs).1
        have h5 := List.length_take_le' (rootM nx ot S.toNat q.toNat rs + 1).toNat (mdA nx ot S.toNat q.toNat rs).1
        show (trimL _).length ≤ 1048576
        omega
  · simp
/-- a new grammar in its box -/
def NewG (w1 wx : World) (T : List Fac) (C : Int) (u6 u7 : Value) : Prop :=
  ∃ (g : Nat) (A : Option Addr) (c : Nat), u6 = .pointer (some ⟨g, 0, none⟩) ∧ u7 = .int .i64 C ∧ Below w1.heap.size w1 wx ∧ wx.ownsRow w1.heap.size 59 3 (.slice A T.length c) T.length (T.flatMap Fac.cells) ∧ Blk wx g 33 #[.slice A T.length c] ∧ w1.heap.size ≤ g
theorem newG_set {w1 W : World} {T : List Fac} {C : Int} {g : Nat} {A : Option Addr} {c b1 : Nat} {cs : Array Value} (hb : Below w1.heap.size w1 W) (ho : W.ownsRow b1 59 3 (.slice A T.length c) T.length (T.flatMap Fac.cells)) (hb1 : w1.heap.size ≤ b1) (hB : Blk W g 33 cs) (hcs : cs.size = 1) (hg : w1.heap.size ≤ g) :
    NewG w1 (W.setCell ⟨g, 0, none⟩ (.slice A T.length c)) T C (.pointer (some ⟨g, 0, none⟩)) (.int .i64 C) := by
  refine ⟨g, A, c, rfl, rfl, hb.setCell (by show w1.heap.size ≤ g; exact hg) _, own_kept' (i := 0) (ho.mono hb1) hB (by decide) _, ?_, hg⟩
  have h := hB.set_ 0 (.slice A T.length c)
  have e : cs.setIfInBounds 0 (.slice A T.length c) = #[.slice A T.length c] := by
    obtain ⟨l⟩ := cs
    match l, hcs with
    | [x], _ => rfl
  rw [e] at h
  exact h
theorem newG_alloc {w1 W : World} {T : List Fac} {C : Int} {A : Option Addr} {c b1 : Nat} (hb : Below w1.heap.size w1 W) (ho : W.ownsRow b1 59 3 (.slice A T.length c) T.length (T.flatMap Fac.cells)) (hb1 : w1.heap.size ≤ b1) :
    NewG w1 (W.alloc (.cells #[.slice A T.length c] 33)) T C (.pointer (some ⟨W.heap.size, 0, none⟩)) (.int .i64 C) :=
  ⟨W.heap.size, A, c, rfl, rfl, hb.alloc hb.size _, own_next (ho.mono hb1) ((Below.refl _ _).alloc (Nat.le_refl _) _), Blk.new _ _ _, hb.size⟩
end Go.Proofs.Ytmdmgndhapdmgaa


/-
  How a law's statement follows from its walk: the arguments opened to plain data; behind the walk they read as they did.
-/
namespace Go.Proofs.Ytmdmgndhapdmgaa
open Go.ChangeShapes Go.WideShapes Go.ChangeAt Go.RowKit Go.Deep

theorem own : ownKnob Try.prog.godebug = none := by kernel_rfl
theorem laidOut : laidOutB Try.prog = true := by kernel_rfl
theorem mapsRowed' : mapsRowed Try.prog = true := by kernel_rfl
theorem heard' : Try.prog.stopsHeard = true := by kernel_rfl
theorem mayEnter' : Try.prog.mayEnter = true := by kernel_rfl
theorem lifts' : (Rows.fnExactCodeGrammarRow.lifted == Try.prog.liftsFinal) = true := by kernel_rfl
theorem make' : (Try.prog.make == some Rows.fnExactCodeGrammarRow.make) = true := by kernel_rfl
theorem plainKeys' : (Rows.fnExactCodeGrammarRow.plainKeys == Try.prog.plainKeys) = true := by kernel_rfl
/-- a row's closed facts, one by one: so that the kernel gives its memory back behind each -/
theorem joined_mk {P : Program} {f : FuncId} {fn : Func} {s : ChangeSpec} {c : OpenClaim} (h1 : c.wf (OpenSpec.ofChange s) = true) (h2 : laidOutB P = true) (h3 : mapsRowed P = true)
    (h4 : (fn.params.all (P.readableRec ·) && namedTie P c.named s.vars && (c.stops == []) && (P.stops == []) && (c.knobs == []) && (P.stopKnobs == [])) = true)
    (h5 : (c.inPlace == P.inPlace f) = true) (h6 : (c.unfollowed == P.unfollowed f) = true) (h7 : (c.recurses == P.recurses f) = true) (h8 : (c.named == P.varsNamed f) = true)
    (h9 : ((c.maps == (fn.params.toList ++ s.plain.varTypes P).any (P.mapsRec ·)) && (c.ifaces == (fn.params.toList ++ s.plain.varTypes P).any (P.ifacesRec ·)) && (c.mapsOut == P.mapsAmong fn.resultTypes.toList) &&
      (c.loops == (fn.params.toList ++ s.plain.varTypes P).any (P.loopsFrom ·)) && (c.wideKeys == (fn.params.toList ++ s.plain.varTypes P ++ fn.resultTypes.toList).any (P.wideKeysFrom ·)) &&
      s.vars.all (P.varReadable ·) && fn.resultTypes.all (fun t => P.readableRec t && decide (t < P.types.size)) && (c.ifacesOut == fn.resultTypes.toList.any (P.ifacesRec ·)) && (c.loopsOut == fn.resultTypes.toList.any (P.loopsFrom ·))) = true)
    (h10 : (c.plainKeys == P.plainKeys) = true) (h11 : c.shortTexts.isNone = true) (h12 : P.stopsHeard = true) (h13 : P.mayEnter = true) (h14 : (c.lifted == P.liftsFinal) = true) (h15 : (P.make == some c.make) = true)
    (h16 : ((c.kinds == (if c.domain.isEmpty then [] else fn.params.toList.map fun t => match P.underlying t with | some (.int k) => some k | _ => none)) && (c.pinned == c.pinnedBy) &&
      (c.veiled == (fn.params.toList ++ s.plain.varTypes P ++ fn.resultTypes.toList).any (P.veiledRec ·)) && c.veiledFits P fn.params.toList (fn.params.toList ++ s.plain.varTypes P ++ fn.resultTypes.toList)) = true) :
    joinedFacts P f fn s c = true := by
  simp only [Bool.and_eq_true] at h4 h9 h16
  simp only [joinedFacts, Bool.and_eq_true]
  simp only [h1, h2, h3, h4, h5, h6, h7, h8, h9, h10, h11, h12, h13, h14, h15, h16, and_self]
  exact ⟨⟨⟨⟨trivial, h16.1.1.1⟩, trivial⟩, trivial⟩, trivial⟩

section
variable {H : Type} {enc : TypeId × Value → H} {P : Program}
/-- the arguments read as they did, where nothing old has turned -/
theorem args_below (hl : laidOutB P = true) {W W' : World} (hb : Below W.heap.size W W') : ∀ {ts : List TypeId} {vs : List Value} {ds : List (DataW H)} {ps : List MemPlace},
    (∀ t ∈ ts, P.readableRec t = true ∧ t < P.types.size) → DataW.TrodAll enc P W 0 (fun _ => true) true ts vs ds ps → (∀ p ∈ ps, p.block < W.heap.size) →
    ∀ sp : Nat → Bool, (∀ p ∈ ps, sp p.block = true) → DataW.TrodAll enc P W' 0 sp true ts vs ds ps
  | [], [], [], _, _, h, _, _, _ => h
  | t :: ts, v :: vs, d :: ds, ps, ht, h, hlt, sp, hsp => by
    obtain ⟨p, q, h1, h2, rfl⟩ := h
    obtain ⟨hr, hrow⟩ := ht t (by simp)
    exact ⟨p, q, WideElems.Trod_stays hl hr hrow h1 (fun x hx => hb.same (hlt x (by simp [hx]))) (fun x hx => hsp x (by simp [hx])),
      args_below hl hb (fun t' h' => ht t' (by simp [h'])) h2 (fun x hx => hlt x (by simp [hx])) sp (fun x hx => hsp x (by simp [hx])), rfl⟩
  | [], _ :: _, _, _, _, h, _, _, _ => by cases h
  | [], [], _ :: _, _, _, h, _, _, _ => by cases h
  | _ :: _, [], _, _, _, h, _, _, _ => by cases h
  | _ :: _, _ :: _, [], _, _, h, _, _, _ => by cases h

/-- a law's last step: it has returned true, and nothing old has turned -/
theorem law_post {f : Func} {s : ChangeSpec} {W W' : World} {args : Array Value} {ds gs : List (DataW H)} {before : List MemPlace} (hl : laidOutB P = true)
    (hW : DataW.Whole enc P f.params.toList s.vars false W args.toList ds gs before) (hv : s.vars = []) (b : TypeId) (hbool : P.underlying b = some .bool) (hrt : f.resultTypes = #[b])
    (hts : ∀ t ∈ f.params.toList, P.readableRec t = true ∧ t < P.types.size)
    (hsp : s.fn H (ds ++ gs) = { results := [.lit (.bool true)], args := ds }) (hb : Below W.heap.size W W') : s.post enc P f false true false false W args (.bool true) W' := by
  have hW0 := hW
  have hlt : ∀ p ∈ before, p.block < W.heap.size := fun p hp => hW.lt p hp
  obtain ⟨p, q, hA, hV, hpq, hz, hn⟩ := hW
  rw [hv] at hV
  obtain ⟨hg, hq⟩ := trodVars_none hV
  subst hg hq
  rw [List.append_nil] at hpq
  subst hpq
  have hargs := args_below hl hb hts hA hlt
  refine ⟨ds, [], before, [], before, [], hW0, ?_, ?_, ?_, World.keptBut_mono (fun p hp => ⟨hp, Or.inr (Or.inl hp)⟩) (hb.frame (· ∈ before)), fun h => by cases h⟩
  · rw [hsp, hrt]
    exact trodAll_mk1 (shut_bool hbool _)
  · rw [hsp]
    exact hargs _ (fun p hp => by simpa using hlt p hp)
  · rw [hsp, hv]
    exact rfl
end

def I64 (x : Int) : Prop := -9223372036854775808 ≤ x ∧ x ≤ 9223372036854775807
def Fac.ok (f : Fac) : Prop := f.l.size ≤ maxLen ∧ I64 f.a ∧ I64 f.b

theorem cell_spot {w : World} {a : Addr} {v : Value} (h : w.cell? a = some v) : a = ⟨a.block, a.off, none⟩ := by
  obtain ⟨b, o, s⟩ := a
  cases s with
  | none => rfl
  | some x =>
    exfalso
    unfold World.cell? at h
    split at h <;> simp at h

section
variable {H : Type} {enc : TypeId × Value → H} {P : Program} {w : World} {base : Nat} {spare : Nat → Bool} {held : Bool}
/-- a list of structs of a string and two numbers, as it reads -/
theorem facs_of_trod {t e : TypeId} {f0 f1 f2 : Field} {fuel : Nat} {cs0 : List Value} {x0 : DataW H × List MemPlace} (ht : P.underlying t = some (.slice e)) (he : P.underlying e = some (.struct #[f0, f1, f2]))
    (hone : oneCellFields P #[f0, f1, f2] = true) (hC : P.cellsOf e = 3) (t0 : P.underlying f0.type = some .string) (t1 : P.underlying f1.type = some (.int .i64)) (t2 : P.underlying f2.type = some (.int .i64))
    (hf : DataW.trod enc P w base spare held fuel t cs0 = some x0) :
    ∃ A n c fs, cs0 = [.slice A n c] ∧ n ≤ maxLen ∧ Rd w w.heap.size A n 3 Fac.cells fs ∧ ∀ f ∈ fs, Fac.ok f := by
  rcases open_slice ht hf with ⟨hcs, hx⟩ | ⟨a, len, cap, m, n, D, Pl, hcs, _, hl, hm, hmm, hx, hi⟩
  · exact ⟨none, 0, 0, [], hcs, by omega, Rd.none_, by simp⟩
  · subst hcs
    have hlm : len ≤ m := by rw [hmm]; split <;> omega
    have key : ∀ i, i < len → ∃ f : Fac, Fac.ok f ∧ w.cell? (a.add (i * 3)) = some (.string f.l) ∧ w.cell? ((a.add (i * 3)).add 1) = some (.int .i64 f.a) ∧ w.cell? ((a.add (i * 3)).add 2) = some (.int .i64 f.b) := by
      intro i hil
      obtain ⟨cs', hc, ht'⟩ := hi i (by omega)
      rw [hC] at hc
      obtain ⟨ys, n', hn', hy, hlen, hyl, hfld⟩ := DataW.trod_struct he ht'
      obtain ⟨_, hcl, hat⟩ := World.cells?_some hc
      obtain ⟨o0, k0⟩ := hone_of hone 0 f0 rfl
      obtain ⟨o1, k1⟩ := hone_of hone 1 f1 rfl
      obtain ⟨o2, k2⟩ := hone_of hone 2 f2 rfl
      rw [hC] at hlen
      match cs', hlen with
      | [x0, x1, x2], _ =>
        have q0 := hfld 0 f0 rfl
        have q1 := hfld 1 f1 rfl
        have q2 := hfld 2 f2 rfl
        match ys, hyl with
        | [y0, y1, y2], _ =>
          simp only [o0, k0, o1, k1, o2, k2] at q0 q1 q2
          obtain ⟨s, e0, _, hs⟩ := DataW.trod_string t0 (x := y0) (by simpa using q0)
          obtain ⟨z1, e1, _, w1⟩ := DataW.trod_int t1 (x := y1) (by simpa using q1)
          obtain ⟨z2, e2, _, w2⟩ := DataW.trod_int t2 (x := y2) (by simpa using q2)
          simp at e0 e1 e2
          subst e0 e1 e2
          refine ⟨⟨s, z1, z2⟩, ⟨hs, ?_, ?_⟩, ?_, ?_, ?_⟩
          · simpa [I64, Lit.wf, IntKind.min, IntKind.max, IntKind.signed, IntKind.bits] using w1
          · simpa [I64, Lit.wf, IntKind.min, IntKind.max, IntKind.signed, IntKind.bits] using w2
          · simpa [Addr.add] using hat 0 (by omega)
          · simpa using hat 1 (by omega)
          · simpa using hat 2 (by omega)
    obtain ⟨F, hF⟩ := choose_lt (α := Fac) (p := fun i f => Fac.ok f ∧ w.cell? (a.add (i * 3)) = some (.string f.l) ∧ w.cell? ((a.add (i * 3)).add 1) = some (.int .i64 f.a) ∧ w.cell? ((a.add (i * 3)).add 2) = some (.int .i64 f.b)) key
    refine ⟨some a, len, cap, (List.range len).map F, rfl, by omega, ⟨by simp, fun hp => ?_⟩, ?_⟩
    · have h0 := (hF 0 hp).2.1
      have ha : a = ⟨a.block, a.off, none⟩ := by
        have : a.add (0 * 3) = a := by simp [Addr.add]
        rw [this] at h0
        exact cell_spot h0
      refine ⟨a.block, a.off, by rw [← ha], ?_, ?_⟩
      · have := World.block_lt_of_cell? w _ h0
        simpa [Addr.add] using this
      · intro k x hx j u hu
        have hk : k < len := by
          have := (List.getElem?_eq_some_iff.1 hx).1
          simpa using this
        obtain rfl : F k = x := by simpa [hk] using hx
        obtain ⟨_, g0, g1, g2⟩ := hF k hk
        rw [ha] at g0 g1 g2
        simp only [Addr.add_lit] at g0 g1 g2
        rcases j with _ | _ | _ | j
        · simp [Fac.cells] at hu; subst hu; simpa using g0
        · simp [Fac.cells] at hu; subst hu; simpa using g1
        · simp [Fac.cells] at hu; subst hu; simpa using g2
        · simp [Fac.cells] at hu
    · intro f hf
      simp only [List.mem_map, List.mem_range] at hf
      obtain ⟨i, hil, rfl⟩ := hf
      exact (hF i hil).1
/-- an argument that is a list of structs of a string and two numbers -/
theorem open_facs {t e : TypeId} {f0 f1 f2 : Field} {r : Reach} {b0 : Nat} {v : Value} {d : DataW H} {p : List MemPlace} (ht : P.underlying t = some (.slice e)) (he : P.underlying e = some (.struct #[f0, f1, f2]))
    (hone : oneCellFields P #[f0, f1, f2] = true) (hC : P.cellsOf e = 3) (t0 : P.underlying f0.type = some .string) (t1 : P.underlying f1.type = some (.int .i64)) (t2 : P.underlying f2.type = some (.int .i64))
    (hv : Value.okWide P w r b0 t v) (h : DataW.Trod enc P w base spare held t v d p) :
    ∃ A n c fs, v = .slice A n c ∧ n ≤ maxLen ∧ Rd w w.heap.size A n 3 Fac.cells fs ∧ ∀ f ∈ fs, Fac.ok f := by
  obtain ⟨a0, len, cap, rfl⟩ := okWide_slice ht hv
  obtain ⟨fuel, hf⟩ := h
  simp only [Value.cells] at hf
  obtain ⟨A, n, c, fs, hcs, h2⟩ := facs_of_trod ht he hone hC t0 t1 t2 hf
  exact ⟨A, n, c, fs, by simpa using hcs, h2⟩
/-- an argument that is a grammar: a struct of one list -/
theorem open_grammar {g e : TypeId} {f f0 f1 f2 : Field} {r : Reach} {b0 : Nat} {v : Value} {d : DataW H} {p : List MemPlace} (hg : P.underlying g = some (.struct #[f])) (hone1 : oneCellFields P #[f] = true) (hC1 : P.cellsOf g = 1)
    (ht : P.underlying f.type = some (.slice e)) (he : P.underlying e = some (.struct #[f0, f1, f2]))
    (hone : oneCellFields P #[f0, f1, f2] = true) (hC : P.cellsOf e = 3) (t0 : P.underlying f0.type = some .string) (t1 : P.underlying f1.type = some (.int .i64)) (t2 : P.underlying f2.type = some (.int .i64))
    (hv : Value.okWide P w r b0 g v) (h : DataW.Trod enc P w base spare held g v d p) :
    ∃ A n c fs, v = .agg #[.slice A n c] ∧ n ≤ maxLen ∧ Rd w w.heap.size A n 3 Fac.cells fs ∧ ∀ f ∈ fs, Fac.ok f := by
  obtain ⟨cs, rfl, hsz⟩ := okWide_struct hg hv
  obtain ⟨l⟩ := cs
  match l, hsz.trans hC1 with
  | [x0], _ =>
    obtain ⟨fuel, hf⟩ := h
    obtain ⟨ys, n', hn', hy, hlen, hyl, hfld⟩ := DataW.trod_struct hg hf
    obtain ⟨o0, k0⟩ := hone_of hone1 0 f rfl
    match ys, hyl with
    | [y0], _ =>
      have q0 := hfld 0 f rfl
      simp only [o0, k0] at q0
      have q1 : DataW.trod enc P w base spare held n' f.type [x0] = some y0 := by simpa [Value.cells] using q0
      obtain ⟨A, n, c, fs, hcs, h2⟩ := facs_of_trod ht he hone hC t0 t1 t2 q1
      obtain rfl : x0 = .slice A n c := by simpa using hcs
      exact ⟨A, n, c, fs, rfl, h2⟩
/-- an argument that is a list of numbers -/
theorem open_nums {t e : TypeId} {k : IntKind} {r : Reach} {b0 : Nat} {v : Value} {d : DataW H} {p : List MemPlace} (ht : P.underlying t = some (.slice e)) (he : P.underlying e = some (.int k)) (hC : P.cellsOf e = 1)
    (hv : Value.okWide P w r b0 t v) (h : DataW.Trod enc P w base spare held t v d p) :
    ∃ A n c zs, v = .slice A n c ∧ n ≤ maxLen ∧ Rd w w.heap.size A n 1 (fun z => [.int k z]) zs ∧ ∀ z ∈ zs, (Lit.int k z).wf = true := by
  obtain ⟨a0, len0, cap0, rfl⟩ := okWide_slice ht hv
  obtain ⟨fuel, hf⟩ := h
  simp only [Value.cells] at hf
  rcases open_ints ht he hC hf with ⟨hcs, hx⟩ | ⟨a, len, cap, zs, hcs, _, hl, hm, hz, hx, hi, hw⟩
  · exact ⟨none, 0, 0, [], by simpa using hcs, by omega, Rd.none_, by simp⟩
  · have hlz : len ≤ zs.length := by rw [hz]; split <;> omega
    refine ⟨some a, len, cap, zs.take len, by simpa using hcs, by omega, ⟨by simp; omega, fun hp => ?_⟩, fun z h2 => hw z (List.mem_of_mem_take h2)⟩
    have h0 := hi 0 (by omega)
    have ha : a = ⟨a.block, a.off, none⟩ := by
      have : a.add 0 = a := by simp [Addr.add]
      rw [this] at h0
      exact cell_spot h0
    refine ⟨a.block, a.off, by rw [← ha], ?_, fun i x hx j u hu => ?_⟩
    · have := World.block_lt_of_cell? w _ h0
      simpa [Addr.add] using this
    · have hil : i < len := by have := (List.getElem?_eq_some_iff.1 hx).1; simp at this; omega
      rw [List.getElem?_take_of_lt hil] at hx
      have g0 := hi i (by omega)
      rw [ha, Addr.add_lit, List.getD_eq_getElem?_getD, hx] at g0
      rcases j with _ | j
      · simp at hu; subst hu; simpa using g0
      · simp at hu
theorem open_bytes {t e : TypeId} {r : Reach} {b0 : Nat} {v : Value} {d : DataW H} {p : List MemPlace} (ht : P.underlying t = some (.slice e)) (he : P.underlying e = some (.int .u8)) (hC : P.cellsOf e = 1)
    (hv : Value.okWide P w r b0 t v) (h : DataW.Trod enc P w base spare held t v d p) :
    ∃ A n c zs, v = .slice A n c ∧ n ≤ maxLen ∧ Rd w w.heap.size A n 1 (fun z => [.int .u8 z]) zs ∧ ∀ z ∈ zs, 0 ≤ z ∧ z < 256 := by
  obtain ⟨A, n, c, zs, h1, h2, h3, h4⟩ := open_nums ht he hC hv h
  refine ⟨A, n, c, zs, h1, h2, h3, fun z hz => ?_⟩
  have := h4 z hz
  simp [Lit.wf, IntKind.min, IntKind.max, IntKind.signed, IntKind.bits] at this
  omega
theorem open_i64s {t e : TypeId} {r : Reach} {b0 : Nat} {v : Value} {d : DataW H} {p : List MemPlace} (ht : P.underlying t = some (.slice e)) (he : P.underlying e = some (.int .i64)) (hC : P.cellsOf e = 1)
    (hv : Value.okWide P w r b0 t v) (h : DataW.Trod enc P w base spare held t v d p) :
    ∃ A n c zs, v = .slice A n c ∧ n ≤ maxLen ∧ Rd w w.heap.size A n 1 (fun z => [.int .i64 z]) zs ∧ ∀ z ∈ zs, I64 z := by
  obtain ⟨A, n, c, zs, h1, h2, h3, h4⟩ := open_nums ht he hC hv h
  refine ⟨A, n, c, zs, h1, h2, h3, fun z hz => ?_⟩
  simpa [I64, Lit.wf, IntKind.min, IntKind.max, IntKind.signed, IntKind.bits] using h4 z hz
theorem open_i64 {t : TypeId} {r : Reach} {b0 : Nat} {v : Value} {d : DataW H} {p : List MemPlace} (ht : P.underlying t = some (.int .i64)) (hv : Value.okWide P w r b0 t v) (h : DataW.Trod enc P w base spare held t v d p) :
    ∃ z, v = .int .i64 z ∧ d = .lit (.int .i64 z) ∧ p = [] ∧ I64 z := by
  obtain ⟨z, h1, h2, h3, h4⟩ := Go.ChangeShapes.open_int ht hv h
  exact ⟨z, h1, h2, h3, by simpa [I64, Lit.wf, IntKind.min, IntKind.max, IntKind.signed, IntKind.bits] using h4⟩
/-- an argument that is a list of texts -/
theorem open_strs {t e : TypeId} {r : Reach} {b0 : Nat} {v : Value} {d : DataW H} {p : List MemPlace} (ht : P.underlying t = some (.slice e)) (he : P.underlying e = some .string) (hC : P.cellsOf e = 1)
    (hv : Value.okWide P w r b0 t v) (h : DataW.Trod enc P w base spare held t v d p) :
    ∃ A n c ss, v = .slice A n c ∧ n ≤ maxLen ∧ Rd w w.heap.size A n 1 (fun s => [.string s]) ss ∧ ∀ s ∈ ss, s.size ≤ maxLen := by
  obtain ⟨a0, len0, cap0, rfl⟩ := okWide_slice ht hv
  obtain ⟨fuel, hf⟩ := h
  simp only [Value.cells] at hf
  rcases open_strings ht he hC hf with ⟨hcs, hx⟩ | ⟨a, len, cap, zs, hcs, _, hl, hm, hz, hx, hi, hw⟩
  · exact ⟨none, 0, 0, [], by simpa using hcs, by omega, Rd.none_, by simp⟩
  · have hlz : len ≤ zs.length := by rw [hz]; split <;> omega
    refine ⟨some a, len, cap, zs.take len, by simpa using hcs, by omega, ⟨by simp; omega, fun hp => ?_⟩, fun z h2 => hw z (List.mem_of_mem_take h2)⟩
    have h0 := hi 0 (by omega)
    have ha : a = ⟨a.block, a.off, none⟩ := by
      have : a.add 0 = a := by simp [Addr.add]
      rw [this] at h0
      exact cell_spot h0
    refine ⟨a.block, a.off, by rw [← ha], ?_, fun i x hx j u hu => ?_⟩
    · have := World.block_lt_of_cell? w _ h0
      simpa [Addr.add] using this
    · have hil : i < len := by have := (List.getElem?_eq_some_iff.1 hx).1; simp at this; omega
      rw [List.getElem?_take_of_lt hil] at hx
      have g0 := hi i (by omega)
      rw [ha, Addr.add_lit, List.getD_eq_getElem?_getD, hx] at g0
      rcases j with _ | j
      · simp at hu; subst hu; simpa using g0
      · simp at hu
end
end Go.Proofs.Ytmdmgndhapdmgaa


/-
  An argument that is an edit: four numbers, a grammar and a text.
-/
namespace Go.Proofs.Ytmdmgndhapdmgaa
open Go.ChangeShapes Go.WideShapes Go.ChangeAt Go.RowKit Go.Deep

section
variable {H : Type} {enc : TypeId × Value → H} {P : Program} {w : World} {base : Nat} {spare : Nat → Bool} {held : Bool}
theorem i64_of {z : Int} (w1 : (Lit.int .i64 z).wf = true) : I64 z := by
  simpa [I64, Lit.wf, IntKind.min, IntKind.max, IntKind.signed, IntKind.bits] using w1
theorem open_edit {g e : TypeId} {F0 F1 F2 F3 F4 F5 f f0 f1 f2 : Field} {r : Reach} {b0 : Nat} {v : Value} {d : DataW H} {p : List MemPlace} (hg : P.underlying g = some (.struct #[F0, F1, F2, F3, F4, F5])) (hone1 : oneCellFields P #[F0, F1, F2, F3, F4, F5] = true) (hC1 : P.cellsOf g = 6)
    (u0 : P.underlying F0.type = some (.int .i64)) (u1 : P.underlying F1.type = some (.int .i64)) (u2 : P.underlying F2.type = some (.int .i64)) (u3 : P.underlying F3.type = some (.int .i64)) (u4 : P.underlying F4.type = some (.struct #[f])) (u5 : P.underlying F5.type = some .string)
    (hone2 : oneCellFields P #[f] = true) (ht : P.underlying f.type = some (.slice e)) (he : P.underlying e = some (.struct #[f0, f1, f2]))
    (hone : oneCellFields P #[f0, f1, f2] = true) (hC : P.cellsOf e = 3) (t0 : P.underlying f0.type = some .string) (t1 : P.underlying f1.type = some (.int .i64)) (t2 : P.underlying f2.type = some (.int .i64))
    (hv : Value.okWide P w r b0 g v) (h : DataW.Trod enc P w base spare held g v d p) :
    ∃ k i j l A n c fs mp, v = .agg #[.int .i64 k, .int .i64 i, .int .i64 j, .int .i64 l, .slice A n c, .string mp] ∧ I64 k ∧ I64 i ∧ I64 j ∧ I64 l ∧ n ≤ maxLen ∧ Rd w w.heap.size A n 3 Fac.cells fs ∧ (∀ f ∈ fs, Fac.ok f) ∧ mp.size ≤ maxLen := by
  obtain ⟨cs, rfl, hsz⟩ := okWide_struct hg hv
  obtain ⟨l⟩ := cs
  match l, hsz.trans hC1 with
  | [x0, x1, x2, x3, x4, x5], _ =>
    obtain ⟨fuel, hf⟩ := h
    obtain ⟨ys, n', hn', hy, hlen, hyl, hfld⟩ := DataW.trod_struct hg hf
    obtain ⟨o0, k0⟩ := hone_of hone1 0 F0 rfl
    obtain ⟨o1, k1⟩ := hone_of hone1 1 F1 rfl
    obtain ⟨o2, k2⟩ := hone_of hone1 2 F2 rfl
    obtain ⟨o3, k3⟩ := hone_of hone1 3 F3 rfl
    obtain ⟨o4, k4⟩ := hone_of hone1 4 F4 rfl
    obtain ⟨o5, k5⟩ := hone_of hone1 5 F5 rfl
    match ys, hyl with
    | [y0, y1, y2, y3, y4, y5], _ =>
      have q0 := hfld 0 F0 rfl
      have q1 := hfld 1 F1 rfl
      have q2 := hfld 2 F2 rfl
      have q3 := hfld 3 F3 rfl
      have q4 := hfld 4 F4 rfl
      have q5 := hfld 5 F5 rfl
      simp only [o0, k0, o1, k1, o2, k2, o3, k3, o4, k4, o5, k5] at q0 q1 q2 q3 q4 q5
      obtain ⟨z0, e0, _, w0⟩ := DataW.trod_int u0 (x := y0) (by simpa [Value.cells] using q0)
      obtain ⟨z1, e1, _, w1⟩ := DataW.trod_int u1 (x := y1) (by simpa [Value.cells] using q1)
      obtain ⟨z2, e2, _, w2⟩ := DataW.trod_int u2 (x := y2) (by simpa [Value.cells] using q2)
      obtain ⟨z3, e3, _, w3⟩ := DataW.trod_int u3 (x := y3) (by simpa [Value.cells] using q3)
      obtain ⟨s, e5, _, hs⟩ := DataW.trod_string u5 (x := y5) (by simpa [Value.cells] using q5)
      have q4' : DataW.trod enc P w base spare held n' F4.type [x4] = some y4 := by simpa [Value.cells] using q4
      obtain ⟨ys2, n2, hn2, hy2, hlen2, hyl2, hfld2⟩ := DataW.trod_struct u4 q4'
      obtain ⟨p0, r0⟩ := hone_of hone2 0 f rfl
      match ys2, hyl2 with
      | [y40], _ =>
        have q6 := hfld2 0 f rfl
        simp only [p0, r0] at q6
        have q7 : DataW.trod enc P w base spare held n2 f.type [x4] = some y40 := by simpa using q6
        obtain ⟨A, n, c, fs, hcs, h2, h3, h4⟩ := facs_of_trod ht he hone hC t0 t1 t2 q7
        obtain rfl : x4 = .slice A n c := by simpa using hcs
        simp at e0 e1 e2 e3 e5
        subst e0 e1 e2 e3 e5
        exact ⟨z0, z1, z2, z3, A, n, c, fs, s, rfl, i64_of w0, i64_of w1, i64_of w2, i64_of w3, h2, h3, h4, hs⟩
end
end Go.Proofs.Ytmdmgndhapdmgaa


/-
  An argument that is a coder: two numbers, a table of numbers and a table of texts.
-/
namespace Go.Proofs.Ytmdmgndhapdmgaa
open Go.ChangeShapes Go.WideShapes Go.ChangeAt Go.RowKit Go.Deep

section
variable {H : Type} {enc : TypeId × Value → H} {P : Program} {w : World} {base : Nat} {spare : Nat → Bool} {held : Bool}
theorem i64s_of_trod {t e : TypeId} {fuel : Nat} {cs0 : List Value} {x0 : DataW H × List MemPlace} (ht : P.underlying t = some (.slice e)) (he : P.underlying e = some (.int .i64)) (hC : P.cellsOf e = 1)
    (hf : DataW.trod enc P w base spare held fuel t cs0 = some x0) :
    ∃ A n c zs, cs0 = [.slice A n c] ∧ n ≤ maxLen ∧ Rd w w.heap.size A n 1 intE zs := by
  rcases open_ints ht he hC hf with ⟨hcs, hx⟩ | ⟨a, len, cap, zs, hcs, _, hl, hm, hz, hx, hi, hw⟩
  · exact ⟨none, 0, 0, [], by simpa using hcs, by omega, Rd.none_⟩
  · have hlz : len ≤ zs.length := by rw [hz]; split <;> omega
    refine ⟨some a, len, cap, zs.take len, by simpa using hcs, by omega, ⟨by simp; omega, fun hp => ?_⟩⟩
    have h0 := hi 0 (by omega)
    have ha : a = ⟨a.block, a.off, none⟩ := by
      have : a.add 0 = a := by simp [Addr.add]
      rw [this] at h0
      exact cell_spot h0
    refine ⟨a.block, a.off, by rw [← ha], ?_, fun i x hx j u hu => ?_⟩
    · have := World.block_lt_of_cell? w _ h0
      simpa [Addr.add] using this
    · have hil : i < len := by have := (List.getElem?_eq_some_iff.1 hx).1; simp at this; omega
      rw [List.getElem?_take_of_lt hil] at hx
      have g0 := hi i (by omega)
      rw [ha, Addr.add_lit, List.getD_eq_getElem?_getD, hx] at g0
      rcases j with _ | j
      · simp [intE] at hu; subst hu; simpa using g0
      · simp [intE] at hu
theorem strs_of_trod {t e : TypeId} {fuel : Nat} {cs0 : List Value} {x0 : DataW H × List MemPlace} (ht : P.underlying t = some (.slice e)) (he : P.underlying e = some .string) (hC : P.cellsOf e = 1)
    (hf : DataW.trod enc P w base spare held fuel t cs0 = some x0) :
    ∃ A n c ss, cs0 = [.slice A n c] ∧ n ≤ maxLen ∧ Rd w w.heap.size A n 1 strEM ss ∧ ∀ s ∈ ss, s.size ≤ maxLen := by
  rcases open_strings ht he hC hf with ⟨hcs, hx⟩ | ⟨a, len, cap, zs, hcs, _, hl, hm, hz, hx, hi, hw⟩
  · exact ⟨none, 0, 0, [], by simpa using hcs, by omega, Rd.none_, by simp⟩
  · have hlz : len ≤ zs.length := by rw [hz]; split <;> omega
    refine ⟨some a, len, cap, zs.take len, by simpa using hcs, by omega, ⟨by simp; omega, fun hp => ?_⟩, fun z h2 => hw z (List.mem_of_mem_take h2)⟩
    have h0 := hi 0 (by omega)
    have ha : a = ⟨a.block, a.off, none⟩ := by
      have : a.add 0 = a := by simp [Addr.add]
      rw [this] at h0
      exact cell_spot h0
    refine ⟨a.block, a.off, by rw [← ha], ?_, fun i x hx j u hu => ?_⟩
    · have := World.block_lt_of_cell? w _ h0
      simpa [Addr.add] using this
    · have hil : i < len := by have := (List.getElem?_eq_some_iff.1 hx).1; simp at this; omega
      rw [List.getElem?_take_of_lt hil] at hx
      have g0 := hi i (by omega)
      rw [ha, Addr.add_lit, List.getD_eq_getElem?_getD, hx] at g0
      rcases j with _ | j
      · simp [strEM] at hu; subst hu; simpa using g0
      · simp [strEM] at hu
/-- a table of rows, as it reads -/
theorem tab_of_trod {α : Type} [Inhabited α] {en : α → List Value} {Q : List α → Prop} {t e : TypeId} {fuel : Nat} {cs0 : List Value} {x0 : DataW H × List MemPlace} (ht : P.underlying t = some (.slice e)) (hC : P.cellsOf e = 1)
    (row : ∀ fuel cs x, DataW.trod enc P w base spare held fuel e cs = some x → ∃ A n c xs, cs = [.slice A n c] ∧ n ≤ maxLen ∧ Rd w w.heap.size A n 1 en xs ∧ Q xs)
    (hf : DataW.trod enc P w base spare held fuel t cs0 = some x0) :
    ∃ A n c hs xss, cs0 = [.slice A n c] ∧ n ≤ maxLen ∧ RdT w w.heap.size A n en hs xss ∧ ∀ xs ∈ xss, xs.length ≤ maxLen ∧ Q xs := by
  rcases open_slice ht hf with ⟨hcs, hx⟩ | ⟨a, len, cap, m, n, D, Pl, hcs, _, hl, hm, hmm, hx, hi⟩
  · exact ⟨none, 0, 0, [], [], hcs, by omega, ⟨Rd.none_, rfl, fun i h x h1 => by simp at h1⟩, by simp⟩
  · subst hcs
    have hlm : len ≤ m := by rw [hmm]; split <;> omega
    have key : ∀ i, i < len → ∃ r : RowH × List α, w.cell? (a.add (i * 1)) = some (.slice r.1.A r.1.n r.1.c) ∧ r.1.n ≤ maxLen ∧ Rd w w.heap.size r.1.A r.1.n 1 en r.2 ∧ Q r.2 := by
      intro i hil
      obtain ⟨cs', hc, ht'⟩ := hi i (by omega)
      rw [hC] at hc
      obtain ⟨_, hcl, hat⟩ := World.cells?_some hc
      obtain ⟨A, n1, c1, xs, hcs, h2, h3, h4⟩ := row _ _ _ ht'
      subst hcs
      have h0 := hat 0 (by omega)
      refine ⟨(⟨A, n1, c1⟩, xs), ?_, h2, h3, h4⟩
      simpa [Addr.add] using h0
    obtain ⟨F, hF⟩ := choose_lt (α := RowH × List α) (p := fun i r => w.cell? (a.add (i * 1)) = some (.slice r.1.A r.1.n r.1.c) ∧ r.1.n ≤ maxLen ∧ Rd w w.heap.size r.1.A r.1.n 1 en r.2 ∧ Q r.2) key
    have g1 : ∀ i q, ((List.range len).map fun i => (F i).1)[i]? = some q → i < len ∧ q = (F i).1 := fun i q h => by
      have hk : i < len := by have := (List.getElem?_eq_some_iff.1 h).1; simpa using this
      exact ⟨hk, by simpa [hk] using h.symm⟩
    have g2 : ∀ i q, ((List.range len).map fun i => (F i).2)[i]? = some q → i < len ∧ q = (F i).2 := fun i q h => by
      have hk : i < len := by have := (List.getElem?_eq_some_iff.1 h).1; simpa using this
      exact ⟨hk, by simpa [hk] using h.symm⟩
    refine ⟨some a, len, cap, (List.range len).map (fun i => (F i).1), (List.range len).map (fun i => (F i).2), rfl, by omega, ⟨⟨by simp, fun hp => ?_⟩, by simp, fun i q x h1 h2 => ?_⟩, ?_⟩
    · have h0 := (hF 0 hp).1
      have ha : a = ⟨a.block, a.off, none⟩ := by
        have : a.add (0 * 1) = a := by simp [Addr.add]
        rw [this] at h0
        exact cell_spot h0
      refine ⟨a.block, a.off, by rw [← ha], ?_, ?_⟩
      · have := World.block_lt_of_cell? w _ h0
        simpa [Addr.add] using this
      · intro k x hx j u hu
        obtain ⟨hk, rfl⟩ := g1 k x hx
        have g0 := (hF k hk).1
        rw [ha, Addr.add_lit] at g0
        rcases j with _ | j
        · simp [encR] at hu; subst hu; simpa using g0
        · simp [encR] at hu
    · obtain ⟨hk, rfl⟩ := g1 i q h1
      obtain ⟨_, rfl⟩ := g2 i x h2
      exact (hF i hk).2.2.1
    · intro xs hxs
      obtain ⟨i, hi2⟩ := List.mem_iff_getElem?.1 hxs
      obtain ⟨hk, rfl⟩ := g2 i xs hi2
      obtain ⟨_, h2, h3, h4⟩ := hF i hk
      exact ⟨by rw [h3.len]; exact h2, h4⟩
theorem open_coder {g e0 e1 l0 l1 : TypeId} {F0 F1 F2 F3 : Field} {r : Reach} {b0 : Nat} {v : Value} {d : DataW H} {p : List MemPlace} (hg : P.underlying g = some (.struct #[F0, F1, F2, F3])) (hone1 : oneCellFields P #[F0, F1, F2, F3] = true) (hC1 : P.cellsOf g = 4)
    (u0 : P.underlying F0.type = some (.int .i64)) (u1 : P.underlying F1.type = some (.int .i64)) (u2 : P.underlying F2.type = some (.slice e0)) (u3 : P.underlying F3.type = some (.slice e1))
    (c0 : P.cellsOf e0 = 1) (c1 : P.cellsOf e1 = 1) (r0 : P.underlying e0 = some (.slice l0)) (r1 : P.underlying e1 = some (.slice l1)) (d0 : P.cellsOf l0 = 1) (d1 : P.cellsOf l1 = 1) (t0 : P.underlying l0 = some (.int .i64)) (t1 : P.underlying l1 = some .string)
    (hv : Value.okWide P w r b0 g v) (h : DataW.Trod enc P w base spare held g v d p) :
    ∃ S q A n c hs nx O m co gs ot, v = .agg #[.int .i64 S, .int .i64 q, .slice A n c, .slice O m co] ∧ I64 S ∧ I64 q ∧ n ≤ maxLen ∧ m ≤ maxLen ∧ RdT w w.heap.size A n intE hs nx ∧ RdT w w.heap.size O m strEM gs ot ∧ (∀ r ∈ nx, r.length ≤ maxLen) ∧ (∀ r ∈ ot, r.length ≤ maxLen ∧ ∀ t ∈ r, t.size ≤ maxLen) := by
  obtain ⟨cs, rfl, hsz⟩ := okWide_struct hg hv
  obtain ⟨l⟩ := cs
  match l, hsz.trans hC1 with
  | [x0, x1, x2, x3], _ =>
    obtain ⟨fuel, hf⟩ := h
    obtain ⟨ys, n', hn', hy, hlen, hyl, hfld⟩ := DataW.trod_struct hg hf
    obtain ⟨o0, k0⟩ := hone_of hone1 0 F0 rfl
    obtain ⟨o1, k1⟩ := hone_of hone1 1 F1 rfl
    obtain ⟨o2, k2⟩ := hone_of hone1 2 F2 rfl
    obtain ⟨o3, k3⟩ := hone_of hone1 3 F3 rfl
    match ys, hyl with
    | [y0, y1, y2, y3], _ =>
      have q0 := hfld 0 F0 rfl
      have q1 := hfld 1 F1 rfl
      have q2 := hfld 2 F2 rfl
      have q3 := hfld 3 F3 rfl
      simp only [o0, k0, o1, k1, o2, k2, o3, k3] at q0 q1 q2 q3
      obtain ⟨z0, e0', _, w0⟩ := DataW.trod_int u0 (x := y0) (by simpa [Value.cells] using q0)
      obtain ⟨z1, e1', _, w1⟩ := DataW.trod_int u1 (x := y1) (by simpa [Value.cells] using q1)
      have q2' : DataW.trod enc P w base spare held n' F2.type [x2] = some y2 := by simpa [Value.cells] using q2
      have q3' : DataW.trod enc P w base spare held n' F3.type [x3] = some y3 := by simpa [Value.cells] using q3
      obtain ⟨A, n, c, hs, nx, hcs, h2, h3, h4⟩ := tab_of_trod (en := intE) (Q := fun _ => True) u2 c0 (fun fuel cs x hx => by
        obtain ⟨A, n, c, zs, h1, h2, h3⟩ := i64s_of_trod r0 t0 d0 hx
        exact ⟨A, n, c, zs, h1, h2, h3, trivial⟩) q2'
      obtain ⟨O, m, co, gs, ot, hcs', h2', h3', h4'⟩ := tab_of_trod (en := strEM) (Q := fun r => ∀ t ∈ r, t.size ≤ maxLen) u3 c1 (fun fuel cs x hx => strs_of_trod r1 t1 d1 hx) q3'
      obtain rfl : x2 = .slice A n c := by simpa using hcs
      obtain rfl : x3 = .slice O m co := by simpa using hcs'
      simp at e0' e1'
      subst e0' e1'
      exact ⟨z0, z1, A, n, c, hs, nx, O, m, co, gs, ot, rfl, i64_of w0, i64_of w1, h2, h2', h3, h3', fun r hr => (h4 r hr).1, h4'⟩
end
end Go.Proofs.Ytmdmgndhapdmgaa


/-
  Grammars that a call has made: marked, held.
-/
namespace Go.Proofs.Ytmdmgndhapdmgaa
open Go.RowKit

def markF (k i : Nat) : Fac := ⟨mt (k + 3 * i), ((k + 3 * i + 1 : Nat) : Int), ((k + 3 * i + 2 : Nat) : Int)⟩
/-- the marks of n rules from k on -/
def marksR (k n : Nat) : List Fac := (List.range n).map (markF k)
theorem marksR_len (k n : Nat) : (marksR k n).length = n := by simp [marksR]
theorem marksR_at {k n i : Nat} (h : i < n) : (marksR k n)[i]? = some (markF k i) := by
  unfold marksR; rw [List.getElem?_map, List.getElem?_range h]; rfl
theorem flat_set3 : ∀ (l : List Fac) (i : Nat) (y : Fac), i < l.length →
    (((l.flatMap Fac.cells).set (i * 3) (.string y.l)).set (i * 3 + 1) (.int .i64 y.a)).set (i * 3 + 2) (.int .i64 y.b) = (l.set i y).flatMap Fac.cells
  | [], _, _, h => by simp at h
  | x :: r, 0, y, _ => by simp [Fac.cells]
  | x :: r, i + 1, y, h => by
    have ih := flat_set3 r i y (by simpa using h)
    rw [show (i + 1) * 3 = i * 3 + 3 by omega]
    simp only [List.flatMap_cons, List.set_cons_succ, Fac.cells, List.cons_append, List.nil_append]
    rw [ih]
theorem set_marks {k n i : Nat} {l : List Fac} (hl : l.length = n) (h : ∀ j, j < i → l[j]? = some (markF k j)) (hi : i < n) : (l.set i (markF k i)).length = n ∧ ∀ j, j < i + 1 → (l.set i (markF k i))[j]? = some (markF k j) := by
  refine ⟨by simpa using hl, fun j hj => ?_⟩
  by_cases e : i = j
  · subst e; rw [List.getElem?_set_self (by omega)]
  · rw [List.getElem?_set_ne e]; exact h j (by omega)
theorem marks_end {k n : Nat} {l : List Fac} (hl : l.length = n) (h : ∀ j, j < n → l[j]? = some (markF k j)) : l = marksR k n := by
  refine List.ext_getElem? fun j => ?_
  by_cases hj : j < n
  · rw [h j hj, marksR_at hj]
  · rw [List.getElem?_eq_none (by omega), List.getElem?_eq_none (by rw [marksR_len]; omega)]
set_option maxHeartbeats 2000000 in
theorem markRuleSC_any (A : Option Addr) (n c : Nat) (base : Nat) (xs : List Fac) (k : Nat) (w : World) (hn : n ≤ 1048576) (hk : k ≤ 1048576) (hx : xs.length = n)
    (hown : w.ownsRow base 59 3 (.slice A n c) n (xs.flatMap Fac.cells)) :
    Calls Try.prog 45 #[.slice A n c, .int .i64 (k : Int)] w fun e w' => e = .returned (.int .i64 ((k + 3 * n : Nat) : Int)) ∧ w'.ownsRow base 59 3 (.slice A n c) n ((marksR k n).flatMap Fac.cells) ∧ w.grownBy w' (Value.slice A n c).ownBlock := by
  go_enter Try.func45, Try.ntmps45
  go_wp2
  go_loopw [1, 5] (fun k_ i_ w' => ∃ (i : Nat) (l : List Fac), i_ = .int .i64 i ∧ k_ = .int .i64 ((k : Int) + 3 * (i : Int)) ∧ i ≤ n ∧ Hid (w'.ownsRow base 59 3 (.slice A n c) n (l.flatMap Fac.cells)) ∧
      Hid (l.length = n) ∧ Hid (∀ j, j < i → l[j]? = some (markF k j)) ∧ Hid (w.grownBy w' (Value.slice A n c).ownBlock)) (fun _ i_ _ => n - (intOf i_).toNat)
  case atStart => exact ⟨0, xs, rfl, by go_num, by omega, Lib.hid hown, Lib.hid hx, Lib.hid (fun j hj => absurd hj (by omega)), Lib.hid (World.grownBy.refl _ _)⟩
  case round =>
    obtain ⟨i, l, rfl, rfl, hi, ho, hll, hmk, hg⟩ := hrel
    by_cases hlt : i < n
    · obtain ⟨g, cap, hv, hgb, hgs⟩ := ho.out.form (by omega)
      injection hv with hA _ hc
      subst hA
      clear hc
      have hc1 := Lib.hid ho.out.1
      go_wp2_with fail
      refine (markText_eq _ (k + 3 * i) wr (by omega) (by omega) (by omega)).mono ?_
      rintro e w1 ⟨rfl, hb1⟩
      have ho1 := Lib.hid (own_next ho.out hb1)
      have c0 := (ho1.out.cellAt (i * 3) (by omega)).trans (List.getElem?_eq_getElem (by rw [hc1.out]; omega))
      have c1 := (ho1.out.cellAt (i * 3 + 1) (by omega)).trans (List.getElem?_eq_getElem (by rw [hc1.out]; omega))
      have c2 := (ho1.out.cellAt (i * 3 + 2) (by omega)).trans (List.getElem?_eq_getElem (by rw [hc1.out]; omega))
      have f0 := ho1.out.frozenAt
      have G1 := Lib.hid (gb_trans hg.out (gb_below hb1 (r := (Value.slice (some ⟨g, 0, none⟩) n c).ownBlock)))
      have hS := Lib.hid (set_marks hll.out hmk.out hlt)
      have hO := Lib.hid (own_setI (own_setI (own_setI ho1.out (i * 3) (.string (mt (k + 3 * i)))) (i * 3 + 1) (.int .i64 ((k + 3 * i + 1 : Nat) : Int))) (i * 3 + 2) (.int .i64 ((k + 3 * i + 2 : Nat) : Int)))
      have hfs : (((l.flatMap Fac.cells).set (i * 3) (.string (mt (k + 3 * i)))).set (i * 3 + 1) (.int .i64 ((k + 3 * i + 1 : Nat) : Int))).set (i * 3 + 2) (.int .i64 ((k + 3 * i + 2 : Nat) : Int)) = (l.set i (markF k i)).flatMap Fac.cells := flat_set3 l i (markF k i) (by rw [hll.out]; exact hlt)
      have hO2 := hO.out
      rw [hfs] at hO2
      have q1 : ((k + 3 * i + 1 : Nat) : Int) = (k : Int) + 3 * (i : Int) + 1 := by omega
      have q2 : ((k + 3 * i + 2 : Nat) : Int) = (k : Int) + 3 * (i : Int) + 1 + 1 := by omega
      rw [q1, q2] at hO2
      have HO2 := Lib.hid hO2
      clear hO hO2 hfs
      generalize mt (k + 3 * i) = tx at *
      go_wp2_with fail
      go_roundw
      case rel =>
        exact ⟨i + 1, _, by go_num, by go_num, by omega, HO2, Lib.hid hS.out.1, Lib.hid hS.out.2, Lib.hid (gb_setCell (gb_setCell (gb_setCell G1.out (i * 3) _) (i * 3 + 1) _) (i * 3 + 2) _)⟩
      case measure => simp [intOf]; omega
    · have hin : n = i := by omega
      subst hin
      have hE := Lib.hid (marks_end hll.out hmk.out)
      go_wp2
      go_ret
      refine ⟨ret_int (by omega), ?_, hg.out⟩
      rw [← hE.out]; exact ho.out
theorem markGrammarC_any (A : Option Addr) (n c : Nat) (base : Nat) (xs : List Fac) (k : Nat) (w : World) (hn : n ≤ 1048576) (hk : k ≤ 1048576) (hx : xs.length = n)
    (hown : w.ownsRow base 59 3 (.slice A n c) n (xs.flatMap Fac.cells)) :
    Calls Try.prog 13 #[.agg #[.slice A n c], .int .i64 (k : Int)] w fun e w' => e = .returned (.int .i64 ((k + 3 * n : Nat) : Int)) ∧ w'.ownsRow base 59 3 (.slice A n c) n ((marksR k n).flatMap Fac.cells) ∧ w.grownBy w' (Value.slice A n c).ownBlock := by
  have Ho := Lib.hid hown; clear hown
  have hb0 : Below w.heap.size w (w.alloc (.cells #[.slice A n c] 33)) := by (repeat first | exact Below.refl _ _ | assumption | refine Below.drew ?_ | refine Below.alloc ?_ (by first | exact Nat.le_refl _ | (simp; done) | omega | (simp; omega)) _ | refine Below.setCell ?_ (by first | exact Nat.le_refl _ | (simp; done) | omega | (simp; omega)) _)
  go_enter Try.func13, Try.ntmps13
  go_wp2_with fail
  refine (markRuleSC_any A n c base xs k _ hn hk hx (own_next Ho.out hb0)).mono ?_
  rintro e w1 ⟨rfl, ho1, hg1⟩
  have O1 := Lib.hid ho1; clear ho1
  go_wp2_with fail
  go_ret
  exact ⟨rfl, O1.out, gb_trans (gb_below hb0) hg1⟩
set_option maxHeartbeats 2000000 in
theorem heldRuleS_any (A : Option Addr) (n c : Nat) (k : Nat) (w : World) (hn : n ≤ 1048576) (hk : k ≤ 1048576) (hr : Rd w w.heap.size A n 3 Fac.cells (marksR k n)) :
    Calls Try.prog 46 #[.slice A n c, .int .i64 (k : Int)] w (Ret (.int .i64 ((k + 3 * n : Nat) : Int)) w) := by
  go_enter Try.func46, Try.ntmps46
  go_wp2
  go_loopw [1, 5] (fun k_ i_ w' => ∃ (i : Nat), i_ = .int .i64 i ∧ k_ = .int .i64 ((k : Int) + 3 * (i : Int)) ∧ i ≤ n ∧ Below w.heap.size w w') (fun _ i_ _ => n - (intOf i_).toNat)
  case atStart => exact ⟨0, rfl, by go_num, by omega, Below.refl _ _⟩
  case round =>
    obtain ⟨i, rfl, rfl, hi, hb⟩ := hrel
    by_cases hlt : i < n
    · obtain ⟨b, o, x, rfl, hB, gx, c0, c1, c2⟩ := (hr.next hb).fac hlt
      obtain rfl : markF k i = x := by
        rw [marksR_at hlt] at gx
        exact Option.some.inj gx
      clear gx
      have c1' : wr.cell? ⟨b, o + i * 3 + 1, none⟩ = some (.int .i64 ((k : Int) + 3 * (i : Int) + 1)) := c1.trans (by show some (Value.int .i64 ((k + 3 * i + 1 : Nat) : Int)) = _; congr 2 <;> omega)
      have c2' : wr.cell? ⟨b, o + i * 3 + 2, none⟩ = some (.int .i64 ((k : Int) + 3 * (i : Int) + 1 + 1)) := c2.trans (by show some (Value.int .i64 ((k + 3 * i + 2 : Nat) : Int)) = _; congr 2 <;> omega)
      have c0' : wr.cell? ⟨b, o + i * 3, none⟩ = some (.string (mt (k + 3 * i))) := c0
      clear c0 c1 c2
      have hM := Lib.hid (fun (w' : World) => markText_eq ((k : Int) + 3 * (i : Int)) (k + 3 * i) w' (by omega) (by omega) (by omega))
      generalize mt (k + 3 * i) = tx at *
      have hup := upc wr.heap.size wr
      have i0 : (0 : Int) ≤ (i : Int) := by omega
      have i1 : (i : Int) < (n : Int) := by omega
      go_wp2_with fail
      refine wp_region_up wr.heap.size (by kernel_rfl) (by kernel_rfl) ?_
      repeat (go_big_quiet_step (((go_at_call 79; exact Calls.up (Nat.le_refl _) (hM.out _)))))
      refine wpQuiet_nil ?_
      intro w2 hup_w2
      have hb2 := up_of hup_w2
      have d1 := (hb2.cell (p := ⟨b, o + i * 3 + 1, none⟩) hB).trans c1'
      have d2 := (hb2.cell (p := ⟨b, o + i * 3 + 2, none⟩) hB).trans c2'
      go_wp2
      go_roundw
      case rel => exact ⟨i + 1, by go_num, by go_num, by omega, hb.trans (hb2.mono hb.size)⟩
      case measure => simp [intOf]; omega
    · go_wp2
      go_ret
      exact ⟨ret_int (by omega), hb⟩
theorem heldGrammar_any (A : Option Addr) (n c : Nat) (k : Nat) (w : World) (hn : n ≤ 1048576) (hk : k ≤ 1048576) (hr : Rd w w.heap.size A n 3 Fac.cells (marksR k n)) :
    Calls Try.prog 14 #[.agg #[.slice A n c], .int .i64 (k : Int)] w (Ret (.int .i64 ((k + 3 * n : Nat) : Int)) w) := by
  have HR := Lib.hid hr; clear hr
  have hb0 : Below w.heap.size w (w.alloc (.cells #[.slice A n c] 33)) := by (repeat first | exact Below.refl _ _ | assumption | refine Below.drew ?_ | refine Below.alloc ?_ (by first | exact Nat.le_refl _ | (simp; done) | omega | (simp; omega)) _ | refine Below.setCell ?_ (by first | exact Nat.le_refl _ | (simp; done) | omega | (simp; omega)) _)
  go_enter Try.func14, Try.ntmps14
  go_wp2_with fail
  refine (heldRuleS_any A n c k _ hn hk (HR.out.next hb0)).mono ?_
  rintro e w1 ⟨rfl, hb1⟩
  go_wp2_with fail
  go_ret
  exact ⟨rfl, hb0.trans (hb1.mono hb0.size)⟩
end Go.Proofs.Ytmdmgndhapdmgaa
