/-
  Texts of this claim, merged: CdE CdF CgA Law.
-/
import Derived.Test.YtmdmgndhapdmgaaGreatP8
import Derived.ProofKit
import Derived.OpenShut
import Derived.JoinedCond
import Derived.Carry
import Derived.Deep.Slices
import Derived.Deep.Fields
import Derived.ChangeSame
import Derived.ChangeSlices
import Derived.SliceStrings
import Derived.Lib.SmallJoins


/-
  Coders measured and compared.
-/
namespace Go.Proofs.YtmdmgndhapdmgaaGreat
open Go.RowKit

end Go.Proofs.YtmdmgndhapdmgaaGreat


/-
  A coder marked: what the marks leave alone.
-/
namespace Go.Proofs.YtmdmgndhapdmgaaGreat
open Go.RowKit

end Go.Proofs.YtmdmgndhapdmgaaGreat


/-
  A coder's size, and a new grammar told into a box.
-/
namespace Go.Proofs.YtmdmgndhapdmgaaGreat
open Go.RowKit

theorem cgR_len (S q : Int) (nx : List (List Int)) (ot : List (List ByteArray)) (rs : List Fac) : (cgR S q nx ot rs).1.length ≤ 1048576 := by
  unfold cgR
  split
  · unfold cgL
    split
    · simp
    · split
      · simp
      · rename_i h1
        have h2 : ¬ 400 < (mdA nx ot S.toNat q.toNat rs).1.length := fun h => h1 (.inl h)
        have h3 := trimL_le ((mdA nx ot S.toNat q.toNat rs).1.take (rootM nx ot S.toNat q.toNat rs + 1).toNat)
        have h4 := List.length_take_le (rootM nx ot S.toNat q.toNat rs + 1).toNat (mdA nx ot S.toNat q.toNat rs).1
        have h5 := List.length_take_le' (rootM nx ot S.toNat q.toNat rs + 1).toNat (mdA nx ot S.toNat q.toNat rs).1
        show (trimL _).length ≤ 1048576
        omega
  · simp
end Go.Proofs.YtmdmgndhapdmgaaGreat


/-
  How a law's statement follows from its walk: the arguments opened to plain data; behind the walk they read as they did.
-/
namespace Go.Proofs.YtmdmgndhapdmgaaGreat
open Go.ChangeShapes Go.WideShapes Go.ChangeAt Go.RowKit Go.Deep

theorem own : ownKnob Tryz.prog.godebug = none := by kernel_rfl
theorem laidOut : laidOutB Tryz.prog = true := by kernel_rfl
theorem mapsRowed' : mapsRowed Tryz.prog = true := by kernel_rfl
theorem heard' : Tryz.prog.stopsHeard = true := by kernel_rfl
theorem mayEnter' : Tryz.prog.mayEnter = true := by kernel_rfl
theorem lifts' : (Rows.fnCodedRow.lifted == Tryz.prog.liftsFinal) = true := by kernel_rfl
theorem make' : (Tryz.prog.make == some Rows.fnCodedRow.make) = true := by kernel_rfl
theorem plainKeys' : (Rows.fnCodedRow.plainKeys == Tryz.prog.plainKeys) = true := by kernel_rfl
/-- a row's closed facts, one by one: so that the kernel gives its memory back behind each -/
theorem joined_mk {P : Program} {f : FuncId} {fn : Func} {s : ChangeSpec} {c : OpenClaim} (h1 : c.wf (OpenSpec.ofChange s) = true) (h2 : laidOutB P = true) (h3 : mapsRowed P = true)
    (h4 : (fn.params.all (P.readableRec ·) && namedTie P c.named s.vars && (c.stops == []) && (P.stops == []) && (c.knobs == []) && (P.stopKnobs == [])) = true)
    (h5 : (c.inPlace == P.inPlace f) = true) (h6 : (c.unfollowed == P.unfollowed f) = true) (h7 : (c.recurses == P.recurses f) = true) (h8 : (c.named == P.varsNamed f) = true)
    (h9 : ((c.maps == (fn.params.toList ++ s.plain.varTypes P).any (P.mapsRec ·)) && (c.ifaces == (fn.params.toList ++ s.plain.varTypes P).any (P.ifacesRec ·)) && (c.mapsOut == P.mapsAmong fn.resultTypes.toList) &&
      (c.loops == (fn.params.toList ++ s.plain.varTypes P).any (P.loopsFrom ·)) && (c.wideKeys == (fn.params.toList ++ s.plain.varTypes P ++ fn.resultTypes.toList).any (P.wideKeysFrom ·)) &&
      s.vars.all (P.varReadable ·) && fn.resultTypes.all (fun t => P.readableRec t && decide (t < P.types.size)) && (c.ifacesOut == fn.resultTypes.toList.any (P.ifacesRec ·)) && (c.loopsOut == fn.resultTypes.toList.any (P.loopsFrom ·))) = true)
    (h10 : (c.plainKeys == P.plainKeys) = true) (h11 : c.shortTexts.isNone = true) (h12 : P.stopsHeard = true) (h13 : P.mayEnter = true) (h14 : (c.lifted == P.liftsFinal) = true) (h15 : (P.make == some c.make) = true)
    (h16 : ((c.kinds == (if c.domain.isEmpty then [] else fn.params.toList.map fun t => match P.underlying t with | some (.int k) => some k | _ => none)) && (c.pinned == c.pinnedBy) &&
      (c.veiled == (fn.params.toList ++ s.plain.varTypes P ++ fn.resultTypes.toList).any (P.veiledRec ·)) && c.veiledFits P fn.params.toList (fn.params.toList ++ s.plain.varTypes P ++ fn.resultTypes.toList)) = true) :
    joinedFacts P f fn s c = true := by
  simp only [Bool.and_eq_true] at h4 h9 h16
  simp only [joinedFacts, Bool.and_eq_true]
  simp only [h1, h2, h3, h4, h5, h6, h7, h8, h9, h10, h11, h12, h13, h14, h15, h16, and_self]
  exact ⟨⟨⟨⟨trivial, h16.1.1.1⟩, trivial⟩, trivial⟩, trivial⟩

section
variable {H : Type} {enc : TypeId × Value → H} {P : Program}
/-- the arguments read as they did, where nothing old has turned -/
theorem args_below (hl : laidOutB P = true) {W W' : World} (hb : Below W.heap.size W W') : ∀ {ts : List TypeId} {vs : List Value} {ds : List (DataW H)} {ps : List MemPlace},
    (∀ t ∈ ts, P.readableRec t = true ∧ t < P.types.size) → DataW.TrodAll enc P W 0 (fun _ => true) true ts vs ds ps → (∀ p ∈ ps, p.block < W.heap.size) →
    ∀ sp : Nat → Bool, (∀ p ∈ ps, sp p.block = true) → DataW.TrodAll enc P W' 0 sp true ts vs ds ps
  | [], [], [], _, _, h, _, _, _ => h
  | t :: ts, v :: vs, d :: ds, ps, ht, h, hlt, sp, hsp => by
    obtain ⟨p, q, h1, h2, rfl⟩ := h
    obtain ⟨hr, hrow⟩ := ht t (by simp)
    exact ⟨p, q, WideElems.Trod_stays hl hr hrow h1 (fun x hx => hb.same (hlt x (by simp [hx]))) (fun x hx => hsp x (by simp [hx])),
      args_below hl hb (fun t' h' => ht t' (by simp [h'])) h2 (fun x hx => hlt x (by simp [hx])) sp (fun x hx => hsp x (by simp [hx])), rfl⟩
  | [], _ :: _, _, _, _, h, _, _, _ => by cases h
  | [], [], _ :: _, _, _, h, _, _, _ => by cases h
  | _ :: _, [], _, _, _, h, _, _, _ => by cases h
  | _ :: _, _ :: _, [], _, _, h, _, _, _ => by cases h

/-- a law's last step: it has returned true, and nothing old has turned -/
theorem law_post {f : Func} {s : ChangeSpec} {W W' : World} {args : Array Value} {ds gs : List (DataW H)} {before : List MemPlace} (hl : laidOutB P = true)
    (hW : DataW.Whole enc P f.params.toList s.vars false W args.toList ds gs before) (hv : s.vars = []) (b : TypeId) (hbool : P.underlying b = some .bool) (hrt : f.resultTypes = #[b])
    (hts : ∀ t ∈ f.params.toList, P.readableRec t = true ∧ t < P.types.size)
    (hsp : s.fn H (ds ++ gs) = { results := [.lit (.bool true)], args := ds }) (hb : Below W.heap.size W W') : s.post enc P f false true false false W args (.bool true) W' := by
  have hW0 := hW
  have hlt : ∀ p ∈ before, p.block < W.heap.size := fun p hp => hW.lt p hp
  obtain ⟨p, q, hA, hV, hpq, hz, hn⟩ := hW
  rw [hv] at hV
  obtain ⟨hg, hq⟩ := trodVars_none hV
  subst hg hq
  rw [List.append_nil] at hpq
  subst hpq
  have hargs := args_below hl hb hts hA hlt
  refine ⟨ds, [], before, [], before, [], hW0, ?_, ?_, ?_, World.keptBut_mono (fun p hp => ⟨hp, Or.inr (Or.inl hp)⟩) (hb.frame (· ∈ before)), fun h => by cases h⟩
  · rw [hsp, hrt]
    exact trodAll_mk1 (shut_bool hbool _)
  · rw [hsp]
    exact hargs _ (fun p hp => by simpa using hlt p hp)
  · rw [hsp, hv]
    exact rfl
end

def I64 (x : Int) : Prop := -9223372036854775808 ≤ x ∧ x ≤ 9223372036854775807
def Fac.ok (f : Fac) : Prop := f.l.size ≤ maxLen ∧ I64 f.a ∧ I64 f.b

theorem cell_spot {w : World} {a : Addr} {v : Value} (h : w.cell? a = some v) : a = ⟨a.block, a.off, none⟩ := by
  obtain ⟨b, o, s⟩ := a
  cases s with
  | none => rfl
  | some x =>
    exfalso
    unfold World.cell? at h
    split at h <;> simp at h

section
variable {H : Type} {enc : TypeId × Value → H} {P : Program} {w : World} {base : Nat} {spare : Nat → Bool} {held : Bool}
/-- an argument that is a list of numbers -/
theorem open_nums {t e : TypeId} {k : IntKind} {r : Reach} {b0 : Nat} {v : Value} {d : DataW H} {p : List MemPlace} (ht : P.underlying t = some (.slice e)) (he : P.underlying e = some (.int k)) (hC : P.cellsOf e = 1)
    (hv : Value.okWide P w r b0 t v) (h : DataW.Trod enc P w base spare held t v d p) :
    ∃ A n c zs, v = .slice A n c ∧ n ≤ maxLen ∧ Rd w w.heap.size A n 1 (fun z => [.int k z]) zs ∧ ∀ z ∈ zs, (Lit.int k z).wf = true := by
  obtain ⟨a0, len0, cap0, rfl⟩ := okWide_slice ht hv
  obtain ⟨fuel, hf⟩ := h
  simp only [Value.cells] at hf
  rcases open_ints ht he hC hf with ⟨hcs, hx⟩ | ⟨a, len, cap, zs, hcs, _, hl, hm, hz, hx, hi, hw⟩
  · exact ⟨none, 0, 0, [], by simpa using hcs, by omega, Rd.none_, by simp⟩
  · have hlz : len ≤ zs.length := by rw [hz]; split <;> omega
    refine ⟨some a, len, cap, zs.take len, by simpa using hcs, by omega, ⟨by simp; omega, fun hp => ?_⟩, fun z h2 => hw z (List.mem_of_mem_take h2)⟩
    have h0 := hi 0 (by omega)
    have ha : a = ⟨a.block, a.off, none⟩ := by
      have : a.add 0 = a := by simp [Addr.add]
      rw [this] at h0
      exact cell_spot h0
    refine ⟨a.block, a.off, by rw [← ha], ?_, fun i x hx j u hu => ?_⟩
    · have := World.block_lt_of_cell? w _ h0
      simpa [Addr.add] using this
    · have hil : i < len := by have := (List.getElem?_eq_some_iff.1 hx).1; simp at this; omega
      rw [List.getElem?_take_of_lt hil] at hx
      have g0 := hi i (by omega)
      rw [ha, Addr.add_lit, List.getD_eq_getElem?_getD, hx] at g0
      rcases j with _ | j
      · simp at hu; subst hu; simpa using g0
      · simp at hu
theorem open_bytes {t e : TypeId} {r : Reach} {b0 : Nat} {v : Value} {d : DataW H} {p : List MemPlace} (ht : P.underlying t = some (.slice e)) (he : P.underlying e = some (.int .u8)) (hC : P.cellsOf e = 1)
    (hv : Value.okWide P w r b0 t v) (h : DataW.Trod enc P w base spare held t v d p) :
    ∃ A n c zs, v = .slice A n c ∧ n ≤ maxLen ∧ Rd w w.heap.size A n 1 (fun z => [.int .u8 z]) zs ∧ ∀ z ∈ zs, 0 ≤ z ∧ z < 256 := by
  obtain ⟨A, n, c, zs, h1, h2, h3, h4⟩ := open_nums ht he hC hv h
  refine ⟨A, n, c, zs, h1, h2, h3, fun z hz => ?_⟩
  have := h4 z hz
  simp [Lit.wf, IntKind.min, IntKind.max, IntKind.signed, IntKind.bits] at this
  omega
end
end Go.Proofs.YtmdmgndhapdmgaaGreat
