/-
  Texts of this claim, merged: TabG Stop RuleP RuleK TrimO Tail Stage Stage2 SmP TabW PlainI PlainP Found PlainS.
-/
import Derived.Test.YtmdmgndhapdmgaaGreatP1
import Derived.Deep.DeepCutAuto
import Derived.Deep.RegionLaw
import Derived.Maps.OwnOps
import Derived.StillTail
import Derived.OrdersHeld
import Derived.Deep.RegionHeld
import Derived.Lib.Bytealg


/-
  Tables of rows of any length: compared, marked, held (numbers).
-/
namespace Go.Proofs.YtmdmgndhapdmgaaGreat
open Go.RowKit

/-- all but some rows is as it was -/
structure RowsFr (w w' : World) (hs : List RowH) : Prop where
  os : w'.os = w.os
  tape : w'.tape = w.tape
  output : w'.output = w.output
  size : w.heap.size ≤ w'.heap.size
  block : ∀ b, b < w.heap.size → (∀ (i : Nat) (q : RowH), hs[i]? = some q → (Value.slice q.A q.n q.c).ownBlock ≠ some b) → w'.heap[b]? = w.heap[b]?
theorem RowsFr.refl (w : World) (hs : List RowH) : RowsFr w w hs := ⟨rfl, rfl, rfl, Nat.le_refl _, fun _ _ _ => rfl⟩
theorem RowsFr.next {w w1 w2 : World} {hs : List RowH} (h : RowsFr w w1 hs) (hb : Below w1.heap.size w1 w2) : RowsFr w w2 hs :=
  ⟨hb.os.trans h.os, hb.tape.trans h.tape, hb.output.trans h.output, Nat.le_trans h.size hb.size, fun b hb1 hn => (hb.block b (Nat.lt_of_lt_of_le hb1 h.size)).trans (h.block b hb1 hn)⟩
theorem RowsFr.row {w w1 w2 : World} {hs : List RowH} {i : Nat} {q : RowH} (h : RowsFr w w1 hs) (hi : hs[i]? = some q) (hg : w1.grownBy w2 (Value.slice q.A q.n q.c).ownBlock) : RowsFr w w2 hs :=
  ⟨hg.os.trans h.os, hg.tape.trans h.tape, hg.output.trans h.output, Nat.le_trans h.size hg.size, fun b hb1 hn => (hg.block b (Nat.lt_of_lt_of_le hb1 h.size) (fun e => hn i q hi e.symm)).trans (h.block b hb1 hn)⟩
theorem RowsFr.below {w w' : World} {hs : List RowH} {base : Nat} (h : RowsFr w w' hs) (hb : base ≤ w.heap.size) (hr : ∀ (i : Nat) (q : RowH) (b : Nat), hs[i]? = some q → (Value.slice q.A q.n q.c).ownBlock = some b → base ≤ b) : Below base w w' :=
  ⟨h.os, h.tape, h.output, h.size, fun b hlt => h.block b (Nat.lt_of_lt_of_le hlt hb) (fun i q hi e => by have := hr i q b hi e; omega)⟩
theorem RowsFr.own {w w' : World} {hs : List RowH} {base e sz n : Nat} {v : Value} {xs : List Value} (h : RowsFr w w' hs) (ho : w.ownsRow base e sz v n xs) (hne : ∀ (i : Nat) (q : RowH) (b : Nat), hs[i]? = some q → (Value.slice q.A q.n q.c).ownBlock = some b → v.ownBlock ≠ some b) : w'.ownsRow base e sz v n xs := by
  refine ⟨ho.1, ?_⟩
  rcases ho.2 with hn | ⟨g, cap, cur, rfl, hg, hh, r⟩
  · exact .inl hn
  · exact .inr ⟨g, cap, cur, rfl, hg, (h.block g (ho.lt g rfl).2 (fun i q hi e => hne i q g hi e rfl)).trans hh, r⟩
theorem RowsFr.blk {w w' : World} {hs : List RowH} {g : Nat} {t : TypeId} {cs : Array Value} (h : RowsFr w w' hs) (hB : Blk w g t cs) (hne : ∀ (i : Nat) (q : RowH) (b : Nat), hs[i]? = some q → (Value.slice q.A q.n q.c).ownBlock = some b → g ≠ b) : Blk w' g t cs :=
  (h.block g hB.lt (fun i q hi e => hne i q g hi e rfl)).trans hB
section
variable {α : Type} {EH E : TypeId} {w w' : World} {base n c : Nat} {A : Option Addr} {enc : α → List Value} {hs : List RowH} {xss : List (List α)}
theorem TabR.ge (h : TabR EH E enc w base A n c hs xss) : ∀ (i : Nat) (q : RowH) (b : Nat), hs[i]? = some q → (Value.slice q.A q.n q.c).ownBlock = some b → base ≤ b ∧ b < w.heap.size := fun i q b hq hb => by
  have hx : xss[i]? = some (xss[i]'(by rw [h.lx, ← h.lg]; exact (List.getElem?_eq_some_iff.1 hq).1)) := List.getElem?_eq_getElem _
  exact (h.r i q _ hq hx).2.lt b hb
/-- a row is written anew -/
theorem TabR.put {i : Nat} {q : RowH} {y : List α} (hE : EH ≠ E) (h : TabR EH E enc w base A n c hs xss) (hi : hs[i]? = some q) (hy : w'.ownsRow base E 1 (.slice q.A q.n q.c) q.n (y.flatMap enc)) (hl : y.length = q.n) (hg : w.grownBy w' (Value.slice q.A q.n q.c).ownBlock) :
    TabR EH E enc w' base A n c hs (xss.set i y) := by
  have hil := (List.getElem?_eq_some_iff.1 hi).1
  have hxi : xss[i]? = some (xss[i]'(by rw [h.lx, ← h.lg]; exact hil)) := List.getElem?_eq_getElem _
  have hq := h.r i q _ hi hxi
  refine ⟨h.o.kept hg (own_ne h.o hq.2 hE), h.lg, by rw [List.length_set, h.lx], fun j p x hj hx => ?_, h.d⟩
  by_cases hij : i = j
  · subst hij
    obtain rfl : q = p := Option.some.inj (hi.symm.trans hj)
    rw [List.getElem?_set_self (by rw [h.lx, ← h.lg]; exact hil)] at hx
    injection hx with hx
    subst hx
    exact ⟨hl, hy⟩
  · rw [List.getElem?_set_ne hij] at hx
    have hp := h.r j p x hj hx
    refine ⟨hp.1, hp.2.kept hg ?_⟩
    cases hv : (Value.slice p.A p.n p.c).ownBlock with
    | none => exact .inl rfl
    | some b => exact .inr fun e => hij (h.d i j q p b hi hj e.symm hv)
theorem TabR.at_ (h : TabR EH E enc w base A n c hs xss) {i : Nat} (hi : i < n) : ∃ p q x, A = some ⟨p, 0, none⟩ ∧ p < w.heap.size ∧ hs[i]? = some q ∧ xss[i]? = some x ∧ w.cell? ⟨p, i, none⟩ = some (.slice q.A q.n q.c) ∧ x.length = q.n ∧ w.ownsRow base E 1 (.slice q.A q.n q.c) q.n (x.flatMap enc) := by
  obtain ⟨p, cap, hv, hg, hs'⟩ := h.o.form (by omega)
  injection hv with hA _ _
  subst hA
  have hq : hs[i]? = some (hs[i]'(by rw [h.lg]; exact hi)) := List.getElem?_eq_getElem _
  have hx : xss[i]? = some (xss[i]'(by rw [h.lx]; exact hi)) := List.getElem?_eq_getElem _
  refine ⟨p, _, _, rfl, hs', hq, hx, ?_, h.r i _ _ hq hx⟩
  rw [h.o.cellAt i (by omega)]
  have := flat_at (enc := encR) (sz := 1) hs (fun _ _ => rfl) i _ hq 0 (by omega)
  rw [Nat.mul_one, Nat.add_zero] at this
  rw [this]; rfl
end
end Go.Proofs.YtmdmgndhapdmgaaGreat


/-
  The walk made to stand ahead of an operation, so that a law can be laid there.
-/
namespace Go.Proofs.YtmdmgndhapdmgaaGreat
open Go.RowKit

/-! ### the walk made to stand ahead of an operation -/
end Go.Proofs.YtmdmgndhapdmgaaGreat


/-
  Lists of rules that a call makes: what is appended, copied.
-/
namespace Go.Proofs.YtmdmgndhapdmgaaGreat
open Go.RowKit

theorem elem_rule : Elem Tryz.prog 29 72 3 32 := Elem.mk' (z := .agg #[.string .empty, .int .i64 0, .int .i64 0]) Tryz.underlying29 (by kernel_rfl) rfl
theorem one_fac (f : Fac) : ∀ u ∈ Fac.cells f, u.oneCell' = true := by simp [Fac.cells, Value.oneCell']
/-- what lies behind a list, cell for cell -/
theorem Rd.news {α : Type} {w : World} {B n sz : Nat} {A : Option Addr} {enc : α → List Value} {xs : List α} (h : Rd w B A n sz enc xs) (hl : ∀ x ∈ xs, (enc x).length = sz) (hn : 0 < n) :
    ∃ b o, A = some ⟨b, o, none⟩ ∧ b < B ∧ ∀ j u, (xs.flatMap enc)[j]? = some u → w.cell? ((⟨b, o, none⟩ : Addr).add j) = some u := by
  obtain ⟨b, o, hA, hb, hc⟩ := h.2 hn
  refine ⟨b, o, hA, hb, fun j u hj => ?_⟩
  have hlt := (List.getElem?_eq_some_iff.1 hj).1
  rw [flat_len xs hl] at hlt
  have hsz : 0 < sz := by
    rcases Nat.eq_zero_or_pos sz with h | h
    · subst h; simp at hlt
    · exact h
  have hk : j / sz < xs.length := Nat.div_lt_of_lt_mul (by rw [Nat.mul_comm]; exact hlt)
  have he : j / sz * sz + j % sz = j := by rw [Nat.mul_comm]; exact Nat.div_add_mod j sz
  have hx : xs[j / sz]? = some (xs[j / sz]'hk) := List.getElem?_eq_getElem _
  have h2 := flat_at xs hl _ _ hx (j % sz) (Nat.mod_lt _ hsz)
  rw [he, hj] at h2
  have h3 := hc _ _ hx (j % sz) u h2.symm
  rw [Nat.add_assoc, he] at h3
  simpa [Addr.add_lit] using h3
/-- a row of the call's own, behind a store into a block of another type -/
theorem own_kept' {w : World} {base g : Nat} {e t : TypeId} {sz n : Nat} {v : Value} {xs : List Value} {cs : Array Value} (h : w.ownsRow base e sz v n xs) (hB : Blk w g t cs) (ht : e ≠ t) (u : Value) {i : Nat} : (w.setCell ⟨g, i, none⟩ u).ownsRow base e sz v n xs := by
  refine h.kept (gb_set w g i u) ?_
  cases hv : v.ownBlock with
  | none => exact .inl rfl
  | some k => exact .inr fun e => own_blk_ne h hB ht (by rw [hv]; exact e.symm)
section
variable {α : Type} {P : Program} {w : World} {ops : Array Oper} {o : Oper} {a : Act} {rest : List Oper}
/-- a list appended to a slice of the call's own -/
theorem wpList_app {Q : Exit → Act → World → Prop} (hgd : o.guard = none) (s x : Operand) (t : TypeId) (ho : o.op = .call { callee := .builtin .append, args := #[s, x], argTypes := #[t, t] })
    (base : Nat) (e : TypeId) (sz bytes : Nat) (EI : Elem P t e sz bytes) (enc : α → List Value) (A : Option Addr) (n c : Nat) (xs : List α) (hs : a.eval s = .slice A n c)
    (hown : w.ownsRow base e sz (.slice A n c) n (xs.flatMap enc)) (ad : Addr) (m cc : Nat) (ys : List α) (hx : a.eval x = .slice (some ad) m cc) (hym : ys.length = m) (hm0 : 0 < m) (hnews : ∀ j u, (ys.flatMap enc)[j]? = some u → w.cell? (ad.add j) = some u)
    (hlen : ∀ y ∈ ys, (enc y).length = sz) (hone : ∀ y ∈ ys, ∀ u ∈ enc y, u.oneCell' = true) (hsz : 0 < sz) (hbytes : (n + m) * bytes ≤ 140737488355328) (hm : n + m ≤ maxLen) (hsize : base ≤ w.heap.size)
    (h : ∀ A' c' w', w'.ownsRow base e sz (.slice A' (n + m) c') (n + m) ((xs ++ ys).flatMap enc) → w.grownBy w' (Value.slice A n c).ownBlock →
      ((Value.slice A' (n + m) c').ownBlock = (Value.slice A n c).ownBlock ∨ (Value.slice A' (n + m) c').ownBlock = some w.heap.size) → wpList P ops Q rest (a.put o.dst (.slice A' (n + m) c')) w') : wpList P ops Q (o :: rest) a w := by
  obtain ⟨ht, i, z, hi, hz, h1, h2, hzs⟩ := EI
  refine wpList_plain hgd fun _ hK => ?_
  obtain ⟨v', w', hr, r2, r3, _, r5⟩ := run_append_own_at (P := P) w base t o.type e i z sz bytes ht hi hz h1 h2 hzs hsz _ n _ hown ad m cc (ys.flatMap enc) (by rw [flat_len ys hlen, hym]) hnews
    (fun u hu => by obtain ⟨y, hy, hu⟩ := List.mem_flatMap.1 hu; exact hone y hy u hu) hm hbytes hsize
  obtain ⟨g', cap, rfl, _, _⟩ := r2.form (by omega)
  unfold Oper.wp execOp
  simp only [ho, resolve, invoke, builtin, Sem.run_bind, Sem.run_pure, Result.andThen_ok, List.map_toArray, List.map_cons, List.map_nil, hs, hx, hr]
  exact hK _ _ (h _ _ w' (by rw [List.flatMap_append]; exact r2) r3 r5)
end
set_option maxHeartbeats 2000000 in
set_option maxRecDepth 100000 in
theorem l02Own_any (gb : Nat) (A : Option Addr) (n c : Nat) (rs : List Fac) (w : World) (hg : gb < w.heap.size) (hc : w.cell? ⟨gb, 0, none⟩ = some (.slice A n c)) (hn : n ≤ 1048576) (hn0 : 0 < n) (hr : Rd w w.heap.size A n 3 Fac.cells rs) :
    Calls Tryz.prog 98 #[.pointer (some ⟨gb, 0, none⟩)] w (RetG w rs) := by
  have hl := Lib.hid hr.len
  obtain ⟨b, o, rfl, hb, hnews⟩ := hr.news (fun x _ => fac_len x) hn0
  have HN := Lib.hid hnews; clear hnews hr
  have hh := Lib.hid (fun (W : World) (h : Below w.heap.size w W) j u (hj : (rs.flatMap Fac.cells)[j]? = some u) => ((h.cell (p := (⟨b, o, none⟩ : Addr).add j) (by simpa [Addr.add_lit] using hb)).trans (HN.out j u hj)))
  have h2 : Below w.heap.size w ((w.alloc (.cells #[.slice none 0 0] 31)).alloc (.cells #[] 72)) := by (repeat first | exact Below.refl _ _ | assumption | refine Below.drew ?_ | refine Below.alloc ?_ (by first | exact Nat.le_refl _ | (simp; done) | omega | (simp; omega)) _ | refine Below.setCell ?_ (by first | exact Nat.le_refl _ | (simp; done) | omega | (simp; omega)) _)
  have ow : ((w.alloc (.cells #[.slice none 0 0] 31)).alloc (.cells #[] 72)).ownsRow w.heap.size 72 3 (.slice (some ⟨w.heap.size + 1, 0, none⟩) 0 0) 0 (([] : List Fac).flatMap Fac.cells) := by
    simpa using World.ownsRow_made (base := w.heap.size) (e := 72) (size := 3) (w.alloc (.cells #[.slice none 0 0] 31)) #[] 0 (by simp) (by unfold maxLen; omega) rfl
  have bx := (Blk.new w 31 #[.slice none 0 0]).alloc (.cells #[] 72)
  have H2 := Lib.hid h2; have OW := Lib.hid ow; have BX := Lib.hid bx
  clear h2 ow bx
  go_enter Tryz.func98, Tryz.ntmps98
  go_wp2_with
    (at_builtin
     refine wpList_app rfl _ _ _ rfl w.heap.size 72 3 32 elem_rule Fac.cells (some ⟨w.heap.size + 1, 0, none⟩) 0 0 [] rfl OW.out ⟨b, o, none⟩ n c rs rfl hl.out hn0 (fun j u hj => hh.out _ H2.out j u hj) (fun x _ => fac_len x) (fun x _ => one_fac x) (by omega) (by omega) (by unfold maxLen; omega) (by simp; omega) ?_
     rw [Nat.zero_add, List.nil_append]
     intro A9 c9 w9 own9 hg9 hat9
     have O9 := Lib.hid own9
     have B9 := Lib.hid (H2.out.grown hg9 (by simp; omega) (fun k hk => (OW.out.lt k hk).1))
     have X9 := BX.out.grown hg9 (by simp [Value.ownBlock])
     have X9' := Lib.hid X9
     have f9 := X9.frozen
     have d9 := X9.cell 0
     have l9 := X9.lt
     clear own9 X9)
  have X10 := X9'.out.set_ 0 (.slice A9 n c9)
  have x10 : (w9.setCell ⟨w.heap.size, 0, none⟩ (.slice A9 n c9)).cell? ⟨w.heap.size, 0, none⟩ = some (.slice A9 n c9) := by rw [X10.cell 0]; rfl
  refine bodyPost_ret (v := .agg #[.slice A9 n c9]) (by simp [results, Tryz.results98, go_sem, x10]) rfl ⟨A9, c9, by rw [hl.out], ?_, B9.out.setCell (Nat.le_refl _) _⟩
  rw [hl.out]
  exact own_kept' O9.out X9'.out (by decide) _
end Go.Proofs.YtmdmgndhapdmgaaGreat


/-
  A map whose keys are rules.
-/
namespace Go.Proofs.YtmdmgndhapdmgaaGreat
open Go.RowKit Go.MapKept

section
variable {α : Type} [DecidableEq α] {P : Program} {w : World} {ops : Array Oper} {rest : List Oper} {o : Oper} {a : Act} {b : Nat} {K : α → Value} {mm : List (α × Value)} {kt t e : TypeId} {z : Value}
/-- a look-up in a map of the call's own, with the word whether there is an entry -/
theorem wpList_lookOk {Q : Exit → Act → World → Prop} (hgd : o.guard = none) (m x : Operand) (ho : o.op = .lookup t m x true) (KO : KeyOk P kt K) (ht : P.underlying t = some (.map kt e)) (hz : (zeroValue e).run P w = .ok z w) (hm : a.eval m = .map (some b)) (y : α) (hx : a.eval x = K y)
    (h : MapIs w b K mm) (hK : wpList P ops Q rest (a.put o.dst (.tuple #[(mget y mm).getD z, .bool (mget y mm).isSome])) w) : wpList P ops Q (o :: rest) a w := by
  refine wpList_plain hgd fun _ hK' => ?_
  unfold Oper.wp execOp
  simp only [ho, hm, hx, Sem.run_bind, h.lookOk KO ht hz y, Result.andThen_ok, Sem.run_pure]
  exact hK' _ _ hK
end
theorem zero_i64 (w : World) : (zeroValue 2).run Tryz.prog w = .ok (.int .i64 0) w := by kernel_rfl
theorem eql_rule (f g : Fac) (W : World) : (binOp .eql 72 (.agg #[.string f.l, .int .i64 f.a, .int .i64 f.b]) (.agg #[.string g.l, .int .i64 g.a, .int .i64 g.b])).run Tryz.prog W = .ok (.bool (decide (f = g))) W := by
  rw [eq_fac]
  simp [go_sem, tl_inj]
  try (by_cases h1 : f.l = g.l <;> by_cases h2 : f.a = g.a <;> by_cases h3 : f.b = g.b <;> simp [h1, h2, h3])
theorem equal_rule (f g : Fac) (W : World) : (Op.equal 72 f.val g.val).run Tryz.prog W = .ok (decide (f = g)) W := by
  have h := eql_rule f g W
  unfold binOp at h
  simp only [Sem.run_bind] at h
  unfold Fac.val
  generalize hr : Sem.run Tryz.prog (Op.equal 72 (.agg #[.string f.l, .int .i64 f.a, .int .i64 f.b]) (.agg #[.string g.l, .int .i64 g.a, .int .i64 g.b])) W = r at h ⊢
  cases r with
  | ok b w' =>
    simp [Result.andThen] at h
    rw [h.1, h.2]
  | _ => simp [Result.andThen] at h
theorem rule_key : KeyOk Tryz.prog 72 Fac.val := by
  refine ⟨fun e a w => ?_, fun a m es w he => ?_, fun a w => ?_⟩
  · have hs : ∀ n v, (Instr.checkKey e (n + 1) 9 (.string v)).run Tryz.prog w = .ok () w := fun n v => run_checkKey Tryz.underlying9 (by simp [IsKey]) e n
    have hi : ∀ n v, (Instr.checkKey e (n + 1) 2 (.int .i64 v)).run Tryz.prog w = .ok () w := fun n v => run_checkKey Tryz.underlying2 (by simp [IsKey]) e n
    unfold Fac.val
    show (Instr.checkKey e (9999 + 1) 72 _).run _ _ = _
    unfold Instr.checkKey
    simp only [Sem.run_bind, run_underlying Tryz.underlying72]
    have hs' := hs 9998
    have hi' := hi 9998
    simp [go_sem, hs', hi']
  · have ask : ∀ (m : List (Fac × Value)) (es : List MapEntry) (i : Nat), es.map (fun e => (e.key, e.val)) = m.map (fun p => (Fac.val p.1, p.2)) → (Instr.findAsking 72 (Fac.val a) es i).run Tryz.prog w = .ok (midx a m i) w := by
      intro m
      induction m with
      | nil => intro es i he; cases es with | nil => rfl | cons _ _ => simp at he
      | cons p r ih =>
        intro es i he
        cases es with
        | nil => simp at he
        | cons e es =>
          simp at he
          obtain ⟨⟨h1, h2⟩, h3⟩ := he
          unfold Instr.findAsking
          rw [h1, midx_cons]
          simp only [Sem.run_bind, equal_rule, Result.andThen_ok]
          by_cases hap : a = p.1
          · simp [hap, h2]
          · simp only [hap, decide_false, if_false, Bool.false_eq_true]
            exact ih es (i + 1) h3
    cases es with
    | nil =>
      cases m with
      | nil => simp [Instr.findKey, run_underlying Tryz.underlying72, Instr.findNow, midx]
      | cons _ _ => simp at he
    | cons e es =>
      have hn : Instr.findNow (TypeDesc.struct #[]) (Fac.val a) (e :: es) 0 = none := by unfold Instr.findNow Instr.sameNow; rfl
      have := ask m (e :: es) 0 he
      simp [Instr.findKey, run_underlying Tryz.underlying72, Instr.findNow, Instr.sameNow, Fac.val] at this ⊢
      exact this
  · have : Instr.sameBits 10000 a.val a.val = true := by
      show Instr.sameBits (9999 + 1) (.agg _) (.agg _) = true
      unfold Instr.sameBits
      simp [Instr.sameBits, beq_toListBytes, tl_beq]
    simp [Instr.keyThatStays, this]
end Go.Proofs.YtmdmgndhapdmgaaGreat


/-
  A grammar trimmed: the rules that are left, written down.
-/
namespace Go.Proofs.YtmdmgndhapdmgaaGreat
open Go.RowKit

theorem info_bool : (Tryz.prog.info? 4).map (fun i => (i.zero, i.size, i.bytes)) = some (some (.bool false), 1, 1) := by kernel_rfl
def boolA (u : List Bool) : Array Value := (u.map Value.bool).toArray
theorem boolA_made (n : Nat) : madeCells (Value.bool false).cells (n * 1) = boolA (List.replicate n false) := by
  apply Array.ext
  · simp [size_madeCells, boolA]
  · intro i h1 h2
    simp [madeCells, Value.cells, boolA, Nat.mod_one]
theorem boolA_set (u : List Bool) (i : Nat) (b : Bool) : (boolA u).setIfInBounds i (.bool b) = boolA (u.set i b) := by
  unfold boolA
  apply Array.ext'
  simp [List.map_set]
theorem boolA_at (u : List Bool) {i : Nat} (h : i < u.length) : (boolA u)[i]? = some (.bool (u.getD i false)) := by
  simp [boolA, List.getD_eq_getElem?_getD, List.getElem?_eq_getElem h]
theorem makeB (n : Nat) (W : World) (hn : n ≤ 1048576) : (Instr.makeSlice 70 (.int .i64 (n : Int)) (.int .i64 (n : Int))).run Tryz.prog W = .ok (.slice (some ⟨W.heap.size, 0, none⟩) n n) (W.alloc (.cells (boolA (List.replicate n false)) 4)) := by
  obtain ⟨i0, hi, hz0, hz1, hz2⟩ := info_parts info_bool
  have hmk := run_make_rowN (P := Tryz.prog) 70 4 i0 _ Tryz.underlying70 hi hz0 .i64 .i64 n n (Nat.le_refl _) (by rw [hz2]; omega) (by omega) W
  rw [hz1, boolA_made] at hmk
  exact hmk
def intA (u : List Int) : Array Value := (u.map (Value.int .i64)).toArray
theorem intA_made (n : Nat) : madeCells (Value.int .i64 0).cells (n * 1) = intA (List.replicate n 0) := by
  apply Array.ext
  · simp [size_madeCells, intA]
  · intro i h1 h2
    simp [madeCells, Value.cells, intA, Nat.mod_one]
theorem intA_set (u : List Int) (i : Nat) (b : Int) : (intA u).setIfInBounds i (.int .i64 b) = intA (u.set i b) := by
  unfold intA
  apply Array.ext'
  simp [List.map_set]
theorem intA_at (u : List Int) {i : Nat} (h : i < u.length) : (intA u)[i]? = some (.int .i64 (u.getD i 0)) := by
  simp [intA, List.getD_eq_getElem?_getD, List.getElem?_eq_getElem h]
theorem info_i64' : (Tryz.prog.info? 2).map (fun i => (i.zero, i.size, i.bytes)) = some (some (.int .i64 0), 1, 8) := by kernel_rfl
theorem makeN (n : Nat) (W : World) (hn : n ≤ 1048576) : (Instr.makeSlice 61 (.int .i64 (n : Int)) (.int .i64 (n : Int))).run Tryz.prog W = .ok (.slice (some ⟨W.heap.size, 0, none⟩) n n) (W.alloc (.cells (intA (List.replicate n 0)) 2)) := by
  obtain ⟨i0, hi, hz0, hz1, hz2⟩ := info_parts info_i64'
  have hmk := run_make_rowN (P := Tryz.prog) 61 2 i0 _ Tryz.underlying61 hi hz0 .i64 .i64 n n (Nat.le_refl _) (by rw [hz2]; omega) (by omega) W
  rw [hz1, intA_made] at hmk
  exact hmk
theorem news1 {W : World} {g : Nat} {t : TypeId} {y : Fac} (h : Blk W g t #[.string y.l, .int .i64 y.a, .int .i64 y.b]) : ∀ j u, ([y].flatMap Fac.cells)[j]? = some u → W.cell? ((⟨g, 0, none⟩ : Addr).add j) = some u := by
  intro j u hj
  have e : ((⟨g, 0, none⟩ : Addr).add j) = ⟨g, j, none⟩ := by
    simp only [Addr.add, Nat.zero_add]
    by_cases h0 : j = 0
    · subst h0; rfl
    · simp [h0]
  rw [e, h.cell j]
  simpa [Fac.cells] using hj
/-- the last round of 'trimmed' under way -/
structure OutW (O : Nat) (w W : World) (A4 : Option Addr) (c4 k : Nat) (kept : List Fac) (X U : Nat) (u : List Bool) (V : Nat) (at_ : List Int) (B : Nat) (A7 : Option Addr) (nn c7 : Nat) (out : List Fac) : Prop where
  r : W.ownsRow w.heap.size 72 3 (.slice A4 k c4) k (kept.flatMap Fac.cells)
  u : Blk W U 4 (boolA u)
  v : Blk W V 2 (intA at_)
  b : Blk W B 31 #[.slice A7 nn c7]
  o : Blk W O 31 #[.slice none 0 0]
  q : W.ownsRow X 72 3 (.slice A7 nn c7) nn (out.flatMap Fac.cells)
  e : Below w.heap.size w W
  n0 : w.heap.size ≤ O
  n1 : O < B
  n2 : B < X
  n3 : w.heap.size ≤ U
  n4 : w.heap.size ≤ V
  n5 : X ≤ W.heap.size
  n6 : ∀ q, (Value.slice A4 k c4).ownBlock = some q → q < X
section
variable {O : Nat} {w W W' : World} {A4 : Option Addr} {c4 k : Nat} {kept : List Fac} {X U : Nat} {u : List Bool} {V : Nat} {at_ : List Int} {B : Nat} {A7 : Option Addr} {nn c7 : Nat} {out : List Fac}
theorem OutW.next (h : OutW O w W A4 c4 k kept X U u V at_ B A7 nn c7 out) (hb : Below W.heap.size W W') : OutW O w W' A4 c4 k kept X U u V at_ B A7 nn c7 out :=
  ⟨own_next h.r hb, h.u.next hb, h.v.next hb, h.b.next hb, h.o.next hb, own_next h.q hb, h.e.trans (hb.mono h.e.size), h.n0, h.n1, h.n2, h.n3, h.n4, Nat.le_trans h.n5 hb.size, h.n6⟩
theorem OutW.alloc (h : OutW O w W A4 c4 k kept X U u V at_ B A7 nn c7 out) (o : Obj) : OutW O w (W.alloc o) A4 c4 k kept X U u V at_ B A7 nn c7 out := h.next ((Below.refl _ _).alloc (Nat.le_refl _) _)
theorem OutW.drew (h : OutW O w W A4 c4 k kept X U u V at_ B A7 nn c7 out) : OutW O w W.drew A4 c4 k kept X U u V at_ B A7 nn c7 out := h.next (Below.refl _ _).drew
/-- the cells of a block made later put -/
theorem OutW.far {Z : Nat} (h : OutW O w W A4 c4 k kept X U u V at_ B A7 nn c7 out) (hg : W.grownBy W' (some Z)) (h1 : some Z ≠ (Value.slice A4 k c4).ownBlock) (h2 : some Z ≠ (Value.slice A7 nn c7).ownBlock) (h3 : Z ≠ U) (h4 : Z ≠ V) (h5 : Z ≠ B) (h6 : O < Z) :
    OutW O w W' A4 c4 k kept X U u V at_ B A7 nn c7 out := by
  have t : ∀ g : Nat, Z ≠ g → some g ≠ some Z := fun g hne e => hne (by injection e with e; exact e.symm)
  exact ⟨h.r.kept hg (.inr fun e => h1 e.symm), h.u.grown hg (t _ h3), h.v.grown hg (t _ h4), h.b.grown hg (t _ h5), h.o.grown hg (t _ (by omega)), h.q.kept hg (.inr fun e => h2 e.symm),
    h.e.grown hg h.e.size (fun q hq => by injection hq with hq; have := h.n0; omega), h.n0, h.n1, h.n2, h.n3, h.n4, Nat.le_trans h.n5 hg.size, h.n6⟩
/-- a number told -/
theorem OutW.tell (h : OutW O w W A4 c4 k kept X U u V at_ B A7 nn c7 out) (i : Nat) (z : Int) : OutW O w (W.setCell ⟨V, i, none⟩ (.int .i64 z)) A4 c4 k kept X U u V (at_.set i z) B A7 nn c7 out := by
  have hg := gb_set W V i (.int .i64 z)
  have nt : ∀ {g : Nat} {t : TypeId} {cs : Array Value}, Blk W g t cs → t ≠ 2 → some g ≠ some V := fun hB hne e => by
    injection e with e; subst e
    have := hB.symm.trans h.v
    injection this with this; injection this with _ this; exact hne this
  refine ⟨h.r.kept hg (.inr fun e => own_blk_ne h.r h.v (by decide) e.symm), h.u.grown hg (nt h.u (by decide)), ?_, h.b.grown hg (nt h.b (by decide)), h.o.grown hg (nt h.o (by decide)), h.q.kept hg (.inr fun e => own_blk_ne h.q h.v (by decide) e.symm),
    h.e.grown hg h.e.size (fun q hq => by injection hq with hq; have := h.n4; omega), h.n0, h.n1, h.n2, h.n3, h.n4, Nat.le_trans h.n5 hg.size, h.n6⟩
  have := h.v.set_ i (.int .i64 z)
  rw [intA_set] at this; exact this
/-- one rule more, told to the box as well -/
theorem OutW.push {A8 : Option Addr} {k8 c8 : Nat} {out' : List Fac} (h : OutW O w W A4 c4 k kept X U u V at_ B A7 nn c7 out) (hq : W'.ownsRow X 72 3 (.slice A8 k8 c8) k8 (out'.flatMap Fac.cells)) (hg : W.grownBy W' (Value.slice A7 nn c7).ownBlock) :
    OutW O w (W'.setCell ⟨B, 0, none⟩ (.slice A8 k8 c8)) A4 c4 k kept X U u V at_ B A8 k8 c8 out' := by
  have hb' : Blk W' B 31 #[.slice A7 nn c7] := h.b.grown hg (own_blk_ne h.q h.b (by decide))
  have hu' := h.u.grown hg (own_blk_ne h.q h.u (by decide))
  have hv' := h.v.grown hg (own_blk_ne h.q h.v (by decide))
  have ho' := h.o.grown hg (own_blk_ne h.q h.o (by decide))
  have hr' : W'.ownsRow w.heap.size 72 3 (.slice A4 k c4) k (kept.flatMap Fac.cells) := h.r.kept hg (by
    cases hv : (Value.slice A4 k c4).ownBlock with
    | none => exact .inl rfl
    | some q => exact .inr fun e => by have h1 := h.n6 q hv; have h2 := own_ge h.q q e.symm; omega)
  have he' := h.e.grown hg h.e.size (fun q hq' => by have := own_ge h.q q hq'; have := h.n0; have := h.n2; have := h.n1; omega)
  have hg2 := gb_set W' B 0 (.slice A8 k8 c8)
  have nt : ∀ {g : Nat} {t : TypeId} {cs : Array Value}, Blk W' g t cs → t ≠ 31 → some g ≠ some B := fun hB hne e => by
    injection e with e; subst e
    have := hB.symm.trans hb'
    injection this with this; injection this with _ this; exact hne this
  refine ⟨hr'.kept hg2 (.inr fun e => own_blk_ne hr' hb' (by decide) e.symm), hu'.grown hg2 (nt hu' (by decide)), hv'.grown hg2 (nt hv' (by decide)), ?_, ho'.grown hg2 (by intro e; injection e with e; have := h.n0; have := h.n1; omega), hq.kept hg2 (.inr fun e => own_blk_ne hq hb' (by decide) e.symm),
    he'.grown hg2 he'.size (fun q hq => by injection hq with hq; have := h.n0; have := h.n1; omega), h.n0, h.n1, h.n2, h.n3, h.n4, Nat.le_trans (Nat.le_trans h.n5 hg.size) hg2.size, h.n6⟩
  exact hb'.set_ 0 _
end
end Go.Proofs.YtmdmgndhapdmgaaGreat


/-
  A region that draws its order: quiet operations ahead, in an order of ours, and a tail that waits for all of them.
-/
namespace Go.Proofs.YtmdmgndhapdmgaaGreat
open Go

section
variable {P : Program} {ops : Array Oper} {md : Region.Mode} {C : World → Prop}

/-- what an operation waits for -/
def depsT (md : Region.Mode) (ops : Array Oper) (j : Nat) : List Nat :=
  match ops[j]? with
  | some o => (o.after.toList.filter fun e => Region.binds md e).map (·.on)
  | none => []
def reachT (md : Region.Mode) (ops : Array Oper) : Nat → List Nat → List Nat
  | 0, s => s
  | k + 1, s => reachT md ops k (s ++ (s.flatMap (depsT md ops)).filter fun x => !s.contains x).eraseDups
structure InvT (md : Region.Mode) (ops : Array Oper) (listed : Array Bool) : Prop where
  size : listed.size = ops.size
  closed : ∀ j oj, ops[j]? = some oj → listed.getD j false = true → ∀ e ∈ oj.after, Region.binds md e = true → listed.getD e.on false = true
theorem InvT.set {i : Nat} {listed : Array Bool} (inv : InvT md ops listed) (hi : i ∈ Region.ready md ops listed) : InvT md ops (listed.setIfInBounds i true) := by
  obtain ⟨_, oi, hoi, hall⟩ := mem_ready.1 hi
  refine ⟨by simp [inv.size], fun j oj hj hl e he hb => ?_⟩
  by_cases hij : i = j
  · subst hij
    have : oj = oi := Option.some.inj (hj.symm.trans hoi)
    subst this
    exact getD_set_true (hall e he hb)
  · rw [getD_set_ne false hij] at hl
    exact getD_set_true (inv.closed j oj hj hl e he hb)
theorem reachT_in {listed : Array Bool} (inv : InvT md ops listed) {t : Nat} (hr : t ∈ Region.ready md ops listed) : ∀ (k : Nat) (s : List Nat), (∀ x ∈ s, x = t ∨ listed.getD x false = true) → ∀ x ∈ reachT md ops k s, x = t ∨ listed.getD x false = true
  | 0, s, h => h
  | k + 1, s, h => by
    refine reachT_in inv hr k _ fun x hx => ?_
    rw [List.mem_eraseDups] at hx
    rcases List.mem_append.1 hx with hx | hx
    · exact h x hx
    · have hx := (List.mem_filter.1 hx).1
      obtain ⟨y, hy, hxy⟩ := List.mem_flatMap.1 hx
      unfold depsT at hxy
      split at hxy
      · rename_i o ho
        obtain ⟨e, he, rfl⟩ := List.mem_map.1 hxy
        rw [List.mem_filter] at he
        have he1 : e ∈ o.after := by simpa using he.1
        rcases h y hy with rfl | hl
        · obtain ⟨_, ot, hot, hall⟩ := mem_ready.1 hr
          have : o = ot := Option.some.inj (ho.symm.trans hot)
          subst this
          exact .inr (hall e he1 he.2)
        · exact .inr (inv.closed y o ho hl e he1 he.2)
      · simp at hxy
end
end Go.Proofs.YtmdmgndhapdmgaaGreat


/-
  A region that draws its order: loads are taken first where nobody writes their cells before them.
-/
namespace Go.Proofs.YtmdmgndhapdmgaaGreat
open Go

section
variable {P : Program} {ops : Array Oper} {Q : Exit → Act → World → Prop} {md : Region.Mode} {S : World → Prop} {N : List Nat}

def invB (md : Region.Mode) (ops : Array Oper) (listed : Array Bool) : Bool :=
  decide (listed.size = ops.size) && (List.range ops.size).all fun j => !listed.getD j false || (depsT md ops j).all fun i => listed.getD i false
theorem invB_spec {listed : Array Bool} (h : invB md ops listed = true) : InvT md ops listed := by
  simp only [invB, Bool.and_eq_true, decide_eq_true_eq] at h
  refine ⟨h.1, fun j oj hj hl e he hb => ?_⟩
  have hlt : j < ops.size := (Array.getElem?_eq_some_iff.1 hj).1
  have h1 := List.all_eq_true.1 h.2 j (List.mem_range.2 hlt)
  rw [hl] at h1
  simp only [Bool.not_true, Bool.false_or] at h1
  refine List.all_eq_true.1 h1 e.on ?_
  unfold depsT
  rw [hj]
  exact List.mem_map.2 ⟨e, List.mem_filter.2 ⟨by simpa using he, hb⟩, rfl⟩
/-- each operation that waits for 'i' apart, all keep what the load reads -/
def nB (md : Region.Mode) (ops : Array Oper) (N : List Nat) (i : Nat) : Bool :=
  (List.range ops.size).all fun j => decide (j = i) || !N.contains j || (reachT md ops ops.size [j]).contains i
/-- Whatever order is picked from here on; S holds behind each operation that is carried out, those of N apart. -/
def wpAnyN (P : Program) (md : Region.Mode) (ops : Array Oper) (Q : Exit → Act → World → Prop) (S : World → Prop) (N : List Nat) : Nat → Array Bool → Act → World → Prop
  | 0, listed, a, w => Region.ready md ops listed = [] ∧ Q .normal a w
  | fuel + 1, listed, a, w =>
    (Region.ready md ops listed = [] → Q .normal a w) ∧
    ∀ i ∈ Region.ready md ops listed, wpOp P ops Q i (fun a' w' => (N.contains i = false → S w') ∧ wpAnyN P md ops Q S N fuel (listed.setIfInBounds i true) a' w') a w
theorem wpAny_of_N : ∀ (fuel : Nat) (listed : Array Bool) (a : Act) (w : World), wpAnyN P md ops Q S N fuel listed a w → wpAny P md ops Q fuel listed a w
  | 0, _, _, _, h => h
  | fuel + 1, _, _, _, h => ⟨h.1, fun i hi => wpOp_mono (fun a' w' h' => wpAny_of_N fuel _ a' w' h'.2) (h.2 i hi)⟩
theorem wpAnyN_first {i : Nat} {oi : Oper} {v : Value} (hi : ops[i]? = some oi) (hsel : ∀ (j : Nat) (o : Oper) cs b, ops[j]? = some o → o.op ≠ .select cs b)
    (hQ : ∀ c a w, Q (.panic c) (a.put oi.dst v) w → Q (.panic c) a w) (hn : nB md ops N i = true) :
    ∀ (fuel : Nat) (listed : Array Bool) (a : Act) (w : World), InvT md ops listed →
      (∀ j oj, ops[j]? = some oj → j ≠ i → listed.getD j true = false → (∀ e ∈ oj.after, Region.binds md e = true → e.on ≠ i) → oi.apart ops oj = true) →
      i ∈ Region.ready md ops listed → YieldsIf P ops S oi v a → S w →
      wpAnyN P md ops Q S N fuel (listed.setIfInBounds i true) (a.put oi.dst v) w → wpAnyN P md ops Q S N (fuel + 1) listed a w := by
  intro fuel
  induction fuel with
  | zero =>
    intro listed a w _ _ hr hy hS H
    refine ⟨fun h => (by rw [h] at hr; cases hr), fun j hj => ?_⟩
    by_cases hji : j = i
    · subst hji; exact hy.wpOp hi hS ⟨fun _ => hS, H⟩
    · have := ready_mono hj hji
      rw [H.1] at this
      cases this
  | succ fuel ih =>
    intro listed a w inv hfree hr hy hS H
    refine ⟨fun h => (by rw [h] at hr; cases hr), fun j hj => ?_⟩
    by_cases hji : j = i
    · subst hji; exact hy.wpOp hi hS ⟨fun _ => hS, H⟩
    · have h1 := H.2 j (ready_mono hj hji)
      obtain ⟨hjun, oj, hoj, hall⟩ := mem_ready.1 hj
      have hun := (mem_ready.1 hr).1
      have hnot : ∀ e ∈ oj.after, Region.binds md e = true → e.on ≠ i := fun e he hb heq => by
        have h1 := hall e he hb
        rw [heq, getD_both hun] at h1
        cases h1
      have hNj : N.contains j = false := by
        have h2 := List.all_eq_true.1 hn j (List.mem_range.2 (Array.getElem?_eq_some_iff.1 hoj).1)
        simp only [Bool.or_eq_true, decide_eq_true_eq, Bool.not_eq_true'] at h2
        rcases h2 with (h2 | h2) | h2
        · exact absurd h2 hji
        · exact h2
        · have h3 : i ∈ reachT md ops ops.size [j] := by simpa using h2
          rcases reachT_in inv hj _ [j] (fun x hx => .inl (by simpa using hx)) i h3 with h4 | h4
          · exact absurd h4.symm hji
          · rw [getD_both hun] at h4; cases h4
      have h2 := wpOp_putIf hoj (hfree j oj hoj hji hjun hnot) (fun cs b => hsel i oi cs b hi) (fun cs b => hsel j oj cs b hoj) hQ hy h1
      have hfree' : ∀ k ok, ops[k]? = some ok → k ≠ i → (listed.setIfInBounds j true).getD k true = false →
          (∀ e ∈ ok.after, Region.binds md e = true → e.on ≠ i) → oi.apart ops ok = true := fun k ok hk hki hun hno => by
        refine hfree k ok hk hki ?_ hno
        by_cases hjk : j = k
        · subst hjk; exact hjun
        · rw [getD_set_ne true hjk] at hun; exact hun
      refine wpOp_mono (fun a' w' h3 => ⟨h3.2.1, ih (listed.setIfInBounds j true) a' w' (inv.set hj) hfree' (ready_mono hr (Ne.symm hji)) h3.1 (h3.2.1 hNj) ?_⟩) h2
      rw [Array.setIfInBounds_comm _ _ hji]
      exact h3.2.2
def takeB (md : Region.Mode) (ops : Array Oper) (N : List Nat) (listed : Array Bool) (i : Nat) : Bool :=
  Region.noSelect ops && (Region.free md ops listed i && ((Region.ready md ops listed).contains i && (nB md ops N i && invB md ops listed)))
/-- Take number 'i' first. -/
theorem wpAnyN_take {i : Nat} {oi : Oper} {v : Value} {fuel : Nat} {listed : Array Bool} {a : Act} {w : World} (hi : ops[i]? = some oi) (hB : takeB md ops N listed i = true)
    (hQ : ∀ c a w, Q (.panic c) (a.put oi.dst v) w → Q (.panic c) a w) (hw : Region.wanted oi (yielded ops a.tmps) = true) (hy : ∀ w, S w → (execOp a.eval oi).run P w = .ok (.value v) w) (hS : S w)
    (h : wpAnyN P md ops Q S N fuel (listed.setIfInBounds i true) (a.put oi.dst v) w) : wpAnyN P md ops Q S N (fuel + 1) listed a w := by
  simp only [takeB, Bool.and_eq_true] at hB
  obtain ⟨h1, h2, h3, h4, h5⟩ := hB
  exact wpAnyN_first hi (Region.noSelect_spec h1) hQ h4 fuel listed a w (invB_spec h5) (Region.free_spec hi h2) (by simpa using h3) (.inl ⟨hw, hy⟩) hS h
/-- The one that comes up. -/
theorem wpAnyN_next {i : Nat} {o : Oper} {fuel : Nat} {listed : Array Bool} {a : Act} {w : World} (ho : ops[i]? = some o) (hr : Region.ready md ops listed = [i])
    (h : ∀ K' : Act → World → Prop, Shut (∀ a w, (N.contains i = false → S w) → wpAnyN P md ops Q S N fuel (listed.setIfInBounds i true) a w → K' a w) → if Region.wanted o (yielded ops a.tmps) = true then Oper.wp P o a w K' Q else K' (a.put o.dst undef) w) :
    wpAnyN P md ops Q S N (fuel + 1) listed a w := by
  refine ⟨fun h0 => (by rw [h0] at hr; cases hr), fun j hj => ?_⟩
  rw [hr] at hj
  obtain rfl : j = i := by simpa using hj
  exact wpOp_step ho (fun K' hK => h K' (fun a w hS hW => hK a w ⟨hS, hW⟩))
theorem wpAnyN_done {listed : Array Bool} {a : Act} {w : World} (hr : Region.ready md ops listed = []) (h : Q .normal a w) : ∀ fuel, wpAnyN P md ops Q S N fuel listed a w
  | 0 => ⟨hr, h⟩
  | _ + 1 => ⟨fun _ => h, by rw [hr]; simp⟩
theorem wp_region_N {id : Nat} {a : Act} {w : World} (S : World → Prop) (N : List Nat) (hm : P.follows .mixedOrders = true)
    (h : wpAnyN P .any ops Q S N ops.size (Array.replicate ops.size false) a w.drew) : (Code.region id ops true).wp P Q a w :=
  wp_region_any hm (wpAny_of_N _ _ _ _ h)
end
end Go.Proofs.YtmdmgndhapdmgaaGreat


/-
  A region that draws its order, in which two or three operations that write may come up.
-/
namespace Go.Proofs.YtmdmgndhapdmgaaGreat
open Go.RowKit

section
variable {P : Program} {ops : Array Oper} {Q : Exit → Act → World → Prop} {md : Region.Mode} {S : World → Prop} {N : List Nat}
/-- what is to be shown of one that comes up -/
def UpN (P : Program) (ops : Array Oper) (Q : Exit → Act → World → Prop) (md : Region.Mode) (S : World → Prop) (N : List Nat) (fuel : Nat) (listed : Array Bool) (a : Act) (w : World) (i : Nat) (o : Oper) : Prop :=
  ∀ K' : Act → World → Prop, Shut (∀ a w, (N.contains i = false → S w) → wpAnyN P md ops Q S N fuel (listed.setIfInBounds i true) a w → K' a w) → if Region.wanted o (yielded ops a.tmps) = true then Oper.wp P o a w K' Q else K' (a.put o.dst undef) w
theorem wpAnyN_2 {i j : Nat} {o o' : Oper} {fuel : Nat} {listed : Array Bool} {a : Act} {w : World} (ho : ops[i]? = some o) (ho' : ops[j]? = some o') (hr : Region.ready md ops listed = [i, j])
    (h : UpN P ops Q md S N fuel listed a w i o) (h' : UpN P ops Q md S N fuel listed a w j o') : wpAnyN P md ops Q S N (fuel + 1) listed a w := by
  refine ⟨fun h0 => (by rw [h0] at hr; cases hr), fun k hk => ?_⟩
  rw [hr] at hk
  rcases List.mem_cons.1 hk with rfl | hk
  · exact wpOp_step ho (fun K' hK => h K' (fun a w hS hW => hK a w ⟨hS, hW⟩))
  · obtain rfl : k = j := by simpa using hk
    exact wpOp_step ho' (fun K' hK => h' K' (fun a w hS hW => hK a w ⟨hS, hW⟩))
theorem wpAnyN_3 {i j l : Nat} {o o' o'' : Oper} {fuel : Nat} {listed : Array Bool} {a : Act} {w : World} (ho : ops[i]? = some o) (ho' : ops[j]? = some o') (ho'' : ops[l]? = some o'') (hr : Region.ready md ops listed = [i, j, l])
    (h : UpN P ops Q md S N fuel listed a w i o) (h' : UpN P ops Q md S N fuel listed a w j o') (h'' : UpN P ops Q md S N fuel listed a w l o'') : wpAnyN P md ops Q S N (fuel + 1) listed a w := by
  refine ⟨fun h0 => (by rw [h0] at hr; cases hr), fun k hk => ?_⟩
  rw [hr] at hk
  rcases List.mem_cons.1 hk with rfl | hk
  · exact wpOp_step ho (fun K' hK => h K' (fun a w hS hW => hK a w ⟨hS, hW⟩))
  · rcases List.mem_cons.1 hk with rfl | hk
    · exact wpOp_step ho' (fun K' hK => h' K' (fun a w hS hW => hK a w ⟨hS, hW⟩))
    · obtain rfl : k = l := by simpa using hk
      exact wpOp_step ho'' (fun K' hK => h'' K' (fun a w hS hW => hK a w ⟨hS, hW⟩))
end
end Go.Proofs.YtmdmgndhapdmgaaGreat


/-
  The states to which the words of rules lead, in the program.
-/
namespace Go.Proofs.YtmdmgndhapdmgaaGreat
open Go.RowKit

theorem elemT : Elem Tryz.prog 24 61 1 24 := Elem.mk' (z := .slice none 0 0) Tryz.underlying24 (by kernel_rfl) rfl
section
variable {α : Type} {P : Program} {w : World} {ops : Array Oper} {o : Oper} {a : Act} {K : Act → World → Prop} {Q : Exit → Act → World → Prop} {E : Prop}
/-- one element more, as a step of a region that draws its order; where the row lies then -/
theorem step_pushS (hgd : o.guard = none) (s x : Operand) (t : TypeId) (ho : o.op = .call { callee := .builtin .append, args := #[s, x], argTypes := #[t, t] })
    (base : Nat) (e : TypeId) (sz bytes : Nat) (EI : Elem P t e sz bytes) (enc : α → List Value) (A : Option Addr) (n c : Nat) (xs : List α) (hs : a.eval s = .slice A n c)
    (hown : w.ownsRow base e sz (.slice A n c) n (xs.flatMap enc)) (g : Nat) (y : α) (cs : Array Value) (t' : TypeId) (fr : Nat × Nat) (hx : a.eval x = .slice (some ⟨g, 0, none⟩) 1 1) (hg : w.heap[g]? = some (.cells cs t' fr)) (hcs : cs.toList = enc y)
    (hlen : (enc y).length = sz) (hone : ∀ u ∈ enc y, u.oneCell' = true) (hsz : 0 < sz) (hbytes : (n + 1) * bytes ≤ 140737488355328) (hm : n + 1 ≤ maxLen) (hsize : base ≤ w.heap.size)
    (h : ∀ A' c' w', w'.ownsRow base e sz (.slice A' (n + 1) c') (n + 1) ((xs ++ [y]).flatMap enc) → w.grownBy w' (Value.slice A n c).ownBlock →
      ((Value.slice A' (n + 1) c').ownBlock = (Value.slice A n c).ownBlock ∨ (Value.slice A' (n + 1) c').ownBlock = some w.heap.size) → K (a.put o.dst (.slice A' (n + 1) c')) w') : if Region.wanted o (yielded ops a.tmps) = true then Oper.wp P o a w K Q else E := by
  obtain ⟨ht, i, z, hi, hz, h1, h2, hzs⟩ := EI
  have hnews : ∀ j u, (enc y)[j]? = some u → w.cell? ((⟨g, 0, none⟩ : Addr).add j) = some u := by rw [← hcs]; exact World.news_of_block hg
  obtain ⟨v', w', hr, r2, r3, _, r5⟩ := run_append_own_at (P := P) w base t o.type e i z sz bytes ht hi hz h1 h2 hzs hsz _ n _ hown ⟨g, 0, none⟩ 1 1 (enc y) (by rw [hlen]; omega) hnews hone hm hbytes hsize
  obtain ⟨g', cap, rfl, _, _⟩ := r2.form (by omega)
  have hw : Region.wanted o (yielded ops a.tmps) = true := by simp [Region.wanted, hgd]
  rw [if_pos hw]
  unfold Oper.wp execOp
  simp only [ho, resolve, invoke, builtin, Sem.run_bind, Sem.run_pure, Result.andThen_ok, List.map_toArray, List.map_cons, List.map_nil, hs, hx, hr]
  exact h _ _ w' (by rw [List.flatMap_append]; simpa using r2) r3 r5
end
/-- a new table of the call's own -/
def RetTab (w0 : World) (xss : List (List Int)) (e : Ending) (w' : World) : Prop :=
  ∃ A c hs, e = .returned (.slice A xss.length c) ∧ TabR 61 2 intE w' w0.heap.size A xss.length c hs xss ∧ Below w0.heap.size w0 w'
/-- a table and a row of the same type under way -/
structure SmW (w W : World) (A : Option Addr) (k c : Nat) (hs : List RowH) (OUT : List (List Int)) (X : Nat) (x : Fac) (R : Option Addr) (s cr : Nat) (row : List Int) : Prop where
  t : TabR 61 2 intE W w.heap.size A k c hs OUT
  x : Blk W X 72 #[.string x.l, .int .i64 x.a, .int .i64 x.b]
  q : W.ownsRow w.heap.size 2 1 (.slice R s cr) s (row.flatMap intE)
  f : ∀ (i : Nat) (p : RowH) (g : Nat), hs[i]? = some p → (Value.slice p.A p.n p.c).ownBlock = some g → (Value.slice R s cr).ownBlock ≠ some g
  e : Below w.heap.size w W
section
variable {w W W' : World} {A : Option Addr} {k c : Nat} {hs : List RowH} {OUT : List (List Int)} {X : Nat} {x : Fac} {R : Option Addr} {s cr : Nat} {row : List Int}
theorem SmW.next (h : SmW w W A k c hs OUT X x R s cr row) (hb : Below W.heap.size W W') : SmW w W' A k c hs OUT X x R s cr row := ⟨h.t.next hb, h.x.next hb, own_next h.q hb, h.f, h.e.trans (hb.mono h.e.size)⟩
theorem SmW.alloc (h : SmW w W A k c hs OUT X x R s cr row) (o : Obj) : SmW w (W.alloc o) A k c hs OUT X x R s cr row := h.next ((Below.refl _ _).alloc (Nat.le_refl _) o)
theorem SmW.push {R' : Option Addr} {s' cr' : Nat} {row' : List Int} (h : SmW w W A k c hs OUT X x R s cr row) (ho : W'.ownsRow w.heap.size 2 1 (.slice R' s' cr') s' (row'.flatMap intE)) (hg : W.grownBy W' (Value.slice R s cr).ownBlock)
    (hat : (Value.slice R' s' cr').ownBlock = (Value.slice R s cr).ownBlock ∨ (Value.slice R' s' cr').ownBlock = some W.heap.size) : SmW w W' A k c hs OUT X x R' s' cr' row' := by
  refine ⟨h.t.kept hg (own_ne h.t.o h.q (by decide)) (fun i p hp => ?_), h.x.grown hg (own_blk_ne h.q h.x (by decide)), ho, fun i p g hp hv => ?_, h.e.grown hg h.e.size (own_ge h.q)⟩
  · cases hv : (Value.slice p.A p.n p.c).ownBlock with
    | none => exact .inl rfl
    | some g => exact .inr fun e => h.f i p g hp hv e.symm
  · rcases hat with e | e
    · rw [e]; exact h.f i p g hp hv
    · rw [e]; intro q; injection q with q; have := (h.t.ge i p g hp hv).2; omega
end
set_option maxHeartbeats 4000000 in
set_option maxRecDepth 100000 in
theorem stateMaps_any (S : Nat) (N : Option Addr) (cn : Nat) (nh : List RowH) (nx : List (List Int)) (G : Option Addr) (n c : Nat) (rs : List Fac) (w : World) (hS : 1 ≤ S) (hS2 : S ≤ 24) (hn : n ≤ 1048576) (hx : RdT w w.heap.size N S intE nh nx) (hok : NxOk S nx) (hr : Rd w w.heap.size G n 3 Fac.cells rs) (hwf : WF rs) :
    Calls Tryz.prog 32 #[.slice N S cn, .agg #[.slice G n c]] w (RetTab w (maps nx rs)) := by
  have hl := Lib.hid hr.len
  have HX := Lib.hid hx
  have HR := Lib.hid hr
  have HOk := Lib.hid hok
  have HW := Lib.hid hwf
  have hfl := Lib.hid (full_len [] (mF nx) mG (rs := rs))
  clear hx hr hok hwf
  have B0 := Lib.hid (Blk.new w 31 #[.slice G n c])
  have b0 := Lib.hid (show Below w.heap.size w (w.alloc (.cells #[.slice G n c] 31)) from by (repeat first | exact Below.refl _ _ | assumption | refine Below.drew ?_ | refine Below.alloc ?_ (by first | exact Nat.le_refl _ | (simp; done) | omega | (simp; omega)) _ | refine Below.setCell ?_ (by first | exact Nat.le_refl _ | (simp; done) | omega | (simp; omega)) _))
  go_enter Tryz.func32, Tryz.ntmps32
  go_wp2_with fail
  refine named fun w0 H0 => ?_
  have b1 := Lib.hid (show Below w.heap.size w w0 by rw [H0.out]; (repeat first | exact Below.refl _ _ | assumption | refine Below.drew ?_ | refine Below.alloc ?_ (by first | exact Nat.le_refl _ | (simp; done) | omega | (simp; omega)) _ | refine Below.setCell ?_ (by first | exact Nat.le_refl _ | (simp; done) | omega | (simp; omega)) _))
  have T1 := Lib.hid (show TabR 61 2 intE w0 w.heap.size (some ⟨w.heap.size + 1, 0, none⟩) 0 0 [] (outs [] (mF nx) mG rs 0) from ⟨by rw [H0.out]; simpa using World.ownsRow_made (base := w.heap.size) (e := 61) (size := 1) (w.alloc (.cells #[.slice G n c] 31)) #[] 0 (by simp) (by unfold maxLen; omega) rfl, rfl, by simp [outs, foldG], fun i h x h1 => by simp at h1, fun i j h h' g h1 => by simp at h1⟩)
  have hgl1 : w.heap.size < w0.heap.size := by rw [H0.out]; simp; omega
  clear H0 B0 b0
  go_loopw [5, 14] (fun o_ i_ w' => ∃ (k : Nat) (A : Option Addr) (c' : Nat) (hs : List RowH), i_ = .int .i64 k ∧ o_ = .slice A k c' ∧ k ≤ n ∧ Hid (TabR 61 2 intE w' w.heap.size A k c' hs (outs [] (mF nx) mG rs k)) ∧ Hid (Below w.heap.size w w')) (fun _ i_ _ => n - (intOf i_).toNat)
  case atStart => exact ⟨0, _, 0, [], rfl, rfl, by omega, T1, b1⟩
  case round =>
    obtain ⟨k, A, c', hs, rfl, rfl, hk, HT, hb⟩ := hrel
    clear T1 b1
    by_cases hlt : k < n
    · obtain ⟨b, o, x, rfl, hB, gx, c0, c1, c2⟩ := (HR.out.next hb.out).fac hlt
      have Hst := Lib.hid (outs_step [] (mF nx) mG gx)
      have Hol := Lib.hid (outs_len [] (mF nx) mG rs k (by rw [hl.out]; exact hk))
      obtain ⟨mapk, hmapk⟩ : ∃ v, fStep [] (mF nx) mG (outs [] (mF nx) mG rs k) x = v := ⟨_, rfl⟩
      rw [hmapk] at Hst
      have hml : StL S mapk := by
        rw [← hmapk, ← full_at [] (mF nx) mG gx]
        exact maps_ok HOk.out HW.out k (by rw [hl.out]; exact hlt)
      have HWk := Lib.hid (HW.out k x gx)
      have hpm : (∀ s xa xb ra rb t v, x.l.size = 0 → x.a = ((xa : Nat) : Int) → x.b = ((xb : Nat) : Int) → (outs [] (mF nx) mG rs k)[xa]? = some ra → (outs [] (mF nx) mG rs k)[xb]? = some rb → ra[s]? = some ((t : Nat) : Int) → rb[t]? = some v → mapk[s]? = some v) := fun s xa xb ra rb t v h0 ha hb' hra hrb hta hvb => by
        rw [← hmapk]; unfold fStep; rw [if_pos h0, ha, hb', Int.toNat_natCast, Int.toNat_natCast, List.getD_eq_getElem?_getD, List.getD_eq_getElem?_getD, hra, hrb]
        exact mG_at hta hvb
      have hlm : (∀ s r v, x.l.size ≠ 0 → nx[s]? = some r → r[letN x.l]? = some v → mapk[s]? = some v) := fun s r v h0 h1 h2 => by
        rw [← hmapk]; unfold fStep; rw [if_neg h0]; exact mF_at h1 h2
      have HPm := Lib.hid hpm
      have HLm := Lib.hid hlm
      have HMl := Lib.hid hml
      have hOk : ∀ i v, (outs [] (mF nx) mG rs k)[i]? = some v → StL S v := fun i v hv => by
        have hi := (List.getElem?_eq_some_iff.1 hv).1
        rw [Hol.out] at hi
        have h1 := maps_ok HOk.out HW.out i (by rw [hl.out]; omega)
        rw [← outs_full [] (mF nx) mG hi (by rw [hl.out]; omega), List.getD_eq_getElem?_getD, hv] at h1
        exact h1
      have HOut := Lib.hid hOk
      have i0 : (0 : Int) ≤ (k : Int) := by omega
      have i1 : (k : Int) < (n : Int) := by omega
      clear hmapk hpm hlm hml hOk gx
      generalize outs [] (mF nx) mG rs k = OUT at *
      go_wp2_with fail
      refine named fun w2 H2 => ?_
      have hb2 : Below wr.heap.size wr w2 := by rw [H2.out]; (repeat first | exact Below.refl _ _ | assumption | refine Below.drew ?_ | refine Below.alloc ?_ (by first | exact Nat.le_refl _ | (simp; done) | omega | (simp; omega)) _ | refine Below.setCell ?_ (by first | exact Nat.le_refl _ | (simp; done) | omega | (simp; omega)) _)
      have P2 := Lib.hid (show SmW w w2 A k c' hs OUT wr.heap.size x (some ⟨wr.heap.size + 1, 0, none⟩) 0 0 (mapk.take 0) from ⟨HT.out.next hb2, by rw [H2.out]; exact (Blk.new wr _ _).alloc _, by
          rw [H2.out]; simpa using World.ownsRow_made (base := w.heap.size) (e := 2) (size := 1) (wr.alloc (.cells #[.string x.l, .int .i64 x.a, .int .i64 x.b] 72)) #[] 0 (by have := hb.out.size; simp; omega) (by unfold maxLen; omega) rfl,
        fun i p g hp hv e => by injection e with e; have := (HT.out.ge i p g hp hv).2; have e' : wr.heap.size + 1 = g := e; omega, hb.out.trans (hb2.mono hb.out.size)⟩)
      have hxl2 : wr.heap.size < w2.heap.size := P2.out.x.lt
      have hbw := hb.out.size
      obtain ⟨X, hX⟩ : ∃ X, wr.heap.size = X := ⟨_, rfl⟩
      rw [hX] at P2 hxl2 ⊢
      clear H2 hb2 c0 c1 c2 HT hX
      go_loopw [8, 21] (fun r_ s_ w' => ∃ (s : Nat) (R : Option Addr) (cr : Nat), s_ = .int .i64 s ∧ r_ = .slice R s cr ∧ s ≤ S ∧ Hid (SmW w w' A k c' hs OUT X x R s cr (mapk.take s))) (fun _ s_ _ => S - (intOf s_).toNat)
      case atStart => exact ⟨0, _, 0, rfl, rfl, by omega, by simpa using P2⟩
      case round =>
        obtain ⟨s, R, cr, rfl, rfl, hs', HP⟩ := hrel
        clear P2
        by_cases hlt2 : s < S
        · obtain ⟨x0, x1, x2⟩ := HP.out.x.three
          have xl := HP.out.x.lt
          have s0 : (0 : Int) ≤ (s : Int) := by omega
          have s1 : (s : Int) < (S : Int) := by omega
          have IP := Lib.hid (fun b hb' W => isPair_any x b W hb')
          rcases HWk.out with ⟨h0, ha0, ha1, hb0, hb1⟩ | ⟨cc, hcc, hxl, hxa, hxb⟩
          · have IPt := Lib.hid (IP.out true (by unfold isP; simp [h0]))
            go_wp2_with fail
            refine (IPt.out _).mono ?_
            rintro e w3 ⟨rfl, hb3⟩
            have HP3 := Lib.hid (HP.out.next hb3)
            clear hb3 HP x0 x1 x2 xl IP IPt
            have HP := HP3
            clear HP3
            obtain ⟨wr, rfl⟩ : ∃ wz : World, wz = w3 := ⟨_, rfl⟩
            obtain ⟨xa, hxa⟩ := Int.eq_ofNat_of_zero_le ha0
            obtain ⟨xb, hxb⟩ := Int.eq_ofNat_of_zero_le hb0
            have hxak : xa < k := by omega
            have hxbk : xb < k := by omega
            obtain ⟨ra, gra⟩ : ∃ ra, OUT[xa]? = some ra := ⟨_, List.getElem?_eq_getElem (by rw [Hol.out]; exact hxak)⟩
            obtain ⟨rb, grb⟩ : ∃ rb, OUT[xb]? = some rb := ⟨_, List.getElem?_eq_getElem (by rw [Hol.out]; exact hxbk)⟩
            have sa := HOut.out xa ra gra
            have sb := HOut.out xb rb grb
            obtain ⟨t, hta, htS⟩ := sa.at_ hlt2
            obtain ⟨v, hvb, hvS⟩ := sb.at_ htS
            have hmv := HPm.out s xa xb ra rb t v h0 hxa hxb gra grb hta hvb
            have HTk := Lib.hid (take_snoc hmv)
            obtain ⟨p, ga, ca, rfl, hpl, _, ea, hga, d1, _⟩ := HP.out.t.cell2 (.int .i64) (fun _ => rfl) gra hta
            obtain ⟨p', gb, cb, hpp, _, _, eb, hgb, d2, _⟩ := HP.out.t.cell2 (.int .i64) (fun _ => rfl) grb hvb
            obtain rfl : p = p' := by injection hpp with hpp; injection hpp
            rw [sa.1] at ea
            rw [sb.1] at eb
            obtain ⟨_, x1, x2⟩ := HP.out.x.three
            rw [hxa] at x1
            rw [hxb] at x2
            have xl := HP.out.x.lt
            have HS := Lib.hid (fun W (h : Below wr.heap.size wr W) => show W.cell? ⟨X, 2, none⟩ = some (.int .i64 (xb : Int)) ∧ W.cell? ⟨X, 1, none⟩ = some (.int .i64 (xa : Int)) ∧ W.cell? ⟨p, xb, none⟩ = some (.slice (some ⟨gb, 0, none⟩) S cb) ∧ W.cell? ⟨p, xa, none⟩ = some (.slice (some ⟨ga, 0, none⟩) S ca) ∧ W.cell? ⟨ga, s, none⟩ = some (.int .i64 (t : Int)) ∧ W.cell? ⟨gb, t, none⟩ = some (.int .i64 (v : Int)) from
              ⟨(h.cell (p := ⟨X, 2, none⟩) xl).trans x2, (h.cell (p := ⟨X, 1, none⟩) xl).trans x1, (h.cell (p := ⟨p, xb, none⟩) hpl).trans eb, (h.cell (p := ⟨p, xa, none⟩) hpl).trans ea, (h.cell (p := ⟨ga, s, none⟩) hga).trans d1, (h.cell (p := ⟨gb, t, none⟩) hgb).trans d2⟩)
            have k0 : (0 : Int) ≤ (xa : Int) := by omega
            have k1 : (xa : Int) < (k : Int) := by omega
            have k2 : (0 : Int) ≤ (xb : Int) := by omega
            have k3 : (xb : Int) < (k : Int) := by omega
            have k4 : (0 : Int) ≤ (t : Int) := by omega
            have k5 : (t : Int) < (S : Int) := by omega
            clear hpp gra grb ea eb sa sb hta hvb hmv d1 d2 x1 x2 hxa hxb ha0 ha1 hb0 hb1
            go_upto_region 10 with fail
            refine wp_region_N (fun W => W.cell? ⟨X, 2, none⟩ = some (.int .i64 (xb : Int)) ∧ W.cell? ⟨X, 1, none⟩ = some (.int .i64 (xa : Int)) ∧ W.cell? ⟨p, xb, none⟩ = some (.slice (some ⟨gb, 0, none⟩) S cb) ∧ W.cell? ⟨p, xa, none⟩ = some (.slice (some ⟨ga, 0, none⟩) S ca) ∧ W.cell? ⟨ga, s, none⟩ = some (.int .i64 (t : Int)) ∧ W.cell? ⟨gb, t, none⟩ = some (.int .i64 (v : Int))) [17, 18] (by kernel_rfl) ?_
            have c0 : Below wr.heap.size wr wr.drew := (Below.refl _ _).drew
            have hS0 := HS.out _ c0
            have P0 := Lib.hid (HP.out.next c0)
            generalize wr.drew = wd at *
            refine wpAnyN_take (i := 0) (v := ?_) rfl (by kernel_rfl) (fun _ _ _ h => h) (by rfl) (fun W hW => ?_) hS0 ?_
            rotate_left
            · obtain ⟨z0, z1, z2, z3, z4, z5⟩ := hW
              go_simp
              try with_reducible rfl
            try simp only [List.getElem_toArray, List.getElem_cons_zero, List.getElem_cons_succ, Act.put, List.setIfInBounds_toArray, List.set_cons_zero, List.set_cons_succ]
            refine wpAnyN_take (i := 1) (v := ?_) rfl (by kernel_rfl) (fun _ _ _ h => h) (by rfl) (fun W hW => ?_) hS0 ?_
            rotate_left
            · obtain ⟨z0, z1, z2, z3, z4, z5⟩ := hW
              go_simp
              try with_reducible rfl
            try simp only [List.getElem_toArray, List.getElem_cons_zero, List.getElem_cons_succ, Act.put, List.setIfInBounds_toArray, List.set_cons_zero, List.set_cons_succ]
            refine wpAnyN_take (i := 2) (v := ?_) rfl (by kernel_rfl) (fun _ _ _ h => h) (by rfl) (fun W hW => ?_) hS0 ?_
            rotate_left
            · obtain ⟨z0, z1, z2, z3, z4, z5⟩ := hW
              go_simp
              try with_reducible rfl
            try simp only [List.getElem_toArray, List.getElem_cons_zero, List.getElem_cons_succ, Act.put, List.setIfInBounds_toArray, List.set_cons_zero, List.set_cons_succ]
            refine wpAnyN_take (i := 3) (v := ?_) rfl (by kernel_rfl) (fun _ _ _ h => h) (by rfl) (fun W hW => ?_) hS0 ?_
            rotate_left
            · obtain ⟨z0, z1, z2, z3, z4, z5⟩ := hW
              go_simp
              try with_reducible rfl
            try simp only [List.getElem_toArray, List.getElem_cons_zero, List.getElem_cons_succ, Act.put, List.setIfInBounds_toArray, List.set_cons_zero, List.set_cons_succ]
            refine wpAnyN_take (i := 4) (v := ?_) rfl (by kernel_rfl) (fun _ _ _ h => h) (by rfl) (fun W hW => ?_) hS0 ?_
            rotate_left
            · obtain ⟨z0, z1, z2, z3, z4, z5⟩ := hW
              go_simp
              try with_reducible rfl
            try simp only [List.getElem_toArray, List.getElem_cons_zero, List.getElem_cons_succ, Act.put, List.setIfInBounds_toArray, List.set_cons_zero, List.set_cons_succ]
            refine wpAnyN_take (i := 5) (v := ?_) rfl (by kernel_rfl) (fun _ _ _ h => h) (by rfl) (fun W hW => ?_) hS0 ?_
            rotate_left
            · obtain ⟨z0, z1, z2, z3, z4, z5⟩ := hW
              go_simp
              try with_reducible rfl
            try simp only [List.getElem_toArray, List.getElem_cons_zero, List.getElem_cons_succ, Act.put, List.setIfInBounds_toArray, List.set_cons_zero, List.set_cons_succ]
            refine wpAnyN_take (i := 6) (v := ?_) rfl (by kernel_rfl) (fun _ _ _ h => h) (by rfl) (fun W hW => ?_) hS0 ?_
            rotate_left
            · obtain ⟨z0, z1, z2, z3, z4, z5⟩ := hW
              go_simp
              try with_reducible rfl
            try simp only [List.getElem_toArray, List.getElem_cons_zero, List.getElem_cons_succ, Act.put, List.setIfInBounds_toArray, List.set_cons_zero, List.set_cons_succ]
            refine wpAnyN_take (i := 7) (v := ?_) rfl (by kernel_rfl) (fun _ _ _ h => h) (by rfl) (fun W hW => ?_) hS0 ?_
            rotate_left
            · obtain ⟨z0, z1, z2, z3, z4, z5⟩ := hW
              go_simp
              try with_reducible rfl
            try simp only [List.getElem_toArray, List.getElem_cons_zero, List.getElem_cons_succ, Act.put, List.setIfInBounds_toArray, List.set_cons_zero, List.set_cons_succ]
            refine wpAnyN_take (i := 8) (v := ?_) rfl (by kernel_rfl) (fun _ _ _ h => h) (by rfl) (fun W hW => ?_) hS0 ?_
            rotate_left
            · obtain ⟨z0, z1, z2, z3, z4, z5⟩ := hW
              go_simp
              try with_reducible rfl
            try simp only [List.getElem_toArray, List.getElem_cons_zero, List.getElem_cons_succ, Act.put, List.setIfInBounds_toArray, List.set_cons_zero, List.set_cons_succ]
            refine wpAnyN_take (i := 9) (v := ?_) rfl (by kernel_rfl) (fun _ _ _ h => h) (by rfl) (fun W hW => ?_) hS0 ?_
            rotate_left
            · obtain ⟨z0, z1, z2, z3, z4, z5⟩ := hW
              go_simp
              try with_reducible rfl
            try simp only [List.getElem_toArray, List.getElem_cons_zero, List.getElem_cons_succ, Act.put, List.setIfInBounds_toArray, List.set_cons_zero, List.set_cons_succ]
            refine wpAnyN_take (i := 10) (v := ?_) rfl (by kernel_rfl) (fun _ _ _ h => h) (by rfl) (fun W hW => ?_) hS0 ?_
            rotate_left
            · obtain ⟨z0, z1, z2, z3, z4, z5⟩ := hW
              go_simp
              try with_reducible rfl
            try simp only [List.getElem_toArray, List.getElem_cons_zero, List.getElem_cons_succ, Act.put, List.setIfInBounds_toArray, List.set_cons_zero, List.set_cons_succ]
            refine wpAnyN_take (i := 11) (v := ?_) rfl (by kernel_rfl) (fun _ _ _ h => h) (by rfl) (fun W hW => ?_) hS0 ?_
            rotate_left
            · obtain ⟨z0, z1, z2, z3, z4, z5⟩ := hW
              go_simp
              try with_reducible rfl
            try simp only [List.getElem_toArray, List.getElem_cons_zero, List.getElem_cons_succ, Act.put, List.setIfInBounds_toArray, List.set_cons_zero, List.set_cons_succ]
            refine wpAnyN_take (i := 12) (v := ?_) rfl (by kernel_rfl) (fun _ _ _ h => h) (by rfl) (fun W hW => ?_) hS0 ?_
            rotate_left
            · obtain ⟨z0, z1, z2, z3, z4, z5⟩ := hW
              go_simp
              try with_reducible rfl
            try simp only [List.getElem_toArray, List.getElem_cons_zero, List.getElem_cons_succ, Act.put, List.setIfInBounds_toArray, List.set_cons_zero, List.set_cons_succ]
            refine wpAnyN_take (i := 13) (v := ?_) rfl (by kernel_rfl) (fun _ _ _ h => h) (by rfl) (fun W hW => ?_) hS0 ?_
            rotate_left
            · obtain ⟨z0, z1, z2, z3, z4, z5⟩ := hW
              go_simp
              try with_reducible rfl
            try simp only [List.getElem_toArray, List.getElem_cons_zero, List.getElem_cons_succ, Act.put, List.setIfInBounds_toArray, List.set_cons_zero, List.set_cons_succ]
            refine wpAnyN_take (i := 14) (v := ?_) rfl (by kernel_rfl) (fun _ _ _ h => h) (by rfl) (fun W hW => ?_) hS0 ?_
            rotate_left
            · obtain ⟨z0, z1, z2, z3, z4, z5⟩ := hW
              go_simp
              try with_reducible rfl
            try simp only [List.getElem_toArray, List.getElem_cons_zero, List.getElem_cons_succ, Act.put, List.setIfInBounds_toArray, List.set_cons_zero, List.set_cons_succ]
            refine wpAnyN_take (i := 15) (v := ?_) rfl (by kernel_rfl) (fun _ _ _ h => h) (by rfl) (fun W hW => ?_) hS0 ?_
            rotate_left
            · obtain ⟨z0, z1, z2, z3, z4, z5⟩ := hW
              go_simp
              try with_reducible rfl
            try simp only [List.getElem_toArray, List.getElem_cons_zero, List.getElem_cons_succ, Act.put, List.setIfInBounds_toArray, List.set_cons_zero, List.set_cons_succ]
            clear hS0
            refine wpAnyN_next (i := 16) rfl (by kernel_rfl) (fun Kc hK => ?_)
            go_simp
            have c7 : Below wr.heap.size wr (wd.alloc (.cells #[.int .i64 (v : Int)] 2)) := c0.alloc c0.size _
            have P7 := Lib.hid (P0.out.alloc (.cells #[.int .i64 (v : Int)] 2))
            refine hK.out _ _ (fun _ => HS.out _ c7) ?_
            clear hK Kc
            try simp only [List.getElem_toArray, List.getElem_cons_zero, List.getElem_cons_succ, Act.put, List.setIfInBounds_toArray, List.set_cons_zero, List.set_cons_succ]
            refine wpAnyN_next (i := 17) rfl (by kernel_rfl) (fun Kc hK => ?_)
            refine step_pushS (by rfl) _ _ _ (by rfl) w.heap.size 2 1 8 elem_int intE R s cr ((mapk).take s) (by rfl) P7.out.q wd.heap.size ((v : Int) : Int) #[.int .i64 (v : Int)] 2 (0, 0) (by rfl) (heap_alloc_new _ _) rfl rfl (by simp [intE, Value.oneCell']) (by omega) (by omega) (by unfold maxLen; omega) P7.out.e.size ?_
            intro A8 cc8 w8 own8 hg8 at8
            have P8 := Lib.hid (P7.out.push own8 hg8 at8)
            clear own8 hg8 at8 P7
            refine hK.out _ _ (fun h => absurd h (by decide)) ?_
            clear hK Kc
            try simp only [List.getElem_toArray, List.getElem_cons_zero, List.getElem_cons_succ, Act.put, List.setIfInBounds_toArray, List.set_cons_zero, List.set_cons_succ]
            refine wpAnyN_next (i := 18) rfl (by kernel_rfl) (fun Kc hK => ?_)
            go_simp
            refine hK.out _ _ (fun h => absurd h (by decide)) ?_
            clear hK Kc
            try simp only [List.getElem_toArray, List.getElem_cons_zero, List.getElem_cons_succ, Act.put, List.setIfInBounds_toArray, List.set_cons_zero, List.set_cons_succ]
            refine wpAnyN_done (by kernel_rfl) ?_ _
            go_wp2_with fail
            go_roundw
            case rel => exact ⟨s + 1, A8, cc8, by go_num, by go_num, by omega, Lib.hid (by rw [HTk.out]; exact P8.out)⟩
            case measure => simp [intOf]; omega
          · have IPf := Lib.hid (IP.out false (by unfold isP; rw [hxl]; rfl))
            have HL2 := Lib.hid hxl
            clear hxl hxa hxb
            go_wp2_with fail
            refine (IPf.out _).mono ?_
            rintro e w3 ⟨rfl, hb3⟩
            have HP3 := Lib.hid (HP.out.next hb3)
            clear hb3 HP x0 x1 x2 xl IP IPf
            have HP := HP3
            clear HP3
            obtain ⟨wr, rfl⟩ : ∃ wz : World, wz = w3 := ⟨_, rfl⟩
            have hxl := HL2.out
            have hcn := letB_num hcc
            obtain ⟨l, hlc⟩ : ∃ l, cc.toNat - 97 = l := ⟨_, rfl⟩
            have hl4 : l < 4 := by omega
            have hln : letN x.l = l := by rw [hxl, letN_one, hlc]
            obtain ⟨r, t, gr_, hr4, grl, htS⟩ := HOk.out.at_ hlt2 hl4
            have hmv := HLm.out s r (t : Int) (by rw [hxl]; show (1 : Nat) ≠ 0; omega) gr_ (by rw [hln]; exact grl)
            have HTk := Lib.hid (take_snoc hmv)
            obtain ⟨v, hv⟩ : ∃ v : Nat, v = t := ⟨_, rfl⟩
            subst hv
            obtain ⟨nb, no, gr, go_, cr4, rfl, hnB, en, hgB, eg⟩ := (HX.out.next HP.out.e).cell2 (.int .i64) (fun _ => rfl) gr_ grl
            rw [hr4] at en
            obtain ⟨x0, _, _⟩ := HP.out.x.three
            rw [hxl] at x0
            have xl := HP.out.x.lt
            have HS := Lib.hid (fun W (h : Below wr.heap.size wr W) => show W.cell? ⟨nb, no + s, none⟩ = some (.slice (some ⟨gr, go_, none⟩) 4 cr4) ∧ W.cell? ⟨X, 0, none⟩ = some (.string ⟨#[cc]⟩) ∧ W.cell? ⟨gr, go_ + l, none⟩ = some (.int .i64 (v : Int)) from
              ⟨(h.cell (p := ⟨nb, no + s, none⟩) hnB).trans en, (h.cell (p := ⟨X, 0, none⟩) xl).trans x0, (h.cell (p := ⟨gr, go_ + l, none⟩) hgB).trans eg⟩)
            have u0 : (0 : Nat) < (⟨#[cc]⟩ : ByteArray).size := Nat.one_pos
            have u1 : IntKind.u8.wrap ((((⟨#[cc]⟩ : ByteArray)[0]'u0).toNat : Int) - 97) = (l : Int) := by
              show IntKind.u8.wrap ((cc.toNat : Int) - 97) = (l : Int)
              rw [IntKind.wrap_u8]; omega
            have k4 : (0 : Int) ≤ (l : Int) := by omega
            have k5 : (l : Int) < 4 := by omega
            clear gr_ hr4 grl hmv en eg x0 hln hlc hxl HL2 hcc
            go_upto_region 11 with fail
            refine wp_region_N (fun W => W.cell? ⟨nb, no + s, none⟩ = some (.slice (some ⟨gr, go_, none⟩) 4 cr4) ∧ W.cell? ⟨X, 0, none⟩ = some (.string ⟨#[cc]⟩) ∧ W.cell? ⟨gr, go_ + l, none⟩ = some (.int .i64 (v : Int))) [12, 13] (by kernel_rfl) ?_
            have c0 : Below wr.heap.size wr wr.drew := (Below.refl _ _).drew
            have hS0 := HS.out _ c0
            have P0 := Lib.hid (HP.out.next c0)
            generalize wr.drew = wd at *
            refine wpAnyN_take (i := 0) (v := ?_) rfl (by kernel_rfl) (fun _ _ _ h => h) (by rfl) (fun W hW => ?_) hS0 ?_
            rotate_left
            · obtain ⟨z0, z1, z2⟩ := hW
              go_simp
              try with_reducible rfl
            try simp only [List.getElem_toArray, List.getElem_cons_zero, List.getElem_cons_succ, Act.put, List.setIfInBounds_toArray, List.set_cons_zero, List.set_cons_succ]
            refine wpAnyN_take (i := 1) (v := ?_) rfl (by kernel_rfl) (fun _ _ _ h => h) (by rfl) (fun W hW => ?_) hS0 ?_
            rotate_left
            · obtain ⟨z0, z1, z2⟩ := hW
              go_simp
              try with_reducible rfl
            try simp only [List.getElem_toArray, List.getElem_cons_zero, List.getElem_cons_succ, Act.put, List.setIfInBounds_toArray, List.set_cons_zero, List.set_cons_succ]
            refine wpAnyN_take (i := 2) (v := ?_) rfl (by kernel_rfl) (fun _ _ _ h => h) (by rfl) (fun W hW => ?_) hS0 ?_
            rotate_left
            · obtain ⟨z0, z1, z2⟩ := hW
              go_simp
              try with_reducible rfl
            try simp only [List.getElem_toArray, List.getElem_cons_zero, List.getElem_cons_succ, Act.put, List.setIfInBounds_toArray, List.set_cons_zero, List.set_cons_succ]
            refine wpAnyN_take (i := 3) (v := ?_) rfl (by kernel_rfl) (fun _ _ _ h => h) (by rfl) (fun W hW => ?_) hS0 ?_
            rotate_left
            · obtain ⟨z0, z1, z2⟩ := hW
              go_simp
              try with_reducible rfl
            try simp only [List.getElem_toArray, List.getElem_cons_zero, List.getElem_cons_succ, Act.put, List.setIfInBounds_toArray, List.set_cons_zero, List.set_cons_succ]
            refine wpAnyN_take (i := 4) (v := ?_) rfl (by kernel_rfl) (fun _ _ _ h => h) (by rfl) (fun W hW => ?_) hS0 ?_
            rotate_left
            · obtain ⟨z0, z1, z2⟩ := hW
              go_simp
              try with_reducible rfl
            try simp only [List.getElem_toArray, List.getElem_cons_zero, List.getElem_cons_succ, Act.put, List.setIfInBounds_toArray, List.set_cons_zero, List.set_cons_succ]
            refine wpAnyN_take (i := 5) (v := ?_) rfl (by kernel_rfl) (fun _ _ _ h => h) (by rfl) (fun W hW => ?_) hS0 ?_
            rotate_left
            · obtain ⟨z0, z1, z2⟩ := hW
              go_simp
              try with_reducible rfl
            try simp only [List.getElem_toArray, List.getElem_cons_zero, List.getElem_cons_succ, Act.put, List.setIfInBounds_toArray, List.set_cons_zero, List.set_cons_succ]
            refine wpAnyN_take (i := 6) (v := ?_) rfl (by kernel_rfl) (fun _ _ _ h => h) (by rfl) (fun W hW => ?_) hS0 ?_
            rotate_left
            · obtain ⟨z0, z1, z2⟩ := hW
              go_simp
              try with_reducible rfl
            try simp only [List.getElem_toArray, List.getElem_cons_zero, List.getElem_cons_succ, Act.put, List.setIfInBounds_toArray, List.set_cons_zero, List.set_cons_succ]
            refine wpAnyN_take (i := 7) (v := ?_) rfl (by kernel_rfl) (fun _ _ _ h => h) (by rfl) (fun W hW => ?_) hS0 ?_
            rotate_left
            · obtain ⟨z0, z1, z2⟩ := hW
              go_simp
              try with_reducible rfl
            try simp only [List.getElem_toArray, List.getElem_cons_zero, List.getElem_cons_succ, Act.put, List.setIfInBounds_toArray, List.set_cons_zero, List.set_cons_succ]
            refine wpAnyN_take (i := 8) (v := ?_) rfl (by kernel_rfl) (fun _ _ _ h => h) (by rfl) (fun W hW => ?_) hS0 ?_
            rotate_left
            · obtain ⟨z0, z1, z2⟩ := hW
              go_simp
              try with_reducible rfl
            try simp only [List.getElem_toArray, List.getElem_cons_zero, List.getElem_cons_succ, Act.put, List.setIfInBounds_toArray, List.set_cons_zero, List.set_cons_succ]
            refine wpAnyN_take (i := 9) (v := ?_) rfl (by kernel_rfl) (fun _ _ _ h => h) (by rfl) (fun W hW => ?_) hS0 ?_
            rotate_left
            · obtain ⟨z0, z1, z2⟩ := hW
              go_simp
              try with_reducible rfl
            try simp only [List.getElem_toArray, List.getElem_cons_zero, List.getElem_cons_succ, Act.put, List.setIfInBounds_toArray, List.set_cons_zero, List.set_cons_succ]
            refine wpAnyN_take (i := 10) (v := ?_) rfl (by kernel_rfl) (fun _ _ _ h => h) (by rfl) (fun W hW => ?_) hS0 ?_
            rotate_left
            · obtain ⟨z0, z1, z2⟩ := hW
              go_simp
              try with_reducible rfl
            try simp only [List.getElem_toArray, List.getElem_cons_zero, List.getElem_cons_succ, Act.put, List.setIfInBounds_toArray, List.set_cons_zero, List.set_cons_succ]
            clear hS0
            refine wpAnyN_next (i := 11) rfl (by kernel_rfl) (fun Kc hK => ?_)
            go_simp
            have c7 : Below wr.heap.size wr (wd.alloc (.cells #[.int .i64 (v : Int)] 2)) := c0.alloc c0.size _
            have P7 := Lib.hid (P0.out.alloc (.cells #[.int .i64 (v : Int)] 2))
            refine hK.out _ _ (fun _ => HS.out _ c7) ?_
            clear hK Kc
            try simp only [List.getElem_toArray, List.getElem_cons_zero, List.getElem_cons_succ, Act.put, List.setIfInBounds_toArray, List.set_cons_zero, List.set_cons_succ]
            refine wpAnyN_next (i := 12) rfl (by kernel_rfl) (fun Kc hK => ?_)
            refine step_pushS (by rfl) _ _ _ (by rfl) w.heap.size 2 1 8 elem_int intE R s cr ((mapk).take s) (by rfl) P7.out.q wd.heap.size ((v : Int) : Int) #[.int .i64 (v : Int)] 2 (0, 0) (by rfl) (heap_alloc_new _ _) rfl rfl (by simp [intE, Value.oneCell']) (by omega) (by omega) (by unfold maxLen; omega) P7.out.e.size ?_
            intro A8 cc8 w8 own8 hg8 at8
            have P8 := Lib.hid (P7.out.push own8 hg8 at8)
            clear own8 hg8 at8 P7
            refine hK.out _ _ (fun h => absurd h (by decide)) ?_
            clear hK Kc
            try simp only [List.getElem_toArray, List.getElem_cons_zero, List.getElem_cons_succ, Act.put, List.setIfInBounds_toArray, List.set_cons_zero, List.set_cons_succ]
            refine wpAnyN_next (i := 13) rfl (by kernel_rfl) (fun Kc hK => ?_)
            go_simp
            refine hK.out _ _ (fun h => absurd h (by decide)) ?_
            clear hK Kc
            try simp only [List.getElem_toArray, List.getElem_cons_zero, List.getElem_cons_succ, Act.put, List.setIfInBounds_toArray, List.set_cons_zero, List.set_cons_succ]
            refine wpAnyN_done (by kernel_rfl) ?_ _
            go_wp2_with fail
            go_roundw
            case rel => exact ⟨s + 1, A8, cc8, by go_num, by go_num, by omega, Lib.hid (by rw [HTk.out]; exact P8.out)⟩
            case measure => simp [intOf]; omega
        · obtain rfl : s = S := by omega
          have s1 : ¬ (s : Int) < (s : Int) := by omega
          have htk : mapk.take s = mapk := List.take_of_length_le (by rw [HMl.out.1]; exact Nat.le_refl _)
          rw [htk] at HP
          have P4 := Lib.hid (HP.out.alloc (.cells #[.slice R s cr] 61))
          have hfar := Lib.hid HP.out.f
          have HMl2 := Lib.hid HMl.out.1
          clear htk HP
          go_wp2_with
            (at_builtin
             refine wpList_pushG rfl _ _ _ rfl w.heap.size 61 1 24 elemT encR A k c' hs rfl P4.out.t.o wr.heap.size (⟨R, s, cr⟩ : RowH) #[.slice R s cr] 61 (0, 0) rfl (heap_alloc_new _ _) rfl rfl (by simp [encR, Value.oneCell']) (by omega) (by omega) (by unfold maxLen; omega) P4.out.e.size ?_
             intro A9 c9 w9 own9 hg9 _
             have T9 := Lib.hid (P4.out.t.push (q := ⟨R, s, cr⟩) (by decide) P4.out.q HMl2.out hfar.out own9 hg9)
             have b9 := Lib.hid (P4.out.e.grown hg9 P4.out.e.size (own_ge P4.out.t.o))
             clear own9 hg9)
          go_roundw
          case rel => exact ⟨k + 1, A9, c9, _, by go_num, rfl, by omega, Lib.hid (by rw [Hst.out]; exact T9.out), b9⟩
          case measure => simp [intOf]; omega
    · obtain rfl : k = n := by omega
      have i1 : ¬ (k : Int) < (k : Int) := by omega
      have ho : outs [] (mF nx) mG rs k = maps nx rs := outs_all [] (mF nx) mG rs k (by rw [hl.out]; exact Nat.le_refl _)
      rw [ho] at HT
      have hml : (maps nx rs).length = k := by rw [← hl.out]; exact hfl.out
      go_wp2_with fail
      go_ret
      exact ⟨A, c', hs, ret_slice hml.symm, by rw [hml]; exact HT.out, hb.out⟩
end Go.Proofs.YtmdmgndhapdmgaaGreat


/-
  Cells of tables of a call's own written.
-/
namespace Go.Proofs.YtmdmgndhapdmgaaGreat
open Go.RowKit

def boolE (b : Bool) : List Value := [.bool b]
theorem elemB2 : Elem Tryz.prog 69 70 1 24 := Elem.mk' (z := .slice none 0 0) Tryz.underlying69 (by kernel_rfl) rfl
theorem flat1 {α : Type} {enc : α → List Value} (f : α → Value) (he : ∀ v, enc v = [f v]) : ∀ (x : List α), x.flatMap enc = x.map f
  | [] => rfl
  | y :: r => by rw [List.flatMap_cons, he, flat1 f he r]; rfl
section
variable {α : Type} {EH E : TypeId} {w w' : World} {base n c : Nat} {A : Option Addr} {enc : α → List Value} {hs : List RowH} {xss : List (List α)}
/-- a cell written -/
theorem TabR.setC (f : α → Value) (he : ∀ v, enc v = [f v]) (hE : EH ≠ E) (h : TabR EH E enc w base A n c hs xss) {i j g ln cq : Nat} {x : List α} (hi : hs[i]? = some ⟨some ⟨g, 0, none⟩, ln, cq⟩) (hx : xss[i]? = some x) (v : α) :
    TabR EH E enc (w.setCell ⟨g, j, none⟩ (f v)) base A n c hs (xss.set i (x.set j v)) := by
  have hr := h.r i _ x hi hx
  have hl : x.length = ln := hr.1
  have ho : w.ownsRow base E 1 (.slice (some ⟨g, 0, none⟩) ln cq) ln (x.flatMap enc) := hr.2
  refine h.put (w' := w.setCell ⟨g, j, none⟩ (f v)) hE hi ?_ (by rw [List.length_set]; exact hl) (gb_set w g j (f v))
  have := own_setI ho j (f v)
  rw [flat1 f he, ← List.map_set, ← flat1 f he] at this
  exact this
theorem TabR.geC (h : TabR EH E enc w base A n c hs xss) {i g ln cq : Nat} (hi : hs[i]? = some ⟨some ⟨g, 0, none⟩, ln, cq⟩) : base ≤ g ∧ g < w.heap.size := h.ge i _ g hi rfl
theorem TabR.frz (h : TabR EH E enc w base A n c hs xss) {i g ln cq : Nat} (hi : hs[i]? = some ⟨some ⟨g, 0, none⟩, ln, cq⟩) {x : List α} (hx : xss[i]? = some x) (j : Nat) : w.frozen? ⟨g, j, none⟩ = false := (h.r i _ x hi hx).2.frozenAt j
end
/-- a table of truths and a rule's box -/
structure MtX (w W : World) (A : Option Addr) (n c : Nat) (hs : List RowH) (T : List (List Bool)) (X : Nat) (x : Fac) : Prop where
  t : TabR 70 4 boolE W w.heap.size A n c hs T
  x : Blk W X 72 #[.string x.l, .int .i64 x.a, .int .i64 x.b]
  e : Below w.heap.size w W
section
variable {w W W' : World} {A : Option Addr} {n c X : Nat} {hs : List RowH} {T : List (List Bool)} {x : Fac}
theorem MtX.next (h : MtX w W A n c hs T X x) (hb : Below W.heap.size W W') : MtX w W' A n c hs T X x := ⟨h.t.next hb, h.x.next hb, h.e.trans (hb.mono h.e.size)⟩
theorem MtX.alloc (h : MtX w W A n c hs T X x) (o : Obj) : MtX w (W.alloc o) A n c hs T X x := h.next ((Below.refl _ _).alloc (Nat.le_refl _) o)
theorem MtX.set (h : MtX w W A n c hs T X x) {i g ln cq : Nat} {v : List Bool} (hi : hs[i]? = some ⟨some ⟨g, 0, none⟩, ln, cq⟩) (hv : T[i]? = some v) (j : Nat) :
    MtX w (W.setCell ⟨g, j, none⟩ (.bool true)) A n c hs (T.set i (v.set j true)) X x := by
  have hg := h.t.geC hi
  have ho := (h.t.r i _ v hi hv).2
  refine ⟨h.t.setC .bool (fun _ => rfl) (by decide) hi hv true, h.x.grown (gb_set W g j _) (own_blk_ne ho h.x (by decide)), h.e.setCell (by show w.heap.size ≤ g; exact hg.1) _⟩
end
end Go.Proofs.YtmdmgndhapdmgaaGreat


/-
  The grammar of a plain word in the program: the small functions.
-/
namespace Go.Proofs.YtmdmgndhapdmgaaGreat
open Go.RowKit

theorem conv_letter (W : World) (g c : Nat) (b : UInt8) (h : W.cell? ⟨g, 0, none⟩ = some (.int .u8 (b.toNat : Int))) : (convert 22 9 (.slice (some ⟨g, 0, none⟩) 1 c)).run Tryz.prog W = .ok (.string ⟨#[b]⟩) W := by
  refine run_convert_bytes_back (P := Tryz.prog) W _ _ 5 ⟨g, 0, none⟩ c [b] Tryz.underlying22 Tryz.underlying5 Tryz.underlying9 fun j hj => ?_
  obtain rfl : j = 0 := by simpa using hj
  simp [Addr.add, h]
set_option maxHeartbeats 1000000 in
set_option maxRecDepth 100000 in
theorem letter_any (c : UInt8) (w : World) : Calls Tryz.prog 68 #[.int .u8 (c.toNat : Int)] w (Ret (Fac.val (ruleC c)) w) := by
  go_enter Tryz.func68, Tryz.ntmps68
  have hcv := conv_letter ((w.alloc (.cells #[.string ⟨#[]⟩, .int .i64 0, .int .i64 0] 72)).alloc (.cells #[.int .u8 (c.toNat : Int)] 5)) (w.heap.size + 1) 1 c (by simp)
  go_wp2_with fail
  refine bodyPost_ret (v := Fac.val (ruleC c)) (by simp [results, Tryz.results68, go_sem, Fac.val, ruleC]; try rfl) rfl ⟨rfl, ?_⟩
  (repeat first | exact Below.refl _ _ | assumption | refine Below.drew ?_ | refine Below.alloc ?_ (by first | exact Nat.le_refl _ | (simp; done) | omega | (simp; omega)) _ | refine Below.setCell ?_ (by first | exact Nat.le_refl _ | (simp; done) | omega | (simp; omega)) _)
theorem pairInt_any (a b : Int) (w : World) (ha : -9223372036854775808 ≤ a ∧ a ≤ 9223372036854775807) (hb : -9223372036854775808 ≤ b ∧ b ≤ 9223372036854775807) : Calls Tryz.prog 71 #[.int .i64 a, .int .i64 b] w (Ret (Fac.val ⟨⟨#[]⟩, a, b⟩) w) := by
  have u1 : IntKind.i64.wrap a = a := IntWalk.i64_in _ (by omega)
  have u2 : IntKind.i64.wrap b = b := IntWalk.i64_in _ (by omega)
  go_enter Tryz.func71, Tryz.ntmps71
  go_wp2
  refine bodyPost_ret (v := Fac.val ⟨⟨#[]⟩, a, b⟩) (by simp [results, Tryz.results71, go_sem, Fac.val]; try rfl) rfl ⟨rfl, ?_⟩
  (repeat first | exact Below.refl _ _ | assumption | refine Below.drew ?_ | refine Below.alloc ?_ (by first | exact Nat.le_refl _ | (simp; done) | omega | (simp; omega)) _ | refine Below.setCell ?_ (by first | exact Nat.le_refl _ | (simp; done) | omega | (simp; omega)) _)
set_option maxHeartbeats 1000000 in
set_option maxRecDepth 100000 in
theorem stringslite_any (s : ByteArray) (c : Int) (w : World) : Calls Tryz.prog 91 #[.string s, .int .u8 c] w fun e w' => e = .returned (.int .i64 (Lib.indexByte s.data.toList c.toNat.toUInt8)) ∧ w' = w := by
  go_enter Tryz.func91, Tryz.ntmps91
  go_wp2
  rw [run_callFunc_extern Tryz.func101 (by kernel_rfl) (by kernel_rfl) (by kernel_rfl) (e := Extern.BytealgIndexByte.indexByte) (by kernel_rfl), Lib.run_indexByteString]
  simp only [Result.andThen]
  rw [Oper.upon_value]
  go_wp2
  go_ret
  exact ⟨rfl, rfl⟩
theorem indexByte_any (s : ByteArray) (c : Int) (z : Int) (w : World) (hz : Lib.indexByte s.data.toList c.toNat.toUInt8 = z) : Calls Tryz.prog 67 #[.string s, .int .u8 c] w (Ret (.int .i64 z) w) := by
  have HZ := Lib.hid hz; clear hz
  go_enter Tryz.func67, Tryz.ntmps67
  go_wp2_with (go_at_call 91; refine (stringslite_any s c _).mono ?_; rintro e w' ⟨rfl, rfl⟩; rw [HZ.out])
  go_ret
  exact ⟨rfl, Below.refl _ _⟩
theorem indexByte_mem (l : List UInt8) (c : UInt8) : (0 ≤ Lib.indexByte l c) ↔ c ∈ l := by
  induction l with
  | nil => simp [Lib.indexByte]
  | cons b l ih =>
    unfold Lib.indexByte
    have := Lib.indexByte_ge l c
    by_cases hb : b = c
    · simp [hb]
    · have hb' : (b == c) = false := by simpa using hb
      rw [hb']
      simp only [Bool.false_eq_true, if_false, List.mem_cons, (Ne.symm hb : c ≠ b), false_or, ← ih]
      by_cases h1 : Lib.indexByte l c = -1
      · simp [h1]
      · have : (Lib.indexByte l c == -1) = false := by simpa using h1
        rw [this]; simp; omega
set_option maxHeartbeats 1000000 in
set_option maxRecDepth 100000 in
theorem indexR_any (A : Option Addr) (n c : Nat) (rs : List Fac) (f : Fac) (w : World) (hn : n ≤ 1048576) (hr : Rd w w.heap.size A n 3 Fac.cells rs) :
    Calls Tryz.prog 70 #[.slice A n c, .agg #[.string f.l, .int .i64 f.a, .int .i64 f.b]] w (Ret (.int .i64 (ixR f rs 0)) w) := by
  have hl := Lib.hid hr.len
  have HR := Lib.hid hr; clear hr
  go_enter Tryz.func70, Tryz.ntmps70
  go_wp2_with fail
  refine named fun w0 H0 => ?_
  have B0 := Lib.hid (show Blk w0 w.heap.size 72 #[.string f.l, .int .i64 f.a, .int .i64 f.b] by rw [H0.out]; exact Blk.new _ _ _)
  have hb0 : Below w.heap.size w w0 := by rw [H0.out]; (repeat first | exact Below.refl _ _ | assumption | refine Below.drew ?_ | refine Below.alloc ?_ (by first | exact Nat.le_refl _ | (simp; done) | omega | (simp; omega)) _ | refine Below.setCell ?_ (by first | exact Nat.le_refl _ | (simp; done) | omega | (simp; omega)) _)
  clear H0
  go_loopw [8] (fun i w' => ∃ k : Nat, i = .int .i64 k ∧ k ≤ n ∧ Below w0.heap.size w0 w' ∧ Hid (ixR f (rs.drop k) k = ixR f rs 0)) (fun i _ => n - (intOf i).toNat)
  case atStart => exact ⟨0, rfl, by omega, Below.refl _ _, Lib.hid rfl⟩
  case round =>
    obtain ⟨k, rfl, hk, hb, H⟩ := hrel
    have hbb := hb0.trans (hb.mono hb0.size)
    by_cases hlt : k < n
    · obtain ⟨b, o, x, rfl, hB, gx, c0, c1, c2⟩ := (HR.out.next hbb).fac hlt
      have H' := Lib.hid (show (if f = x then (k : Int) else ixR f (rs.drop (k + 1)) (k + 1)) = ixR f rs 0 by
        rw [← H.out, drop_cons gx]; rfl)
      clear gx H
      have B1 := B0.out.next hb
      obtain ⟨d0, d1, d2⟩ := B1.three
      have l1 := B1.lt
      have hup := upc wr.heap.size wr
      have i0 : (0 : Int) ≤ (k : Int) := by omega
      have i1 : (k : Int) < (n : Int) := by omega
      by_cases he : f = x
      · have he' := Lib.hid (show decide (f = x) = true by simpa using he)
        have hne := fun W => (eql_rule f x W).trans (by rw [he'.out])
        have e2 := Lib.hid (show ixR f rs 0 = (k : Int) by rw [← H'.out, if_pos he])
        clear he B1
        go_wp2_with fail
        refine wp_region_up wr.heap.size (by kernel_rfl) (by kernel_rfl) ?_
        repeat (go_big_quiet_step (fail))
        refine wpQuiet_nil ?_
        intro w2 hw2
        have hb2 := up_of hw2
        go_wp2
        go_ret
        exact ⟨ret_int e2.out.symm, hbb.trans (hb2.mono hbb.size)⟩
      · have he' := Lib.hid (show decide (f = x) = false by simpa using he)
        have hne := fun W => (eql_rule f x W).trans (by rw [he'.out])
        have e2 := Lib.hid (show ixR f (rs.drop (k + 1)) (k + 1) = ixR f rs 0 by rw [← H'.out, if_neg he])
        clear he B1
        go_wp2_with fail
        refine wp_region_up wr.heap.size (by kernel_rfl) (by kernel_rfl) ?_
        repeat (go_big_quiet_step (fail))
        refine wpQuiet_nil ?_
        intro w2 hw2
        have hb2 := up_of hw2
        go_wp2
        go_roundw
        case rel => exact ⟨k + 1, by go_num, by omega, hb.trans (hb2.mono hb.size), e2⟩
        case measure => simp [intOf]; omega
    · have e2 := Lib.hid (show ixR f rs 0 = -1 by rw [← H.out, List.drop_of_length_le (by rw [hl.out]; omega)]; rfl)
      go_wp2
      go_ret
      exact ⟨ret_int e2.out.symm, hbb⟩
end Go.Proofs.YtmdmgndhapdmgaaGreat


/-
  The grammar of a plain word in the program.
-/
namespace Go.Proofs.YtmdmgndhapdmgaaGreat
open Go.RowKit

/-- a slice of the call's own that is the beginning of one which is appended to -/
theorem own_prefix {W W' : World} {base E sz k n c0 c : Nat} {A0 A : Option Addr} {xs0 ys : List Value} (hsz : 0 < sz) (hL : W.ownsRow base E sz (.slice A0 k c0) k xs0) (hA : W.ownsRow base E sz (.slice A n c) n (xs0 ++ ys))
    (hA' : W'.ownsRow base E sz (.slice A n c) n (xs0 ++ ys)) (hg : W.grownBy W' (Value.slice A n c).ownBlock) : W'.ownsRow base E sz (.slice A0 k c0) k xs0 := by
  rcases hL.2 with ⟨hnil, hk⟩ | ⟨g0, cap0, cur0, hv0, hb0, hh0, hk0, hm0, hs0, ht0⟩
  · rw [hnil] at hL ⊢
    exact ⟨hL.1, .inl ⟨rfl, hk⟩⟩
  · by_cases hne : (Value.slice A n c).ownBlock = some g0
    · rcases hA'.2 with ⟨hnil, _⟩ | ⟨g1, cap1, cur1, hv1, hb1, hh1, hk1, hm1, hs1, ht1⟩
      · rw [hnil] at hne; cases hne
      · rcases hA.2 with ⟨hnil, _⟩ | ⟨g2, cap2, cur2, hv2, hb2, hh2, hk2, hm2, hs2, ht2⟩
        · rw [hnil] at hne; cases hne
        · rw [hv1] at hne
          have e1 : g1 = g0 := by simpa [Value.ownBlock] using hne
          have e2 : g1 = g2 ∧ cap1 = cap2 := by
            rw [hv1] at hv2; injection hv2 with q1 q2 q3; injection q1 with q1; injection q1 with q1; exact ⟨q1, q3⟩
          obtain ⟨e2, e3⟩ := e2
          subst e1 e2 e3
          have ec : cur0 = cur2 := by
            rw [hh0] at hh2; injection hh2 with q; injection q with q
          subst ec
          have ecap : cap0 = cap1 := by
            have := hs0.symm.trans hs2
            exact Nat.eq_of_mul_eq_mul_right hsz this
          subst ecap
          refine ⟨hL.1, .inr ⟨g1, cap0, cur1, hv0, hb0, hh1, hk0, hm0, hs1, ?_⟩⟩
          have hkn : k * sz ≤ n * sz := by
            have h1 := hA.1
            have h2 := hL.1
            rw [List.length_append] at h1; omega
          have e5 : cur1.toList.take (k * sz) = (cur1.toList.take (n * sz)).take (k * sz) := by rw [List.take_take, Nat.min_eq_left hkn]
          rw [e5, ht1, ← hL.1]
          exact List.take_left
    · refine hL.kept hg (.inr ?_)
      rw [hv0]
      intro e; exact hne e.symm

/-- the letters up to one -/
def ksT (w : List UInt8) (c : Int) : List UInt8 := [97, 98, 99, 100].filter (fun u => decide (u ∈ w) && decide ((u.toNat : Int) < c))
theorem ksT_first (w : List UInt8) : ksT w 97 = [] := by simp [ksT]
theorem ksT_last (w : List UInt8) : ksT w 101 = ksP w := by
  unfold ksT ksP
  apply List.filter_congr
  intro u hu
  have : (u.toNat : Int) < 101 := by
    simp only [List.mem_cons, List.not_mem_nil, or_false] at hu
    rcases hu with rfl | rfl | rfl | rfl <;> decide
  simp [this]
theorem ksT_step (w : List UInt8) (u : UInt8) (h : letB u = true) : ksT w ((u.toNat : Int) + 1) = if u ∈ w then ksT w u.toNat ++ [u] else ksT w u.toNat := by
  have h : (97 : Int) ≤ u.toNat ∧ (u.toNat : Int) ≤ 100 := by simpa [letB] using h
  have h4 : u = 97 ∨ u = 98 ∨ u = 99 ∨ u = 100 := by
    simp only [← UInt8.toNat_inj]
    have : u.toNat = 97 ∨ u.toNat = 98 ∨ u.toNat = 99 ∨ u.toNat = 100 := by omega
    exact this
  unfold ksT
  rcases h4 with rfl | rfl | rfl | rfl
  all_goals
    by_cases h1 : (97 : UInt8) ∈ w <;> by_cases h2 : (98 : UInt8) ∈ w <;> by_cases h3 : (99 : UInt8) ∈ w <;> by_cases h4 : (100 : UInt8) ∈ w <;> simp [h1, h2, h3, h4]
theorem ksT_le (w : List UInt8) (c : Int) : (ksT w c).length ≤ 4 := by
  unfold ksT; exact Nat.le_trans (List.length_filter_le _ _) (by simp)

theorem okW_at {s : ByteArray} (h : okW s = true) {i : Nat} (hi : i < s.size) : letB s[i] = true := by
  unfold okW at h
  simp only [Bool.and_eq_true, List.all_eq_true] at h
  exact h.2 _ (List.mem_of_getElem? (at_byte s i hi))
theorem okW_size {s : ByteArray} (h : okW s = true) : s.size ≤ 2000 := by
  unfold okW at h
  simp only [Bool.and_eq_true, decide_eq_true_eq] at h
  exact h.1
/-- 'plain' under way -/
structure PlW (w W : World) (s : ByteArray) (A : Option Addr) (n c : Nat) (rs : List Fac) : Prop where
  q : W.ownsRow w.heap.size 72 3 (.slice A n c) n (rs.flatMap Fac.cells)
  s : Blk W w.heap.size 9 #[.string s]
  o : Blk W (w.heap.size + 1) 31 #[.slice none 0 0]
  g : Blk W (w.heap.size + 2) 31 #[.slice A n c]
  e : Below w.heap.size w W
section
variable {w W W' : World} {s : ByteArray} {A : Option Addr} {n c : Nat} {rs : List Fac}
theorem PlW.next (h : PlW w W s A n c rs) (hb : Below W.heap.size W W') : PlW w W' s A n c rs :=
  ⟨own_next h.q hb, h.s.next hb, h.o.next hb, h.g.next hb, h.e.trans (hb.mono h.e.size)⟩
theorem PlW.alloc (h : PlW w W s A n c rs) (o : Obj) : PlW w (W.alloc o) s A n c rs := h.next ((Below.refl _ _).alloc (Nat.le_refl _) _)
theorem PlW.push {A8 : Option Addr} {k8 c8 : Nat} {rs' : List Fac} (h : PlW w W s A n c rs) (hq : W'.ownsRow w.heap.size 72 3 (.slice A8 k8 c8) k8 (rs'.flatMap Fac.cells)) (hg : W.grownBy W' (Value.slice A n c).ownBlock) :
    PlW w (W'.setCell ⟨w.heap.size + 2, 0, none⟩ (.slice A8 k8 c8)) s A8 k8 c8 rs' := by
  have hs' := h.s.grown hg (own_blk_ne h.q h.s (by decide))
  have ho' := h.o.grown hg (own_blk_ne h.q h.o (by decide))
  have hg' := h.g.grown hg (own_blk_ne h.q h.g (by decide))
  have he' := h.e.grown hg h.e.size (own_ge h.q)
  have hg2 := gb_set W' (w.heap.size + 2) 0 (.slice A8 k8 c8)
  exact ⟨own_kept' hq hg' (by decide) _, hs'.grown hg2 (by intro e; injection e with e; omega), ho'.grown hg2 (by intro e; injection e with e; omega), hg'.set_ 0 _, he'.setCell (by simp) _⟩
end
set_option maxHeartbeats 1000000 in
set_option maxRecDepth 100000 in
theorem plainOf_any (L S : Nat) (z : Int) (i k c0 : Nat) (A0 : Option Addr) (s : ByteArray) (w : World) (hz : z = (i : Int)) (hL : Blk w L 29 #[.slice A0 k c0]) (hS : Blk w S 9 #[.string s]) (hk : k ≤ 1048576)
    (hr : Rd w w.heap.size A0 k 3 Fac.cells (lettersP s.data.toList)) (hi : i < s.size) (hs : s.size ≤ maxLen) (hl : letB s[i] = true) :
    Calls Tryz.prog 69 #[.int .i64 z, .pointer (some ⟨L, 0, none⟩), .pointer (some ⟨S, 0, none⟩)] w (Ret (.int .i64 (atP s.data.toList s[i])) w) := by
  subst hz
  unfold maxLen at hs
  have hmem : s[i] ∈ s.data.toList := List.mem_of_getElem? (at_byte s i hi)
  have e := Lib.hid (atP_ix hmem hl)
  have l0 := hL.cell 0
  have lL := hL.lt
  have s0 := hS.cell 0
  have lS := hS.lt
  have HR := Lib.hid hr
  have i0 : (0 : Int) ≤ (i : Int) := by omega
  have i1 : (i : Int) < (s.size : Int) := by omega
  have hup := upc w.heap.size w
  clear hmem hr hL hS
  go_enter Tryz.func69, Tryz.ntmps69
  go_wp2_with fail
  refine wp_region_up w.heap.size (by kernel_rfl) (by kernel_rfl) ?_
  repeat (go_big_quiet_step ((first | (go_at_call 68; exact Calls.up (Nat.le_refl _) (letter_any s[i] _)) | (go_at_call 70; exact Calls.up (Nat.le_refl _) (indexR_any A0 k c0 (lettersP s.data.toList) (ruleC s[i]) _ hk ((HR.out.below (Up.h _)).more (Up.h _).size))))))
  refine wpQuiet_nil ?_
  intro w4 hup_w4
  have hb4 := up_of hup_w4
  go_wp2_with fail
  go_ret
  exact ⟨ret_int e.out, hb4⟩
set_option maxHeartbeats 4000000 in
set_option maxRecDepth 100000 in
theorem plain_any (s : ByteArray) (w : World) (ho : okW s = true) : Calls Tryz.prog 36 #[.string s] w (RetG w (plainL s.data.toList)) := by
  have hs := okW_size ho
  have HL := Lib.hid (fun (i : Nat) (hi : i < s.size) => okW_at ho hi)
  clear ho
  go_enter Tryz.func36, Tryz.ntmps36
  go_wp2_with fail
  refine named fun w0 H0 => ?_
  have P0 := Lib.hid (show PlW w w0 s none 0 0 [] by
    rw [H0.out]
    refine ⟨World.ownsRow_nil _ _ _ _, ?_, ?_, ?_, by (repeat first | exact Below.refl _ _ | assumption | refine Below.drew ?_ | refine Below.alloc ?_ (by first | exact Nat.le_refl _ | (simp; done) | omega | (simp; omega)) _ | refine Below.setCell ?_ (by first | exact Nat.le_refl _ | (simp; done) | omega | (simp; omega)) _)⟩
    · exact ((Blk.new w _ _).alloc _).alloc _
    · simpa using (Blk.new (w.alloc (.cells #[.string s] 9)) 31 #[.slice none 0 0]).alloc _
    · simpa using Blk.new ((w.alloc (.cells #[.string s] 9)).alloc (.cells #[.slice none 0 0] 31)) 31 #[.slice none 0 0])
  clear H0
  go_loopw [4] (fun c_ w' => ∃ (c : Int) (A : Option Addr) (n cp : Nat), c_ = .int .u8 c ∧ 97 ≤ c ∧ c ≤ 101 ∧ n ≤ 4 ∧ Hid ((ksT s.data.toList c).length = n) ∧ Hid (PlW w w' s A n cp ((ksT s.data.toList c).map ruleC))) (fun c_ _ => (101 - intOf c_).toNat)
  case atStart => exact ⟨97, none, 0, 0, rfl, by omega, by omega, by omega, Lib.hid (by rw [ksT_first]; rfl), by rw [ksT_first]; exact P0⟩
  case round =>
    obtain ⟨c, A, n, cp, rfl, hc0, hc1, hn4, hnl, P1⟩ := hrel
    have s0 := P1.out.s.cell 0
    have ls := P1.out.s.lt
    by_cases hlt : c ≤ 100
    · obtain ⟨u, hu⟩ : ∃ u : UInt8, (u.toNat : Int) = c := ⟨UInt8.ofNat c.toNat, by simp; omega⟩
      subst hu
      have hlb : letB u = true := by simp [letB]; omega
      have Hst := Lib.hid (ksT_step s.data.toList u hlb)
      obtain ⟨z, hz⟩ : ∃ z, Lib.indexByte s.data.toList ((u.toNat : Int)).toNat.toUInt8 = z := ⟨_, rfl⟩
      have hzm := indexByte_mem s.data.toList u
      rw [show ((u.toNat : Int)).toNat.toUInt8 = u by simp] at hz
      rw [hz] at hzm
      have HZ := Lib.hid (show Lib.indexByte s.data.toList ((u.toNat : Int)).toNat.toUInt8 = z by rw [show ((u.toNat : Int)).toNat.toUInt8 = u by simp]; exact hz)
      have HZM := Lib.hid hzm
      clear hz hzm hlb
      by_cases hzz : 0 ≤ z
      · have Hst2 := Lib.hid (show ksT s.data.toList ((u.toNat : Int) + 1) = ksT s.data.toList u.toNat ++ [u] by rw [Hst.out, if_pos (HZM.out.1 hzz)])
        go_upto_if 17 with (go_at_call 67; refine (indexByte_any s _ z _ HZ.out).mono ?_; rintro e w1 ⟨rfl, hb1⟩)
        have P2 := Lib.hid (P1.out.next hb1)
        have d0 := P2.out.g.cell 0
        have l0 := P2.out.g.lt
        have P3 := Lib.hid (P2.out.next (Below.refl _ _).drew)
        have lc := fun W => letter_any u W
        obtain ⟨y, hy⟩ : ∃ y, ruleC u = y := ⟨_, rfl⟩
        rw [hy] at lc
        have LC := Lib.hid lc
        have HY := Lib.hid hy
        clear lc hy
        have zk : (n + 1) * 32 ≤ 140737488355328 := by omega
        have zkm : n + 1 ≤ maxLen := by unfold maxLen; omega
        go_wp2_with fail
        go_region_law
          (first
            | (refine step_push (by rfl) _ _ _ (by rfl) w.heap.size 72 3 32 elem_rule Fac.cells A n cp ((ksT s.data.toList u.toNat).map ruleC) (by rfl) P6.out.q _ y #[.string y.l, .int .i64 y.a, .int .i64 y.b] 72 (0, 0) (by rfl) (heap_alloc_new _ _) rfl rfl (one_fac _) (by omega) zk zkm P6.out.e.size ?_
               intro A8 c8 w8 own8 hg8 old8
               have P5 := Lib.hid (P6.out.push own8 hg8)
               have B5 := P6.out.g.grown hg8 (own_blk_ne P6.out.q P6.out.g (by decide))
               have d5 := B5.cell 0
               have f5 := B5.frozen
               have l5 := B5.lt)
            | (go_simp
               go_wp2_with (go_at_call 68; refine (LC.out _).mono ?_; rintro e w4 ⟨rfl, hb4⟩)
               have P4 := Lib.hid (P3.out.next hb4)
               have P6 := Lib.hid (P4.out.alloc (.cells #[.string y.l, .int .i64 y.a, .int .i64 y.b] 72))
               have d4 := P4.out.g.cell 0
               have l4 := P4.out.g.lt))
        all_goals
          have e5 := Lib.hid (show (ksT s.data.toList u.toNat).map ruleC ++ [y] = (ksT s.data.toList ((u.toNat : Int) + 1)).map ruleC by rw [Hst2.out, List.map_append, ← HY.out]; rfl)
          have hn4' : n + 1 ≤ 4 := by
            have h1 := ksT_le s.data.toList ((u.toNat : Int) + 1)
            rw [Hst2.out, List.length_append, hnl.out] at h1; exact h1
          have hnl' := Lib.hid (show (ksT s.data.toList ((u.toNat : Int) + 1)).length = n + 1 by rw [Hst2.out, List.length_append, hnl.out]; rfl)
          go_wp2_with fail
          go_roundw
          case rel => exact ⟨(u.toNat : Int) + 1, A8, n + 1, c8, by go_num, by omega, by omega, hn4', hnl', by rw [← e5.out]; exact P5⟩
          case measure => simp [intOf]; omega
      · have Hst2 := Lib.hid (show ksT s.data.toList ((u.toNat : Int) + 1) = ksT s.data.toList u.toNat by rw [Hst.out, if_neg (fun h => hzz (HZM.out.2 h))])
        go_wp2_with (go_at_call 67; refine (indexByte_any s _ z _ HZ.out).mono ?_; rintro e w1 ⟨rfl, hb1⟩)
        have P2 := Lib.hid (P1.out.next hb1)
        go_roundw
        case rel => exact ⟨(u.toNat : Int) + 1, A, n, cp, by go_num, by omega, by omega, hn4, by rw [Hst2.out]; exact hnl, by rw [Hst2.out]; exact P2⟩
        case measure => simp [intOf]; omega
    · obtain rfl : c = 101 := by omega
      have hK := ksT_last s.data.toList
      rw [hK] at hnl P1
      clear hK
      have d0 := P1.out.g.cell 0
      have l0 := P1.out.g.lt
      go_wp2_with fail
      refine named fun w2 H2 => ?_
      have P2 := Lib.hid (show PlW w w2 s A n cp (lettersP s.data.toList) by rw [H2.out]; exact P1.out.alloc _)
      have BL := Lib.hid (show Blk w2 wr.heap.size 29 #[.slice A n cp] by rw [H2.out]; exact Blk.new _ _ _)
      have hLw : w.heap.size + 2 < wr.heap.size := l0
      clear H2 P1 d0 l0 hlt hc0 hc1
      generalize wr.heap.size = L at *
      have LP2 := Lib.hid P2.out.q
      have hll := Lib.hid (show (lettersP s.data.toList).length = n by rw [← hnl.out]; simp [lettersP])
      obtain ⟨bf0, hbf0, hpl0⟩ : ∃ bf : Int, ((∀ h : 0 < s.size, bf = atP s.data.toList s[0]) ∧ (s.size = 0 → bf = 0)) ∧ lettersP s.data.toList ++ pairsP s.data.toList (s.data.toList.drop 1) bf n = plainL s.data.toList := by
        by_cases h0 : 0 < s.size
        · refine ⟨atP s.data.toList s[0], ⟨fun _ => rfl, fun h => by omega⟩, ?_⟩
          have := drop_cons (at_byte s 0 h0)
          rw [List.drop_zero] at this
          generalize hq : s.data.toList.drop (0 + 1) = q at this
          unfold plainL
          rw [← hnl.out]
          split
          · rename_i h; rw [h] at this; cases this
          · rename_i c cs h
            have h2 := h.symm.trans this
            injection h2 with h3 h4
            rw [← h3, ← h4]
        · refine ⟨0, ⟨fun h => absurd h h0, fun _ => rfl⟩, ?_⟩
          have : s.data.toList = [] := List.eq_nil_of_length_eq_zero (by rw [byte_len]; omega)
          rw [this]; rfl
      go_loopw [7] (fun i_ w' => ∃ (i : Nat) (A' : Option Addr) (n' cp' : Nat) (rs more : List Fac) (bf : Int), i_ = .int .i64 i ∧ 1 ≤ i ∧ (i ≤ s.size ∨ i = 1) ∧ Hid (n' + 1 = n + i) ∧ Hid (rs = lettersP s.data.toList ++ more) ∧ Hid (rs.length = n') ∧
        Hid (PlW w w' s A' n' cp' rs) ∧ Hid (Blk w' L 29 #[.slice A n cp]) ∧ Hid (w'.ownsRow w.heap.size 72 3 (.slice A n cp) n ((lettersP s.data.toList).flatMap Fac.cells)) ∧
        Hid ((i = 1 → ∀ h : 0 < s.size, bf = atP s.data.toList s[0]) ∧ (i ≠ 1 → bf = (n' : Int) - 1)) ∧ Hid (rs ++ pairsP s.data.toList (s.data.toList.drop i) bf n' = plainL s.data.toList)) (fun i_ _ => s.size - (intOf i_).toNat)
      case atStart =>
        exact ⟨1, A, n, cp, _, [], bf0, rfl, by omega, by omega, Lib.hid rfl, Lib.hid (by simp), hll, P2, BL, LP2, Lib.hid ⟨fun _ h => hbf0.1 h, fun h => absurd rfl h⟩, Lib.hid hpl0⟩
      case round =>
        obtain ⟨i, A', n', cp', rs, more, bf, rfl, hi1, hi2, hn', hrs, hrl, PR, BR, LR, hbf, HQ⟩ := hrel
        have s1 := PR.out.s.cell 0
        have ls1 := PR.out.s.lt
        have g1 := PR.out.g.cell 0
        have lg1 := PR.out.g.lt
        have o1 := PR.out.o.cell 0
        have f1 := PR.out.o.frozen
        by_cases hlt : i < s.size
        · have hat := fun (j : Nat) (hj : j < s.size) => atP_lt (List.mem_of_getElem? (at_byte s j hj)) (HL.out j hj)
          have hat0 := hat 0 (by omega)
          have hati := hat i hlt
          have hkl : (ksP s.data.toList).length = n := hnl.out
          rw [hkl] at hat0 hati
          have hn1 : 1 ≤ n := by omega
          have hn1' : 1 ≤ n' := by have := hn'.out; omega
          have hn2' : n' ≤ 2010 := by have := hn'.out; omega
          have hbb : -1 ≤ bf ∧ bf ≤ 2010 := by
            by_cases h1 : i = 1
            · have := hbf.out.1 h1 (by omega); omega
            · have := hbf.out.2 h1; omega
          have u1 : IntKind.i64.wrap ((n' : Int) - 1) = (n' : Int) - 1 := IntWalk.i64_in _ (by omega)
          have Hat := Lib.hid hat0
          have Hati := Lib.hid hati
          clear hat hat0 hati hkl
          go_upto_if 39 with (fail)
          go_cut [8] (fun b_ wx => b_ = .int .i64 bf ∧ Hid (PlW w wx s A' n' cp' rs) ∧ Hid (Blk wx L 29 #[.slice A n cp]) ∧ Hid (wx.ownsRow w.heap.size 72 3 (.slice A n cp) n ((lettersP s.data.toList).flatMap Fac.cells)))
          case first =>
            by_cases h1 : i = 1
            · subst h1
              have hb1 := Lib.hid (hbf.out.1 rfl (by omega))
              go_wp2_with (go_at_call 69; refine (plainOf_any L w.heap.size 0 0 n cp A s _ rfl BR.out PR.out.s (by omega) (Rd.of_own (fun x _ => fac_len x) hll.out LR.out) (by omega) (by unfold maxLen; omega) (HL.out 0 (by omega))).mono ?_; rintro e w4 ⟨rfl, hb4⟩; rw [← hb1.out])
              go_meet
              exact ⟨rfl, Lib.hid (PR.out.next hb4), Lib.hid (BR.out.next hb4), Lib.hid (own_next LR.out hb4)⟩
            · have hb1 := Lib.hid (hbf.out.2 h1)
              have h1' : ((i : Int) == 1) = false := by simp; omega
              clear h1
              go_wp2_with fail
              go_meet
              exact ⟨by rw [hb1.out], PR, BR, LR⟩
          case rest =>
            obtain ⟨rfl, PC, BC, LC⟩ := hcut
            have hat2 := Hati.out
            have HLi := Lib.hid (HL.out i hlt)
            have hstep := Lib.hid (show (rs ++ [⟨⟨#[]⟩, bf, atP s.data.toList s[i]⟩]) ++ pairsP s.data.toList (s.data.toList.drop (i + 1)) ((n' : Int)) (n' + 1) = plainL s.data.toList by
              rw [← HQ.out, drop_cons (at_byte s i hlt), List.append_assoc]; rfl)
            have LO := Lib.hid (fun W (h1 : Blk W L 29 #[.slice A n cp]) (h2 : Blk W w.heap.size 9 #[.string s]) h3 => plainOf_any L w.heap.size (i : Int) i n cp A s W rfl h1 h2 (by omega) h3 hlt (by unfold maxLen; omega) HLi.out)
            have hv := Lib.hid (atP_lt (List.mem_of_getElem? (at_byte s i hlt)) HLi.out)
            generalize atP s.data.toList s[i] = v at *
            have lc := fun W => pairInt_any bf v W (by omega) (by omega)
            obtain ⟨y, hy⟩ : ∃ y : Fac, (⟨⟨#[]⟩, bf, v⟩ : Fac) = y := ⟨_, rfl⟩
            rw [hy] at lc hstep
            have LC' := Lib.hid lc
            clear lc hy hat2 s1 ls1 g1 lg1 o1 f1
            have P3 := Lib.hid (PC.out.next (Below.refl _ _).drew)
            have B3 := Lib.hid (BC.out.next (Below.refl _ _).drew)
            have L3 := Lib.hid (own_next LC.out (Below.refl _ _).drew)
            have d0 := PC.out.g.cell 0
            have l0 := PC.out.g.lt
            have zk : (n' + 1) * 32 ≤ 140737488355328 := by omega
            have zkm : n' + 1 ≤ maxLen := by unfold maxLen; omega
            go_wp2_with fail
            go_region_law
              (first
                | (refine step_push (by rfl) _ _ _ (by rfl) w.heap.size 72 3 32 elem_rule Fac.cells A' n' cp' rs (by rfl) P6.out.q _ y #[.string y.l, .int .i64 y.a, .int .i64 y.b] 72 (0, 0) (by rfl) (heap_alloc_new _ _) rfl rfl (one_fac _) (by omega) zk zkm P6.out.e.size ?_
                   intro A8 c8 w8 own8 hg8 old8
                   have P7 := Lib.hid (P6.out.push own8 hg8)
                   have L7 := Lib.hid (own_prefix (by omega) L6.out (show _ ∧ _ from by have q := P6.out.q; rw [hrs.out, List.flatMap_append] at q; exact q) (by rw [hrs.out, List.flatMap_append] at old8; exact old8) hg8)
                   have G7 := Lib.hid (P6.out.g.grown hg8 (own_blk_ne P6.out.q P6.out.g (by decide)))
                   have B7 := Lib.hid (B6.out.grown hg8 (own_blk_ne P6.out.q B6.out (by decide)))
                   have d5 := G7.out.cell 0
                   have f5 := G7.out.frozen
                   have l5 := G7.out.lt)
                | (go_simp
                   go_wp2_with (go_at_call 71; refine (LC'.out _).mono ?_; rintro e w5 ⟨rfl, hb5⟩)
                   have P6 := Lib.hid ((P4.out.next hb5).alloc (.cells #[.string y.l, .int .i64 y.a, .int .i64 y.b] 72))
                   have B6 := Lib.hid ((B4.out.next hb5).alloc (.cells #[.string y.l, .int .i64 y.a, .int .i64 y.b] 72))
                   have L6 := Lib.hid ((own_next L4.out hb5).alloc (.cells #[.string y.l, .int .i64 y.a, .int .i64 y.b] 72))
                   have d6 := (P4.out.next hb5).g.cell 0
                   have l6 := (P4.out.next hb5).g.lt)
                | (go_simp
                   go_wp2_with (go_at_call 69; refine (LO.out _ B3.out P3.out.s (Rd.of_own (fun x _ => fac_len x) hll.out L3.out)).mono ?_; rintro e w4 ⟨rfl, hb4⟩)
                   have P4 := Lib.hid (P3.out.next hb4)
                   have B4 := Lib.hid (B3.out.next hb4)
                   have L4 := Lib.hid (own_next L3.out hb4)
                   have d4 := P4.out.g.cell 0
                   have l4 := P4.out.g.lt))
            all_goals
              go_wp2_with fail
              go_roundw
              case rel =>
                refine ⟨i + 1, A8, n' + 1, c8, rs ++ [y], more ++ [y], (n' : Int), by go_num, by omega, by omega, Lib.hid (by have := hn'.out; omega), Lib.hid (by rw [hrs.out, List.append_assoc]), Lib.hid (by rw [List.length_append, hrl.out]; rfl), P7, Lib.hid ?_, Lib.hid ?_, Lib.hid ⟨fun h => by omega, fun _ => by omega⟩, hstep⟩
                · exact B7.out.far (show L ≠ w.heap.size + 2 by omega) _
                · exact own_kept' L7.out G7.out (by decide) _
              case measure => simp [intOf]; omega
        · have he := Lib.hid (show plainL s.data.toList = rs by
            rw [← HQ.out, List.drop_of_length_le (by rw [byte_len]; omega)]; simp [pairsP])
          go_wp2_with fail
          have hg := gb_set wr (w.heap.size + 1) 0 (.slice A' n' cp')
          have x9 := PR.out.o.set_ 0 (.slice A' n' cp')
          have x10 : (wr.setCell ⟨w.heap.size + 1, 0, none⟩ (.slice A' n' cp')).cell? ⟨w.heap.size + 1, 0, none⟩ = some (.slice A' n' cp') := by rw [x9.cell 0]; rfl
          refine bodyPost_ret (v := .agg #[.slice A' n' cp']) (by simp [results, Tryz.results36, go_sem, x10]) rfl ⟨A', cp', by rw [he.out, hrl.out], ?_, PR.out.e.grown hg PR.out.e.size (fun q hq => by injection hq with hq; omega)⟩
          rw [he.out, hrl.out]
          exact PR.out.q.kept hg (.inr fun e => own_blk_ne PR.out.q PR.out.o (by decide) e.symm)
end Go.Proofs.YtmdmgndhapdmgaaGreat


/-
  All places of a word at which another one begins, in the reference.
-/
namespace Go.Proofs.YtmdmgndhapdmgaaGreat
open Go.RowKit

/-- the places before one at which a word begins -/
def fndT (p s : ByteArray) (k : Nat) : List Int := ((List.range k).filter (fun i => decide (s.extract i (i + p.size) = p))).map (fun (i : Nat) => (i : Int))
def fndL (p s : ByteArray) : List Int := fndT p s (s.size + 1 - p.size)
theorem fndT_yes {p s : ByteArray} {k : Nat} (h : s.extract k (k + p.size) = p) : fndT p s (k + 1) = fndT p s k ++ [(k : Int)] := by
  simp [fndT, List.range_succ, h]
theorem fndT_no {p s : ByteArray} {k : Nat} (h : ¬ s.extract k (k + p.size) = p) : fndT p s (k + 1) = fndT p s k := by
  simp [fndT, List.range_succ, h]
theorem fndT_len (p s : ByteArray) (k : Nat) : (fndT p s k).length ≤ k := by
  unfold fndT
  rw [List.length_map]
  exact Nat.le_trans (List.length_filter_le _ _) (by simp)
set_option maxHeartbeats 1000000 in
set_option maxRecDepth 100000 in
theorem l01Found_any (p s : ByteArray) (w : World) (hp : p.size ≤ 1048576) (hs : s.size ≤ 1048576) :
    Calls Tryz.prog 93 #[.string p, .string s] w (RetNew w 2 1 intE (fndL p s)) := by
  go_enter Tryz.func93, Tryz.ntmps93
  go_wp2_with fail
  go_loopw [5, 6] (fun o_ i_ w' => ∃ (k n : Nat) (A' : Option Addr) (c' : Nat), i_ = .int .i64 k ∧ o_ = .slice A' n c' ∧ k ≤ s.size + 1 - p.size ∧ n ≤ k ∧ Hid ((fndT p s k).length = n) ∧
      Hid (w'.ownsRow w.heap.size 2 1 (.slice A' n c') n ((fndT p s k).flatMap intE)) ∧ Below w.heap.size w w') (fun _ i_ _ => s.size + 1 - (intOf i_).toNat)
  case atStart =>
    exact ⟨0, 0, _, 0, rfl, rfl, by omega, by omega, Lib.hid rfl, Lib.hid (by simpa [fndT] using World.ownsRow_made (base := w.heap.size) (e := 2) (size := 1) w #[] 0 (by simp) (by unfold maxLen; omega) rfl), by (repeat first | exact Below.refl _ _ | assumption | refine Below.drew ?_ | refine Below.alloc ?_ (by first | exact Nat.le_refl _ | (simp; done) | omega | (simp; omega)) _ | refine Below.setCell ?_ (by first | exact Nat.le_refl _ | (simp; done) | omega | (simp; omega)) _)⟩
  case round =>
    obtain ⟨k, n, A', c', rfl, rfl, hk, hn, hl, hown, hb⟩ := hrel
    by_cases hlt : k + p.size ≤ s.size
    · by_cases he : s.extract k (k + p.size) = p
      · have hst := Lib.hid (fndT_yes he)
        have hq : ((s.extract k (k + p.size)).toList == p.toList) = true := by rw [tl_beq]; simpa using he
        clear he
        go_wp2_with
          (at_builtin
           refine wpList_push (w0 := w) rfl _ _ _ rfl w.heap.size 2 1 8 elem_int intE _ n c' (fndT p s k) rfl (hown.out.alloc _) wr.heap.size (k : Int) #[.int .i64 (k : Int)] 2 (0, 0) rfl (heap_alloc_new _ _) rfl rfl (by simp [intE, Value.oneCell']) (by omega) (by omega) (by unfold maxLen; omega) rfl (hb.alloc hb.size _) ?_
           intro A9 c9 w9 own9 hg9 hat9 hb9
           have O9 := Lib.hid own9; clear own9)
        go_roundw
        case rel => exact ⟨k + 1, n + 1, A9, c9, by go_num, rfl, by omega, by omega, Lib.hid (by rw [hst.out, List.length_append, hl.out]; rfl), Lib.hid (by rw [hst.out]; exact O9.out), hb9⟩
        case measure => simp [intOf]; omega
      · have hst := Lib.hid (fndT_no he)
        have hq : ((s.extract k (k + p.size)).toList == p.toList) = false := by rw [tl_beq]; simpa using he
        clear he
        go_wp2_with fail
        go_roundw
        case rel => exact ⟨k + 1, n, A', c', by go_num, rfl, by omega, by omega, Lib.hid (by rw [hst.out]; exact hl.out), Lib.hid (by rw [hst.out]; exact hown.out), hb⟩
        case measure => simp [intOf]; omega
    · have hkk : k = s.size + 1 - p.size := by omega
      have e := Lib.hid (show fndL p s = fndT p s k by unfold fndL; rw [hkk])
      clear hkk
      go_wp2_with fail
      go_ret
      refine ⟨A', c', ret_slice (by rw [e.out, hl.out]), ?_, hb⟩
      rw [e.out, hl.out]
      exact hown.out
end Go.Proofs.YtmdmgndhapdmgaaGreat


/-
  The grammar of a plain word in the reference.
-/
namespace Go.Proofs.YtmdmgndhapdmgaaGreat
open Go.RowKit

theorem fnd_one (u : UInt8) (s : ByteArray) : 0 < (fndL ⟨#[u]⟩ s).length ↔ u ∈ s.data.toList := by
  unfold fndL fndT
  rw [List.length_map, List.length_pos_iff_exists_mem]
  constructor
  · rintro ⟨i, hi⟩
    rw [List.mem_filter] at hi
    have h1 : i < s.size := by have := List.mem_range.1 hi.1; have : (⟨#[u]⟩ : ByteArray).size = 1 := rfl; omega
    have h2 : s.extract i (i + 1) = ⟨#[u]⟩ := of_decide_eq_true hi.2
    have h3 : (s.extract i (i + 1)).data.toList = [u] := by rw [h2]
    rw [ByteArray.data_extract, Array.toList_extract, List.extract_eq_take_drop, drop_cons (at_byte s i h1)] at h3
    simp only [Nat.add_sub_cancel_left, List.take_succ_cons, List.take_zero] at h3
    injection h3 with h4
    rw [← h4]; exact List.mem_of_getElem? (at_byte s i h1)
  · intro h
    obtain ⟨i, hi, he⟩ := List.mem_iff_getElem.1 h
    have hi' : i < s.size := by rw [byte_len] at hi; exact hi
    refine ⟨i, List.mem_filter.2 ⟨List.mem_range.2 ?_, decide_eq_true ?_⟩⟩
    · show i < s.size + 1 - 1; omega
    · show s.extract i (i + 1) = _
      apply ByteArray.ext
      rw [ByteArray.data_extract]
      apply Array.ext'
      rw [Array.toList_extract, List.extract_eq_take_drop, drop_cons (at_byte s i hi')]
      simp only [Nat.add_sub_cancel_left, List.take_succ_cons, List.take_zero]
      congr 1
theorem idx_ks (w : List UInt8) (u : UInt8) (h : letB u = true) (hm : u ∈ w) : (ksP w).idxOf u = (ksT w u.toNat).length := by
  have h : (97 : Int) ≤ u.toNat ∧ (u.toNat : Int) ≤ 100 := by simpa [letB] using h
  have h4 : u = 97 ∨ u = 98 ∨ u = 99 ∨ u = 100 := by
    simp only [← UInt8.toNat_inj]
    have : u.toNat = 97 ∨ u.toNat = 98 ∨ u.toNat = 99 ∨ u.toNat = 100 := by omega
    exact this
  unfold ksT ksP
  rcases h4 with rfl | rfl | rfl | rfl
  all_goals
    by_cases h1 : (97 : UInt8) ∈ w <;> by_cases h2 : (98 : UInt8) ∈ w <;> by_cases h3 : (99 : UInt8) ∈ w <;> by_cases h4 : (100 : UInt8) ∈ w <;> simp_all [List.idxOf_cons]

/-- 'l02Plain' under way -/
structure PsW (w W : World) (A : Option Addr) (n c : Nat) (rs : List Fac) (at_ : List Int) : Prop where
  q : W.ownsRow w.heap.size 72 3 (.slice A n c) n (rs.flatMap Fac.cells)
  o : Blk W w.heap.size 31 #[.slice none 0 0]
  g : Blk W (w.heap.size + 1) 31 #[.slice A n c]
  v : Blk W (w.heap.size + 2) 2 (intA at_)
  e : Below w.heap.size w W
section
variable {w W W' : World} {A : Option Addr} {n c : Nat} {rs : List Fac} {at_ : List Int}
theorem PsW.next (h : PsW w W A n c rs at_) (hb : Below W.heap.size W W') : PsW w W' A n c rs at_ :=
  ⟨own_next h.q hb, h.o.next hb, h.g.next hb, h.v.next hb, h.e.trans (hb.mono h.e.size)⟩
theorem PsW.alloc (h : PsW w W A n c rs at_) (o : Obj) : PsW w (W.alloc o) A n c rs at_ := h.next ((Below.refl _ _).alloc (Nat.le_refl _) _)
theorem PsW.push {A8 : Option Addr} {k8 c8 : Nat} {rs' : List Fac} (h : PsW w W A n c rs at_) (hq : W'.ownsRow w.heap.size 72 3 (.slice A8 k8 c8) k8 (rs'.flatMap Fac.cells)) (hg : W.grownBy W' (Value.slice A n c).ownBlock) :
    PsW w (W'.setCell ⟨w.heap.size + 1, 0, none⟩ (.slice A8 k8 c8)) A8 k8 c8 rs' at_ := by
  have ho' := h.o.grown hg (own_blk_ne h.q h.o (by decide))
  have hg' := h.g.grown hg (own_blk_ne h.q h.g (by decide))
  have hv' := h.v.grown hg (own_blk_ne h.q h.v (by decide))
  have he' := h.e.grown hg h.e.size (own_ge h.q)
  have hg2 := gb_set W' (w.heap.size + 1) 0 (.slice A8 k8 c8)
  exact ⟨own_kept' hq hg' (by decide) _, ho'.grown hg2 (by intro e; injection e with e; omega), hg'.set_ 0 _, hv'.grown hg2 (by intro e; injection e with e; omega), he'.setCell (by simp) _⟩
theorem PsW.tell (h : PsW w W A n c rs at_) (i : Nat) (z : Int) : PsW w (W.setCell ⟨w.heap.size + 2, i, none⟩ (.int .i64 z)) A n c rs (at_.set i z) := by
  have hg2 := gb_set W (w.heap.size + 2) i (.int .i64 z)
  have := h.v.set_ i (.int .i64 z)
  rw [intA_set] at this
  exact ⟨own_kept' h.q h.v (by decide) _, h.o.grown hg2 (by intro e; injection e with e; omega), h.g.grown hg2 (by intro e; injection e with e; omega), this, h.e.setCell (by simp) _⟩
end
set_option maxHeartbeats 4000000 in
set_option maxRecDepth 100000 in
theorem l02Plain_any (s : ByteArray) (w : World) (ho : okW s = true) : Calls Tryz.prog 74 #[.string s] w (RetG w (plainL s.data.toList)) := by
  have hs := okW_size ho
  have HL := Lib.hid (fun (i : Nat) (hi : i < s.size) => okW_at ho hi)
  have mkN := fun W => show (Instr.makeSlice 61 (.int .i64 4) (.int .i64 4)).run Tryz.prog W = .ok (.slice (some ⟨W.heap.size, 0, none⟩) 4 4) (W.alloc (.cells (intA (List.replicate 4 0)) 2)) from makeN 4 W (by omega)
  clear ho
  go_enter Tryz.func74, Tryz.ntmps74
  go_wp2_with fail
  refine named fun w0 H0 => ?_
  have P0 := Lib.hid (show PsW w w0 none 0 0 [] (List.replicate 4 0) by
    rw [H0.out]
    refine ⟨World.ownsRow_nil _ _ _ _, ?_, ?_, ?_, by (repeat first | exact Below.refl _ _ | assumption | refine Below.drew ?_ | refine Below.alloc ?_ (by first | exact Nat.le_refl _ | (simp; done) | omega | (simp; omega)) _ | refine Below.setCell ?_ (by first | exact Nat.le_refl _ | (simp; done) | omega | (simp; omega)) _)⟩
    · exact ((Blk.new w _ _).alloc _).alloc _
    · simpa using (Blk.new (w.alloc (.cells #[.slice none 0 0] 31)) 31 #[.slice none 0 0]).alloc _
    · simpa using Blk.new ((w.alloc (.cells #[.slice none 0 0] 31)).alloc (.cells #[.slice none 0 0] 31)) 2 (intA (List.replicate 4 0)))
  clear H0 mkN
  go_loopw [5] (fun c_ w' => ∃ (k : Nat) (A : Option Addr) (n cp : Nat) (at_ : List Int), c_ = .int .i64 k ∧ k ≤ 4 ∧ n ≤ 4 ∧ Hid ((ksT s.data.toList (97 + k)).length = n) ∧ Hid (PsW w w' A n cp ((ksT s.data.toList (97 + k)).map ruleC) at_) ∧
    Hid (at_.length = 4) ∧ Hid (∀ u : UInt8, letB u = true → (u.toNat : Int) < 97 + k → u ∈ s.data.toList → at_.getD (u.toNat - 97) 0 = atP s.data.toList u)) (fun c_ _ => (4 - intOf c_).toNat)
  case atStart => exact ⟨0, none, 0, 0, _, rfl, by omega, by omega, Lib.hid (by rw [show (97 : Int) + ((0 : Nat) : Int) = 97 from rfl, ksT_first]; rfl), by rw [show (97 : Int) + ((0 : Nat) : Int) = 97 from rfl, ksT_first]; exact P0, Lib.hid rfl, Lib.hid (fun u h1 h2 => by simp [letB] at h1; omega)⟩
  case round =>
    obtain ⟨k, A, n, cp, at_, rfl, hk4, hn4, hnl, P1, hal, hat⟩ := hrel
    by_cases hlt : k < 4
    · obtain ⟨u, hu⟩ : ∃ u : UInt8, u.toNat = 97 + k := ⟨UInt8.ofNat (97 + k), by simp; omega⟩
      have hlb : letB u = true := by simp [letB]; omega
      have hu' : (u.toNat : Int) = 97 + k := by omega
      have Hst0 := ksT_step s.data.toList u hlb
      rw [hu', show (97 : Int) + (k : Int) + 1 = 97 + ((k + 1 : Nat) : Int) by omega] at Hst0
      have Hst := Lib.hid Hst0
      have Hu := Lib.hid hu'
      have hcv := conv_letter (wr.alloc (.cells #[.int .u8 (97 + (k : Int))] 5)) wr.heap.size 1 u (by rw [hu']; simp)
      have P2 := Lib.hid (P1.out.alloc (.cells #[.int .u8 (97 + (k : Int))] 5))
      have HF := Lib.hid (fun W => l01Found_any ⟨#[u]⟩ s W (by show (1 : Nat) ≤ _; omega) (by omega))
      have hf1 := Lib.hid (fnd_one u s)
      have hlb' := Lib.hid hlb
      have hix := Lib.hid (idx_ks s.data.toList u hlb)
      clear Hst0 hu' hlb hu
      go_wp2_with fail
      refine (HF.out _).mono ?_
      rintro e w3 ⟨A3, c3, rfl, own3, hb3⟩
      have hlz := Lib.hid hb3.size
      have P3 := Lib.hid (P2.out.next hb3)
      have hl3 := fndT_len ⟨#[u]⟩ s (s.size + 1 - 1)
      have hl3' : (fndL ⟨#[u]⟩ s).length ≤ 2000 := by
        have : (fndL ⟨#[u]⟩ s).length ≤ s.size + 1 - 1 := fndT_len ⟨#[u]⟩ s (s.size + 1 - 1)
        omega
      generalize (fndL ⟨#[u]⟩ s).length = fl at *
      clear hl3 own3 hb3
      by_cases hz : 0 < fl
      · have hm := hf1.out.1 hz
        have Hm := Lib.hid hm
        have Hst2 := Lib.hid (show ksT s.data.toList (97 + ((k + 1 : Nat) : Int)) = ksT s.data.toList (97 + (k : Int)) ++ [u] by rw [Hst.out, if_pos hm])
        have hn4' : n + 1 ≤ 4 := by
          have h1 := ksT_le s.data.toList (97 + ((k + 1 : Nat) : Int))
          rw [Hst2.out, List.length_append, hnl.out] at h1; exact h1
        have d0 := P3.out.g.cell 0
        have l0 := P3.out.g.lt
        have v0 := P3.out.v.cell k
        rw [intA_at at_ (by rw [hal.out]; exact hlt)] at v0
        have vf := P3.out.v.frozen
        have P4 := Lib.hid (P3.out.tell k (n : Int))
        have d4 := P4.out.g.cell 0
        have l4 := P4.out.g.lt
        have P5 := Lib.hid (P4.out.alloc (.cells #[.string ⟨#[u]⟩, .int .i64 0, .int .i64 0] 72))
        have BN0 := Blk.new (w3.setCell ⟨w.heap.size + 2, k, none⟩ (.int .i64 (n : Int))) 72 #[.string (ruleC u).l, .int .i64 (ruleC u).a, .int .i64 (ruleC u).b]
        have sz4 : (w3.setCell ⟨w.heap.size + 2, k, none⟩ (.int .i64 (n : Int))).heap.size = w3.heap.size := by simp
        rw [sz4] at BN0
        have BN := Lib.hid BN0
        have i0 : (0 : Int) ≤ (k : Int) := by omega
        have i1 : (k : Int) < 4 := by omega
        clear hm BN0 sz4
        go_wp2_with
          (at_builtin
           refine wpList_app rfl _ _ _ rfl w.heap.size 72 3 32 elem_rule Fac.cells A n cp ((ksT s.data.toList (97 + (k : Int))).map ruleC) rfl P5.out.q ⟨w3.heap.size, 0, none⟩ 1 1 [ruleC u] rfl rfl (by omega) (news1 (y := ruleC u) BN.out) (fun x _ => fac_len x) (fun x _ => one_fac x) (by omega) (by omega) (by unfold maxLen; omega) P5.out.e.size ?_
           intro A9 c9 w9 own9 hg9 hat9
           have P6 := Lib.hid (P5.out.push own9 hg9)
           have G6 := P5.out.g.grown hg9 (own_blk_ne P5.out.q P5.out.g (by decide))
           have f9 := G6.frozen
           have d9 := G6.cell 0
           have l9 := G6.lt
           clear own9 G6)
        go_roundw
        case rel =>
          refine ⟨k + 1, A9, n + 1, c9, at_.set k (n : Int), by go_num, by omega, hn4', Lib.hid (by rw [Hst2.out, List.length_append, hnl.out]; rfl), Lib.hid (by rw [Hst2.out, List.map_append]; exact P6.out), Lib.hid (by rw [List.length_set, hal.out]), Lib.hid (fun u' h1 h2 h3 => ?_)⟩
          by_cases hq : (u'.toNat : Int) < 97 + (k : Int)
          · rw [List.getD_eq_getElem?_getD, List.getElem?_set_ne (by simp [letB] at h1; omega), ← List.getD_eq_getElem?_getD]
            exact hat.out u' h1 hq h3
          · obtain rfl : u' = u := UInt8.toNat_inj.1 (by have := Hu.out; omega)
            rw [show u'.toNat - 97 = k by have := Hu.out; omega, List.getD_eq_getElem?_getD, List.getElem?_set_self (by rw [hal.out]; exact hlt)]
            have h5 := hix.out Hm.out
            rw [Hu.out, hnl.out] at h5
            unfold atP
            rw [h5]; rfl
        case measure => simp [intOf]; omega
      · have Hm := Lib.hid (fun h => hz (hf1.out.2 h))
        have Hst2 := Lib.hid (show ksT s.data.toList (97 + ((k + 1 : Nat) : Int)) = ksT s.data.toList (97 + (k : Int)) by rw [Hst.out, if_neg Hm.out])
        obtain rfl : fl = 0 := by omega
        go_wp2_with fail
        go_roundw
        case rel =>
          refine ⟨k + 1, A, n, cp, at_, by go_num, by omega, hn4, by rw [Hst2.out]; exact hnl, by rw [Hst2.out]; exact P3, hal, Lib.hid (fun u' h1 h2 h3 => ?_)⟩
          by_cases hq : (u'.toNat : Int) < 97 + (k : Int)
          · exact hat.out u' h1 hq h3
          · obtain rfl : u' = u := UInt8.toNat_inj.1 (by have := Hu.out; omega)
            exact absurd h3 Hm.out
        case measure => simp [intOf]; omega
    · have hk5 : k = 4 := by omega
      have hK := ksT_last s.data.toList
      rw [hk5, show (97 : Int) + ((4 : Nat) : Int) = 101 from rfl, hK] at hnl P1
      clear hK hk5
      have Hat := Lib.hid (fun (j : Nat) (hj : j < s.size) => show at_.getD (s[j].toNat - 97) 0 = atP s.data.toList s[j] from hat.out s[j] (HL.out j hj) (by have := HL.out j hj; simp [letB] at this; omega) (List.mem_of_getElem? (at_byte s j hj)))
      clear hat
      have P2 := Lib.hid (show PsW w wr A n cp (lettersP s.data.toList) at_ from P1.out)
      have hll := Lib.hid (show (lettersP s.data.toList).length = n by rw [← hnl.out]; simp [lettersP])
      clear P1
      obtain ⟨bf0, hbf0, hpl0⟩ : ∃ bf : Int, ((∀ h : 0 < s.size, bf = atP s.data.toList s[0]) ∧ (s.size = 0 → bf = 0)) ∧ lettersP s.data.toList ++ pairsP s.data.toList (s.data.toList.drop 1) bf n = plainL s.data.toList := by
        by_cases h0 : 0 < s.size
        · refine ⟨atP s.data.toList s[0], ⟨fun _ => rfl, fun h => by omega⟩, ?_⟩
          have := drop_cons (at_byte s 0 h0)
          rw [List.drop_zero] at this
          generalize hq : s.data.toList.drop (0 + 1) = q at this
          unfold plainL
          rw [← hnl.out]
          split
          · rename_i h; rw [h] at this; cases this
          · rename_i c cs h
            have h2 := h.symm.trans this
            injection h2 with h3 h4
            rw [← h3, ← h4]
        · refine ⟨0, ⟨fun h => absurd h h0, fun _ => rfl⟩, ?_⟩
          have : s.data.toList = [] := List.eq_nil_of_length_eq_zero (by rw [byte_len]; omega)
          rw [this]; rfl
      have hk6 : ¬ (k : Int) < 4 := by omega
      clear hlt
      go_wp2_with fail
      clear hk6
      go_loopw [7] (fun i_ w' => ∃ (i : Nat) (A' : Option Addr) (n' cp' : Nat) (rs : List Fac) (bf : Int), i_ = .int .i64 i ∧ 1 ≤ i ∧ (i ≤ s.size ∨ i = 1) ∧ Hid (n' + 1 = n + i) ∧ Hid (rs.length = n') ∧
        Hid (PsW w w' A' n' cp' rs at_) ∧ Hid ((i = 1 → ∀ h : 0 < s.size, bf = atP s.data.toList s[0]) ∧ (i ≠ 1 → bf = (n' : Int) - 1)) ∧ Hid (rs ++ pairsP s.data.toList (s.data.toList.drop i) bf n' = plainL s.data.toList)) (fun i_ _ => s.size - (intOf i_).toNat)
      case atStart =>
        exact ⟨1, A, n, cp, _, bf0, rfl, by omega, by omega, Lib.hid rfl, hll, P2, Lib.hid ⟨fun _ h => hbf0.1 h, fun h => absurd rfl h⟩, Lib.hid hpl0⟩
      case round =>
        obtain ⟨i, A', n', cp', rs, bf, rfl, hi1, hi2, hn', hrl, PR, hbf, HQ⟩ := hrel
        have g1 := PR.out.g.cell 0
        have lg1 := PR.out.g.lt
        have o1 := PR.out.o.cell 0
        have f1 := PR.out.o.frozen
        by_cases hlt : i < s.size
        · clear hk4
          have hlb := HL.out i hlt
          have hlb0 := HL.out 0 (by omega)
          have hb1 : (97 : Int) ≤ s[i].toNat ∧ (s[i].toNat : Int) ≤ 100 := by simpa [letB] using hlb
          have hb0 : (97 : Int) ≤ s[0].toNat ∧ (s[0].toNat : Int) ≤ 100 := by simpa [letB] using hlb0
          have hat0 := atP_lt (List.mem_of_getElem? (at_byte s 0 (by omega))) hlb0
          have hati := atP_lt (List.mem_of_getElem? (at_byte s i hlt)) hlb
          have hkl : (ksP s.data.toList).length = n := hnl.out
          rw [hkl] at hat0 hati
          have hn1' : 1 ≤ n' := by have := hn'.out; omega
          have hn2' : n' ≤ 2010 := by have := hn'.out; omega
          have c0 := PR.out.v.cell (s[0].toNat - 97)
          rw [intA_at at_ (by rw [hal.out]; omega), Hat.out 0 (by omega)] at c0
          have c1 := PR.out.v.cell (s[i].toNat - 97)
          rw [intA_at at_ (by rw [hal.out]; omega), Hat.out i hlt] at c1
          have hstep := Lib.hid (show (rs ++ [⟨⟨#[]⟩, bf, atP s.data.toList s[i]⟩]) ++ pairsP s.data.toList (s.data.toList.drop (i + 1)) ((n' : Int)) (n' + 1) = plainL s.data.toList by
            rw [← HQ.out, drop_cons (at_byte s i hlt), List.append_assoc]; rfl)
          have Hbf := Lib.hid hbf.out
          have hbb : -1 ≤ bf ∧ bf ≤ 2010 := by
            by_cases h1 : i = 1
            · have := hbf.out.1 h1 (by omega); omega
            · have := hbf.out.2 h1; omega
          have hv := Lib.hid hati
          clear hkl hlb hlb0
          go_upto_if 49 with (fail)
          go_cut [8] (fun b_ wx => b_ = .int .i64 bf ∧ Hid (PsW w wx A' n' cp' rs at_))
          case first =>
            by_cases h1 : i = 1
            · subst h1
              have hb1' := Lib.hid (hbf.out.1 rfl (by omega))
              have hs0 : 0 < s.size := by omega
              go_wp2_with fail
              go_meet
              exact ⟨by rw [hb1'.out], PR⟩
            · have hb1' := Lib.hid (hbf.out.2 h1)
              have h1' : ((i : Int) == 1) = false := by simp; omega
              clear h1
              go_wp2_with fail
              go_meet
              exact ⟨by rw [hb1'.out], PR⟩
          case rest =>
            obtain ⟨rfl, PC⟩ := hcut
            have c2 := PC.out.v.cell (s[i].toNat - 97)
            rw [intA_at at_ (by rw [hal.out]; omega), Hat.out i hlt] at c2
            have lv2 := PC.out.v.lt
            clear c0 c1 g1 lg1 o1 f1 hat0 hati hb0
            generalize atP s.data.toList s[i] = v at *
            obtain ⟨y, hy⟩ : ∃ y : Fac, (⟨⟨#[]⟩, bf, v⟩ : Fac) = y := ⟨_, rfl⟩
            have P6 := Lib.hid (PC.out.alloc (.cells #[.string .empty, .int .i64 bf, .int .i64 v] 72))
            have P7 := Lib.hid (P6.out.next (Below.refl _ _).drew)
            have d6 := PC.out.g.cell 0
            have l6 := PC.out.g.lt
            have zk : (n' + 1) * 32 ≤ 140737488355328 := by omega
            have zkm : n' + 1 ≤ maxLen := by unfold maxLen; omega
            clear hy y
            have wz : IntKind.u8.wrap ((s[i].toNat : Int) - 97) = (s[i].toNat : Int) - 97 := by show ((s[i].toNat : Int) - 97) % 256 = _; omega
            have wn : ((s[i].toNat : Int) - 97).toNat = s[i].toNat - 97 := by omega
            have w4' : (s[i].toNat : Int) - 97 < 4 := by omega
            go_wp2_with fail
            go_region_law
              (refine step_push (by rfl) _ _ _ (by rfl) w.heap.size 72 3 32 elem_rule Fac.cells A' n' cp' rs (by rfl) P7.out.q _ ⟨⟨#[]⟩, bf, v⟩ #[.string .empty, .int .i64 bf, .int .i64 v] 72 (0, 0) (by rfl) (heap_alloc_new _ _) rfl rfl (one_fac _) (by omega) zk zkm P7.out.e.size ?_
               intro A8 c8 w8 own8 hg8 old8
               have P8 := Lib.hid (P7.out.push own8 hg8)
               have G8 := P7.out.g.grown hg8 (own_blk_ne P7.out.q P7.out.g (by decide))
               have d8 := G8.cell 0
               have f8 := G8.frozen
               have l8 := G8.lt)
            all_goals
              go_wp2_with fail
              go_roundw
              case rel =>
                exact ⟨i + 1, A8, n' + 1, c8, rs ++ [⟨⟨#[]⟩, bf, v⟩], (n' : Int), by go_num, by omega, by omega, Lib.hid (by have := hn'.out; omega), Lib.hid (by rw [List.length_append, hrl.out]; rfl), P8, Lib.hid ⟨fun h => by omega, fun _ => by omega⟩, hstep⟩
              case measure => simp [intOf]; omega
        · have he := Lib.hid (show plainL s.data.toList = rs by
            rw [← HQ.out, List.drop_of_length_le (by rw [byte_len]; omega)]; simp [pairsP])
          go_wp2_with fail
          have hg := gb_set wr w.heap.size 0 (.slice A' n' cp')
          have x9 := PR.out.o.set_ 0 (.slice A' n' cp')
          have x10 : (wr.setCell ⟨w.heap.size, 0, none⟩ (.slice A' n' cp')).cell? ⟨w.heap.size, 0, none⟩ = some (.slice A' n' cp') := by rw [x9.cell 0]; rfl
          refine bodyPost_ret (v := .agg #[.slice A' n' cp']) (by simp [results, Tryz.results74, go_sem, x10]) rfl ⟨A', cp', by rw [he.out, hrl.out], ?_, PR.out.e.grown hg PR.out.e.size (fun q hq => by injection hq with hq; omega)⟩
          rw [he.out, hrl.out]
          exact PR.out.q.kept hg (.inr fun e => own_blk_ne PR.out.q PR.out.o (by decide) e.symm)
end Go.Proofs.YtmdmgndhapdmgaaGreat
