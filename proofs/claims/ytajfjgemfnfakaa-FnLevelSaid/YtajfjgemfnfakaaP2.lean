/-
  Texts of this claim, merged: WevM Stop RuleP RuleK Mark MarkI LvW TrimO TrimI LvR.
-/
import Derived.Test.YtajfjgemfnfakaaP1
import Derived.Deep.RegionLaw
import Derived.Maps.OwnOps
import Derived.Deep.RegionHeld3
import Derived.Deep.RegionWith
import Derived.Deep.DeepCutAuto


/-
  A grammar with the prints of its words. Plain.
-/
namespace Go.Proofs.Ytajfjgemfnfakaa

abbrev PQ := PN × PN
def wvF (i : Nat) : PQ := ((97 + i, 97 + i), baseP)
def wvG (x y : PQ) (_ : Fac) : PQ := (plusP (timesP x.1 y.2) y.1, timesP x.2 y.2)
def wvD : PQ := ((0, 0), (0, 0))
def wvAll (rs : List Fac) : List PQ := full wvD wvF wvG rs
def PqOk (x : PQ) : Prop := PrOk x.1 ∧ PrOk x.2
theorem wvF_ok {i : Nat} (h : i < 4) : PqOk (wvF i) := by
  refine ⟨⟨?_, ?_⟩, baseP_ok⟩ <;> (show 97 + i < 2305843009213693951; omega)
theorem wvG_ok (x y : PQ) (r : Fac) : PqOk (wvG x y r) := ⟨plusP_ok _ _, timesP_ok _ _⟩
theorem wv_ok {rs : List Fac} (hwf : WF rs) : ∀ k, k < rs.length → PqOk ((wvAll rs).getD k wvD) :=
  full_ind wvD wvF wvG hwf (fun _ v => PqOk v) (fun k r hr hl => by
    obtain ⟨c, hc, e⟩ := letT_one hl
    rw [e]
    have h1 : (97 : Int) ≤ c.toNat ∧ (c.toNat : Int) ≤ 100 := by simpa [letB] using hc
    exact wvF_ok (show c.toNat - 97 < 4 by omega)) (fun _ _ _ _ _ _ _ _ _ _ _ _ => wvG_ok _ _ _)
theorem mul_ass (m1 s2 m2 s3 m3 : Nat) : addM (mulM (addM (mulM m1 s2) m2) s3) m3 = addM (mulM m1 (mulM s2 s3)) (addM (mulM m2 s3) m3) := by
  unfold addM mulM
  simp only [Nat.mod_mul_mod, Nat.mul_mod_mod, Nat.mod_add_mod, Nat.add_mod_mod, Nat.add_mul, Nat.mul_assoc, Nat.add_assoc]
theorem mul_ass2 (a b c : Nat) : mulM (mulM a b) c = mulM a (mulM b c) := by
  unfold mulM
  simp only [Nat.mod_mul_mod, Nat.mul_mod_mod, Nat.mul_assoc]
/-- the print's law is associative -/
theorem wv_ass (x y z : PQ) (r : Fac) : wvG (wvG x y r) z r = wvG x (wvG y z r) r := by
  obtain ⟨⟨a0, a1⟩, s0, s1⟩ := x
  obtain ⟨⟨b0, b1⟩, t0, t1⟩ := y
  obtain ⟨⟨c0, c1⟩, u0, u1⟩ := z
  unfold wvG plusP timesP
  simp only [mul_ass, mul_ass2]
end Go.Proofs.Ytajfjgemfnfakaa


/-
  The walk made to stand ahead of an operation, so that a law can be laid there.
-/
namespace Go.Proofs.Ytajfjgemfnfakaa
open Go.RowKit

/-! ### the walk made to stand ahead of an operation -/
def Stop (p : Prop) : Prop := p
theorem stopW {P : Program} {ops : Array Oper} {Q : Exit → Act → World → Prop} {a : Act} {W : World} {l : List Oper} (h : Stop (wpList P ops Q l a W)) : wpList P ops Q l a W := h
theorem stop_named {P : Program} {ops : Array Oper} {Q : Exit → Act → World → Prop} {a : Act} {W : World} {l : List Oper} (h : ∀ w, Hid (w = W) → Stop (wpList P ops Q l a w)) : Stop (wpList P ops Q l a W) := h W (Lib.hid rfl)
end Go.Proofs.Ytajfjgemfnfakaa


/-
  Lists of rules that a call makes: what is appended, copied.
-/
namespace Go.Proofs.Ytajfjgemfnfakaa
open Go.RowKit

theorem elem_rule : Elem Try.prog 24 59 3 32 := Elem.mk' (z := .agg #[.string .empty, .int .i64 0, .int .i64 0]) Try.underlying24 (by kernel_rfl) rfl
theorem one_fac (f : Fac) : ∀ u ∈ Fac.cells f, u.oneCell' = true := by simp [Fac.cells, Value.oneCell']
/-- what lies behind a list, cell for cell -/
theorem Rd.news {α : Type} {w : World} {B n sz : Nat} {A : Option Addr} {enc : α → List Value} {xs : List α} (h : Rd w B A n sz enc xs) (hl : ∀ x ∈ xs, (enc x).length = sz) (hn : 0 < n) :
    ∃ b o, A = some ⟨b, o, none⟩ ∧ b < B ∧ ∀ j u, (xs.flatMap enc)[j]? = some u → w.cell? ((⟨b, o, none⟩ : Addr).add j) = some u := by
  obtain ⟨b, o, hA, hb, hc⟩ := h.2 hn
  refine ⟨b, o, hA, hb, fun j u hj => ?_⟩
  have hlt := (List.getElem?_eq_some_iff.1 hj).1
  rw [flat_len xs hl] at hlt
  have hsz : 0 < sz := by
    rcases Nat.eq_zero_or_pos sz with h | h
    · subst h; simp at hlt
    · exact h
  have hk : j / sz < xs.length := Nat.div_lt_of_lt_mul (by rw [Nat.mul_comm]; exact hlt)
  have he : j / sz * sz + j % sz = j := by rw [Nat.mul_comm]; exact Nat.div_add_mod j sz
  have hx : xs[j / sz]? = some (xs[j / sz]'hk) := List.getElem?_eq_getElem _
  have h2 := flat_at xs hl _ _ hx (j % sz) (Nat.mod_lt _ hsz)
  rw [he, hj] at h2
  have h3 := hc _ _ hx (j % sz) u h2.symm
  rw [Nat.add_assoc, he] at h3
  simpa [Addr.add_lit] using h3
/-- a row of the call's own, behind a store into a block of another type -/
theorem own_kept' {w : World} {base g : Nat} {e t : TypeId} {sz n : Nat} {v : Value} {xs : List Value} {cs : Array Value} (h : w.ownsRow base e sz v n xs) (hB : Blk w g t cs) (ht : e ≠ t) (u : Value) {i : Nat} : (w.setCell ⟨g, i, none⟩ u).ownsRow base e sz v n xs := by
  refine h.kept (gb_set w g i u) ?_
  cases hv : v.ownBlock with
  | none => exact .inl rfl
  | some k => exact .inr fun e => own_blk_ne h hB ht (by rw [hv]; exact e.symm)
section
variable {α : Type} {P : Program} {w : World} {ops : Array Oper} {o : Oper} {a : Act} {rest : List Oper}
/-- a list appended to a slice of the call's own -/
theorem wpList_app {Q : Exit → Act → World → Prop} (hgd : o.guard = none) (s x : Operand) (t : TypeId) (ho : o.op = .call { callee := .builtin .append, args := #[s, x], argTypes := #[t, t] })
    (base : Nat) (e : TypeId) (sz bytes : Nat) (EI : Elem P t e sz bytes) (enc : α → List Value) (A : Option Addr) (n c : Nat) (xs : List α) (hs : a.eval s = .slice A n c)
    (hown : w.ownsRow base e sz (.slice A n c) n (xs.flatMap enc)) (ad : Addr) (m cc : Nat) (ys : List α) (hx : a.eval x = .slice (some ad) m cc) (hym : ys.length = m) (hm0 : 0 < m) (hnews : ∀ j u, (ys.flatMap enc)[j]? = some u → w.cell? (ad.add j) = some u)
    (hlen : ∀ y ∈ ys, (enc y).length = sz) (hone : ∀ y ∈ ys, ∀ u ∈ enc y, u.oneCell' = true) (hsz : 0 < sz) (hbytes : (n + m) * bytes ≤ 140737488355328) (hm : n + m ≤ maxLen) (hsize : base ≤ w.heap.size)
    (h : ∀ A' c' w', w'.ownsRow base e sz (.slice A' (n + m) c') (n + m) ((xs ++ ys).flatMap enc) → w.grownBy w' (Value.slice A n c).ownBlock →
      ((Value.slice A' (n + m) c').ownBlock = (Value.slice A n c).ownBlock ∨ (Value.slice A' (n + m) c').ownBlock = some w.heap.size) → wpList P ops Q rest (a.put o.dst (.slice A' (n + m) c')) w') : wpList P ops Q (o :: rest) a w := by
  obtain ⟨ht, i, z, hi, hz, h1, h2, hzs⟩ := EI
  refine wpList_plain hgd fun _ hK => ?_
  obtain ⟨v', w', hr, r2, r3, _, r5⟩ := run_append_own_at (P := P) w base t o.type e i z sz bytes ht hi hz h1 h2 hzs hsz _ n _ hown ad m cc (ys.flatMap enc) (by rw [flat_len ys hlen, hym]) hnews
    (fun u hu => by obtain ⟨y, hy, hu⟩ := List.mem_flatMap.1 hu; exact hone y hy u hu) hm hbytes hsize
  obtain ⟨g', cap, rfl, _, _⟩ := r2.form (by omega)
  unfold Oper.wp execOp
  simp only [ho, resolve, invoke, builtin, Sem.run_bind, Sem.run_pure, Result.andThen_ok, List.map_toArray, List.map_cons, List.map_nil, hs, hx, hr]
  exact hK _ _ (h _ _ w' (by rw [List.flatMap_append]; exact r2) r3 r5)
/-- the same, as a step of a region that draws its order -/
theorem step_app {K : Act → World → Prop} {Q : Exit → Act → World → Prop} {E : Prop} (hgd : o.guard = none) (s x : Operand) (t : TypeId) (ho : o.op = .call { callee := .builtin .append, args := #[s, x], argTypes := #[t, t] })
    (base : Nat) (e : TypeId) (sz bytes : Nat) (EI : Elem P t e sz bytes) (enc : α → List Value) (A : Option Addr) (n c : Nat) (xs : List α) (hs : a.eval s = .slice A n c)
    (hown : w.ownsRow base e sz (.slice A n c) n (xs.flatMap enc)) (ad : Addr) (m cc : Nat) (ys : List α) (hx : a.eval x = .slice (some ad) m cc) (hym : ys.length = m) (hm0 : 0 < m) (hnews : ∀ j u, (ys.flatMap enc)[j]? = some u → w.cell? (ad.add j) = some u)
    (hlen : ∀ y ∈ ys, (enc y).length = sz) (hone : ∀ y ∈ ys, ∀ u ∈ enc y, u.oneCell' = true) (hsz : 0 < sz) (hbytes : (n + m) * bytes ≤ 140737488355328) (hm : n + m ≤ maxLen) (hsize : base ≤ w.heap.size)
    (h : ∀ A' c' w', w'.ownsRow base e sz (.slice A' (n + m) c') (n + m) ((xs ++ ys).flatMap enc) → w.grownBy w' (Value.slice A n c).ownBlock → K (a.put o.dst (.slice A' (n + m) c')) w') :
    if Region.wanted o (yielded ops a.tmps) = true then Oper.wp P o a w K Q else E := by
  obtain ⟨ht, i, z, hi, hz, h1, h2, hzs⟩ := EI
  obtain ⟨v', w', hr, r2, r3, _, r5⟩ := run_append_own_at (P := P) w base t o.type e i z sz bytes ht hi hz h1 h2 hzs hsz _ n _ hown ad m cc (ys.flatMap enc) (by rw [flat_len ys hlen, hym]) hnews
    (fun u hu => by obtain ⟨y, hy, hu⟩ := List.mem_flatMap.1 hu; exact hone y hy u hu) hm hbytes hsize
  obtain ⟨g', cap, rfl, _, _⟩ := r2.form (by omega)
  have hw : Region.wanted o (yielded ops a.tmps) = true := by simp [Region.wanted, hgd]
  rw [if_pos hw]
  unfold Oper.wp execOp
  simp only [ho, resolve, invoke, builtin, Sem.run_bind, Sem.run_pure, Result.andThen_ok, List.map_toArray, List.map_cons, List.map_nil, hs, hx, hr]
  exact h _ _ w' (by rw [List.flatMap_append]; exact r2) r3
end
set_option maxHeartbeats 2000000 in
set_option maxRecDepth 100000 in
theorem l02Own_any (gb : Nat) (A : Option Addr) (n c : Nat) (rs : List Fac) (w : World) (hg : gb < w.heap.size) (hc : w.cell? ⟨gb, 0, none⟩ = some (.slice A n c)) (hn : n ≤ 1048576) (hn0 : 0 < n) (hr : Rd w w.heap.size A n 3 Fac.cells rs) :
    Calls Try.prog 64 #[.pointer (some ⟨gb, 0, none⟩)] w (RetG w rs) := by
  have hl := Lib.hid hr.len
  obtain ⟨b, o, rfl, hb, hnews⟩ := hr.news (fun x _ => fac_len x) hn0
  have HN := Lib.hid hnews; clear hnews hr
  have hh := Lib.hid (fun (W : World) (h : Below w.heap.size w W) j u (hj : (rs.flatMap Fac.cells)[j]? = some u) => ((h.cell (p := (⟨b, o, none⟩ : Addr).add j) (by simpa [Addr.add_lit] using hb)).trans (HN.out j u hj)))
  have h2 : Below w.heap.size w ((w.alloc (.cells #[.slice none 0 0] 26)).alloc (.cells #[] 59)) := by (repeat first | exact Below.refl _ _ | assumption | refine Below.drew ?_ | refine Below.alloc ?_ (by first | exact Nat.le_refl _ | (simp; done) | omega | (simp; omega)) _ | refine Below.setCell ?_ (by first | exact Nat.le_refl _ | (simp; done) | omega | (simp; omega)) _)
  have ow : ((w.alloc (.cells #[.slice none 0 0] 26)).alloc (.cells #[] 59)).ownsRow w.heap.size 59 3 (.slice (some ⟨w.heap.size + 1, 0, none⟩) 0 0) 0 (([] : List Fac).flatMap Fac.cells) := by
    simpa using World.ownsRow_made (base := w.heap.size) (e := 59) (size := 3) (w.alloc (.cells #[.slice none 0 0] 26)) #[] 0 (by simp) (by unfold maxLen; omega) rfl
  have bx := (Blk.new w 26 #[.slice none 0 0]).alloc (.cells #[] 59)
  have H2 := Lib.hid h2; have OW := Lib.hid ow; have BX := Lib.hid bx
  clear h2 ow bx
  go_enter Try.func64, Try.ntmps64
  go_wp2_with
    (at_builtin
     refine wpList_app rfl _ _ _ rfl w.heap.size 59 3 32 elem_rule Fac.cells (some ⟨w.heap.size + 1, 0, none⟩) 0 0 [] rfl OW.out ⟨b, o, none⟩ n c rs rfl hl.out hn0 (fun j u hj => hh.out _ H2.out j u hj) (fun x _ => fac_len x) (fun x _ => one_fac x) (by omega) (by omega) (by unfold maxLen; omega) (by simp; omega) ?_
     rw [Nat.zero_add, List.nil_append]
     intro A9 c9 w9 own9 hg9 hat9
     have O9 := Lib.hid own9
     have B9 := Lib.hid (H2.out.grown hg9 (by simp; omega) (fun k hk => (OW.out.lt k hk).1))
     have X9 := BX.out.grown hg9 (by simp [Value.ownBlock])
     have X9' := Lib.hid X9
     have f9 := X9.frozen
     have d9 := X9.cell 0
     have l9 := X9.lt
     clear own9 X9)
  have X10 := X9'.out.set_ 0 (.slice A9 n c9)
  have x10 : (w9.setCell ⟨w.heap.size, 0, none⟩ (.slice A9 n c9)).cell? ⟨w.heap.size, 0, none⟩ = some (.slice A9 n c9) := by rw [X10.cell 0]; rfl
  refine bodyPost_ret (v := .agg #[.slice A9 n c9]) (by simp [results, Try.results64, go_sem, x10]) rfl ⟨A9, c9, by rw [hl.out], ?_, B9.out.setCell (Nat.le_refl _) _⟩
  rw [hl.out]
  exact own_kept' O9.out X9'.out (by decide) _
end Go.Proofs.Ytajfjgemfnfakaa


/-
  A map whose keys are rules.
-/
namespace Go.Proofs.Ytajfjgemfnfakaa
open Go.RowKit Go.MapKept

section
variable {α : Type} [DecidableEq α] {P : Program} {w : World} {ops : Array Oper} {rest : List Oper} {o : Oper} {a : Act} {b : Nat} {K : α → Value} {mm : List (α × Value)} {kt t e : TypeId} {z : Value}
/-- a look-up in a map of the call's own, with the word whether there is an entry -/
theorem wpList_lookOk {Q : Exit → Act → World → Prop} (hgd : o.guard = none) (m x : Operand) (ho : o.op = .lookup t m x true) (KO : KeyOk P kt K) (ht : P.underlying t = some (.map kt e)) (hz : (zeroValue e).run P w = .ok z w) (hm : a.eval m = .map (some b)) (y : α) (hx : a.eval x = K y)
    (h : MapIs w b K mm) (hK : wpList P ops Q rest (a.put o.dst (.tuple #[(mget y mm).getD z, .bool (mget y mm).isSome])) w) : wpList P ops Q (o :: rest) a w := by
  refine wpList_plain hgd fun _ hK' => ?_
  unfold Oper.wp execOp
  simp only [ho, hm, hx, Sem.run_bind, h.lookOk KO ht hz y, Result.andThen_ok, Sem.run_pure]
  exact hK' _ _ hK
end
theorem zero_i64 (w : World) : (zeroValue 2).run Try.prog w = .ok (.int .i64 0) w := by kernel_rfl
theorem eql_rule (f g : Fac) (W : World) : (binOp .eql 59 (.agg #[.string f.l, .int .i64 f.a, .int .i64 f.b]) (.agg #[.string g.l, .int .i64 g.a, .int .i64 g.b])).run Try.prog W = .ok (.bool (decide (f = g))) W := by
  rw [eq_fac]
  simp [go_sem, tl_inj]
  try (by_cases h1 : f.l = g.l <;> by_cases h2 : f.a = g.a <;> by_cases h3 : f.b = g.b <;> simp [h1, h2, h3])
theorem equal_rule (f g : Fac) (W : World) : (Op.equal 59 f.val g.val).run Try.prog W = .ok (decide (f = g)) W := by
  have h := eql_rule f g W
  unfold binOp at h
  simp only [Sem.run_bind] at h
  unfold Fac.val
  generalize hr : Sem.run Try.prog (Op.equal 59 (.agg #[.string f.l, .int .i64 f.a, .int .i64 f.b]) (.agg #[.string g.l, .int .i64 g.a, .int .i64 g.b])) W = r at h ⊢
  cases r with
  | ok b w' =>
    simp [Result.andThen] at h
    rw [h.1, h.2]
  | _ => simp [Result.andThen] at h
theorem rule_key : KeyOk Try.prog 59 Fac.val := by
  refine ⟨fun e a w => ?_, fun a m es w he => ?_, fun a w => ?_⟩
  · have hs : ∀ n v, (Instr.checkKey e (n + 1) 9 (.string v)).run Try.prog w = .ok () w := fun n v => run_checkKey Try.underlying9 (by simp [IsKey]) e n
    have hi : ∀ n v, (Instr.checkKey e (n + 1) 2 (.int .i64 v)).run Try.prog w = .ok () w := fun n v => run_checkKey Try.underlying2 (by simp [IsKey]) e n
    unfold Fac.val
    show (Instr.checkKey e (9999 + 1) 59 _).run _ _ = _
    unfold Instr.checkKey
    simp only [Sem.run_bind, run_underlying Try.underlying59]
    have hs' := hs 9998
    have hi' := hi 9998
    simp [go_sem, hs', hi']
  · have ask : ∀ (m : List (Fac × Value)) (es : List MapEntry) (i : Nat), es.map (fun e => (e.key, e.val)) = m.map (fun p => (Fac.val p.1, p.2)) → (Instr.findAsking 59 (Fac.val a) es i).run Try.prog w = .ok (midx a m i) w := by
      intro m
      induction m with
      | nil => intro es i he; cases es with | nil => rfl | cons _ _ => simp at he
      | cons p r ih =>
        intro es i he
        cases es with
        | nil => simp at he
        | cons e es =>
          simp at he
          obtain ⟨⟨h1, h2⟩, h3⟩ := he
          unfold Instr.findAsking
          rw [h1, midx_cons]
          simp only [Sem.run_bind, equal_rule, Result.andThen_ok]
          by_cases hap : a = p.1
          · simp [hap, h2]
          · simp only [hap, decide_false, if_false, Bool.false_eq_true]
            exact ih es (i + 1) h3
    cases es with
    | nil =>
      cases m with
      | nil => simp [Instr.findKey, run_underlying Try.underlying59, Instr.findNow, midx]
      | cons _ _ => simp at he
    | cons e es =>
      have hn : Instr.findNow (TypeDesc.struct #[]) (Fac.val a) (e :: es) 0 = none := by unfold Instr.findNow Instr.sameNow; rfl
      have := ask m (e :: es) 0 he
      simp [Instr.findKey, run_underlying Try.underlying59, Instr.findNow, Instr.sameNow, Fac.val] at this ⊢
      exact this
  · have : Instr.sameBits 10000 a.val a.val = true := by
      show Instr.sameBits (9999 + 1) (.agg _) (.agg _) = true
      unfold Instr.sameBits
      simp [Instr.sameBits, beq_toListBytes, tl_beq]
    simp [Instr.keyThatStays, this]
end Go.Proofs.Ytajfjgemfnfakaa


/-
  The marks that the laws lay into results, and whether they are still there.
-/
namespace Go.Proofs.Ytajfjgemfnfakaa
open Go.RowKit

def digB (k : Nat) : UInt8 := UInt8.ofNat (48 + k % 10)
/-- the digits of a number, ahead of a text -/
def mtGo (k : Nat) (out : ByteArray) : ByteArray :=
  if 0 < k then mtGo (k / 10) ((⟨#[digB k]⟩ : ByteArray) ++ out) else out
termination_by k
decreasing_by omega
def mt (k : Nat) : ByteArray := if k = 0 then ⟨#[109, 48]⟩ else (⟨#[109]⟩ : ByteArray) ++ mtGo k ⟨#[]⟩

theorem mtGo_pos {j : Nat} (h : 0 < j) (out : ByteArray) : mtGo j out = mtGo (j / 10) ((⟨#[digB j]⟩ : ByteArray) ++ out) := by
  conv => lhs; rw [mtGo]
  rw [if_pos h]
/-- one byte as a text -/
theorem conv_one (W : World) (j c : Nat) : (convert 22 9 (.slice (some ⟨W.heap.size, 0, none⟩) 1 c)).run Try.prog (W.alloc (.cells #[.int .u8 (48 + (j : Int) % 10)] 5)) =
    .ok (.string ⟨#[digB j]⟩) (W.alloc (.cells #[.int .u8 (48 + (j : Int) % 10)] 5)) := by
  have e : ((digB j).toNat : Int) = 48 + (j : Int) % 10 := by
    unfold digB; rw [UInt8.toNat_ofNat']; omega
  refine run_convert_bytes_back (P := Try.prog) _ _ _ 5 ⟨W.heap.size, 0, none⟩ c [digB j] Try.underlying22 Try.underlying5 Try.underlying9 fun i hi => ?_
  obtain rfl : i = 0 := by simpa using hi
  rw [List.getElem_cons_zero, e]
  exact (Blk.new W 5 #[.int .u8 (48 + (j : Int) % 10)]).cell 0

theorem mtGo_size : ∀ (k : Nat) (out : ByteArray), k ≤ 100000000 → (mtGo k out).size ≤ out.size + k := by
  intro k
  induction k using Nat.strongRecOn with
  | ind k ih =>
    intro out hk
    by_cases h : 0 < k
    · rw [mtGo_pos h]
      have := ih (k / 10) (by omega) ((⟨#[digB k]⟩ : ByteArray) ++ out) (by omega)
      rw [ByteArray.size_append] at this
      have e : (⟨#[digB k]⟩ : ByteArray).size = 1 := rfl
      omega
    · rw [mtGo, if_neg h]; omega
theorem mt_size (k : Nat) (h : k ≤ 100000000) : (mt k).size ≤ 200000000 := by
  unfold mt
  split
  · show 2 ≤ _; omega
  · rw [ByteArray.size_append]
    have := mtGo_size k ⟨#[]⟩ h
    have e : (⟨#[109]⟩ : ByteArray).size = 1 := rfl
    have e2 : (⟨#[]⟩ : ByteArray).size = 0 := rfl
    omega
def strEM (s : ByteArray) : List Value := [.string s]
/-- the marks from k on -/
def marks (k : Nat) : Nat → List ByteArray
  | 0 => []
  | n + 1 => mt k :: marks (k + 1) n
theorem marks_len : ∀ (n k : Nat), (marks k n).length = n
  | 0, _ => rfl
  | n + 1, k => by simp [marks, marks_len n]
theorem marks_at : ∀ (n k i : Nat), i < n → (marks k n)[i]? = some (mt (k + i))
  | 0, _, i, h => by omega
  | n + 1, k, 0, _ => by simp [marks]
  | n + 1, k, i + 1, h => by
    rw [marks, List.getElem?_cons_succ, marks_at n (k + 1) i (by omega)]
    congr 2; omega

/-- the cells of a slice of the call's own, marked -/
theorem own_set {w : World} {base : Nat} {e : TypeId} {sz n c g : Nat} {xs : List Value} (h : w.ownsRow base e sz (.slice (some ⟨g, 0, none⟩) n c) n xs) (i : Nat) (u : Value) :
    (w.setCell ⟨g, i, none⟩ u).ownsRow base e sz (.slice (some ⟨g, 0, none⟩) n c) n (xs.set i u) := by
  exact (h.stored i u).1
end Go.Proofs.Ytajfjgemfnfakaa


/-
  The marks that the laws lay into lists of numbers and of rules.
-/
namespace Go.Proofs.Ytajfjgemfnfakaa
open Go.RowKit

/-- two rows of different element types do not share a block -/
theorem own_ne {w : World} {b1 b2 e1 e2 s1 s2 n1 n2 : Nat} {v1 v2 : Value} {xs1 xs2 : List Value} (h1 : w.ownsRow b1 e1 s1 v1 n1 xs1) (h2 : w.ownsRow b2 e2 s2 v2 n2 xs2) (hne : e1 ≠ e2) : v1.ownBlock = none ∨ v1.ownBlock ≠ v2.ownBlock := by
  rcases h1.2 with ⟨rfl, _⟩ | ⟨g1, c1, u1, rfl, _, hh1, _⟩
  · left; rfl
  · right
    rcases h2.2 with ⟨rfl, _⟩ | ⟨g2, c2, u2, rfl, _, hh2, _⟩
    · simp [Value.ownBlock]
    · intro he
      have hg : g1 = g2 := by simpa [Value.ownBlock] using he
      subst hg
      rw [hh1] at hh2
      injection hh2 with hh2
      injection hh2 with _ ht
      exact hne ht
/-- the numbers from k on -/
def marksI (k : Nat) : Nat → List Int
  | 0 => []
  | n + 1 => (k : Int) :: marksI (k + 1) n
theorem marksI_len : ∀ (n k : Nat), (marksI k n).length = n
  | 0, _ => rfl
  | n + 1, k => by simp [marksI, marksI_len n]
theorem marksI_at : ∀ (n k i : Nat), i < n → (marksI k n)[i]? = some ((k + i : Nat) : Int)
  | 0, _, i, h => by omega
  | n + 1, k, 0, _ => by simp [marksI]
  | n + 1, k, i + 1, h => by
    rw [marksI, List.getElem?_cons_succ, marksI_at n (k + 1) i (by omega)]
    congr 2; omega
theorem own_setI {w : World} {base : Nat} {e : TypeId} {sz n c g : Nat} {xs : List Value} (h : w.ownsRow base e sz (.slice (some ⟨g, 0, none⟩) n c) n xs) (i : Nat) (u : Value) :
    (w.setCell ⟨g, i, none⟩ u).ownsRow base e sz (.slice (some ⟨g, 0, none⟩) n c) n (xs.set i u) := (h.stored i u).1
end Go.Proofs.Ytajfjgemfnfakaa


/-
  Level grammars: rules and depths in memory, what a call leaves as it was.
-/
namespace Go.Proofs.Ytajfjgemfnfakaa
open Go.RowKit

section
variable {α : Type} {P : Program} {w : World} {ops : Array Oper} {o : Oper} {a : Act} {K : Act → World → Prop} {Q : Exit → Act → World → Prop} {E : Prop}
/-- one element more, as a step of a region that draws its order; where the row lies then -/
theorem step_pushL (hgd : o.guard = none) (s x : Operand) (t : TypeId) (ho : o.op = .call { callee := .builtin .append, args := #[s, x], argTypes := #[t, t] })
    (base : Nat) (e : TypeId) (sz bytes : Nat) (EI : Elem P t e sz bytes) (enc : α → List Value) (A : Option Addr) (n c : Nat) (xs : List α) (hs : a.eval s = .slice A n c)
    (hown : w.ownsRow base e sz (.slice A n c) n (xs.flatMap enc)) (g : Nat) (y : α) (cs : Array Value) (t' : TypeId) (fr : Nat × Nat) (hx : a.eval x = .slice (some ⟨g, 0, none⟩) 1 1) (hg : w.heap[g]? = some (.cells cs t' fr)) (hcs : cs.toList = enc y)
    (hlen : (enc y).length = sz) (hone : ∀ u ∈ enc y, u.oneCell' = true) (hsz : 0 < sz) (hbytes : (n + 1) * bytes ≤ 140737488355328) (hm : n + 1 ≤ maxLen) (hsize : base ≤ w.heap.size)
    (h : ∀ A' c' w', w'.ownsRow base e sz (.slice A' (n + 1) c') (n + 1) ((xs ++ [y]).flatMap enc) → w.grownBy w' (Value.slice A n c).ownBlock →
      ((Value.slice A' (n + 1) c').ownBlock = (Value.slice A n c).ownBlock ∨ (Value.slice A' (n + 1) c').ownBlock = some w.heap.size) →
      K (a.put o.dst (.slice A' (n + 1) c')) w') : if Region.wanted o (yielded ops a.tmps) = true then Oper.wp P o a w K Q else E := by
  obtain ⟨ht, i, z, hi, hz, h1, h2, hzs⟩ := EI
  have hnews : ∀ j u, (enc y)[j]? = some u → w.cell? ((⟨g, 0, none⟩ : Addr).add j) = some u := by rw [← hcs]; exact World.news_of_block hg
  obtain ⟨v', w', hr, r2, r3, _, r5⟩ := run_append_own_at (P := P) w base t o.type e i z sz bytes ht hi hz h1 h2 hzs hsz _ n _ hown ⟨g, 0, none⟩ 1 1 (enc y) (by rw [hlen]; omega) hnews hone hm hbytes hsize
  obtain ⟨g', cap, rfl, _, _⟩ := r2.form (by omega)
  have hw : Region.wanted o (yielded ops a.tmps) = true := by simp [Region.wanted, hgd]
  rw [if_pos hw]
  unfold Oper.wp execOp
  simp only [ho, resolve, invoke, builtin, Sem.run_bind, Sem.run_pure, Result.andThen_ok, List.map_toArray, List.map_cons, List.map_nil, hs, hx, hr]
  exact h _ _ w' (by rw [List.flatMap_append]; simpa using r2) r3 r5
end
/-- rules and depths, in a box of type T whose third cell is z -/
structure LvG (T : TypeId) (w0 W : World) (X : Nat) (z : Value) (A : Option Addr) (n c : Nat) (B : Option Addr) (m d : Nat) (rs : List Fac) (ds : List Int) : Prop where
  q : W.ownsRow w0.heap.size 59 3 (.slice A n c) n (rs.flatMap Fac.cells)
  k : W.ownsRow w0.heap.size 2 1 (.slice B m d) m (ds.flatMap intE)
  x : Blk W X T #[.slice A n c, .slice B m d, z]
  e : Below w0.heap.size w0 W
  hx : w0.heap.size ≤ X
  t1 : 59 ≠ T
  t2 : 2 ≠ T
/-- what a call leaves as it was: all but the box, the map and the two rows -/
structure LvF (W W' : World) (X M : Nat) (v v' u u' : Value) : Prop where
  size : W.heap.size ≤ W'.heap.size
  kept : ∀ x, x < W.heap.size → x ≠ X → x ≠ M → some x ≠ v.ownBlock → some x ≠ u.ownBlock → W'.heap[x]? = W.heap[x]?
  row : v'.ownBlock = v.ownBlock ∨ ∀ x, v'.ownBlock = some x → W.heap.size ≤ x
  row' : u'.ownBlock = u.ownBlock ∨ ∀ x, u'.ownBlock = some x → W.heap.size ≤ x
section
variable {w0 W W' W'' : World} {X M : Nat} {v v' v'' u u' u'' : Value}
theorem LvF.of_below (hb : Below W.heap.size W W') : LvF W W' X M v v u u := ⟨hb.size, fun x hx _ _ _ _ => hb.block x hx, .inl rfl, .inl rfl⟩
theorem LvF.trans (h1 : LvF W W' X M v v' u u') (h2 : LvF W' W'' X M v' v'' u' u'') : LvF W W'' X M v v'' u u'' := by
  refine ⟨Nat.le_trans h1.size h2.size, fun x hx hX hM hv hu => ?_, ?_, ?_⟩
  · rw [h2.kept x (Nat.lt_of_lt_of_le hx h1.size) hX hM (fun e => ?_) (fun e => ?_), h1.kept x hx hX hM hv hu]
    · rcases h1.row with q | q
      · rw [q] at e; exact hv e
      · have := q x e.symm; omega
    · rcases h1.row' with q | q
      · rw [q] at e; exact hu e
      · have := q x e.symm; omega
  · rcases h2.row with q | q
    · rw [q]; exact h1.row
    · exact .inr fun x hx => Nat.le_trans h1.size (q x hx)
  · rcases h2.row' with q | q
    · rw [q]; exact h1.row'
    · exact .inr fun x hx => Nat.le_trans h1.size (q x hx)
theorem LvF.of_grown (hg : W.grownBy W' v.ownBlock) (hat : v'.ownBlock = v.ownBlock ∨ v'.ownBlock = some W.heap.size) : LvF W W' X M v v' u u :=
  ⟨hg.4, fun x hx _ _ hv _ => hg.block x hx hv, hat.imp id fun e x hx => by rw [e] at hx; injection hx with hx; omega, .inl rfl⟩
theorem LvF.of_grown' (hg : W.grownBy W' u.ownBlock) (hat : u'.ownBlock = u.ownBlock ∨ u'.ownBlock = some W.heap.size) : LvF W W' X M v v u u' :=
  ⟨hg.4, fun x hx _ _ _ hu => hg.block x hx hu, .inl rfl, hat.imp id fun e x hx => by rw [e] at hx; injection hx with hx; omega⟩
theorem LvF.of_map (hg : W.grownBy W' (some M)) : LvF W W' X M v v u u :=
  ⟨hg.4, fun x hx _ hM _ _ => hg.block x hx (by intro e; injection e with e; exact hM e), .inl rfl, .inl rfl⟩
theorem LvF.setX (h : LvF W W' X M v v' u u') (i : Nat) (z : Value) : LvF W (W'.setCell ⟨X, i, none⟩ z) X M v v' u u' := by
  refine ⟨by have := h.size; have h2 := (gb_set W' X i z).4; omega, fun y hy hX hM hv hu => ?_, h.row, h.row'⟩
  rw [Below.heap_setCell W' ⟨X, i, none⟩ z y hX]
  exact h.kept y hy hX hM hv hu
theorem LvF.box (h : LvF W W' X M v v' u u') {x : Nat} (hx : W.heap.size ≤ x) (i : Nat) (z : Value) : LvF W (W'.setCell ⟨x, i, none⟩ z) X M v v' u u' := by
  refine ⟨by have := h.size; have h2 := (gb_set W' x i z).4; omega, fun y hy hX hM hv hu => ?_, h.row, h.row'⟩
  rw [Below.heap_setCell W' ⟨x, i, none⟩ z y (show y ≠ x by omega)]
  exact h.kept y hy hX hM hv hu
theorem LvF.blk (h : LvF W W' X M v v' u u') {x : Nat} {t : TypeId} {cs : Array Value} (hB : Blk W x t cs) (hX : x ≠ X) (hM : x ≠ M) (hv : some x ≠ v.ownBlock) (hu : some x ≠ u.ownBlock) : Blk W' x t cs := (h.kept x hB.lt hX hM hv hu).trans hB
end
section
variable {T : TypeId} {w0 W W' : World} {X M : Nat} {z : Value} {A : Option Addr} {n c : Nat} {B : Option Addr} {m d : Nat} {rs : List Fac} {ds : List Int}
theorem LvG.next (h : LvG T w0 W X z A n c B m d rs ds) (hb : Below W.heap.size W W') : LvG T w0 W' X z A n c B m d rs ds :=
  ⟨own_next h.q hb, own_next h.k hb, h.x.next hb, h.e.trans (hb.mono h.e.size), h.hx, h.t1, h.t2⟩
theorem LvG.alloc (h : LvG T w0 W X z A n c B m d rs ds) (o : Obj) : LvG T w0 (W.alloc o) X z A n c B m d rs ds := h.next ((Below.refl _ _).alloc (Nat.le_refl _) _)
theorem LvG.drew (h : LvG T w0 W X z A n c B m d rs ds) : LvG T w0 W.drew X z A n c B m d rs ds := h.next (Below.refl _ _).drew
/-- the rules grow; the box is not yet told -/
structure LvG' (T : TypeId) (w0 W : World) (X : Nat) (z : Value) (A : Option Addr) (n c : Nat) (B : Option Addr) (m d : Nat) (rs : List Fac) (ds : List Int) (vx ux : Value) : Prop where
  q : W.ownsRow w0.heap.size 59 3 (.slice A n c) n (rs.flatMap Fac.cells)
  k : W.ownsRow w0.heap.size 2 1 (.slice B m d) m (ds.flatMap intE)
  x : Blk W X T #[vx, ux, z]
  e : Below w0.heap.size w0 W
  hx : w0.heap.size ≤ X
  t1 : 59 ≠ T
  t2 : 2 ≠ T
theorem LvG.open (h : LvG T w0 W X z A n c B m d rs ds) : LvG' T w0 W X z A n c B m d rs ds (.slice A n c) (.slice B m d) := ⟨h.q, h.k, h.x, h.e, h.hx, h.t1, h.t2⟩
theorem LvG'.shut (h : LvG' T w0 W X z A n c B m d rs ds (.slice A n c) (.slice B m d)) : LvG T w0 W X z A n c B m d rs ds := ⟨h.q, h.k, h.x, h.e, h.hx, h.t1, h.t2⟩
variable {vx ux : Value}
theorem LvG'.next (h : LvG' T w0 W X z A n c B m d rs ds vx ux) (hb : Below W.heap.size W W') : LvG' T w0 W' X z A n c B m d rs ds vx ux :=
  ⟨own_next h.q hb, own_next h.k hb, h.x.next hb, h.e.trans (hb.mono h.e.size), h.hx, h.t1, h.t2⟩
theorem LvG'.alloc (h : LvG' T w0 W X z A n c B m d rs ds vx ux) (o : Obj) : LvG' T w0 (W.alloc o) X z A n c B m d rs ds vx ux := h.next ((Below.refl _ _).alloc (Nat.le_refl _) _)
theorem LvG'.drew (h : LvG' T w0 W X z A n c B m d rs ds vx ux) : LvG' T w0 W.drew X z A n c B m d rs ds vx ux := h.next (Below.refl _ _).drew
theorem LvG'.pushR {A8 : Option Addr} {k8 c8 : Nat} {rs' : List Fac} (h : LvG' T w0 W X z A n c B m d rs ds vx ux) (hq : W'.ownsRow w0.heap.size 59 3 (.slice A8 k8 c8) k8 (rs'.flatMap Fac.cells)) (hg : W.grownBy W' (Value.slice A n c).ownBlock) :
    LvG' T w0 W' X z A8 k8 c8 B m d rs' ds vx ux :=
  ⟨hq, h.k.kept hg (own_ne h.k h.q (by decide)), h.x.grown hg (own_blk_ne h.q h.x h.t1), h.e.grown hg h.e.size (own_ge h.q), h.hx, h.t1, h.t2⟩
theorem LvG'.pushD {B8 : Option Addr} {k8 c8 : Nat} {ds' : List Int} (h : LvG' T w0 W X z A n c B m d rs ds vx ux) (hq : W'.ownsRow w0.heap.size 2 1 (.slice B8 k8 c8) k8 (ds'.flatMap intE)) (hg : W.grownBy W' (Value.slice B m d).ownBlock) :
    LvG' T w0 W' X z A n c B8 k8 c8 rs ds' vx ux :=
  ⟨h.q.kept hg (own_ne h.q h.k (by decide)), hq, h.x.grown hg (own_blk_ne h.k h.x h.t2), h.e.grown hg h.e.size (own_ge h.k), h.hx, h.t1, h.t2⟩
theorem LvG'.set0 (h : LvG' T w0 W X z A n c B m d rs ds vx ux) (y : Value) : LvG' T w0 (W.setCell ⟨X, 0, none⟩ y) X z A n c B m d rs ds y ux :=
  ⟨own_kept' h.q h.x h.t1 _, own_kept' h.k h.x h.t2 _, h.x.set_ 0 _, h.e.setCell h.hx _, h.hx, h.t1, h.t2⟩
theorem LvG'.set1 (h : LvG' T w0 W X z A n c B m d rs ds vx ux) (y : Value) : LvG' T w0 (W.setCell ⟨X, 1, none⟩ y) X z A n c B m d rs ds vx y :=
  ⟨own_kept' h.q h.x h.t1 _, own_kept' h.k h.x h.t2 _, h.x.set_ 1 _, h.e.setCell h.hx _, h.hx, h.t1, h.t2⟩
theorem LvG'.set2 (h : LvG' T w0 W X z A n c B m d rs ds vx ux) (y : Value) : LvG' T w0 (W.setCell ⟨X, 2, none⟩ y) X y A n c B m d rs ds vx ux :=
  ⟨own_kept' h.q h.x h.t1 _, own_kept' h.k h.x h.t2 _, h.x.set_ 2 _, h.e.setCell h.hx _, h.hx, h.t1, h.t2⟩
theorem LvG'.put {mm : List (Fac × Value)} (h : LvG' T w0 W X z A n c B m d rs ds vx ux) (hm : MapIs W M Fac.val mm) (hne : M ≠ X) (hg : W.grownBy W' (some M)) (hb : Below w0.heap.size w0 W') : LvG' T w0 W' X z A n c B m d rs ds vx ux :=
  have ne : ∀ {e sz n : Nat} {v : Value} {xs : List Value}, W.ownsRow w0.heap.size e sz v n xs → v.ownBlock = none ∨ v.ownBlock ≠ some M := fun ho => by
    have := hm.ne_own ho
    exact .inr fun e => this e.symm
  ⟨h.q.kept hg (ne h.q), h.k.kept hg (ne h.k), h.x.grown hg (by intro e; injection e with e; exact hne e.symm), hb, h.hx, h.t1, h.t2⟩
/-- what may be read -/
theorem LvG.red (h : LvG T w0 W X z A n c B n d rs ds) (hr : rs.length = n) (hd : ds.length = n) (hn : 0 < n) : ∃ ga gb, A = some ⟨ga, 0, none⟩ ∧ B = some ⟨gb, 0, none⟩ ∧ ga < W.heap.size ∧ gb < W.heap.size ∧
    ∀ k : Nat, k < n → W.cell? ⟨gb, k, none⟩ = some (.int .i64 (lvD ⟨rs, ds⟩ k)) ∧ W.cell? ⟨ga, k * 3, none⟩ = some (.string (lvR ⟨rs, ds⟩ k).l) ∧ W.cell? ⟨ga, k * 3 + 1, none⟩ = some (.int .i64 (lvR ⟨rs, ds⟩ k).a) ∧ W.cell? ⟨ga, k * 3 + 2, none⟩ = some (.int .i64 (lvR ⟨rs, ds⟩ k).b) := by
  obtain ⟨ga, ca, hva, hga0, hga1⟩ := h.q.form hn
  obtain ⟨gb, cb, hvb, hgb0, hgb1⟩ := h.k.form hn
  obtain rfl : A = some ⟨ga, 0, none⟩ := by injection hva
  obtain rfl : B = some ⟨gb, 0, none⟩ := by injection hvb
  refine ⟨ga, gb, rfl, rfl, by have := h.q.lt ga rfl; omega, by have := h.k.lt gb rfl; omega, fun k hk => ?_⟩
  have a1 := own_at (sz := 1) (enc := intE) (fun _ _ => rfl) h.k hd 0 k hk 0 (by omega)
  have r0 := own_at (sz := 3) (enc := Fac.cells) (fun x _ => fac_len x) h.q hr default k hk 0 (by omega)
  have r1 := own_at (sz := 3) (enc := Fac.cells) (fun x _ => fac_len x) h.q hr default k hk 1 (by omega)
  have r2 := own_at (sz := 3) (enc := Fac.cells) (fun x _ => fac_len x) h.q hr default k hk 2 (by omega)
  rw [Nat.mul_one, Nat.add_zero] at a1
  rw [Nat.add_zero] at r0
  exact ⟨a1, r0, r1, r2⟩
end
end Go.Proofs.Ytajfjgemfnfakaa


/-
  A grammar trimmed: the rules that are left, written down.
-/
namespace Go.Proofs.Ytajfjgemfnfakaa
open Go.RowKit

theorem info_bool : (Try.prog.info? 4).map (fun i => (i.zero, i.size, i.bytes)) = some (some (.bool false), 1, 1) := by kernel_rfl
def boolA (u : List Bool) : Array Value := (u.map Value.bool).toArray
theorem boolA_made (n : Nat) : madeCells (Value.bool false).cells (n * 1) = boolA (List.replicate n false) := by
  apply Array.ext
  · simp [size_madeCells, boolA]
  · intro i h1 h2
    simp [madeCells, Value.cells, boolA, Nat.mod_one]
theorem boolA_set (u : List Bool) (i : Nat) (b : Bool) : (boolA u).setIfInBounds i (.bool b) = boolA (u.set i b) := by
  unfold boolA
  apply Array.ext'
  simp [List.map_set]
theorem boolA_at (u : List Bool) {i : Nat} (h : i < u.length) : (boolA u)[i]? = some (.bool (u.getD i false)) := by
  simp [boolA, List.getD_eq_getElem?_getD, List.getElem?_eq_getElem h]
theorem makeB (n : Nat) (W : World) (hn : n ≤ 1048576) : (Instr.makeSlice 90 (.int .i64 (n : Int)) (.int .i64 (n : Int))).run Try.prog W = .ok (.slice (some ⟨W.heap.size, 0, none⟩) n n) (W.alloc (.cells (boolA (List.replicate n false)) 4)) := by
  obtain ⟨i0, hi, hz0, hz1, hz2⟩ := info_parts info_bool
  have hmk := run_make_rowN (P := Try.prog) 90 4 i0 _ Try.underlying90 hi hz0 .i64 .i64 n n (Nat.le_refl _) (by rw [hz2]; omega) (by omega) W
  rw [hz1, boolA_made] at hmk
  exact hmk
def intA (u : List Int) : Array Value := (u.map (Value.int .i64)).toArray
theorem intA_made (n : Nat) : madeCells (Value.int .i64 0).cells (n * 1) = intA (List.replicate n 0) := by
  apply Array.ext
  · simp [size_madeCells, intA]
  · intro i h1 h2
    simp [madeCells, Value.cells, intA, Nat.mod_one]
theorem intA_set (u : List Int) (i : Nat) (b : Int) : (intA u).setIfInBounds i (.int .i64 b) = intA (u.set i b) := by
  unfold intA
  apply Array.ext'
  simp [List.map_set]
theorem intA_at (u : List Int) {i : Nat} (h : i < u.length) : (intA u)[i]? = some (.int .i64 (u.getD i 0)) := by
  simp [intA, List.getD_eq_getElem?_getD, List.getElem?_eq_getElem h]
theorem info_i64' : (Try.prog.info? 2).map (fun i => (i.zero, i.size, i.bytes)) = some (some (.int .i64 0), 1, 8) := by kernel_rfl
theorem makeN (n : Nat) (W : World) (hn : n ≤ 1048576) : (Instr.makeSlice 55 (.int .i64 (n : Int)) (.int .i64 (n : Int))).run Try.prog W = .ok (.slice (some ⟨W.heap.size, 0, none⟩) n n) (W.alloc (.cells (intA (List.replicate n 0)) 2)) := by
  obtain ⟨i0, hi, hz0, hz1, hz2⟩ := info_parts info_i64'
  have hmk := run_make_rowN (P := Try.prog) 55 2 i0 _ Try.underlying55 hi hz0 .i64 .i64 n n (Nat.le_refl _) (by rw [hz2]; omega) (by omega) W
  rw [hz1, intA_made] at hmk
  exact hmk
theorem news1 {W : World} {g : Nat} {t : TypeId} {y : Fac} (h : Blk W g t #[.string y.l, .int .i64 y.a, .int .i64 y.b]) : ∀ j u, ([y].flatMap Fac.cells)[j]? = some u → W.cell? ((⟨g, 0, none⟩ : Addr).add j) = some u := by
  intro j u hj
  have e : ((⟨g, 0, none⟩ : Addr).add j) = ⟨g, j, none⟩ := by
    simp only [Addr.add, Nat.zero_add]
    by_cases h0 : j = 0
    · subst h0; rfl
    · simp [h0]
  rw [e, h.cell j]
  simpa [Fac.cells] using hj
/-- the last round of 'trimmed' under way -/
structure OutW (O : Nat) (w W : World) (A4 : Option Addr) (c4 k : Nat) (kept : List Fac) (X U : Nat) (u : List Bool) (V : Nat) (at_ : List Int) (B : Nat) (A7 : Option Addr) (nn c7 : Nat) (out : List Fac) : Prop where
  r : W.ownsRow w.heap.size 59 3 (.slice A4 k c4) k (kept.flatMap Fac.cells)
  u : Blk W U 4 (boolA u)
  v : Blk W V 2 (intA at_)
  b : Blk W B 26 #[.slice A7 nn c7]
  o : Blk W O 26 #[.slice none 0 0]
  q : W.ownsRow X 59 3 (.slice A7 nn c7) nn (out.flatMap Fac.cells)
  e : Below w.heap.size w W
  n0 : w.heap.size ≤ O
  n1 : O < B
  n2 : B < X
  n3 : w.heap.size ≤ U
  n4 : w.heap.size ≤ V
  n5 : X ≤ W.heap.size
  n6 : ∀ q, (Value.slice A4 k c4).ownBlock = some q → q < X
section
variable {O : Nat} {w W W' : World} {A4 : Option Addr} {c4 k : Nat} {kept : List Fac} {X U : Nat} {u : List Bool} {V : Nat} {at_ : List Int} {B : Nat} {A7 : Option Addr} {nn c7 : Nat} {out : List Fac}
theorem OutW.next (h : OutW O w W A4 c4 k kept X U u V at_ B A7 nn c7 out) (hb : Below W.heap.size W W') : OutW O w W' A4 c4 k kept X U u V at_ B A7 nn c7 out :=
  ⟨own_next h.r hb, h.u.next hb, h.v.next hb, h.b.next hb, h.o.next hb, own_next h.q hb, h.e.trans (hb.mono h.e.size), h.n0, h.n1, h.n2, h.n3, h.n4, Nat.le_trans h.n5 hb.size, h.n6⟩
theorem OutW.alloc (h : OutW O w W A4 c4 k kept X U u V at_ B A7 nn c7 out) (o : Obj) : OutW O w (W.alloc o) A4 c4 k kept X U u V at_ B A7 nn c7 out := h.next ((Below.refl _ _).alloc (Nat.le_refl _) _)
theorem OutW.drew (h : OutW O w W A4 c4 k kept X U u V at_ B A7 nn c7 out) : OutW O w W.drew A4 c4 k kept X U u V at_ B A7 nn c7 out := h.next (Below.refl _ _).drew
/-- the cells of a block made later put -/
theorem OutW.far {Z : Nat} (h : OutW O w W A4 c4 k kept X U u V at_ B A7 nn c7 out) (hg : W.grownBy W' (some Z)) (h1 : some Z ≠ (Value.slice A4 k c4).ownBlock) (h2 : some Z ≠ (Value.slice A7 nn c7).ownBlock) (h3 : Z ≠ U) (h4 : Z ≠ V) (h5 : Z ≠ B) (h6 : O < Z) :
    OutW O w W' A4 c4 k kept X U u V at_ B A7 nn c7 out := by
  have t : ∀ g : Nat, Z ≠ g → some g ≠ some Z := fun g hne e => hne (by injection e with e; exact e.symm)
  exact ⟨h.r.kept hg (.inr fun e => h1 e.symm), h.u.grown hg (t _ h3), h.v.grown hg (t _ h4), h.b.grown hg (t _ h5), h.o.grown hg (t _ (by omega)), h.q.kept hg (.inr fun e => h2 e.symm),
    h.e.grown hg h.e.size (fun q hq => by injection hq with hq; have := h.n0; omega), h.n0, h.n1, h.n2, h.n3, h.n4, Nat.le_trans h.n5 hg.size, h.n6⟩
/-- a number told -/
theorem OutW.tell (h : OutW O w W A4 c4 k kept X U u V at_ B A7 nn c7 out) (i : Nat) (z : Int) : OutW O w (W.setCell ⟨V, i, none⟩ (.int .i64 z)) A4 c4 k kept X U u V (at_.set i z) B A7 nn c7 out := by
  have hg := gb_set W V i (.int .i64 z)
  have nt : ∀ {g : Nat} {t : TypeId} {cs : Array Value}, Blk W g t cs → t ≠ 2 → some g ≠ some V := fun hB hne e => by
    injection e with e; subst e
    have := hB.symm.trans h.v
    injection this with this; injection this with _ this; exact hne this
  refine ⟨h.r.kept hg (.inr fun e => own_blk_ne h.r h.v (by decide) e.symm), h.u.grown hg (nt h.u (by decide)), ?_, h.b.grown hg (nt h.b (by decide)), h.o.grown hg (nt h.o (by decide)), h.q.kept hg (.inr fun e => own_blk_ne h.q h.v (by decide) e.symm),
    h.e.grown hg h.e.size (fun q hq => by injection hq with hq; have := h.n4; omega), h.n0, h.n1, h.n2, h.n3, h.n4, Nat.le_trans h.n5 hg.size, h.n6⟩
  have := h.v.set_ i (.int .i64 z)
  rw [intA_set] at this; exact this
/-- one rule more, told to the box as well -/
theorem OutW.push {A8 : Option Addr} {k8 c8 : Nat} {out' : List Fac} (h : OutW O w W A4 c4 k kept X U u V at_ B A7 nn c7 out) (hq : W'.ownsRow X 59 3 (.slice A8 k8 c8) k8 (out'.flatMap Fac.cells)) (hg : W.grownBy W' (Value.slice A7 nn c7).ownBlock) :
    OutW O w (W'.setCell ⟨B, 0, none⟩ (.slice A8 k8 c8)) A4 c4 k kept X U u V at_ B A8 k8 c8 out' := by
  have hb' : Blk W' B 26 #[.slice A7 nn c7] := h.b.grown hg (own_blk_ne h.q h.b (by decide))
  have hu' := h.u.grown hg (own_blk_ne h.q h.u (by decide))
  have hv' := h.v.grown hg (own_blk_ne h.q h.v (by decide))
  have ho' := h.o.grown hg (own_blk_ne h.q h.o (by decide))
  have hr' : W'.ownsRow w.heap.size 59 3 (.slice A4 k c4) k (kept.flatMap Fac.cells) := h.r.kept hg (by
    cases hv : (Value.slice A4 k c4).ownBlock with
    | none => exact .inl rfl
    | some q => exact .inr fun e => by have h1 := h.n6 q hv; have h2 := own_ge h.q q e.symm; omega)
  have he' := h.e.grown hg h.e.size (fun q hq' => by have := own_ge h.q q hq'; have := h.n0; have := h.n2; have := h.n1; omega)
  have hg2 := gb_set W' B 0 (.slice A8 k8 c8)
  have nt : ∀ {g : Nat} {t : TypeId} {cs : Array Value}, Blk W' g t cs → t ≠ 26 → some g ≠ some B := fun hB hne e => by
    injection e with e; subst e
    have := hB.symm.trans hb'
    injection this with this; injection this with _ this; exact hne this
  refine ⟨hr'.kept hg2 (.inr fun e => own_blk_ne hr' hb' (by decide) e.symm), hu'.grown hg2 (nt hu' (by decide)), hv'.grown hg2 (nt hv' (by decide)), ?_, ho'.grown hg2 (by intro e; injection e with e; have := h.n0; have := h.n1; omega), hq.kept hg2 (.inr fun e => own_blk_ne hq hb' (by decide) e.symm),
    he'.grown hg2 he'.size (fun q hq => by injection hq with hq; have := h.n0; have := h.n1; omega), h.n0, h.n1, h.n2, h.n3, h.n4, Nat.le_trans (Nat.le_trans h.n5 hg.size) hg2.size, h.n6⟩
  exact hb'.set_ 0 _
end
end Go.Proofs.Ytajfjgemfnfakaa


/-
  A grammar trimmed by the program.
-/
namespace Go.Proofs.Ytajfjgemfnfakaa
open Go.RowKit

theorem pair64_any (a b : Int) (w : World) (ha : -9223372036854775808 ≤ a ∧ a ≤ 9223372036854775807) (hb : -9223372036854775808 ≤ b ∧ b ≤ 9223372036854775807) : Calls Try.prog 51 #[.int .i64 a, .int .i64 b] w (Ret (Fac.val ⟨⟨#[]⟩, a, b⟩) w) := by
  have u1 : IntKind.i64.wrap a = a := IntWalk.i64_in _ (by omega)
  have u2 : IntKind.i64.wrap b = b := IntWalk.i64_in _ (by omega)
  go_enter Try.func51, Try.ntmps51
  go_wp2
  refine bodyPost_ret (v := Fac.val ⟨⟨#[]⟩, a, b⟩) (by simp [results, Try.results51, go_sem, Fac.val]; try rfl) rfl ⟨rfl, ?_⟩
  (repeat first | exact Below.refl _ _ | assumption | refine Below.drew ?_ | refine Below.alloc ?_ (by first | exact Nat.le_refl _ | (simp; done) | omega | (simp; omega)) _ | refine Below.setCell ?_ (by first | exact Nat.le_refl _ | (simp; done) | omega | (simp; omega)) _)
/-- the first round of 'trimmed' under way: what the call has made -/
structure TrW (w W : World) (A : Option Addr) (n c k : Nat) (A4 : Option Addr) (c4 k6 : Nat) (A6 : Option Addr) (c6 : Nat) (kept : List Fac) (same : List Int) (m : List (Fac × Value)) : Prop where
  r : W.ownsRow w.heap.size 59 3 (.slice A4 k c4) k (kept.flatMap Fac.cells)
  s : W.ownsRow w.heap.size 2 1 (.slice A6 k6 c6) k6 (same.flatMap intE)
  m : MapIs W (w.heap.size + 3) Fac.val m
  g : Blk W w.heap.size 26 #[.slice A n c]
  o : Blk W (w.heap.size + 1) 26 #[.slice none 0 0]
  e : Below w.heap.size w W
section
variable {w W W' : World} {A : Option Addr} {n c k k6 : Nat} {A4 : Option Addr} {c4 : Nat} {A6 : Option Addr} {c6 : Nat} {kept : List Fac} {same : List Int} {m : List (Fac × Value)}
theorem TrW.next (h : TrW w W A n c k A4 c4 k6 A6 c6 kept same m) (hb : Below W.heap.size W W') : TrW w W' A n c k A4 c4 k6 A6 c6 kept same m :=
  ⟨own_next h.r hb, own_next h.s hb, h.m.next hb, h.g.next hb, h.o.next hb, h.e.trans (hb.mono h.e.size)⟩
theorem TrW.alloc (h : TrW w W A n c k A4 c4 k6 A6 c6 kept same m) (o : Obj) : TrW w (W.alloc o) A n c k A4 c4 k6 A6 c6 kept same m := h.next ((Below.refl _ _).alloc (Nat.le_refl _) _)
theorem TrW.drew (h : TrW w W A n c k A4 c4 k6 A6 c6 kept same m) : TrW w W.drew A n c k A4 c4 k6 A6 c6 kept same m := h.next (Below.refl _ _).drew
/-- all that the call has made so far lies below a block that it makes next -/
theorem TrW.bnd (h : TrW w W A n c k A4 c4 k6 A6 c6 kept same m) : (∀ q, (Value.slice A4 k c4).ownBlock = some q → q < W.heap.size) ∧ (∀ q, (Value.slice A6 k6 c6).ownBlock = some q → q < W.heap.size) ∧ w.heap.size + 3 < W.heap.size :=
  ⟨fun q hq => (h.r.lt q hq).2, fun q hq => (h.s.lt q hq).2, h.m.lt⟩
/-- an entry put into the map -/
theorem TrW.put {m' : List (Fac × Value)} (h : TrW w W A n c k A4 c4 k6 A6 c6 kept same m) (hm : MapIs W' (w.heap.size + 3) Fac.val m') (hg : W.grownBy W' (some (w.heap.size + 3))) (hb : Below w.heap.size w W') : TrW w W' A n c k A4 c4 k6 A6 c6 kept same m' :=
  have ne : ∀ {e sz n : Nat} {v : Value} {xs : List Value}, W.ownsRow w.heap.size e sz v n xs → v.ownBlock = none ∨ v.ownBlock ≠ some (w.heap.size + 3) := fun ho => by
    have := h.m.ne_own ho
    exact .inr fun e => this e.symm
  ⟨h.r.kept hg (ne h.r), h.s.kept hg (ne h.s), hm, h.g.grown hg (by intro e; injection e with e; omega), h.o.grown hg (by intro e; injection e with e; omega), hb⟩
/-- one rule more -/
theorem TrW.pushR {A8 : Option Addr} {k8 c8 : Nat} {kept' : List Fac} (h : TrW w W A n c k A4 c4 k6 A6 c6 kept same m) (ho : W'.ownsRow w.heap.size 59 3 (.slice A8 k8 c8) k8 (kept'.flatMap Fac.cells)) (hg : W.grownBy W' (Value.slice A4 k c4).ownBlock) :
    TrW w W' A n c k8 A8 c8 k6 A6 c6 kept' same m :=
  ⟨ho, h.s.kept hg (own_ne h.s h.r (by decide)), h.m.grown hg (h.m.ne_own h.r), h.g.grown hg (own_blk_ne h.r h.g (by decide)), h.o.grown hg (own_blk_ne h.r h.o (by decide)), h.e.grown hg h.e.size (own_ge h.r)⟩
/-- one number more -/
theorem TrW.pushS {A8 : Option Addr} {k8 c8 : Nat} {same' : List Int} (h : TrW w W A n c k A4 c4 k6 A6 c6 kept same m) (ho : W'.ownsRow w.heap.size 2 1 (.slice A8 k8 c8) k8 (same'.flatMap intE)) (hg : W.grownBy W' (Value.slice A6 k6 c6).ownBlock) :
    TrW w W' A n c k A4 c4 k8 A8 c8 kept same' m :=
  ⟨h.r.kept hg (own_ne h.r h.s (by decide)), ho, h.m.grown hg (h.m.ne_own h.s), h.g.grown hg (own_blk_ne h.s h.g (by decide)), h.o.grown hg (own_blk_ne h.s h.o (by decide)), h.e.grown hg h.e.size (own_ge h.s)⟩
/-- three cells of a block of another kind put -/
theorem TrW.box3 {B : Nat} (h : TrW w W A n c k A4 c4 k6 A6 c6 kept same m) (hB : w.heap.size ≤ B) (hb : (∀ q, (Value.slice A4 k c4).ownBlock = some q → q < B) ∧ (∀ q, (Value.slice A6 k6 c6).ownBlock = some q → q < B) ∧ w.heap.size + 3 < B) (x y z : Value) :
    TrW w (((W.setCell ⟨B, 0, none⟩ x).setCell ⟨B, 1, none⟩ y).setCell ⟨B, 2, none⟩ z) A n c k A4 c4 k6 A6 c6 kept same m := by
  obtain ⟨h4, h6, hm⟩ := hb
  have hg : W.grownBy (((W.setCell ⟨B, 0, none⟩ x).setCell ⟨B, 1, none⟩ y).setCell ⟨B, 2, none⟩ z) (some B) := gb_setCell (gb_setCell (gb_set W B 0 x) 1 y) 2 z
  have ne : ∀ (v : Value), (∀ q, v.ownBlock = some q → q < B) → v.ownBlock = none ∨ v.ownBlock ≠ some B := fun v hv => by
    cases hq : v.ownBlock with
    | none => exact .inl rfl
    | some q => exact .inr fun e => by have := hv q hq; injection e with e; omega
  exact ⟨h.r.kept hg (ne _ h4), h.s.kept hg (ne _ h6), h.m.grown hg (by intro e; injection e with e; omega), h.g.grown hg (by intro e; injection e with e; omega), h.o.grown hg (by intro e; injection e with e; omega),
    h.e.grown hg h.e.size (fun q hq => by injection hq with hq; omega)⟩
/-- a cell of a block made later put -/
theorem TrW.set1 {B : Nat} (h : TrW w W A n c k A4 c4 k6 A6 c6 kept same m) (hB : w.heap.size ≤ B) (hb : (∀ q, (Value.slice A4 k c4).ownBlock = some q → q < B) ∧ (∀ q, (Value.slice A6 k6 c6).ownBlock = some q → q < B) ∧ w.heap.size + 3 < B) (i : Nat) (x : Value) :
    TrW w (W.setCell ⟨B, i, none⟩ x) A n c k A4 c4 k6 A6 c6 kept same m := by
  obtain ⟨h4, h6, hm⟩ := hb
  have hg : W.grownBy (W.setCell ⟨B, i, none⟩ x) (some B) := gb_set W B i x
  have ne : ∀ (v : Value), (∀ q, v.ownBlock = some q → q < B) → v.ownBlock = none ∨ v.ownBlock ≠ some B := fun v hv => by
    cases hq : v.ownBlock with
    | none => exact .inl rfl
    | some q => exact .inr fun e => by have := hv q hq; injection e with e; omega
  exact ⟨h.r.kept hg (ne _ h4), h.s.kept hg (ne _ h6), h.m.grown hg (by intro e; injection e with e; omega), h.g.grown hg (by intro e; injection e with e; omega), h.o.grown hg (by intro e; injection e with e; omega),
    h.e.grown hg h.e.size (fun q hq => by injection hq with hq; omega)⟩
end
set_option maxHeartbeats 4000000 in
set_option maxRecDepth 100000 in
theorem trimmed_any (A : Option Addr) (n c : Nat) (rs : List Fac) (w : World) (hn : n ≤ 1048576) (hr : Rd w w.heap.size A n 3 Fac.cells rs) (hwf : WF rs) :
    Calls Try.prog 31 #[.agg #[.slice A n c]] w (RetG w (trimL rs)) := by
  have hl := Lib.hid hr.len
  have HR := Lib.hid hr; clear hr
  have HWF := Lib.hid hwf; clear hwf
  rcases Nat.eq_zero_or_pos n with hn0 | hn0
  · subst hn0
    have ev := Lib.hid (show trimL rs = [] by unfold trimL; rw [if_pos hl.out])
    go_enter Try.func31, Try.ntmps31
    go_wp2_with fail
    refine bodyPost_ret (v := .agg #[.slice none 0 0]) (by simp [results, Try.results31, go_sem]) rfl ⟨none, 0, by rw [ev.out]; rfl, ?_, ?_⟩
    · rw [ev.out]; exact World.ownsRow_nil _ _ _ _
    · (repeat first | exact Below.refl _ _ | assumption | refine Below.drew ?_ | refine Below.alloc ?_ (by first | exact Nat.le_refl _ | (simp; done) | omega | (simp; omega)) _ | refine Below.setCell ?_ (by first | exact Nat.le_refl _ | (simp; done) | omega | (simp; omega)) _)
  have hn0' : ((n : Int) == 0) = false := by simp; omega
  have hmm := @run_makeMap Try.prog
  go_enter Try.func31, Try.ntmps31
  go_wp2_with fail
  refine named fun w0 H0 => ?_
  have T0 : TrW w w0 A n c 0 (some ⟨w.heap.size + 1 + 1, 0, none⟩) 0 0 (some ⟨w.heap.size + 1 + 1 + 1 + 1, 0, none⟩) 0 [] [] [] := by
    rw [H0.out]
    refine ⟨?_, ?_, ?_, ?_, ?_, by (repeat first | exact Below.refl _ _ | assumption | refine Below.drew ?_ | refine Below.alloc ?_ (by first | exact Nat.le_refl _ | (simp; done) | omega | (simp; omega)) _ | refine Below.setCell ?_ (by first | exact Nat.le_refl _ | (simp; done) | omega | (simp; omega)) _)⟩
    · have h := World.ownsRow_made (base := w.heap.size) (e := 59) (size := 3) ((w.alloc (.cells #[.slice A n c] 26)).alloc (.cells #[.slice none 0 0] 26)) #[] 0 (by simp; omega) (by unfold maxLen; omega) rfl
      simpa using (h.alloc _).alloc _
    · have h := World.ownsRow_made (base := w.heap.size) (e := 2) (size := 1) ((((w.alloc (.cells #[.slice A n c] 26)).alloc (.cells #[.slice none 0 0] 26)).alloc (.cells #[] 59)).alloc (.map #[] 0)) #[] 0 (by simp; omega) (by unfold maxLen; omega) rfl
      simpa using h
    · have h := MapIs.made (((w.alloc (.cells #[.slice A n c] 26)).alloc (.cells #[.slice none 0 0] 26)).alloc (.cells #[] 59)) Fac.val
      simpa using h.alloc _
    · exact ((((Blk.new w _ _).alloc _).alloc _).alloc _).alloc _
    · simpa using (((Blk.new (w.alloc _) _ _).alloc _).alloc _).alloc _
  have T0' := Lib.hid T0
  clear T0 H0 hmm hn0'
  have zr := Try.prog
  clear zr
  go_loopw [4, 6, 30] (fun r_ s_ i_ w' => ∃ (k : Nat) (A4 : Option Addr) (c4 : Nat) (A6 : Option Addr) (c6 : Nat) (kept : List Fac) (same : List Int) (m : List (Fac × Value)), i_ = .int .i64 k ∧ r_ = .slice A4 k c4 ∧ s_ = .slice A6 k c6 ∧ k ≤ n ∧ Hid (TrW w w' A n c k A4 c4 k A6 c6 kept same m) ∧
      Hid (∀ f, mget f m = if f ∈ kept then some (.int .i64 ((kept.idxOf f : Nat) : Int)) else none) ∧ Hid (TrI kept same) ∧ Hid (kept.length = k) ∧ Hid (trK (rs.drop k) kept same = trK rs [] [])) (fun _ _ i_ _ => n - (intOf i_).toNat)
  case atStart => exact ⟨0, _, 0, _, 0, [], [], [], rfl, rfl, rfl, by omega, T0', Lib.hid (fun f => rfl), Lib.hid TrI.nil, Lib.hid rfl, Lib.hid rfl⟩
  case round =>
    obtain ⟨k, A4, c4, A6, c6, kept, same, m, rfl, rfl, rfl, hk, TR, HM, HI, hkl, HK⟩ := hrel
    by_cases hlt : k < n
    · obtain ⟨b, o, x, rfl, hB, gx, c0, c1, c2⟩ := (HR.out.below TR.out.e).fac hlt
      have hBr : b < wr.heap.size := by have := TR.out.e.size; omega
      have Hstep := Lib.hid (trK_take rs gx HK.out)
      have HI2 := Lib.hid (HI.out.step HWF.out (by rw [hkl.out]; exact gx))
      have hsl := Lib.hid (HI.out.len.trans hkl.out)
      have Gx := Lib.hid gx
      clear gx
      obtain ⟨pb, hpb⟩ : ∃ pb, isP x = pb := ⟨_, rfl⟩
      have Hpb := Lib.hid hpb; clear hpb
      go_upto_if 36 with (go_at_call 27; refine (isPair_any x pb _ Hpb.out).mono ?_; rintro e w1 ⟨rfl, hb1'⟩)
      have b1 : Below wr.heap.size wr w1 := ((Below.refl wr.heap.size wr).alloc (Nat.le_refl _) _).trans (hb1'.mono (by simp))
      have TR1 := Lib.hid (TR.out.next b1)
      have BX1 := Lib.hid ((Blk.new wr 59 #[.string x.l, .int .i64 x.a, .int .i64 x.b]).next hb1')
      have zb := b1.size
      go_cut [] (fun wx => Hid (TrW w wx (some ⟨b, o, none⟩) n c k A4 c4 k A6 c6 kept same m) ∧ Hid (Blk wx wr.heap.size 59 #[.string (trR same x).l, .int .i64 (trR same x).a, .int .i64 (trR same x).b]))
      case first =>
        rcases HWF.out k x Gx.out with ⟨h0, ha0, ha1, hb0, hb1⟩ | ⟨cc, hcc, hxl, hxa, hxb⟩
        · obtain rfl : true = pb := by rw [← Hpb.out]; simp [isP, h0]
          have Hy := Lib.hid (show trR same x = ⟨⟨#[]⟩, same.getD x.a.toNat 0, same.getD x.b.toNat 0⟩ by unfold trR; rw [if_pos h0])
          have s1 := HI.out.s x.a.toNat (by have := hkl.out; omega)
          have s2 := HI.out.s x.b.toNat (by have := hkl.out; omega)
          obtain ⟨g6, cp6, hv6, hg60, hg61⟩ := TR1.out.s.form (by omega)
          obtain rfl : A6 = some ⟨g6, 0, none⟩ := by injection hv6
          have va : w1.cell? ⟨g6, x.a.toNat, none⟩ = some (.int .i64 (same.getD x.a.toNat 0)) := by
            have := own_at (sz := 1) (enc := intE) (fun _ _ => rfl) TR1.out.s hsl.out 0 x.a.toNat (by omega) 0 (by omega)
            rw [Nat.mul_one, Nat.add_zero] at this; exact this
          have vb : w1.cell? ⟨g6, x.b.toNat, none⟩ = some (.int .i64 (same.getD x.b.toNat 0)) := by
            have := own_at (sz := 1) (enc := intE) (fun _ _ => rfl) TR1.out.s hsl.out 0 x.b.toNat (by omega) 0 (by omega)
            rw [Nat.mul_one, Nat.add_zero] at this; exact this
          generalize same.getD x.a.toNat 0 = sa at *
          generalize same.getD x.b.toNat 0 = sb at *
          obtain ⟨d0, d1, d2⟩ := BX1.out.three
          have lx := BX1.out.lt
          have i1 : x.a < (k : Int) := ha1
          have i2 : x.b < (k : Int) := hb1
          clear hv6
          go_wp2_with fail
          go_region_with
            (first
              | (go_at_call 51
                 refine (pair64_any sa sb w1.drew (by omega) (by omega)).mono ?_
                 rintro e wm ⟨rfl, hbm⟩
                 have bm : Below w1.heap.size w1 wm := (Below.refl _ _).drew.trans hbm
                 have BXm := Lib.hid (BX1.out.next bm)
                 have fm := BXm.out.frozen
                 have lm := BXm.out.lt
                 obtain ⟨m0, m1, m2⟩ := BXm.out.three)
              | fail)
          all_goals
            go_wp2_with fail
            go_meet
            have BY := ((BXm.out.set_ 0 (.string .empty)).set_ 1 (.int .i64 sa)).set_ 2 (.int .i64 sb)
            have TRm := TR1.out.next bm
            have nb : ∀ q, q < wr.heap.size → q ≠ wr.heap.size := fun q hq => by omega
            refine ⟨Lib.hid (TrW.box3 TRm (by have := TR.out.e.size; omega) (TR.out.bnd) _ _ _), Lib.hid ?_⟩
            rw [Hy.out]; exact BY
        · obtain rfl : false = pb := by rw [← Hpb.out]; unfold isP; rw [hxl]; rfl
          have Hy := Lib.hid (show trR same x = x by unfold trR; rw [if_neg (by rw [hxl]; show (1 : Nat) ≠ 0; omega)])
          go_wp2_with fail
          go_meet
          exact ⟨TR1, by rw [Hy.out]; exact BX1⟩
      case rest =>
        obtain ⟨TR2, BX2⟩ := hcut
        have zmap := Lib.hid (show w.heap.size + 3 < wr.heap.size from TR.out.bnd.2.2)
        have nbR := Lib.hid (show some wr.heap.size ≠ (Value.slice A4 k c4).ownBlock from fun e => by have := TR.out.bnd.1 _ e.symm; omega)
        have nbS := Lib.hid (show some wr.heap.size ≠ (Value.slice A6 k c6).ownBlock from fun e => by have := TR.out.bnd.2.1 _ e.symm; omega)
        clear TR TR1 BX1 Hpb hb1' b1 c0 c1 c2
        generalize trR same x = y at *
        have hyk : k = kept.length := hkl.out.symm
        have Hyk := Lib.hid hyk; clear hyk
        obtain ⟨d0, d1, d2⟩ := BX2.out.three
        have lx := BX2.out.lt
        obtain ⟨kn, hkn⟩ : ∃ kn, (mget y m).isSome = kn := ⟨_, rfl⟩
        obtain ⟨vv, hvv⟩ : ∃ vv, (mget y m).getD (.int .i64 0) = vv := ⟨_, rfl⟩
        have Hkn := Lib.hid hkn
        clear hkn
        go_upto_if 55 with (at_lookup; refine wpList_lookOk rfl _ _ rfl rule_key Try.underlying54 (zero_i64 _) rfl y rfl TR2.out.m ?_; rw [Hkn.out, hvv])
        go_cut [] (fun wx => ∃ m', Hid (TrW w wx (some ⟨b, o, none⟩) n c k A4 c4 k A6 c6 kept same m') ∧ Hid (∀ f, mget f m' = if f ∈ kept ++ [y] then some (.int .i64 (((kept ++ [y]).idxOf f : Nat) : Int)) else none) ∧ Hid (Blk wx wr.heap.size 59 #[.string y.l, .int .i64 y.a, .int .i64 y.b]))
        case first =>
          by_cases hmem : y ∈ kept
          · obtain rfl : true = kn := by rw [← Hkn.out, HM.out, if_pos hmem]; rfl
            go_wp2_with fail
            go_meet
            exact ⟨m, TR2, Lib.hid (map_known HM.out hmem), BX2⟩
          · obtain rfl : false = kn := by rw [← Hkn.out, HM.out, if_neg hmem]; rfl
            go_wp2_with
              (at_mapUpdate
               refine wpList_put (w0 := w) rfl _ _ _ rfl rule_key Try.underlying54 rfl y (.int .i64 (k : Int)) rfl rfl TR2.out.m w.heap.size rfl (by omega) TR2.out.e ?_
               intro w7 hm7 hg7 hb7
               have HM7 := Lib.hid hm7
               have HG7 := Lib.hid hg7
               have HB7 := Lib.hid hb7
               clear hm7 hg7 hb7)
            go_meet
            refine ⟨_, Lib.hid (TrW.put TR2.out HM7.out HG7.out HB7.out), Lib.hid (fun f => ?_), Lib.hid (BX2.out.grown HG7.out (by intro e; injection e with e; have := zmap.out; omega))⟩
            rw [mget_mput, Hyk.out]
            exact map_new HM.out hmem f
        case rest =>
          obtain ⟨m', TR3, HM3, BX3⟩ := hcut
          have hv' := HM3.out y
          rw [if_pos (by simp), idx_app2] at hv'
          have hgk : k ≤ 1048576 := by omega
          have hvb : kept.idxOf y ≤ k := by have := List.idxOf_le_length (a := y) (l := kept); have := hkl.out; omega
          generalize hvz : ((kept.idxOf y : Nat) : Int) = v at *
          have T0 := Lib.hid (TR3.out.drew)
          have T1 := Lib.hid ((TR3.out.alloc (.cells #[.string y.l, .int .i64 y.a, .int .i64 y.b] 59)).drew)
          have T2 := Lib.hid (((TR3.out.alloc (.cells #[.string y.l, .int .i64 y.a, .int .i64 y.b] 59)).alloc (.cells #[.int .i64 v] 2)).drew)
          have T3 := Lib.hid (((TR3.out.alloc (.cells #[.int .i64 v] 2)).alloc (.cells #[.string y.l, .int .i64 y.a, .int .i64 y.b] 59)).drew)
          have T4 := Lib.hid ((TR3.out.alloc (.cells #[.int .i64 v] 2)).drew)
          have lk := fun (W : World) (h : MapIs W (w.heap.size + 3) Fac.val m') => show (Instr.lookup 54 (.map (some (w.heap.size + 1 + 1 + 1))) (.agg #[.string y.l, .int .i64 y.a, .int .i64 y.b]) false).run Try.prog W = .ok (.int .i64 v) W by
            have := h.look rule_key Try.underlying54 (zero_i64 W) y
            rw [hv'] at this
            exact this
          have LK := Lib.hid lk
          have l0 := lk _ T0.out.m
          have l1 := lk _ T1.out.m
          clear lk hv'
          obtain ⟨d0, d1, d2⟩ := BX3.out.three
          have lx := BX3.out.lt
          have X1 := Lib.hid ((BX3.out.alloc (.cells #[.string y.l, .int .i64 y.a, .int .i64 y.b] 59)).drew)
          have X2 := Lib.hid (((BX3.out.alloc (.cells #[.string y.l, .int .i64 y.a, .int .i64 y.b] 59)).alloc (.cells #[.int .i64 v] 2)).drew)
          have X3 := Lib.hid (((BX3.out.alloc (.cells #[.int .i64 v] 2)).alloc (.cells #[.string y.l, .int .i64 y.a, .int .i64 y.b] 59)).drew)
          have X4 := Lib.hid ((BX3.out.alloc (.cells #[.int .i64 v] 2)).drew)
          have P2R := Lib.hid (((Blk.new wc 59 #[.string y.l, .int .i64 y.a, .int .i64 y.b]).alloc (.cells #[.int .i64 v] 2)).drew)
          have P3S := Lib.hid (((Blk.new wc 2 #[.int .i64 v]).alloc (.cells #[.string y.l, .int .i64 y.a, .int .i64 y.b] 59)).drew)
          have P2S := Lib.hid (show Blk ((wc.alloc (.cells #[.string y.l, .int .i64 y.a, .int .i64 y.b] 59)).alloc (.cells #[.int .i64 v] 2)).drew (wc.heap.size + 1) 2 #[.int .i64 v] by
            have h := Blk.new (wc.alloc (.cells #[.string y.l, .int .i64 y.a, .int .i64 y.b] 59)) 2 #[.int .i64 v]
            rw [show (wc.alloc (.cells #[.string y.l, .int .i64 y.a, .int .i64 y.b] 59)).heap.size = wc.heap.size + 1 by simp] at h; exact h.drew)
          have P3R := Lib.hid (show Blk ((wc.alloc (.cells #[.int .i64 v] 2)).alloc (.cells #[.string y.l, .int .i64 y.a, .int .i64 y.b] 59)).drew (wc.heap.size + 1) 59 #[.string y.l, .int .i64 y.a, .int .i64 y.b] by
            have h := Blk.new (wc.alloc (.cells #[.int .i64 v] 2)) 59 #[.string y.l, .int .i64 y.a, .int .i64 y.b]
            rw [show (wc.alloc (.cells #[.int .i64 v] 2)).heap.size = wc.heap.size + 1 by simp] at h; exact h.drew)
          have zk : (k + 1) * 32 ≤ 140737488355328 := by omega
          have zk8 : (k + 1) * 8 ≤ 140737488355328 := by omega
          have zkm : k + 1 ≤ maxLen := by unfold maxLen; omega
          go_wp2_with fail
          go_region_law
            (first
              | (refine step_push (by rfl) _ _ _ (by rfl) w.heap.size 59 3 32 elem_rule Fac.cells A4 k c4 kept (by rfl) (by with_reducible first | exact T1.out.r | exact T2.out.r | exact T3.out.r | exact (tS.alloc _).r | exact tS.r) _ y #[.string y.l, .int .i64 y.a, .int .i64 y.b] 59 (0, 0) (by rfl) (by first | exact heap_alloc_new _ _ | exact P2R.out | exact P3R.out | exact bR) rfl rfl (one_fac _) (by omega) zk zkm (by with_reducible first | exact T1.out.e.size | exact T2.out.e.size | exact T3.out.e.size | exact (tS.alloc _).e.size | exact tS.e.size) ?_
                 intro A8 c8 w8 own8 hg8 old8
                 with_reducible first
                   | (have tR := T1.out.pushR own8 hg8
                      have xx := X1.out.grown hg8 nbR.out)
                   | (have tR := T2.out.pushR own8 hg8
                      have xx := X2.out.grown hg8 nbR.out
                      have bS := P2S.out.grown hg8 (own_blk_ne T2.out.r P2S.out (by decide)))
                   | (have tR := T3.out.pushR own8 hg8
                      have xx := X3.out.grown hg8 nbR.out
                      have bS := P3S.out.grown hg8 (own_blk_ne T3.out.r P3S.out (by decide)))
                   | have tRS := (tS.alloc _).pushR own8 hg8
                   | have tRS := tS.pushR own8 hg8
                 try
                   (have l8 := LK.out _ tR.m
                    obtain ⟨e0, e1, e2⟩ := xx.three
                    have le := xx.lt))
              | (refine step_push (by rfl) _ _ _ (by rfl) w.heap.size 2 1 8 elem_int intE A6 k c6 same (by rfl) (by with_reducible first | exact T4.out.s | exact T2.out.s | exact T3.out.s | exact (tR.alloc _).s | exact tR.s) _ v #[.int .i64 v] 2 (0, 0) (by rfl) (by first | exact heap_alloc_new _ _ | exact P2S.out | exact P3S.out | exact bS) rfl rfl (by simp [intE, Value.oneCell']) (by omega) zk8 zkm (by with_reducible first | exact T4.out.e.size | exact T2.out.e.size | exact T3.out.e.size | exact (tR.alloc _).e.size | exact tR.e.size) ?_
                 intro A9 c9 w9 own9 hg9 old9
                 with_reducible first
                   | (have tS := T4.out.pushS own9 hg9
                      have xx := X4.out.grown hg9 nbS.out)
                   | (have tS := T2.out.pushS own9 hg9
                      have xx := X2.out.grown hg9 nbS.out
                      have bR := P2R.out.grown hg9 (own_blk_ne T2.out.s P2R.out (by decide)))
                   | (have tS := T3.out.pushS own9 hg9
                      have xx := X3.out.grown hg9 nbS.out
                      have bR := P3R.out.grown hg9 (own_blk_ne T3.out.s P3R.out (by decide)))
                   | have tRS := (tR.alloc _).pushS own9 hg9
                   | have tRS := tR.pushS own9 hg9
                 try
                   (obtain ⟨e0, e1, e2⟩ := xx.three
                    have le := xx.lt)))
          all_goals
            go_wp2_with fail
            go_roundw
            case rel =>
              refine ⟨k + 1, _, _, _, _, kept ++ [y], same ++ [v], m', by go_num, rfl, rfl, by omega, Lib.hid tRS, HM3, HI2, Lib.hid (by rw [List.length_append, hkl.out]; rfl), Hstep⟩
            case measure => simp [intOf]; omega
    · obtain rfl : k = n := by omega
      have HA := Lib.hid (trK_all (by rw [hl.out]; omega) HK.out)
      have hI := HI.out
      have sv := hI.s (k - 1) (by have := hkl.out; omega)
      obtain ⟨g6, cp6, hv6, hg60, hg61⟩ := TR.out.s.form (by omega)
      obtain rfl : A6 = some ⟨g6, 0, none⟩ := by injection hv6
      have cs : wr.cell? ⟨g6, k - 1, none⟩ = some (.int .i64 (same.getD (k - 1) 0)) := by
        have := own_at (sz := 1) (enc := intE) (fun _ _ => rfl) TR.out.s (hI.len.trans hkl.out) 0 (k - 1) (by omega) 0 (by omega)
        rw [Nat.mul_one, Nat.add_zero] at this; exact this
      have Hu0 := Lib.hid (show use0 k same = (List.replicate k false).set (same.getD (k - 1) 0).toNat true from rfl)
      generalize same.getD (k - 1) 0 = z at *
      obtain ⟨z0, z1⟩ := sv
      have u1 : IntKind.i64.wrap ((k : Int) - 1) = (k : Int) - 1 := IntWalk.i64_in _ (by omega)
      have z2 : z < (k : Int) := by omega
      have j0 : (0 : Int) ≤ (k : Int) - 1 := by omega
      have j1 : (k : Int) - 1 < (k : Int) := by omega
      have jn : ((k : Int) - 1).toNat = k - 1 := by omega
      have mkB := fun W => makeB k W (by omega)
      have bz := boolA_at (List.replicate k false) (i := z.toNat) (by rw [List.length_replicate]; omega)
      have zk : z.toNat < k := by omega
      clear hv6 hI
      go_wp2_with fail
      refine named fun w2 H2 => ?_
      obtain ⟨g4, cp4, hv4, hg40, hg41⟩ := TR.out.r.form (by omega)
      obtain rfl : A4 = some ⟨g4, 0, none⟩ := by injection hv4
      have TU := Lib.hid (show TrW w w2 A k c k (some ⟨g4, 0, none⟩) c4 k (some ⟨g6, 0, none⟩) c6 kept same m by rw [H2.out]; exact TR.out.alloc _)
      have BU := Lib.hid (show Blk w2 wr.heap.size 4 (boolA (use0 k same)) by rw [H2.out, Hu0.out, ← boolA_set]; exact Blk.new _ _ _)
      have hbd := Lib.hid TR.out.bnd
      have hU : w.heap.size ≤ wr.heap.size := TR.out.e.size
      have hlu : (use0 k same).length = k := by rw [Hu0.out]; simp
      clear H2 HK Hu0 mkB bz cs TR hv4
      generalize wr.heap.size = U at *
      have HI' := HI
      go_loopw [12] (fun j_ w' => ∃ (j : Nat) (u : List Bool) (y : Int), j_ = .int .i64 y ∧ y + 1 = (j : Int) ∧ j ≤ k ∧ Hid (TrW w w' A k c k (some ⟨g4, 0, none⟩) c4 k (some ⟨g6, 0, none⟩) c6 kept same m) ∧ Hid (Blk w' U 4 (boolA u)) ∧ Hid (u.length = k) ∧
        Hid (useT kept j u = useT kept k (use0 k same))) (fun j_ _ => (intOf j_ + 1).toNat)
      case atStart => exact ⟨k, _, _, rfl, by omega, Nat.le_refl _, TU, BU, Lib.hid hlu, Lib.hid rfl⟩
      case round =>
        obtain ⟨j, u, y, rfl, hy, hj, T2, B2, hu, HU⟩ := hrel
        rcases j with _ | i
        · obtain rfl : y = -1 := by omega
          go_wp2_with fail
          have mkN := fun W => makeN k W (by omega)
          have e := HU.out
          rw [show useT kept 0 u = u from rfl] at e
          have HU2 := Lib.hid e
          clear e HU hy hj
          go_cut [14, 15] (fun p_ s_ wx => ∃ (B V X : Nat), p_ = .pointer (some ⟨B, 0, none⟩) ∧ s_ = .slice (some ⟨V, 0, none⟩) k k ∧ Hid (OutW (w.heap.size + 1) w wx (some ⟨g4, 0, none⟩) c4 k kept X U u V (List.replicate k 0) B none 0 0 []))
          case first =>
            go_region
            all_goals
              go_wp2_with fail
              go_meet
              have lo := T2.out.o.lt
              have lu := B2.out.lt
              have n6 : ∀ q, (Value.slice (some ⟨g4, 0, none⟩) k c4).ownBlock = some q → q < wr.heap.size := fun q hq => by have := hbd.out.1 q hq; omega
              first
                | (refine ⟨wr.heap.size + 1, wr.heap.size, wr.heap.size + 2, rfl, rfl, Lib.hid ?_⟩
                   have hb : Below wr.heap.size wr ((wr.alloc (.cells (intA (List.replicate k 0)) 2)).alloc (.cells #[.slice none 0 0] 26)).drew := (((Below.refl _ _).alloc (Nat.le_refl _) _).alloc (by simp) _).drew
                   have T5 := T2.out.next hb
                   refine ⟨T5.r, B2.out.next hb, ((Blk.new wr _ _).alloc _).drew, ?_, T5.o, World.ownsRow_nil _ _ _ _, T5.e, by omega, by omega, by omega, by omega, by omega, by simp, fun q hq => by have := n6 q hq; omega⟩
                   have h := Blk.new (wr.alloc (.cells (intA (List.replicate k 0)) 2)) 26 #[.slice none 0 0]
                   rw [show (wr.alloc (.cells (intA (List.replicate k 0)) 2)).heap.size = wr.heap.size + 1 by simp] at h
                   exact h.drew)
                | (refine ⟨wr.heap.size, wr.heap.size + 1, wr.heap.size + 2, rfl, rfl, Lib.hid ?_⟩
                   have hb : Below wr.heap.size wr ((wr.alloc (.cells #[.slice none 0 0] 26)).alloc (.cells (intA (List.replicate k 0)) 2)).drew := (((Below.refl _ _).alloc (Nat.le_refl _) _).alloc (by simp) _).drew
                   have T5 := T2.out.next hb
                   refine ⟨T5.r, B2.out.next hb, ?_, ((Blk.new wr _ _).alloc _).drew, T5.o, World.ownsRow_nil _ _ _ _, T5.e, by omega, by omega, by omega, by omega, by omega, by simp, fun q hq => by have := n6 q hq; omega⟩
                   have h := Blk.new (wr.alloc (.cells #[.slice none 0 0] 26)) 2 (intA (List.replicate k 0))
                   rw [show (wr.alloc (.cells #[.slice none 0 0] 26)).heap.size = wr.heap.size + 1 by simp] at h
                   exact h.drew)
          case rest =>
            obtain ⟨B, V, X, rfl, rfl, O0⟩ := hcut
            have hul := hu.out
            clear T2 B2 hu mkN TU BU hlu
            have key := Lib.hid (show trimL rs = outT u 0 kept [] (List.replicate k 0) by
              unfold trimL
              rw [← HA.out, hl.out, if_neg (by omega), ← HU2.out])
            have ulen := Lib.hid hul
            clear hul HU2 HA
            go_wp2_with fail
            refine named fun w4 H4 => ?_
            have O1 := Lib.hid (show OutW (w.heap.size + 1) w w4 (some ⟨g4, 0, none⟩) c4 k kept X U u V (List.replicate k 0) B none 0 0 [] by rw [H4.out]; exact O0.out)
            clear O0 H4
            go_loopw [110] (fun i_ w' => ∃ (i nn : Nat) (A7 : Option Addr) (c7 : Nat) (out : List Fac) (at_ : List Int), i_ = .int .i64 i ∧ i ≤ k ∧ nn ≤ i ∧ Hid (OutW (w.heap.size + 1) w w' (some ⟨g4, 0, none⟩) c4 k kept X U u V at_ B A7 nn c7 out) ∧ Hid (out.length = nn) ∧ Hid (at_.length = k) ∧
              Hid (∀ j, 0 ≤ at_.getD j 0 ∧ at_.getD j 0 ≤ 1048576) ∧ Hid (outT u i (kept.drop i) out at_ = outT u 0 kept [] (List.replicate k 0))) (fun i_ _ => k - (intOf i_).toNat)
            case atStart =>
              exact ⟨0, 0, none, 0, [], _, rfl, by omega, by omega, O1, Lib.hid rfl, Lib.hid (by simp), Lib.hid (fun j => by rw [List.getD_eq_getElem?_getD, List.getElem?_replicate]; split <;> simp), Lib.hid rfl⟩
            case round =>
              obtain ⟨i, nn, A7, c7, out, at_, rfl, hi, hnn, O2, hol, hal, har, HO⟩ := hrel
              by_cases hlt : i < k
              · obtain ⟨x, hx⟩ : ∃ x, kept[i]? = some x := ⟨_, List.getElem?_eq_getElem (by have := hkl.out; omega)⟩
                have hxd : kept.getD i default = x := by rw [List.getD_eq_getElem?_getD, hx]; rfl
                have cel := fun (q : Nat) (hq : q < 3) => own_at (sz := 3) (enc := Fac.cells) (fun _ _ => rfl) O2.out.r hkl.out default i (by omega) q hq
                rw [hxd] at cel
                have c0 : wr.cell? ⟨g4, i * 3, none⟩ = some (.string x.l) := cel 0 (by omega)
                have c1 : wr.cell? ⟨g4, i * 3 + 1, none⟩ = some (.int .i64 x.a) := cel 1 (by omega)
                have c2 : wr.cell? ⟨g4, i * 3 + 2, none⟩ = some (.int .i64 x.b) := cel 2 (by omega)
                clear cel hxd
                have bu := O2.out.u.cell i
                rw [boolA_at u (i := i) (by have := ulen.out; omega)] at bu
                have ho := HO.out
                rw [drop_cons hx] at ho
                have HX := Lib.hid hx
                obtain ⟨ub, hub⟩ : ∃ ub, u.getD i false = ub := ⟨_, rfl⟩
                rw [hub] at bu
                have Hub := Lib.hid hub
                clear hub hx
                have lU := O2.out.u.lt
                have a3 : Below wr.heap.size wr (wr.alloc (.cells #[.string x.l, .int .i64 x.a, .int .i64 x.b] 59)) := (Below.refl _ _).alloc (Nat.le_refl _) _
                have O3 := Lib.hid (O2.out.next a3)
                cases ub
                · have e : outT u (i + 1) (kept.drop (i + 1)) out at_ = outT u 0 kept [] (List.replicate k 0) := by
                    rw [← ho, outT, if_neg (by rw [Hub.out]; simp)]
                  have E := Lib.hid e
                  clear e ho
                  go_wp2_with fail
                  go_roundw
                  case rel => exact ⟨i + 1, nn, A7, c7, out, at_, by go_num, by omega, by omega, O3, hol, hal, har, E⟩
                  case measure => first | (simp [intOf]; done) | (simp [intOf]; omega)
                · have e : outT u (i + 1) (kept.drop (i + 1)) (out ++ [trR at_ x]) (at_.set i (nn : Int)) = outT u 0 kept [] (List.replicate k 0) := by
                    rw [← ho, outT, if_pos Hub.out, hol.out]
                  have E := Lib.hid e
                  clear e ho
                  obtain ⟨pb, hpb⟩ : ∃ pb, isP x = pb := ⟨_, rfl⟩
                  have Hpb := Lib.hid hpb; clear hpb
                  go_upto_if 121 with (go_at_call 27; refine (isPair_any x pb _ Hpb.out).mono ?_; rintro e w1 ⟨rfl, hb1'⟩)
                  have O4 := Lib.hid (O3.out.next hb1')
                  have BX1 := Lib.hid ((Blk.new wr 59 #[.string x.l, .int .i64 x.a, .int .i64 x.b]).next hb1')
                  have hsz : wr.heap.size < w1.heap.size := BX1.out.lt
                  go_cut [] (fun wx => Hid (OutW (w.heap.size + 1) w wx (some ⟨g4, 0, none⟩) c4 k kept X U u V at_ B A7 nn c7 out) ∧ Hid (Blk wx wr.heap.size 59 #[.string (trR at_ x).l, .int .i64 (trR at_ x).a, .int .i64 (trR at_ x).b]))
                  case first =>
                    rcases HI.out.k i x HX.out with ⟨h0, ha0, ha1, hb0, hb1⟩ | ⟨cc, hcc, hxl, hxa, hxb⟩
                    · obtain rfl : true = pb := by rw [← Hpb.out]; simp [isP, h0]
                      have Hy := Lib.hid (show trR at_ x = ⟨⟨#[]⟩, at_.getD x.a.toNat 0, at_.getD x.b.toNat 0⟩ by unfold trR; rw [if_pos h0])
                      have s1 := har.out x.a.toNat
                      have s2 := har.out x.b.toNat
                      have va := O4.out.v.cell x.a.toNat
                      rw [intA_at at_ (by have := hal.out; omega)] at va
                      have vb := O4.out.v.cell x.b.toNat
                      rw [intA_at at_ (by have := hal.out; omega)] at vb
                      generalize at_.getD x.a.toNat 0 = sa at *
                      generalize at_.getD x.b.toNat 0 = sb at *
                      obtain ⟨d0, d1, d2⟩ := BX1.out.three
                      have lx := BX1.out.lt
                      have i1 : x.a < (k : Int) := by omega
                      have i2 : x.b < (k : Int) := by omega
                      clear c0 c1 c2 bu
                      go_wp2_with fail
                      go_region_with
                        (first
                          | (go_at_call 51
                             refine (pair64_any sa sb w1.drew (by omega) (by omega)).mono ?_
                             rintro e wm ⟨rfl, hbm⟩
                             have bm : Below w1.heap.size w1 wm := (Below.refl _ _).drew.trans hbm
                             have BXm := Lib.hid (BX1.out.next bm)
                             have fm := BXm.out.frozen
                             have lm := BXm.out.lt
                             obtain ⟨m0, m1, m2⟩ := BXm.out.three)
                          | fail)
                      all_goals
                        go_wp2_with fail
                        go_meet
                        have BY := ((BXm.out.set_ 0 (.string .empty)).set_ 1 (.int .i64 sa)).set_ 2 (.int .i64 sb)
                        have Om := O4.out.next bm
                        have hgm := gb_setCell (gb_setCell (gb_set wm wr.heap.size 0 (.string .empty)) 1 (.int .i64 sa)) 2 (.int .i64 sb)
                        refine ⟨Lib.hid (Om.far hgm (fun e => by have := O2.out.n6 _ e.symm; have := O2.out.n5; omega) (fun e => by have := (O2.out.q.lt _ e.symm).2; omega) (by have := O2.out.u.lt; omega) (by have := O2.out.v.lt; omega) (by have := O2.out.b.lt; omega) (by have := O2.out.o.lt; omega)), Lib.hid ?_⟩
                        rw [Hy.out]; exact BY
                    · obtain rfl : false = pb := by rw [← Hpb.out]; unfold isP; rw [hxl]; rfl
                      have Hy := Lib.hid (show trR at_ x = x by unfold trR; rw [if_neg (by rw [hxl]; show (1 : Nat) ≠ 0; omega)])
                      clear hxl hxa hxb
                      go_wp2_with fail
                      go_meet
                      exact ⟨O4, by rw [Hy.out]; exact BX1⟩
                  case rest =>
                    obtain ⟨O5, BX5⟩ := hcut
                    clear O3 O4 BX1 Hpb c0 c1 c2 bu
                    generalize trR at_ x = y at *
                    have f5 := O5.out.v.frozen
                    have v5 := O5.out.v.cell i
                    rw [intA_at at_ (by have := hal.out; omega)] at v5
                    have b5 := O5.out.b.cell 0
                    have k5 : (i : Int) < (k : Int) := by omega
                    have O6 := Lib.hid (O5.out.tell i (nn : Int))
                    have BX6 := Lib.hid (BX5.out.grown (gb_set wc V i (.int .i64 (nn : Int))) (by intro e; injection e with e; have := O2.out.v.lt; omega))
                    have b6 := O6.out.b.cell 0
                    obtain ⟨e0, e1, e2⟩ := BX6.out.three
                    have O7 := Lib.hid (O6.out.alloc (.cells #[.string y.l, .int .i64 y.a, .int .i64 y.b] 59))
                    have BN := Lib.hid (Blk.new (wc.setCell ⟨V, i, none⟩ (.int .i64 (nn : Int))) 59 #[.string y.l, .int .i64 y.a, .int .i64 y.b])
                    have sz7 : (wc.setCell ⟨V, i, none⟩ (.int .i64 (nn : Int))).heap.size = wc.heap.size := by simp
                    rw [sz7] at BN
                    go_wp2_with
                      (at_builtin
                       refine wpList_app rfl _ _ _ rfl X 59 3 32 elem_rule Fac.cells A7 nn c7 out rfl O7.out.q ⟨wc.heap.size, 0, none⟩ 1 1 [y] rfl rfl (by omega) (news1 BN.out) (fun x _ => fac_len x) (fun x _ => one_fac x) (by omega) (by omega) (by unfold maxLen; omega) O7.out.n5 ?_
                       intro A9 c9 w9 own9 hg9 hat9
                       have O8 := Lib.hid (O7.out.push own9 hg9)
                       have B9 := O7.out.b.grown hg9 (own_blk_ne O7.out.q O7.out.b (by decide))
                       have f9 := B9.frozen
                       have d9 := B9.cell 0
                       have l9 := B9.lt
                       clear own9 B9)
                    go_roundw
                    case rel =>
                      exact ⟨i + 1, nn + 1, A9, c9, out ++ [y], at_.set i (nn : Int), by go_num, by omega, by omega, O8, Lib.hid (by simp [hol.out]), Lib.hid (by simp [hal.out]),
                        Lib.hid (fun j => by
                          have h := har.out j
                          rw [List.getD_eq_getElem?_getD, List.getElem?_set]
                          split
                          · split
                            · simp; omega
                            · simp
                          · rw [← List.getD_eq_getElem?_getD]; exact h), E⟩
                    case measure => first | (simp [intOf]; done) | (simp [intOf]; omega)
              · obtain rfl : i = k := by omega
                have hk2 := Lib.hid (show trimL rs = out by
                  rw [key.out, ← HO.out, List.drop_of_length_le (by rw [hkl.out]; exact Nat.le_refl _)]; rfl)
                have b0 := O2.out.b.cell 0
                have o0 := O2.out.o.cell 0
                have fo := O2.out.o.frozen
                go_wp2_with fail
                have hg := gb_set wr (w.heap.size + 1) 0 (.slice A7 nn c7)
                have x9 := O2.out.o.set_ 0 (.slice A7 nn c7)
                have x10 : (wr.setCell ⟨w.heap.size + 1, 0, none⟩ (.slice A7 nn c7)).cell? ⟨w.heap.size + 1, 0, none⟩ = some (.slice A7 nn c7) := by rw [x9.cell 0]; rfl
                refine bodyPost_ret (v := .agg #[.slice A7 nn c7]) (by simp [results, Try.results31, go_sem, x10]) rfl ⟨A7, c7, by rw [hk2.out, hol.out], ?_, O2.out.e.grown hg O2.out.e.size (fun q hq => by injection hq with hq; omega)⟩
                rw [hk2.out, hol.out]
                exact (O2.out.q.kept hg (.inr fun e => own_blk_ne O2.out.q O2.out.o (by decide) e.symm)).mono (by have := O2.out.n1; have := O2.out.n2; omega)
        · obtain rfl : y = (i : Int) := by omega
          obtain ⟨x, hx⟩ : ∃ x, kept[i]? = some x := ⟨_, List.getElem?_eq_getElem (by have := hkl.out; omega)⟩
          have hxd : kept.getD i default = x := by rw [List.getD_eq_getElem?_getD, hx]; rfl
          have cel := fun (q : Nat) (hq : q < 3) => own_at (sz := 3) (enc := Fac.cells) (fun _ _ => rfl) T2.out.r hkl.out default i (by omega) q hq
          rw [hxd] at cel
          have c0 : wr.cell? ⟨g4, i * 3, none⟩ = some (.string x.l) := cel 0 (by omega)
          have c1 : wr.cell? ⟨g4, i * 3 + 1, none⟩ = some (.int .i64 x.a) := cel 1 (by omega)
          have c2 : wr.cell? ⟨g4, i * 3 + 2, none⟩ = some (.int .i64 x.b) := cel 2 (by omega)
          clear cel
          have bu := B2.out.cell i
          rw [boolA_at u (i := i) (by have := hu.out; omega)] at bu
          have Hus := Lib.hid (show useStep kept i u = if u.getD i false = true ∧ x.l.size = 0 then (u.set x.a.toNat true).set x.b.toNat true else u by unfold useStep; rw [hxd])
          have HU' := Lib.hid (show useT kept i (useStep kept i u) = useT kept k (use0 k same) from HU.out)
          have HX := Lib.hid hx
          clear HU hx hxd
          obtain ⟨ub, hub⟩ : ∃ ub, u.getD i false = ub := ⟨_, rfl⟩
          rw [hub] at bu
          have Hub := Lib.hid hub
          clear hub
          have lU := B2.out.lt
          have u1 : IntKind.i64.wrap ((i : Int) - 1) = (i : Int) - 1 := IntWalk.i64_in _ (by omega)
          have a3 : Below wr.heap.size wr (wr.alloc (.cells #[.string x.l, .int .i64 x.a, .int .i64 x.b] 59)) := (Below.refl _ _).alloc (Nat.le_refl _) _
          have T3 := Lib.hid (T2.out.next a3)
          have B3 := Lib.hid (B2.out.next a3)
          cases ub
          · have e := Hus.out
            rw [Hub.out, if_neg (by simp)] at e
            have E := Lib.hid e
            clear e
            go_wp2_with fail
            go_roundw
            case rel => exact ⟨i, u, _, rfl, by omega, by omega, T3, B3, hu, by rw [E.out] at HU'; exact HU'⟩
            case measure => first | (simp [intOf]; done) | (simp [intOf]; omega)
          · obtain ⟨pb, hpb⟩ : ∃ pb, isP x = pb := ⟨_, rfl⟩
            have Hpb := Lib.hid hpb; clear hpb
            rcases HI.out.k i x HX.out with ⟨h0, ha0, ha1, hb0, hb1⟩ | ⟨cc, hcc, hxl, hxa, hxb⟩
            · obtain rfl : true = pb := by rw [← Hpb.out]; simp [isP, h0]
              have e := Hus.out
              rw [Hub.out, if_pos ⟨rfl, h0⟩] at e
              have E := Lib.hid e
              clear e
              go_wp2_with
                (go_at_call 27
                 refine (isPair_any x true _ Hpb.out).mono ?_
                 rintro e w1 ⟨rfl, hb1'⟩
                 have T4 := Lib.hid (T3.out.next hb1')
                 have B4 := Lib.hid (B3.out.next hb1')
                 have BX := Lib.hid ((Blk.new wr 59 #[.string x.l, .int .i64 x.a, .int .i64 x.b]).next hb1')
                 have lB := BX.out.lt
                 have lU4 := B4.out.lt
                 have fU := B4.out.frozen
                 obtain ⟨m0, m1, m2⟩ := BX.out.three
                 have da := B4.out.cell x.a.toNat
                 rw [boolA_at u (by have := hu.out; omega)] at da
                 have db := B4.out.cell x.b.toNat
                 rw [boolA_at u (by have := hu.out; omega)] at db
                 have B5 := B4.out.set_ x.a.toNat (.bool true)
                 rw [boolA_set] at B5
                 have db2 := B5.cell x.b.toNat
                 rw [boolA_at _ (by have := hu.out; rw [List.length_set]; omega)] at db2
                 clear B5
                 have ab : x.a < (k : Int) := by omega
                 have bb : x.b < (k : Int) := by omega
                 have nU : U ≠ wr.heap.size := by omega)
              go_region
              all_goals
                go_wp2_with fail
                go_roundw
                case rel =>
                  have B6 := (B4.out.set_ x.a.toNat (.bool true)).set_ x.b.toNat (.bool true)
                  rw [boolA_set, boolA_set, ← E.out] at B6
                  exact ⟨i, useStep kept i u, _, rfl, by omega, by omega, Lib.hid (TrW.set1 (TrW.set1 T4.out hU hbd.out _ _) hU hbd.out _ _).drew, Lib.hid B6.drew, Lib.hid (by rw [E.out]; simp [hu.out]), HU'⟩
                case measure => first | (simp [intOf]; done) | (simp [intOf]; omega)
            · obtain rfl : false = pb := by rw [← Hpb.out]; unfold isP; rw [hxl]; rfl
              have e := Hus.out
              rw [if_neg (by rw [hxl]; rintro ⟨-, h⟩; exact absurd h (show (1 : Nat) ≠ 0 by omega))] at e
              have E := Lib.hid e
              clear e hxl hxa hxb
              go_wp2_with
                (go_at_call 27
                 refine (isPair_any x false _ Hpb.out).mono ?_
                 rintro e w1 ⟨rfl, hb1'⟩
                 have T4 := Lib.hid (T3.out.next hb1')
                 have B4 := Lib.hid (B3.out.next hb1'))
              go_roundw
              case rel => exact ⟨i, u, _, rfl, by omega, by omega, T4, B4, hu, by rw [E.out] at HU'; exact HU'⟩
              case measure => first | (simp [intOf]; done) | (simp [intOf]; omega)
end Go.Proofs.Ytajfjgemfnfakaa


/-
  Level grammars in the program: a rule, added if it is not there.
-/
namespace Go.Proofs.Ytajfjgemfnfakaa
open Go.RowKit

section
variable {P : Program} {ops : Array Oper} {Q : Exit → Act → World → Prop} {md : Region.Mode} {S : World → Prop} {N : List Nat}
theorem wpAnyN_T : ∀ (fuel : Nat) {listed : Array Bool} {a : Act} {w : World}, wpAny P md ops Q fuel listed a w → wpAnyN P md ops Q (fun _ => True) N fuel listed a w
  | 0, _, _, _, h => h
  | fuel + 1, _, _, _, h => ⟨h.1, fun i hi => wpOp_mono (fun a' w' h' => ⟨fun _ => trivial, wpAnyN_T fuel h'⟩) (h.2 i hi)⟩
/-- Two may come up. -/
theorem wpAnyN_two {i j : Nat} {o o' : Oper} {fuel : Nat} {listed : Array Bool} {a : Act} {w : World} (ho : ops[i]? = some o) (ho' : ops[j]? = some o') (hr : Region.ready md ops listed = [i, j])
    (h : ∀ K' : Act → World → Prop, Shut (∀ a w, (N.contains i = false → S w) → wpAnyN P md ops Q S N fuel (listed.setIfInBounds i true) a w → K' a w) → if Region.wanted o (yielded ops a.tmps) = true then Oper.wp P o a w K' Q else K' (a.put o.dst undef) w)
    (h' : ∀ K' : Act → World → Prop, Shut (∀ a w, (N.contains j = false → S w) → wpAnyN P md ops Q S N fuel (listed.setIfInBounds j true) a w → K' a w) → if Region.wanted o' (yielded ops a.tmps) = true then Oper.wp P o' a w K' Q else K' (a.put o'.dst undef) w) :
    wpAnyN P md ops Q S N (fuel + 1) listed a w := by
  refine ⟨fun h0 => (by rw [h0] at hr; cases hr), fun k hk => ?_⟩
  rw [hr] at hk
  rcases List.mem_cons.1 hk with rfl | hk
  · exact wpOp_step ho (fun K' hK => h K' (fun a w hS hW => hK a w ⟨hS, hW⟩))
  · obtain rfl : k = j := by simpa using hk
    exact wpOp_step ho' (fun K' hK => h' K' (fun a w hS hW => hK a w ⟨hS, hW⟩))
theorem fin_ {p : Prop} (h : p) : p := h
end
section
variable {α : Type} [DecidableEq α] {P : Program} {w0 w : World} {ops : Array Oper} {o : Oper} {a : Act} {Kw : Act → World → Prop} {Q : Exit → Act → World → Prop} {E : Prop} {b : Nat} {K : α → Value} {m : List (α × Value)} {kt t e : TypeId}
/-- a store into a map of the call's own, as a step -/
theorem step_put (hgd : o.guard = none) (s k x : Operand) (ho : o.op = .mapUpdate t s k x) (KO : KeyOk P kt K) (ht : P.underlying t = some (.map kt e)) (hs : a.eval s = .map (some b)) (y : α) (v : Value) (hk : a.eval k = K y) (hx : a.eval x = v)
    (h : MapIs w b K m) (base : Nat) (hbase : base = w0.heap.size) (hbb : base ≤ b) (hb : Below base w0 w)
    (hK : ∀ w', MapIs w' b K (mput y v m) → w.grownBy w' (some b) → Below base w0 w' → Kw (a.put o.dst undef) w') : if Region.wanted o (yielded ops a.tmps) = true then Oper.wp P o a w Kw Q else E := by
  obtain ⟨w', hr, r1, r2, r3⟩ := h.put (P := P) KO ht y v
  have hw : Region.wanted o (yielded ops a.tmps) = true := by simp [Region.wanted, hgd]
  rw [if_pos hw]
  unfold Oper.wp execOp
  simp only [ho, hs, hk, hx, Sem.run_bind, hr, Result.andThen_ok, Sem.run_pure]
  exact hK w' r1 r2 (hb.grown r2 (by rw [hbase]; exact hb.size) (fun k hk => by cases hk; exact hbb))
end
/-- the program's maker under way -/
structure LvP (w0 W : World) (X M : Nat) (A : Option Addr) (n c : Nat) (B : Option Addr) (d : Nat) (s : LvS) (mm : List (Fac × Value)) : Prop where
  g : LvG 57 w0 W X (.map (some M)) A n c B n d s.rs s.ds
  m : MapIs W M Fac.val mm
  k : ∀ f, mget f mm = if f ∈ s.rs then some (.int .i64 ((s.rs.idxOf f : Nat) : Int)) else none
  hm : w0.heap.size ≤ M ∧ M ≠ X
  hr : s.rs.length = n
  hd : s.ds.length = n
theorem LvP.next {w0 W W' : World} {X M : Nat} {A : Option Addr} {n c : Nat} {B : Option Addr} {d : Nat} {s : LvS} {mm : List (Fac × Value)} (h : LvP w0 W X M A n c B d s mm) (hb : Below W.heap.size W W') : LvP w0 W' X M A n c B d s mm :=
  ⟨h.g.next hb, h.m.next hb, h.k, h.hm, h.hr, h.hd⟩
/-- what a call answers -/
def LvQ (w0 W : World) (X M : Nat) (v u : Value) (t : LvS × Int) (e : Ending) (W' : World) : Prop :=
  e = .returned (.int .i64 t.2) ∧ ∃ A n c B d mm, LvP w0 W' X M A n c B d t.1 mm ∧ LvF W W' X M v (.slice A n c) u (.slice B n d)
structure LvZ (w0 W0 W : World) (X M : Nat) (A : Option Addr) (n c : Nat) (B : Option Addr) (m d : Nat) (rs : List Fac) (ds : List Int) (vx ux v u : Value) (mm : List (Fac × Value)) : Prop where
  g : LvG' 57 w0 W X (.map (some M)) A n c B m d rs ds vx ux
  mp : MapIs W M Fac.val mm
  f : LvF W0 W X M v (.slice A n c) u (.slice B m d)
  hm : w0.heap.size ≤ M ∧ M ≠ X
section
variable {w0 W0 W W' : World} {X M : Nat} {A : Option Addr} {n c : Nat} {B : Option Addr} {m d : Nat} {rs : List Fac} {ds : List Int} {vx ux v u : Value} {mm : List (Fac × Value)}
theorem LvZ.next (h : LvZ w0 W0 W X M A n c B m d rs ds vx ux v u mm) (hb : Below W.heap.size W W') : LvZ w0 W0 W' X M A n c B m d rs ds vx ux v u mm := ⟨h.g.next hb, h.mp.next hb, h.f.trans (LvF.of_below hb), h.hm⟩
theorem LvZ.alloc (h : LvZ w0 W0 W X M A n c B m d rs ds vx ux v u mm) (o : Obj) : LvZ w0 W0 (W.alloc o) X M A n c B m d rs ds vx ux v u mm := h.next ((Below.refl _ _).alloc (Nat.le_refl _) _)
theorem LvZ.drew (h : LvZ w0 W0 W X M A n c B m d rs ds vx ux v u mm) : LvZ w0 W0 W.drew X M A n c B m d rs ds vx ux v u mm := h.next (Below.refl _ _).drew
theorem LvZ.pushR {A8 : Option Addr} {k8 c8 : Nat} {rs' : List Fac} (h : LvZ w0 W0 W X M A n c B m d rs ds vx ux v u mm) (hq : W'.ownsRow w0.heap.size 59 3 (.slice A8 k8 c8) k8 (rs'.flatMap Fac.cells)) (hg : W.grownBy W' (Value.slice A n c).ownBlock)
    (hat : (Value.slice A8 k8 c8).ownBlock = (Value.slice A n c).ownBlock ∨ (Value.slice A8 k8 c8).ownBlock = some W.heap.size) : LvZ w0 W0 W' X M A8 k8 c8 B m d rs' ds vx ux v u mm :=
  ⟨h.g.pushR hq hg, h.mp.grown hg (h.mp.ne_own h.g.q), h.f.trans (LvF.of_grown hg hat), h.hm⟩
theorem LvZ.pushD {B8 : Option Addr} {k8 c8 : Nat} {ds' : List Int} (h : LvZ w0 W0 W X M A n c B m d rs ds vx ux v u mm) (hq : W'.ownsRow w0.heap.size 2 1 (.slice B8 k8 c8) k8 (ds'.flatMap intE)) (hg : W.grownBy W' (Value.slice B m d).ownBlock)
    (hat : (Value.slice B8 k8 c8).ownBlock = (Value.slice B m d).ownBlock ∨ (Value.slice B8 k8 c8).ownBlock = some W.heap.size) : LvZ w0 W0 W' X M A n c B8 k8 c8 rs ds' vx ux v u mm :=
  ⟨h.g.pushD hq hg, h.mp.grown hg (h.mp.ne_own h.g.k), h.f.trans (LvF.of_grown' hg hat), h.hm⟩
theorem LvZ.set0 (h : LvZ w0 W0 W X M A n c B m d rs ds vx ux v u mm) (y : Value) : LvZ w0 W0 (W.setCell ⟨X, 0, none⟩ y) X M A n c B m d rs ds y ux v u mm := ⟨h.g.set0 y, h.mp.far h.hm.2 _, h.f.setX 0 y, h.hm⟩
theorem LvZ.set1 (h : LvZ w0 W0 W X M A n c B m d rs ds vx ux v u mm) (y : Value) : LvZ w0 W0 (W.setCell ⟨X, 1, none⟩ y) X M A n c B m d rs ds vx y v u mm := ⟨h.g.set1 y, h.mp.far h.hm.2 _, h.f.setX 1 y, h.hm⟩
theorem LvZ.put {mm' : List (Fac × Value)} (h : LvZ w0 W0 W X M A n c B m d rs ds vx ux v u mm) (hm : MapIs W' M Fac.val mm') (hg : W.grownBy W' (some M)) (hb : Below w0.heap.size w0 W') : LvZ w0 W0 W' X M A n c B m d rs ds vx ux v u mm' :=
  ⟨h.g.put h.mp h.hm.2 hg hb, hm, h.f.trans (LvF.of_map hg), h.hm⟩
theorem LvP.z {s : LvS} (h : LvP w0 W X M A n c B d s mm) (hf : LvF W0 W X M v (.slice A n c) u (.slice B n d)) : LvZ w0 W0 W X M A n c B n d s.rs s.ds (.slice A n c) (.slice B n d) v u mm := ⟨h.g.open, h.m, hf, h.hm⟩
end
set_option maxHeartbeats 8000000 in
set_option maxRecDepth 100000 in
theorem lvRule_any (w0 : World) (X M : Nat) (r : Fac) (s : LvS) (A : Option Addr) (n c : Nat) (B : Option Addr) (d : Nat) (mm : List (Fac × Value)) (W : World) (hi : LvI s) (hn : n ≤ 100000) (ho : RuleOk s r) (h : LvP w0 W X M A n c B d s mm) :
    Calls Try.prog 29 #[.pointer (some ⟨X, 0, none⟩), r.val] W (LvQ w0 W X M (.slice A n c) (.slice B n d) (lvRule s r)) := by
  obtain ⟨x, hx⟩ : ∃ x, x = r := ⟨_, rfl⟩
  have HI := Lib.hid hi
  have HO := Lib.hid ho
  have P0 := Lib.hid h
  have xc2 := h.g.x.cell 2
  have xl := h.g.x.lt
  have P1 := Lib.hid (h.next ((Below.refl _ _).alloc (Nat.le_refl _) (.cells #[.string r.l, .int .i64 r.a, .int .i64 r.b] 59)))
  have F1 := Lib.hid (LvF.of_below (X := X) (M := M) (v := .slice A n c) (u := .slice B n d) ((Below.refl W.heap.size W).alloc (Nat.le_refl _) (.cells #[.string r.l, .int .i64 r.a, .int .i64 r.b] 59)))
  have BX1 := Lib.hid (Blk.new W 59 #[.string r.l, .int .i64 r.a, .int .i64 r.b])
  obtain ⟨kn, hkn⟩ : ∃ kn, (mget r mm).isSome = kn := ⟨_, rfl⟩
  obtain ⟨vv, hvv⟩ : ∃ vv, (mget r mm).getD (.int .i64 0) = vv := ⟨_, rfl⟩
  have Hkn := Lib.hid hkn
  have Hvv := Lib.hid hvv
  clear hkn hvv hi ho h hx
  go_enter Try.func29, Try.ntmps29
  have P1 := Lib.hid (P1.out.next (Below.refl _ _).drew)
  have F1 := Lib.hid (F1.out.trans (LvF.of_below (Below.refl _ _).drew))
  have BX1 := Lib.hid BX1.out.drew
  go_wp2_with fail
  refine wp_region_N (fun W' => W'.cell? ⟨X, 2, none⟩ = some (.map (some M)) ∧ W'.cell? ⟨W.heap.size, 0, none⟩ = some (.string r.l) ∧ W'.cell? ⟨W.heap.size, 1, none⟩ = some (.int .i64 r.a) ∧ W'.cell? ⟨W.heap.size, 2, none⟩ = some (.int .i64 r.b) ∧ (Instr.lookup 54 (.map (some M)) (.agg #[.string r.l, .int .i64 r.a, .int .i64 r.b]) true).run Try.prog W' = .ok (.tuple #[vv, .bool kn]) W') [] (by kernel_rfl) ?_
  generalize hw1 : (W.alloc (.cells #[.string r.l, .int .i64 r.a, .int .i64 r.b] 59)).drew = W1 at *
  have Hw1 := Lib.hid hw1; clear hw1 xc2
  have hlk : ∀ W', MapIs W' M Fac.val mm → (Instr.lookup 54 (.map (some M)) (.agg #[.string r.l, .int .i64 r.a, .int .i64 r.b]) true).run Try.prog W' = .ok (.tuple #[vv, .bool kn]) W' := fun W' hm => by
    have := hm.lookOk rule_key Try.underlying54 (zero_i64 _) r
    rw [Hkn.out, Hvv.out] at this
    exact this
  have hS0 : W1.cell? ⟨X, 2, none⟩ = some (.map (some M)) ∧ W1.cell? ⟨W.heap.size, 0, none⟩ = some (.string r.l) ∧ W1.cell? ⟨W.heap.size, 1, none⟩ = some (.int .i64 r.a) ∧ W1.cell? ⟨W.heap.size, 2, none⟩ = some (.int .i64 r.b) ∧ (Instr.lookup 54 (.map (some M)) (.agg #[.string r.l, .int .i64 r.a, .int .i64 r.b]) true).run Try.prog W1 = .ok (.tuple #[vv, .bool kn]) W1 :=
    ⟨P1.out.g.x.cell 2, BX1.out.cell 0, BX1.out.cell 1, BX1.out.cell 2, hlk _ P1.out.m⟩
  clear hlk
  refine wpAnyN_take (i := 0) (v := ?_) rfl (by kernel_rfl) (fun _ _ _ h => h) (by rfl) (fun W hW => ?_) hS0 ?_
  rotate_left
  · obtain ⟨z0, z1, z2, z3, z4⟩ := hW
    go_simp
    try with_reducible rfl
  try simp only [List.getElem_toArray, List.getElem_cons_zero, List.getElem_cons_succ, Act.put, List.setIfInBounds_toArray, List.set_cons_zero, List.set_cons_succ]
  refine wpAnyN_take (i := 1) (v := ?_) rfl (by kernel_rfl) (fun _ _ _ h => h) (by rfl) (fun W hW => ?_) hS0 ?_
  rotate_left
  · obtain ⟨z0, z1, z2, z3, z4⟩ := hW
    go_simp
    try with_reducible rfl
  try simp only [List.getElem_toArray, List.getElem_cons_zero, List.getElem_cons_succ, Act.put, List.setIfInBounds_toArray, List.set_cons_zero, List.set_cons_succ]
  refine wpAnyN_take (i := 2) (v := ?_) rfl (by kernel_rfl) (fun _ _ _ h => h) (by rfl) (fun W hW => ?_) hS0 ?_
  rotate_left
  · obtain ⟨z0, z1, z2, z3, z4⟩ := hW
    go_simp
    try with_reducible rfl
  try simp only [List.getElem_toArray, List.getElem_cons_zero, List.getElem_cons_succ, Act.put, List.setIfInBounds_toArray, List.set_cons_zero, List.set_cons_succ]
  refine wpAnyN_take (i := 3) (v := ?_) rfl (by kernel_rfl) (fun _ _ _ h => h) (by rfl) (fun W hW => ?_) hS0 ?_
  rotate_left
  · obtain ⟨z0, z1, z2, z3, z4⟩ := hW
    go_simp
    try with_reducible rfl
  try simp only [List.getElem_toArray, List.getElem_cons_zero, List.getElem_cons_succ, Act.put, List.setIfInBounds_toArray, List.set_cons_zero, List.set_cons_succ]
  refine wpAnyN_take (i := 4) (v := ?_) rfl (by kernel_rfl) (fun _ _ _ h => h) (by rfl) (fun W hW => ?_) hS0 ?_
  rotate_left
  · obtain ⟨z0, z1, z2, z3, z4⟩ := hW
    go_simp
    try with_reducible rfl
  try simp only [List.getElem_toArray, List.getElem_cons_zero, List.getElem_cons_succ, Act.put, List.setIfInBounds_toArray, List.set_cons_zero, List.set_cons_succ]
  refine wpAnyN_take (i := 5) (v := ?_) rfl (by kernel_rfl) (fun _ _ _ h => h) (by rfl) (fun W hW => ?_) hS0 ?_
  rotate_left
  · obtain ⟨z0, z1, z2, z3, z4⟩ := hW
    go_simp
    try with_reducible rfl
  try simp only [List.getElem_toArray, List.getElem_cons_zero, List.getElem_cons_succ, Act.put, List.setIfInBounds_toArray, List.set_cons_zero, List.set_cons_succ]
  refine wpAnyN_take (i := 6) (v := ?_) rfl (by kernel_rfl) (fun _ _ _ h => h) (by rfl) (fun W hW => ?_) hS0 ?_
  rotate_left
  · obtain ⟨z0, z1, z2, z3, z4⟩ := hW
    go_simp
    try with_reducible rfl
  try simp only [List.getElem_toArray, List.getElem_cons_zero, List.getElem_cons_succ, Act.put, List.setIfInBounds_toArray, List.set_cons_zero, List.set_cons_succ]
  refine wpAnyN_take (i := 7) (v := ?_) rfl (by kernel_rfl) (fun _ _ _ h => h) (by rfl) (fun W hW => ?_) hS0 ?_
  rotate_left
  · obtain ⟨z0, z1, z2, z3, z4⟩ := hW
    go_simp
    try with_reducible rfl
  try simp only [List.getElem_toArray, List.getElem_cons_zero, List.getElem_cons_succ, Act.put, List.setIfInBounds_toArray, List.set_cons_zero, List.set_cons_succ]
  refine wpAnyN_take (i := 8) (v := ?_) rfl (by kernel_rfl) (fun _ _ _ h => h) (by rfl) (fun W hW => ?_) hS0 ?_
  rotate_left
  · obtain ⟨z0, z1, z2, z3, z4⟩ := hW
    go_simp
    try with_reducible rfl
  try simp only [List.getElem_toArray, List.getElem_cons_zero, List.getElem_cons_succ, Act.put, List.setIfInBounds_toArray, List.set_cons_zero, List.set_cons_succ]
  refine wpAnyN_take (i := 9) (v := ?_) rfl (by kernel_rfl) (fun _ _ _ h => h) (by rfl) (fun W hW => ?_) hS0 ?_
  rotate_left
  · obtain ⟨z0, z1, z2, z3, z4⟩ := hW
    go_simp
    try with_reducible rfl
  try simp only [List.getElem_toArray, List.getElem_cons_zero, List.getElem_cons_succ, Act.put, List.setIfInBounds_toArray, List.set_cons_zero, List.set_cons_succ]
  refine wpAnyN_take (i := 10) (v := ?_) rfl (by kernel_rfl) (fun _ _ _ h => h) (by rfl) (fun W hW => ?_) hS0 ?_
  rotate_left
  · obtain ⟨z0, z1, z2, z3, z4⟩ := hW
    go_simp
    try with_reducible rfl
  try simp only [List.getElem_toArray, List.getElem_cons_zero, List.getElem_cons_succ, Act.put, List.setIfInBounds_toArray, List.set_cons_zero, List.set_cons_succ]
  clear hS0
  refine wpAnyN_done (by kernel_rfl) ?_ _
  by_cases hmem : r ∈ s.rs
  · have hk := P1.out.k r
    rw [if_pos hmem] at hk
    obtain rfl : true = kn := by rw [← Hkn.out, hk]; rfl
    obtain rfl : .int .i64 ((s.rs.idxOf r : Nat) : Int) = vv := by rw [← Hvv.out, hk]; rfl
    have hT := Lib.hid (show lvRule s r = (s, ((s.rs.idxOf r : Nat) : Int)) by unfold lvRule; rw [if_pos hmem])
    generalize ((s.rs.idxOf r : Nat) : Int) = v at *
    clear hk hmem
    go_wp2_with fail
    go_ret
    rw [hT.out]
    exact ⟨rfl, A, n, c, B, d, mm, P1.out, F1.out⟩
  · have hk := P1.out.k r
    rw [if_neg hmem] at hk
    obtain rfl : false = kn := by rw [← Hkn.out, hk]; rfl
    obtain ⟨dd, hdd⟩ : ∃ dd, lvDep s r = dd := ⟨_, rfl⟩
    have hT := Lib.hid (show lvRule s r = (⟨s.rs ++ [r], s.ds ++ [dd]⟩, (n : Int)) by unfold lvRule; rw [if_neg hmem, hdd, P0.out.hr])
    have HDo := Lib.hid (lvRule_do HI.out HO.out)
    have HDD := Lib.hid hdd
    have HMem := Lib.hid hmem
    obtain ⟨pb, hpb⟩ : ∃ pb, isP r = pb := ⟨_, rfl⟩
    have Hpb := Lib.hid hpb
    clear hk hmem hdd hpb
    obtain ⟨d0, d1, d2⟩ := BX1.out.three
    have bl1 := BX1.out.lt
    go_upto_if 20 with ((go_at_call 27; refine (isPair_any r pb _ Hpb.out).mono ?_; rintro e w1 ⟨rfl, hb1⟩))
    clear d0 d1 d2 bl1
    have P2 := Lib.hid (P1.out.next hb1)
    have F2 := Lib.hid (F1.out.trans (LvF.of_below hb1))
    have BX2 := Lib.hid (BX1.out.next hb1)
    clear hb1
    go_cut [7] (fun d_ wx => d_ = .int .i64 dd ∧ Below w1.heap.size w1 wx)
    case first =>
      rcases HO.out with ⟨h0, ha, hb⟩ | ⟨cc, hcc, hl, _⟩
      · obtain rfl : true = pb := by rw [← Hpb.out]; simp [isP, h0]
        have hD := HDD.out
        unfold lvDep at hD
        rw [if_pos h0] at hD
        obtain ⟨an, han⟩ : ∃ an : Nat, r.a = an := ⟨r.a.toNat, by have := ha.1; omega⟩
        obtain ⟨bn, hbn⟩ : ∃ bn : Nat, r.b = bn := ⟨r.b.toNat, by have := hb.1; omega⟩
        have la := ha.2
        have lb := hb.2
        rw [P2.out.hr, han] at la
        rw [P2.out.hr, hbn] at lb
        obtain ⟨ga, gb, hA, hB, ga1, gb1, hrd⟩ := P2.out.g.red P2.out.hr P2.out.hd (by omega)
        obtain ⟨va, _, _, _⟩ := hrd an (by omega)
        obtain ⟨vb, _, _, _⟩ := hrd bn (by omega)
        rw [han, hbn] at hD
        have loa := HI.out.lo an (by have := P2.out.hr; omega)
        have lob := HI.out.lo bn (by have := P2.out.hr; omega)
        rw [show (⟨s.rs, s.ds⟩ : LvS) = s from rfl] at va vb
        generalize lvD s an = da at *
        generalize lvD s bn = db at *
        subst hD
        obtain ⟨d0, d1, d2⟩ := BX2.out.three
        rw [han] at d1
        rw [hbn] at d2
        have x1 := P2.out.g.x.cell 1
        have xl1 := P2.out.g.x.lt
        have bl1 := BX2.out.lt
        rw [hB] at x1
        have za : (0 : Int) ≤ (an : Int) := by omega
        have zb : (0 : Int) ≤ (bn : Int) := by omega
        clear hrd ha hb
        have hup := upc w1.heap.size w1
        have m0 : 1 ≤ max da db := by omega
        have m1 : max da db ≤ 1048576 := by omega
        have u1 : IntKind.i64.wrap (max da db + 1) = max da db + 1 := IntWalk.i64_in _ (by omega)
        go_wp2_with fail
        refine wp_region_up w1.heap.size (by kernel_rfl) (by kernel_rfl) ?_
        repeat (go_big_quiet_step ((fail)))
        refine wpQuiet_nil ?_
        intro w4 hup_w4
        have hb4 := up_of hup_w4
        go_wp2_with fail
        all_goals
          go_meet
          exact ⟨by congr 1; omega, hb4⟩
      · obtain rfl : false = pb := by rw [← Hpb.out]; unfold isP; rw [hl]; rfl
        obtain rfl : 1 = dd := by rw [← HDD.out]; unfold lvDep; rw [if_neg (by rw [hl]; show ¬ (1 : Nat) = 0; omega)]
        go_wp2_with fail
        go_meet
        exact ⟨rfl, Below.refl _ _⟩
    case rest =>
      obtain ⟨rfl, hb3⟩ := hcut
      have Z3 := Lib.hid ((P2.out.z F2.out).next hb3)
      have BX3 := Lib.hid (BX2.out.next hb3)
      have HR := Lib.hid P2.out.hr
      have HDl := Lib.hid P2.out.hd
      have HK := Lib.hid P2.out.k
      have nbq := Lib.hid (show some W.heap.size ≠ (Value.slice A n c).ownBlock from fun e => by have := (P0.out.g.q.lt _ e.symm).2; omega)
      have neM := Lib.hid (show W.heap.size ≠ M by have := P0.out.m.lt; omega)
      have neX := Lib.hid (show W.heap.size ≠ X by have := P0.out.g.x.lt; omega)
      have nbk := Lib.hid (show some W.heap.size ≠ (Value.slice B n d).ownBlock from fun e => by have := (P0.out.g.k.lt _ e.symm).2; omega)
      clear P1 P2 F1 F2 BX1 BX2 P0 hb3 xl
      have zk : (n + 1) * 32 ≤ 140737488355328 := by omega
      have zk8 : (n + 1) * 8 ≤ 140737488355328 := by omega
      have zkm : n + 1 ≤ maxLen := by unfold maxLen; omega
      have x0 := Z3.out.g.x.cell 0
      have x1 := Z3.out.g.x.cell 1
      have xl := Z3.out.g.x.lt
      obtain ⟨d0, d1, d2⟩ := BX3.out.three
      have bl := BX3.out.lt
      go_wp2_with fail
      --STAGE
      have HS := Lib.hid (show ∀ W', Blk W' X 57 #[.slice A n c, .slice B n d, .map (some M)] → Blk W' W.heap.size 59 #[.string r.l, .int .i64 r.a, .int .i64 r.b] → (W'.cell? ⟨X, 0, none⟩ = some (.slice A n c) ∧ W'.cell? ⟨X, 1, none⟩ = some (.slice B n d) ∧ W'.cell? ⟨W.heap.size, 0, none⟩ = some (.string r.l) ∧ W'.cell? ⟨W.heap.size, 1, none⟩ = some (.int .i64 r.a) ∧ W'.cell? ⟨W.heap.size, 2, none⟩ = some (.int .i64 r.b)) from
        fun W' h1 h2 => ⟨h1.cell 0, h1.cell 1, h2.cell 0, h2.cell 1, h2.cell 2⟩)
      refine wp_region_N (fun _ => True) [] (by kernel_rfl) ?_
      refine wpAnyN_take (i := 1) (v := ?_) rfl (by kernel_rfl) (fun _ _ _ h => h) (by rfl) (fun W hW => ?_) trivial ?_
      rotate_left
      · go_simp
        try with_reducible rfl
      try simp only [List.getElem_toArray, List.getElem_cons_zero, List.getElem_cons_succ, Act.put, List.setIfInBounds_toArray, List.set_cons_zero, List.set_cons_succ]
      refine wpAnyN_T _ (wpAny_of_N (S := fun W' => W'.cell? ⟨X, 0, none⟩ = some (.slice A n c) ∧ W'.cell? ⟨X, 1, none⟩ = some (.slice B n d) ∧ W'.cell? ⟨W.heap.size, 0, none⟩ = some (.string r.l) ∧ W'.cell? ⟨W.heap.size, 1, none⟩ = some (.int .i64 r.a) ∧ W'.cell? ⟨W.heap.size, 2, none⟩ = some (.int .i64 r.b)) (N := [20, 21, 22, 23]) _ _ _ _ ?_)
      clear x0 x1 d0 d1 d2
      have Z0 := Lib.hid Z3.out.drew
      have X0 := Lib.hid BX3.out.drew
      generalize wc.drew = wd at *
      have hS0 := HS.out _ Z0.out.g.x X0.out
      clear Z3 BX3
      refine wpAnyN_take (i := 0) (v := ?_) rfl (by kernel_rfl) (fun _ _ _ h => h) (by rfl) (fun W hW => ?_) hS0 ?_
      rotate_left
      · obtain ⟨z0, z1, z2, z3, z4⟩ := hW
        go_simp
        try with_reducible rfl
      try simp only [List.getElem_toArray, List.getElem_cons_zero, List.getElem_cons_succ, Act.put, List.setIfInBounds_toArray, List.set_cons_zero, List.set_cons_succ]
      refine wpAnyN_take (i := 2) (v := ?_) rfl (by kernel_rfl) (fun _ _ _ h => h) (by rfl) (fun W hW => ?_) hS0 ?_
      rotate_left
      · obtain ⟨z0, z1, z2, z3, z4⟩ := hW
        go_simp
        try with_reducible rfl
      try simp only [List.getElem_toArray, List.getElem_cons_zero, List.getElem_cons_succ, Act.put, List.setIfInBounds_toArray, List.set_cons_zero, List.set_cons_succ]
      refine wpAnyN_take (i := 3) (v := ?_) rfl (by kernel_rfl) (fun _ _ _ h => h) (by rfl) (fun W hW => ?_) hS0 ?_
      rotate_left
      · obtain ⟨z0, z1, z2, z3, z4⟩ := hW
        go_simp
        try with_reducible rfl
      try simp only [List.getElem_toArray, List.getElem_cons_zero, List.getElem_cons_succ, Act.put, List.setIfInBounds_toArray, List.set_cons_zero, List.set_cons_succ]
      refine wpAnyN_take (i := 4) (v := ?_) rfl (by kernel_rfl) (fun _ _ _ h => h) (by rfl) (fun W hW => ?_) hS0 ?_
      rotate_left
      · obtain ⟨z0, z1, z2, z3, z4⟩ := hW
        go_simp
        try with_reducible rfl
      try simp only [List.getElem_toArray, List.getElem_cons_zero, List.getElem_cons_succ, Act.put, List.setIfInBounds_toArray, List.set_cons_zero, List.set_cons_succ]
      refine wpAnyN_take (i := 5) (v := ?_) rfl (by kernel_rfl) (fun _ _ _ h => h) (by rfl) (fun W hW => ?_) hS0 ?_
      rotate_left
      · obtain ⟨z0, z1, z2, z3, z4⟩ := hW
        go_simp
        try with_reducible rfl
      try simp only [List.getElem_toArray, List.getElem_cons_zero, List.getElem_cons_succ, Act.put, List.setIfInBounds_toArray, List.set_cons_zero, List.set_cons_succ]
      refine wpAnyN_take (i := 6) (v := ?_) rfl (by kernel_rfl) (fun _ _ _ h => h) (by rfl) (fun W hW => ?_) hS0 ?_
      rotate_left
      · obtain ⟨z0, z1, z2, z3, z4⟩ := hW
        go_simp
        try with_reducible rfl
      try simp only [List.getElem_toArray, List.getElem_cons_zero, List.getElem_cons_succ, Act.put, List.setIfInBounds_toArray, List.set_cons_zero, List.set_cons_succ]
      refine wpAnyN_take (i := 7) (v := ?_) rfl (by kernel_rfl) (fun _ _ _ h => h) (by rfl) (fun W hW => ?_) hS0 ?_
      rotate_left
      · obtain ⟨z0, z1, z2, z3, z4⟩ := hW
        go_simp
        try with_reducible rfl
      try simp only [List.getElem_toArray, List.getElem_cons_zero, List.getElem_cons_succ, Act.put, List.setIfInBounds_toArray, List.set_cons_zero, List.set_cons_succ]
      refine wpAnyN_take (i := 10) (v := ?_) rfl (by kernel_rfl) (fun _ _ _ h => h) (by rfl) (fun W hW => ?_) hS0 ?_
      rotate_left
      · obtain ⟨z0, z1, z2, z3, z4⟩ := hW
        go_simp
        try with_reducible rfl
      try simp only [List.getElem_toArray, List.getElem_cons_zero, List.getElem_cons_succ, Act.put, List.setIfInBounds_toArray, List.set_cons_zero, List.set_cons_succ]
      refine wpAnyN_take (i := 11) (v := ?_) rfl (by kernel_rfl) (fun _ _ _ h => h) (by rfl) (fun W hW => ?_) hS0 ?_
      rotate_left
      · obtain ⟨z0, z1, z2, z3, z4⟩ := hW
        go_simp
        try with_reducible rfl
      try simp only [List.getElem_toArray, List.getElem_cons_zero, List.getElem_cons_succ, Act.put, List.setIfInBounds_toArray, List.set_cons_zero, List.set_cons_succ]
      refine wpAnyN_take (i := 12) (v := ?_) rfl (by kernel_rfl) (fun _ _ _ h => h) (by rfl) (fun W hW => ?_) hS0 ?_
      rotate_left
      · obtain ⟨z0, z1, z2, z3, z4⟩ := hW
        go_simp
        try with_reducible rfl
      try simp only [List.getElem_toArray, List.getElem_cons_zero, List.getElem_cons_succ, Act.put, List.setIfInBounds_toArray, List.set_cons_zero, List.set_cons_succ]
      refine wpAnyN_take (i := 13) (v := ?_) rfl (by kernel_rfl) (fun _ _ _ h => h) (by rfl) (fun W hW => ?_) hS0 ?_
      rotate_left
      · obtain ⟨z0, z1, z2, z3, z4⟩ := hW
        go_simp
        try with_reducible rfl
      try simp only [List.getElem_toArray, List.getElem_cons_zero, List.getElem_cons_succ, Act.put, List.setIfInBounds_toArray, List.set_cons_zero, List.set_cons_succ]
      refine wpAnyN_take (i := 14) (v := ?_) rfl (by kernel_rfl) (fun _ _ _ h => h) (by rfl) (fun W hW => ?_) hS0 ?_
      rotate_left
      · obtain ⟨z0, z1, z2, z3, z4⟩ := hW
        go_simp
        try with_reducible rfl
      try simp only [List.getElem_toArray, List.getElem_cons_zero, List.getElem_cons_succ, Act.put, List.setIfInBounds_toArray, List.set_cons_zero, List.set_cons_succ]
      clear hS0
      refine wpAnyN_two (i := 8) (j := 15) rfl rfl (by kernel_rfl) (fun K hK => ?g1) (fun K hK => ?g2)
      case' g1 =>
        go_simp
        have Z4 := Lib.hid (Z0.out.alloc (.cells #[.string r.l, .int .i64 r.a, .int .i64 r.b] 59))
        have X4 := Lib.hid (X0.out.alloc (.cells #[.string r.l, .int .i64 r.a, .int .i64 r.b] 59))
        refine hK.out _ _ (fun _ => HS.out _ Z4.out.g.x X4.out) ?_
        clear hK K
        try simp only [List.getElem_toArray, List.getElem_cons_zero, List.getElem_cons_succ, Act.put, List.setIfInBounds_toArray, List.set_cons_zero, List.set_cons_succ]
        refine wpAnyN_two (i := 9) (j := 15) rfl rfl (by kernel_rfl) (fun K hK => ?g3) (fun K hK => ?g4)
      case' g3 =>
        refine step_pushL (by rfl) _ _ _ (by rfl) w0.heap.size 59 3 32 elem_rule Fac.cells A n c s.rs (by rfl) Z4.out.g.q _ r #[.string r.l, .int .i64 r.a, .int .i64 r.b] 59 (0, 0) (by rfl) (heap_alloc_new _ _) rfl rfl (one_fac _) (by omega) zk zkm Z4.out.g.e.size ?_
        intro A8 c8 w8 own8 hg8 old8
        have Z5 := Lib.hid (Z4.out.pushR own8 hg8 old8)
        have X5 := Lib.hid (X4.out.grown hg8 nbq.out)
        refine hK.out _ _ (fun _ => HS.out _ Z5.out.g.x X5.out) ?_
        clear hK K
        try simp only [List.getElem_toArray, List.getElem_cons_zero, List.getElem_cons_succ, Act.put, List.setIfInBounds_toArray, List.set_cons_zero, List.set_cons_succ]
        refine wpAnyN_next (i := 15) rfl (by kernel_rfl) (fun K hK => ?_)
        go_simp
        have Z6 := Lib.hid (Z5.out.alloc (.cells #[.int .i64 dd] 2))
        have X6 := Lib.hid (X5.out.alloc (.cells #[.int .i64 dd] 2))
        refine hK.out _ _ (fun _ => HS.out _ Z6.out.g.x X6.out) ?_
        clear hK K
        try simp only [List.getElem_toArray, List.getElem_cons_zero, List.getElem_cons_succ, Act.put, List.setIfInBounds_toArray, List.set_cons_zero, List.set_cons_succ]
        refine wpAnyN_next (i := 16) rfl (by kernel_rfl) (fun K hK => ?_)
        refine step_pushL (by rfl) _ _ _ (by rfl) w0.heap.size 2 1 8 elem_int intE B n d s.ds (by rfl) Z6.out.g.k _ dd #[.int .i64 dd] 2 (0, 0) (by rfl) (heap_alloc_new _ _) rfl rfl (by simp [intE, Value.oneCell']) (by omega) zk8 zkm Z6.out.g.e.size ?_
        intro A9 c9 w9 own9 hg9 old9
        have Z7 := Lib.hid (Z6.out.pushD own9 hg9 old9)
        have X7 := Lib.hid (X6.out.grown hg9 nbk.out)
        refine hK.out _ _ (fun _ => HS.out _ Z7.out.g.x X7.out) ?_
        clear hK K
        try simp only [List.getElem_toArray, List.getElem_cons_zero, List.getElem_cons_succ, Act.put, List.setIfInBounds_toArray, List.set_cons_zero, List.set_cons_succ]
        have x70 := Z7.out.g.x.cell 0
        have x71 := Z7.out.g.x.cell 1
        have x7f := Z7.out.g.x.frozen
        have x7l := Z7.out.g.x.lt
        clear own8 own9 hg8 hg9 old8 old9 Z4 Z5 Z6 X4 X5 X6
      case' g4 =>
        go_simp
        have Z5 := Lib.hid (Z4.out.alloc (.cells #[.int .i64 dd] 2))
        have X5 := Lib.hid (X4.out.alloc (.cells #[.int .i64 dd] 2))
        refine hK.out _ _ (fun _ => HS.out _ Z5.out.g.x X5.out) ?_
        clear hK K
        try simp only [List.getElem_toArray, List.getElem_cons_zero, List.getElem_cons_succ, Act.put, List.setIfInBounds_toArray, List.set_cons_zero, List.set_cons_succ]
        have nR := Lib.hid ((Blk.new wd 59 #[.string r.l, .int .i64 r.a, .int .i64 r.b]).alloc (.cells #[.int .i64 dd] 2))
        have nS := Lib.hid (show Blk ((wd.alloc (.cells #[.string r.l, .int .i64 r.a, .int .i64 r.b] 59)).alloc (.cells #[.int .i64 dd] 2)) (wd.heap.size + 1) 2 #[.int .i64 dd] by
          have h := Blk.new (wd.alloc (.cells #[.string r.l, .int .i64 r.a, .int .i64 r.b] 59)) 2 #[.int .i64 dd]
          rw [show (wd.alloc (.cells #[.string r.l, .int .i64 r.a, .int .i64 r.b] 59)).heap.size = wd.heap.size + 1 by simp] at h; exact h)
        refine wpAnyN_next (i := 9) rfl (by kernel_rfl) (fun K hK => ?_)
        refine step_pushL (by rfl) _ _ _ (by rfl) w0.heap.size 59 3 32 elem_rule Fac.cells A n c s.rs (by rfl) Z5.out.g.q _ r #[.string r.l, .int .i64 r.a, .int .i64 r.b] 59 (0, 0) (by rfl) nR.out rfl rfl (one_fac _) (by omega) zk zkm Z5.out.g.e.size ?_
        intro A8 c8 w8 own8 hg8 old8
        have nS8 := Lib.hid (nS.out.grown hg8 (own_blk_ne Z5.out.g.q nS.out (by decide)))
        have Z6 := Lib.hid (Z5.out.pushR own8 hg8 old8)
        have X6 := Lib.hid (X5.out.grown hg8 nbq.out)
        refine hK.out _ _ (fun _ => HS.out _ Z6.out.g.x X6.out) ?_
        clear hK K
        try simp only [List.getElem_toArray, List.getElem_cons_zero, List.getElem_cons_succ, Act.put, List.setIfInBounds_toArray, List.set_cons_zero, List.set_cons_succ]
        refine wpAnyN_next (i := 16) rfl (by kernel_rfl) (fun K hK => ?_)
        refine step_pushL (by rfl) _ _ _ (by rfl) w0.heap.size 2 1 8 elem_int intE B n d s.ds (by rfl) Z6.out.g.k _ dd #[.int .i64 dd] 2 (0, 0) (by rfl) nS8.out rfl rfl (by simp [intE, Value.oneCell']) (by omega) zk8 zkm Z6.out.g.e.size ?_
        intro A9 c9 w9 own9 hg9 old9
        have Z7 := Lib.hid (Z6.out.pushD own9 hg9 old9)
        have X7 := Lib.hid (X6.out.grown hg9 nbk.out)
        refine hK.out _ _ (fun _ => HS.out _ Z7.out.g.x X7.out) ?_
        clear hK K
        try simp only [List.getElem_toArray, List.getElem_cons_zero, List.getElem_cons_succ, Act.put, List.setIfInBounds_toArray, List.set_cons_zero, List.set_cons_succ]
        have x70 := Z7.out.g.x.cell 0
        have x71 := Z7.out.g.x.cell 1
        have x7f := Z7.out.g.x.frozen
        have x7l := Z7.out.g.x.lt
        clear own8 own9 hg8 hg9 old8 old9 Z4 Z5 Z6 X4 X5 X6 nR nS nS8
      case' g2 =>
        go_simp
        have Z4 := Lib.hid (Z0.out.alloc (.cells #[.int .i64 dd] 2))
        have X4 := Lib.hid (X0.out.alloc (.cells #[.int .i64 dd] 2))
        refine hK.out _ _ (fun _ => HS.out _ Z4.out.g.x X4.out) ?_
        clear hK K
        try simp only [List.getElem_toArray, List.getElem_cons_zero, List.getElem_cons_succ, Act.put, List.setIfInBounds_toArray, List.set_cons_zero, List.set_cons_succ]
        refine wpAnyN_next (i := 8) rfl (by kernel_rfl) (fun K hK => ?_)
        go_simp
        have Z5 := Lib.hid (Z4.out.alloc (.cells #[.string r.l, .int .i64 r.a, .int .i64 r.b] 59))
        have X5 := Lib.hid (X4.out.alloc (.cells #[.string r.l, .int .i64 r.a, .int .i64 r.b] 59))
        refine hK.out _ _ (fun _ => HS.out _ Z5.out.g.x X5.out) ?_
        clear hK K
        try simp only [List.getElem_toArray, List.getElem_cons_zero, List.getElem_cons_succ, Act.put, List.setIfInBounds_toArray, List.set_cons_zero, List.set_cons_succ]
        have nS := Lib.hid ((Blk.new wd 2 #[.int .i64 dd]).alloc (.cells #[.string r.l, .int .i64 r.a, .int .i64 r.b] 59))
        have nR := Lib.hid (show Blk ((wd.alloc (.cells #[.int .i64 dd] 2)).alloc (.cells #[.string r.l, .int .i64 r.a, .int .i64 r.b] 59)) (wd.heap.size + 1) 59 #[.string r.l, .int .i64 r.a, .int .i64 r.b] by
          have h := Blk.new (wd.alloc (.cells #[.int .i64 dd] 2)) 59 #[.string r.l, .int .i64 r.a, .int .i64 r.b]
          rw [show (wd.alloc (.cells #[.int .i64 dd] 2)).heap.size = wd.heap.size + 1 by simp] at h; exact h)
        refine wpAnyN_next (i := 9) rfl (by kernel_rfl) (fun K hK => ?_)
        refine step_pushL (by rfl) _ _ _ (by rfl) w0.heap.size 59 3 32 elem_rule Fac.cells A n c s.rs (by rfl) Z5.out.g.q _ r #[.string r.l, .int .i64 r.a, .int .i64 r.b] 59 (0, 0) (by rfl) nR.out rfl rfl (one_fac _) (by omega) zk zkm Z5.out.g.e.size ?_
        intro A8 c8 w8 own8 hg8 old8
        have nS8 := Lib.hid (nS.out.grown hg8 (own_blk_ne Z5.out.g.q nS.out (by decide)))
        have Z6 := Lib.hid (Z5.out.pushR own8 hg8 old8)
        have X6 := Lib.hid (X5.out.grown hg8 nbq.out)
        refine hK.out _ _ (fun _ => HS.out _ Z6.out.g.x X6.out) ?_
        clear hK K
        try simp only [List.getElem_toArray, List.getElem_cons_zero, List.getElem_cons_succ, Act.put, List.setIfInBounds_toArray, List.set_cons_zero, List.set_cons_succ]
        refine wpAnyN_next (i := 16) rfl (by kernel_rfl) (fun K hK => ?_)
        refine step_pushL (by rfl) _ _ _ (by rfl) w0.heap.size 2 1 8 elem_int intE B n d s.ds (by rfl) Z6.out.g.k _ dd #[.int .i64 dd] 2 (0, 0) (by rfl) nS8.out rfl rfl (by simp [intE, Value.oneCell']) (by omega) zk8 zkm Z6.out.g.e.size ?_
        intro A9 c9 w9 own9 hg9 old9
        have Z7 := Lib.hid (Z6.out.pushD own9 hg9 old9)
        have X7 := Lib.hid (X6.out.grown hg9 nbk.out)
        refine hK.out _ _ (fun _ => HS.out _ Z7.out.g.x X7.out) ?_
        clear hK K
        try simp only [List.getElem_toArray, List.getElem_cons_zero, List.getElem_cons_succ, Act.put, List.setIfInBounds_toArray, List.set_cons_zero, List.set_cons_succ]
        have x70 := Z7.out.g.x.cell 0
        have x71 := Z7.out.g.x.cell 1
        have x7f := Z7.out.g.x.frozen
        have x7l := Z7.out.g.x.lt
        clear own8 own9 hg8 hg9 old8 old9 Z4 Z5 Z6 X4 X5 X6 nR nS nS8
      all_goals
        refine wpAnyN_next (i := 17) rfl (by kernel_rfl) (fun K hK => ?_)
        go_simp
        refine hK.out _ _ (fun _ => HS.out _ Z7.out.g.x X7.out) ?_
        clear hK K
        try simp only [List.getElem_toArray, List.getElem_cons_zero, List.getElem_cons_succ, Act.put, List.setIfInBounds_toArray, List.set_cons_zero, List.set_cons_succ]
        refine wpAnyN_next (i := 18) rfl (by kernel_rfl) (fun K hK => ?_)
        go_simp
        refine hK.out _ _ (fun _ => HS.out _ Z7.out.g.x X7.out) ?_
        clear hK K
        try simp only [List.getElem_toArray, List.getElem_cons_zero, List.getElem_cons_succ, Act.put, List.setIfInBounds_toArray, List.set_cons_zero, List.set_cons_succ]
        refine wpAnyN_next (i := 19) rfl (by kernel_rfl) (fun K hK => ?_)
        go_simp
        refine hK.out _ _ (fun _ => HS.out _ Z7.out.g.x X7.out) ?_
        clear hK K
        try simp only [List.getElem_toArray, List.getElem_cons_zero, List.getElem_cons_succ, Act.put, List.setIfInBounds_toArray, List.set_cons_zero, List.set_cons_succ]
        refine wpAnyN_next (i := 20) rfl (by kernel_rfl) (fun K hK => ?_)
        go_simp
        refine hK.out _ _ (fun h => absurd h (by decide)) ?_
        clear hK K
        try simp only [List.getElem_toArray, List.getElem_cons_zero, List.getElem_cons_succ, Act.put, List.setIfInBounds_toArray, List.set_cons_zero, List.set_cons_succ]
        have Z8 := Lib.hid (Z7.out.set0 (.slice A8 (n + 1) c8))
        have X8 := Lib.hid (X7.out.far (p := ⟨X, 0, none⟩) neX.out (.slice A8 (n + 1) c8))
        have x80 := Z8.out.g.x.cell 0
        have x81 := Z8.out.g.x.cell 1
        have x8f := Z8.out.g.x.frozen
        have x8l := Z8.out.g.x.lt
        refine wpAnyN_next (i := 21) rfl (by kernel_rfl) (fun K hK => ?_)
        go_simp
        refine hK.out _ _ (fun h => absurd h (by decide)) ?_
        clear hK K
        try simp only [List.getElem_toArray, List.getElem_cons_zero, List.getElem_cons_succ, Act.put, List.setIfInBounds_toArray, List.set_cons_zero, List.set_cons_succ]
        refine wpAnyN_next (i := 22) rfl (by kernel_rfl) (fun K hK => ?_)
        go_simp
        refine hK.out _ _ (fun h => absurd h (by decide)) ?_
        clear hK K
        try simp only [List.getElem_toArray, List.getElem_cons_zero, List.getElem_cons_succ, Act.put, List.setIfInBounds_toArray, List.set_cons_zero, List.set_cons_succ]
        refine wpAnyN_next (i := 23) rfl (by kernel_rfl) (fun K hK => ?_)
        go_simp
        refine hK.out _ _ (fun h => absurd h (by decide)) ?_
        clear hK K
        try simp only [List.getElem_toArray, List.getElem_cons_zero, List.getElem_cons_succ, Act.put, List.setIfInBounds_toArray, List.set_cons_zero, List.set_cons_succ]
        refine wpAnyN_done (by kernel_rfl) ?_ _
        have Z9 := Lib.hid (Z8.out.set1 (.slice A9 (n + 1) c9))
        have X9 := Lib.hid (X8.out.far (p := ⟨X, 1, none⟩) neX.out (.slice A9 (n + 1) c9))
        clear Z7 Z8 X7 X8 x70 x71 x7f x7l x80 x81 x8f x8l HS
        generalize hwy : ((w9.setCell ⟨X, 0, none⟩ (.slice A8 (n + 1) c8)).setCell ⟨X, 1, none⟩ (.slice A9 (n + 1) c9)) = wy at *
        clear hwy
        go_wp2_with fail
        have um : IntKind.i64.wrap ((n : Int) + 1 - 1) = (n : Int) := by rw [IntWalk.i64_in _ (by omega)]; omega
        have um3 : IntKind.i64.wrap (n : Int) = (n : Int) := IntWalk.i64_in _ (by omega)
        have um2 : IntKind.i64.wrap (((n + 1 : Nat) : Int) - 1) = (n : Int) := by rw [IntWalk.i64_in _ (by omega)]; omega
        have HT := Lib.hid (show ∀ W', Blk W' X 57 #[.slice A8 (n + 1) c8, .slice A9 (n + 1) c9, .map (some M)] → Blk W' W.heap.size 59 #[.string r.l, .int .i64 r.a, .int .i64 r.b] → (W'.cell? ⟨X, 0, none⟩ = some (.slice A8 (n + 1) c8) ∧ W'.cell? ⟨X, 2, none⟩ = some (.map (some M)) ∧ W'.cell? ⟨W.heap.size, 0, none⟩ = some (.string r.l) ∧ W'.cell? ⟨W.heap.size, 1, none⟩ = some (.int .i64 r.a) ∧ W'.cell? ⟨W.heap.size, 2, none⟩ = some (.int .i64 r.b)) from
          fun W' h1 h2 => ⟨h1.cell 0, h1.cell 2, h2.cell 0, h2.cell 1, h2.cell 2⟩)
        refine wp_region_N (fun W' => W'.cell? ⟨X, 0, none⟩ = some (.slice A8 (n + 1) c8) ∧ W'.cell? ⟨X, 2, none⟩ = some (.map (some M)) ∧ W'.cell? ⟨W.heap.size, 0, none⟩ = some (.string r.l) ∧ W'.cell? ⟨W.heap.size, 1, none⟩ = some (.int .i64 r.a) ∧ W'.cell? ⟨W.heap.size, 2, none⟩ = some (.int .i64 r.b)) [12] (by kernel_rfl) ?_
        have Z10 := Lib.hid Z9.out.drew
        have X10 := Lib.hid X9.out.drew
        generalize wy.drew = wz at *
        have hS0 := HT.out _ Z10.out.g.x X10.out
        clear Z9 X9
        refine wpAnyN_take (i := 0) (v := ?_) rfl (by kernel_rfl) (fun _ _ _ h => h) (by rfl) (fun W hW => ?_) hS0 ?_
        rotate_left
        · obtain ⟨z0, z1, z2, z3, z4⟩ := hW
          go_simp
          try with_reducible rfl
        try simp only [List.getElem_toArray, List.getElem_cons_zero, List.getElem_cons_succ, Act.put, List.setIfInBounds_toArray, List.set_cons_zero, List.set_cons_succ]
        refine wpAnyN_take (i := 1) (v := ?_) rfl (by kernel_rfl) (fun _ _ _ h => h) (by rfl) (fun W hW => ?_) hS0 ?_
        rotate_left
        · obtain ⟨z0, z1, z2, z3, z4⟩ := hW
          go_simp
          try with_reducible rfl
        try simp only [List.getElem_toArray, List.getElem_cons_zero, List.getElem_cons_succ, Act.put, List.setIfInBounds_toArray, List.set_cons_zero, List.set_cons_succ]
        refine wpAnyN_take (i := 2) (v := ?_) rfl (by kernel_rfl) (fun _ _ _ h => h) (by rfl) (fun W hW => ?_) hS0 ?_
        rotate_left
        · obtain ⟨z0, z1, z2, z3, z4⟩ := hW
          go_simp
          try with_reducible rfl
        try simp only [List.getElem_toArray, List.getElem_cons_zero, List.getElem_cons_succ, Act.put, List.setIfInBounds_toArray, List.set_cons_zero, List.set_cons_succ]
        refine wpAnyN_take (i := 3) (v := ?_) rfl (by kernel_rfl) (fun _ _ _ h => h) (by rfl) (fun W hW => ?_) hS0 ?_
        rotate_left
        · obtain ⟨z0, z1, z2, z3, z4⟩ := hW
          go_simp
          try with_reducible rfl
        try simp only [List.getElem_toArray, List.getElem_cons_zero, List.getElem_cons_succ, Act.put, List.setIfInBounds_toArray, List.set_cons_zero, List.set_cons_succ]
        refine wpAnyN_take (i := 4) (v := ?_) rfl (by kernel_rfl) (fun _ _ _ h => h) (by rfl) (fun W hW => ?_) hS0 ?_
        rotate_left
        · obtain ⟨z0, z1, z2, z3, z4⟩ := hW
          go_simp
          try with_reducible rfl
        try simp only [List.getElem_toArray, List.getElem_cons_zero, List.getElem_cons_succ, Act.put, List.setIfInBounds_toArray, List.set_cons_zero, List.set_cons_succ]
        refine wpAnyN_take (i := 5) (v := ?_) rfl (by kernel_rfl) (fun _ _ _ h => h) (by rfl) (fun W hW => ?_) hS0 ?_
        rotate_left
        · obtain ⟨z0, z1, z2, z3, z4⟩ := hW
          go_simp
          try with_reducible rfl
        try simp only [List.getElem_toArray, List.getElem_cons_zero, List.getElem_cons_succ, Act.put, List.setIfInBounds_toArray, List.set_cons_zero, List.set_cons_succ]
        refine wpAnyN_take (i := 6) (v := ?_) rfl (by kernel_rfl) (fun _ _ _ h => h) (by rfl) (fun W hW => ?_) hS0 ?_
        rotate_left
        · obtain ⟨z0, z1, z2, z3, z4⟩ := hW
          go_simp
          try with_reducible rfl
        try simp only [List.getElem_toArray, List.getElem_cons_zero, List.getElem_cons_succ, Act.put, List.setIfInBounds_toArray, List.set_cons_zero, List.set_cons_succ]
        refine wpAnyN_take (i := 7) (v := ?_) rfl (by kernel_rfl) (fun _ _ _ h => h) (by rfl) (fun W hW => ?_) hS0 ?_
        rotate_left
        · obtain ⟨z0, z1, z2, z3, z4⟩ := hW
          go_simp
          try with_reducible rfl
        try simp only [List.getElem_toArray, List.getElem_cons_zero, List.getElem_cons_succ, Act.put, List.setIfInBounds_toArray, List.set_cons_zero, List.set_cons_succ]
        refine wpAnyN_take (i := 8) (v := ?_) rfl (by kernel_rfl) (fun _ _ _ h => h) (by rfl) (fun W hW => ?_) hS0 ?_
        rotate_left
        · obtain ⟨z0, z1, z2, z3, z4⟩ := hW
          go_simp
          try with_reducible rfl
        try simp only [List.getElem_toArray, List.getElem_cons_zero, List.getElem_cons_succ, Act.put, List.setIfInBounds_toArray, List.set_cons_zero, List.set_cons_succ]
        refine wpAnyN_take (i := 9) (v := ?_) rfl (by kernel_rfl) (fun _ _ _ h => h) (by rfl) (fun W hW => ?_) hS0 ?_
        rotate_left
        · obtain ⟨z0, z1, z2, z3, z4⟩ := hW
          go_simp
          try with_reducible rfl
        try simp only [List.getElem_toArray, List.getElem_cons_zero, List.getElem_cons_succ, Act.put, List.setIfInBounds_toArray, List.set_cons_zero, List.set_cons_succ]
        refine wpAnyN_take (i := 10) (v := ?_) rfl (by kernel_rfl) (fun _ _ _ h => h) (by rfl) (fun W hW => ?_) hS0 ?_
        rotate_left
        · obtain ⟨z0, z1, z2, z3, z4⟩ := hW
          go_simp
          try with_reducible rfl
        try simp only [List.getElem_toArray, List.getElem_cons_zero, List.getElem_cons_succ, Act.put, List.setIfInBounds_toArray, List.set_cons_zero, List.set_cons_succ]
        refine wpAnyN_take (i := 11) (v := ?_) rfl (by kernel_rfl) (fun _ _ _ h => h) (by rfl) (fun W hW => ?_) hS0 ?_
        rotate_left
        · obtain ⟨z0, z1, z2, z3, z4⟩ := hW
          go_simp
          try with_reducible rfl
        try simp only [List.getElem_toArray, List.getElem_cons_zero, List.getElem_cons_succ, Act.put, List.setIfInBounds_toArray, List.set_cons_zero, List.set_cons_succ]
        clear hS0
        refine wpAnyN_next (i := 12) rfl (by kernel_rfl) (fun K hK => ?_)
        refine step_put (w0 := w0) (by rfl) _ _ _ (by rfl) rule_key Try.underlying54 (by rfl) r (.int .i64 (n : Int)) (by rfl) (by show Value.int .i64 _ = _; exact congrArg _ (by first | omega | rw [um2] | rw [um2, um3])) Z10.out.mp w0.heap.size rfl Z10.out.hm.1 Z10.out.g.e ?_
        intro w10 hm10 hg10 hb10
        have Z11 := Lib.hid (Z10.out.put hm10 hg10 hb10)
        have X11 := Lib.hid (X10.out.grown hg10 (by intro e; injection e with e; exact neM.out e))
        refine hK.out _ _ (fun h => absurd h (by decide)) ?_
        clear hK K
        try simp only [List.getElem_toArray, List.getElem_cons_zero, List.getElem_cons_succ, Act.put, List.setIfInBounds_toArray, List.set_cons_zero, List.set_cons_succ]
        refine wpAnyN_done (by kernel_rfl) ?_ _
        clear Z10 X10 hm10 hg10 hb10 HT um um2 um3
        go_wp2_with fail
        refine wp_region_N (fun W' => W'.cell? ⟨X, 2, none⟩ = some (.map (some M)) ∧ W'.cell? ⟨W.heap.size, 0, none⟩ = some (.string r.l) ∧ W'.cell? ⟨W.heap.size, 1, none⟩ = some (.int .i64 r.a) ∧ W'.cell? ⟨W.heap.size, 2, none⟩ = some (.int .i64 r.b) ∧ (Instr.lookup 54 (.map (some M)) (.agg #[.string r.l, .int .i64 r.a, .int .i64 r.b]) false).run Try.prog W' = .ok (.int .i64 (n : Int)) W') [] (by kernel_rfl) ?_
        have Z12 := Lib.hid Z11.out.drew
        have X12 := Lib.hid X11.out.drew
        generalize w10.drew = wq at *
        have hlk : (Instr.lookup 54 (.map (some M)) (.agg #[.string r.l, .int .i64 r.a, .int .i64 r.b]) false).run Try.prog wq = .ok (.int .i64 (n : Int)) wq := by
          have := Z12.out.mp.look rule_key Try.underlying54 (zero_i64 wq) r
          rw [mget_mput, if_pos rfl] at this
          exact this
        have hS0 : wq.cell? ⟨X, 2, none⟩ = some (.map (some M)) ∧ wq.cell? ⟨W.heap.size, 0, none⟩ = some (.string r.l) ∧ wq.cell? ⟨W.heap.size, 1, none⟩ = some (.int .i64 r.a) ∧ wq.cell? ⟨W.heap.size, 2, none⟩ = some (.int .i64 r.b) ∧ (Instr.lookup 54 (.map (some M)) (.agg #[.string r.l, .int .i64 r.a, .int .i64 r.b]) false).run Try.prog wq = .ok (.int .i64 (n : Int)) wq :=
          ⟨Z12.out.g.x.cell 2, X12.out.cell 0, X12.out.cell 1, X12.out.cell 2, hlk⟩
        clear Z11 X11 hlk
        refine wpAnyN_take (i := 0) (v := ?_) rfl (by kernel_rfl) (fun _ _ _ h => h) (by rfl) (fun W hW => ?_) hS0 ?_
        rotate_left
        · obtain ⟨z0, z1, z2, z3, z4⟩ := hW
          go_simp
          try with_reducible rfl
        try simp only [List.getElem_toArray, List.getElem_cons_zero, List.getElem_cons_succ, Act.put, List.setIfInBounds_toArray, List.set_cons_zero, List.set_cons_succ]
        refine wpAnyN_take (i := 1) (v := ?_) rfl (by kernel_rfl) (fun _ _ _ h => h) (by rfl) (fun W hW => ?_) hS0 ?_
        rotate_left
        · obtain ⟨z0, z1, z2, z3, z4⟩ := hW
          go_simp
          try with_reducible rfl
        try simp only [List.getElem_toArray, List.getElem_cons_zero, List.getElem_cons_succ, Act.put, List.setIfInBounds_toArray, List.set_cons_zero, List.set_cons_succ]
        refine wpAnyN_take (i := 2) (v := ?_) rfl (by kernel_rfl) (fun _ _ _ h => h) (by rfl) (fun W hW => ?_) hS0 ?_
        rotate_left
        · obtain ⟨z0, z1, z2, z3, z4⟩ := hW
          go_simp
          try with_reducible rfl
        try simp only [List.getElem_toArray, List.getElem_cons_zero, List.getElem_cons_succ, Act.put, List.setIfInBounds_toArray, List.set_cons_zero, List.set_cons_succ]
        refine wpAnyN_take (i := 3) (v := ?_) rfl (by kernel_rfl) (fun _ _ _ h => h) (by rfl) (fun W hW => ?_) hS0 ?_
        rotate_left
        · obtain ⟨z0, z1, z2, z3, z4⟩ := hW
          go_simp
          try with_reducible rfl
        try simp only [List.getElem_toArray, List.getElem_cons_zero, List.getElem_cons_succ, Act.put, List.setIfInBounds_toArray, List.set_cons_zero, List.set_cons_succ]
        refine wpAnyN_take (i := 4) (v := ?_) rfl (by kernel_rfl) (fun _ _ _ h => h) (by rfl) (fun W hW => ?_) hS0 ?_
        rotate_left
        · obtain ⟨z0, z1, z2, z3, z4⟩ := hW
          go_simp
          try with_reducible rfl
        try simp only [List.getElem_toArray, List.getElem_cons_zero, List.getElem_cons_succ, Act.put, List.setIfInBounds_toArray, List.set_cons_zero, List.set_cons_succ]
        refine wpAnyN_take (i := 5) (v := ?_) rfl (by kernel_rfl) (fun _ _ _ h => h) (by rfl) (fun W hW => ?_) hS0 ?_
        rotate_left
        · obtain ⟨z0, z1, z2, z3, z4⟩ := hW
          go_simp
          try with_reducible rfl
        try simp only [List.getElem_toArray, List.getElem_cons_zero, List.getElem_cons_succ, Act.put, List.setIfInBounds_toArray, List.set_cons_zero, List.set_cons_succ]
        refine wpAnyN_take (i := 6) (v := ?_) rfl (by kernel_rfl) (fun _ _ _ h => h) (by rfl) (fun W hW => ?_) hS0 ?_
        rotate_left
        · obtain ⟨z0, z1, z2, z3, z4⟩ := hW
          go_simp
          try with_reducible rfl
        try simp only [List.getElem_toArray, List.getElem_cons_zero, List.getElem_cons_succ, Act.put, List.setIfInBounds_toArray, List.set_cons_zero, List.set_cons_succ]
        clear hS0
        refine wpAnyN_done (by kernel_rfl) ?_ _
        go_wp2_with fail
        go_ret
        rw [hT.out]
        refine ⟨rfl, A8, n + 1, c8, A9, c9, _, ⟨Z12.out.g.shut, Z12.out.mp, fun f => ?_, Z12.out.hm, ?_, ?_⟩, Z12.out.f⟩
        · rw [mget_mput, ← HR.out]; exact map_new HK.out HMem.out f
        · rw [List.length_append, HR.out]; rfl
        · rw [List.length_append, HDl.out]; rfl
end Go.Proofs.Ytajfjgemfnfakaa
