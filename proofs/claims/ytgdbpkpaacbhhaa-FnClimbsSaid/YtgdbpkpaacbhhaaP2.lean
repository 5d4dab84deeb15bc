/-
  Texts of this claim, merged: RuleP RuleK Mark MarkI TrimO TrimI TrimS Trim OrLim MapD WdM WdN WdC IdxR.
-/
import Derived.Test.YtgdbpkpaacbhhaaP1
import Derived.Deep.RegionLaw
import Derived.Maps.OwnOps
import Derived.Deep.RegionHeld3
import Derived.Deep.RegionWith
import Derived.Deep.DeepCutAuto
import Derived.Deep.CutBlock


/-
  Lists of rules that a call makes: what is appended, copied.
-/
namespace Go.Proofs.Ytgdbpkpaacbhhaa
open Go.RowKit

theorem elem_rule : Elem Try.prog 24 82 3 32 := Elem.mk' (z := .agg #[.string .empty, .int .i64 0, .int .i64 0]) Try.underlying24 (by kernel_rfl) rfl
theorem one_fac (f : Fac) : ∀ u ∈ Fac.cells f, u.oneCell' = true := by simp [Fac.cells, Value.oneCell']
/-- what lies behind a list, cell for cell -/
theorem Rd.news {α : Type} {w : World} {B n sz : Nat} {A : Option Addr} {enc : α → List Value} {xs : List α} (h : Rd w B A n sz enc xs) (hl : ∀ x ∈ xs, (enc x).length = sz) (hn : 0 < n) :
    ∃ b o, A = some ⟨b, o, none⟩ ∧ b < B ∧ ∀ j u, (xs.flatMap enc)[j]? = some u → w.cell? ((⟨b, o, none⟩ : Addr).add j) = some u := by
  obtain ⟨b, o, hA, hb, hc⟩ := h.2 hn
  refine ⟨b, o, hA, hb, fun j u hj => ?_⟩
  have hlt := (List.getElem?_eq_some_iff.1 hj).1
  rw [flat_len xs hl] at hlt
  have hsz : 0 < sz := by
    rcases Nat.eq_zero_or_pos sz with h | h
    · subst h; simp at hlt
    · exact h
  have hk : j / sz < xs.length := Nat.div_lt_of_lt_mul (by rw [Nat.mul_comm]; exact hlt)
  have he : j / sz * sz + j % sz = j := by rw [Nat.mul_comm]; exact Nat.div_add_mod j sz
  have hx : xs[j / sz]? = some (xs[j / sz]'hk) := List.getElem?_eq_getElem _
  have h2 := flat_at xs hl _ _ hx (j % sz) (Nat.mod_lt _ hsz)
  rw [he, hj] at h2
  have h3 := hc _ _ hx (j % sz) u h2.symm
  rw [Nat.add_assoc, he] at h3
  simpa [Addr.add_lit] using h3
/-- a row of the call's own, behind a store into a block of another type -/
theorem own_kept' {w : World} {base g : Nat} {e t : TypeId} {sz n : Nat} {v : Value} {xs : List Value} {cs : Array Value} (h : w.ownsRow base e sz v n xs) (hB : Blk w g t cs) (ht : e ≠ t) (u : Value) {i : Nat} : (w.setCell ⟨g, i, none⟩ u).ownsRow base e sz v n xs := by
  refine h.kept (gb_set w g i u) ?_
  cases hv : v.ownBlock with
  | none => exact .inl rfl
  | some k => exact .inr fun e => own_blk_ne h hB ht (by rw [hv]; exact e.symm)
section
variable {α : Type} {P : Program} {w : World} {ops : Array Oper} {o : Oper} {a : Act} {rest : List Oper}
/-- a list appended to a slice of the call's own -/
theorem wpList_app {Q : Exit → Act → World → Prop} (hgd : o.guard = none) (s x : Operand) (t : TypeId) (ho : o.op = .call { callee := .builtin .append, args := #[s, x], argTypes := #[t, t] })
    (base : Nat) (e : TypeId) (sz bytes : Nat) (EI : Elem P t e sz bytes) (enc : α → List Value) (A : Option Addr) (n c : Nat) (xs : List α) (hs : a.eval s = .slice A n c)
    (hown : w.ownsRow base e sz (.slice A n c) n (xs.flatMap enc)) (ad : Addr) (m cc : Nat) (ys : List α) (hx : a.eval x = .slice (some ad) m cc) (hym : ys.length = m) (hm0 : 0 < m) (hnews : ∀ j u, (ys.flatMap enc)[j]? = some u → w.cell? (ad.add j) = some u)
    (hlen : ∀ y ∈ ys, (enc y).length = sz) (hone : ∀ y ∈ ys, ∀ u ∈ enc y, u.oneCell' = true) (hsz : 0 < sz) (hbytes : (n + m) * bytes ≤ 140737488355328) (hm : n + m ≤ maxLen) (hsize : base ≤ w.heap.size)
    (h : ∀ A' c' w', w'.ownsRow base e sz (.slice A' (n + m) c') (n + m) ((xs ++ ys).flatMap enc) → w.grownBy w' (Value.slice A n c).ownBlock →
      ((Value.slice A' (n + m) c').ownBlock = (Value.slice A n c).ownBlock ∨ (Value.slice A' (n + m) c').ownBlock = some w.heap.size) → wpList P ops Q rest (a.put o.dst (.slice A' (n + m) c')) w') : wpList P ops Q (o :: rest) a w := by
  obtain ⟨ht, i, z, hi, hz, h1, h2, hzs⟩ := EI
  refine wpList_plain hgd fun _ hK => ?_
  obtain ⟨v', w', hr, r2, r3, _, r5⟩ := run_append_own_at (P := P) w base t o.type e i z sz bytes ht hi hz h1 h2 hzs hsz _ n _ hown ad m cc (ys.flatMap enc) (by rw [flat_len ys hlen, hym]) hnews
    (fun u hu => by obtain ⟨y, hy, hu⟩ := List.mem_flatMap.1 hu; exact hone y hy u hu) hm hbytes hsize
  obtain ⟨g', cap, rfl, _, _⟩ := r2.form (by omega)
  unfold Oper.wp execOp
  simp only [ho, resolve, invoke, builtin, Sem.run_bind, Sem.run_pure, Result.andThen_ok, List.map_toArray, List.map_cons, List.map_nil, hs, hx, hr]
  exact hK _ _ (h _ _ w' (by rw [List.flatMap_append]; exact r2) r3 r5)
/-- the same, as a step of a region that draws its order -/
theorem step_app {K : Act → World → Prop} {Q : Exit → Act → World → Prop} {E : Prop} (hgd : o.guard = none) (s x : Operand) (t : TypeId) (ho : o.op = .call { callee := .builtin .append, args := #[s, x], argTypes := #[t, t] })
    (base : Nat) (e : TypeId) (sz bytes : Nat) (EI : Elem P t e sz bytes) (enc : α → List Value) (A : Option Addr) (n c : Nat) (xs : List α) (hs : a.eval s = .slice A n c)
    (hown : w.ownsRow base e sz (.slice A n c) n (xs.flatMap enc)) (ad : Addr) (m cc : Nat) (ys : List α) (hx : a.eval x = .slice (some ad) m cc) (hym : ys.length = m) (hm0 : 0 < m) (hnews : ∀ j u, (ys.flatMap enc)[j]? = some u → w.cell? (ad.add j) = some u)
    (hlen : ∀ y ∈ ys, (enc y).length = sz) (hone : ∀ y ∈ ys, ∀ u ∈ enc y, u.oneCell' = true) (hsz : 0 < sz) (hbytes : (n + m) * bytes ≤ 140737488355328) (hm : n + m ≤ maxLen) (hsize : base ≤ w.heap.size)
    (h : ∀ A' c' w', w'.ownsRow base e sz (.slice A' (n + m) c') (n + m) ((xs ++ ys).flatMap enc) → w.grownBy w' (Value.slice A n c).ownBlock → K (a.put o.dst (.slice A' (n + m) c')) w') :
    if Region.wanted o (yielded ops a.tmps) = true then Oper.wp P o a w K Q else E := by
  obtain ⟨ht, i, z, hi, hz, h1, h2, hzs⟩ := EI
  obtain ⟨v', w', hr, r2, r3, _, r5⟩ := run_append_own_at (P := P) w base t o.type e i z sz bytes ht hi hz h1 h2 hzs hsz _ n _ hown ad m cc (ys.flatMap enc) (by rw [flat_len ys hlen, hym]) hnews
    (fun u hu => by obtain ⟨y, hy, hu⟩ := List.mem_flatMap.1 hu; exact hone y hy u hu) hm hbytes hsize
  obtain ⟨g', cap, rfl, _, _⟩ := r2.form (by omega)
  have hw : Region.wanted o (yielded ops a.tmps) = true := by simp [Region.wanted, hgd]
  rw [if_pos hw]
  unfold Oper.wp execOp
  simp only [ho, resolve, invoke, builtin, Sem.run_bind, Sem.run_pure, Result.andThen_ok, List.map_toArray, List.map_cons, List.map_nil, hs, hx, hr]
  exact h _ _ w' (by rw [List.flatMap_append]; exact r2) r3
end
set_option maxHeartbeats 2000000 in
set_option maxRecDepth 100000 in
theorem l02Own_any (gb : Nat) (A : Option Addr) (n c : Nat) (rs : List Fac) (w : World) (hg : gb < w.heap.size) (hc : w.cell? ⟨gb, 0, none⟩ = some (.slice A n c)) (hn : n ≤ 1048576) (hn0 : 0 < n) (hr : Rd w w.heap.size A n 3 Fac.cells rs) :
    Calls Try.prog 66 #[.pointer (some ⟨gb, 0, none⟩)] w (RetG w rs) := by
  have hl := Lib.hid hr.len
  obtain ⟨b, o, rfl, hb, hnews⟩ := hr.news (fun x _ => fac_len x) hn0
  have HN := Lib.hid hnews; clear hnews hr
  have hh := Lib.hid (fun (W : World) (h : Below w.heap.size w W) j u (hj : (rs.flatMap Fac.cells)[j]? = some u) => ((h.cell (p := (⟨b, o, none⟩ : Addr).add j) (by simpa [Addr.add_lit] using hb)).trans (HN.out j u hj)))
  have h2 : Below w.heap.size w ((w.alloc (.cells #[.slice none 0 0] 26)).alloc (.cells #[] 82)) := by (repeat first | exact Below.refl _ _ | assumption | refine Below.drew ?_ | refine Below.alloc ?_ (by first | exact Nat.le_refl _ | (simp; done) | omega | (simp; omega)) _ | refine Below.setCell ?_ (by first | exact Nat.le_refl _ | (simp; done) | omega | (simp; omega)) _)
  have ow : ((w.alloc (.cells #[.slice none 0 0] 26)).alloc (.cells #[] 82)).ownsRow w.heap.size 82 3 (.slice (some ⟨w.heap.size + 1, 0, none⟩) 0 0) 0 (([] : List Fac).flatMap Fac.cells) := by
    simpa using World.ownsRow_made (base := w.heap.size) (e := 82) (size := 3) (w.alloc (.cells #[.slice none 0 0] 26)) #[] 0 (by simp) (by unfold maxLen; omega) rfl
  have bx := (Blk.new w 26 #[.slice none 0 0]).alloc (.cells #[] 82)
  have H2 := Lib.hid h2; have OW := Lib.hid ow; have BX := Lib.hid bx
  clear h2 ow bx
  go_enter Try.func66, Try.ntmps66
  go_wp2_with
    (at_builtin
     refine wpList_app rfl _ _ _ rfl w.heap.size 82 3 32 elem_rule Fac.cells (some ⟨w.heap.size + 1, 0, none⟩) 0 0 [] rfl OW.out ⟨b, o, none⟩ n c rs rfl hl.out hn0 (fun j u hj => hh.out _ H2.out j u hj) (fun x _ => fac_len x) (fun x _ => one_fac x) (by omega) (by omega) (by unfold maxLen; omega) (by simp; omega) ?_
     rw [Nat.zero_add, List.nil_append]
     intro A9 c9 w9 own9 hg9 hat9
     have O9 := Lib.hid own9
     have B9 := Lib.hid (H2.out.grown hg9 (by simp; omega) (fun k hk => (OW.out.lt k hk).1))
     have X9 := BX.out.grown hg9 (by simp [Value.ownBlock])
     have X9' := Lib.hid X9
     have f9 := X9.frozen
     have d9 := X9.cell 0
     have l9 := X9.lt
     clear own9 X9)
  have X10 := X9'.out.set_ 0 (.slice A9 n c9)
  have x10 : (w9.setCell ⟨w.heap.size, 0, none⟩ (.slice A9 n c9)).cell? ⟨w.heap.size, 0, none⟩ = some (.slice A9 n c9) := by rw [X10.cell 0]; rfl
  refine bodyPost_ret (v := .agg #[.slice A9 n c9]) (by simp [results, Try.results66, go_sem, x10]) rfl ⟨A9, c9, by rw [hl.out], ?_, B9.out.setCell (Nat.le_refl _) _⟩
  rw [hl.out]
  exact own_kept' O9.out X9'.out (by decide) _
end Go.Proofs.Ytgdbpkpaacbhhaa


/-
  A map whose keys are rules.
-/
namespace Go.Proofs.Ytgdbpkpaacbhhaa
open Go.RowKit Go.MapKept

section
variable {α : Type} [DecidableEq α] {P : Program} {w : World} {ops : Array Oper} {rest : List Oper} {o : Oper} {a : Act} {b : Nat} {K : α → Value} {mm : List (α × Value)} {kt t e : TypeId} {z : Value}
/-- a look-up in a map of the call's own, with the word whether there is an entry -/
theorem wpList_lookOk {Q : Exit → Act → World → Prop} (hgd : o.guard = none) (m x : Operand) (ho : o.op = .lookup t m x true) (KO : KeyOk P kt K) (ht : P.underlying t = some (.map kt e)) (hz : (zeroValue e).run P w = .ok z w) (hm : a.eval m = .map (some b)) (y : α) (hx : a.eval x = K y)
    (h : MapIs w b K mm) (hK : wpList P ops Q rest (a.put o.dst (.tuple #[(mget y mm).getD z, .bool (mget y mm).isSome])) w) : wpList P ops Q (o :: rest) a w := by
  refine wpList_plain hgd fun _ hK' => ?_
  unfold Oper.wp execOp
  simp only [ho, hm, hx, Sem.run_bind, h.lookOk KO ht hz y, Result.andThen_ok, Sem.run_pure]
  exact hK' _ _ hK
end
theorem zero_i64 (w : World) : (zeroValue 2).run Try.prog w = .ok (.int .i64 0) w := by kernel_rfl
theorem eql_rule (f g : Fac) (W : World) : (binOp .eql 82 (.agg #[.string f.l, .int .i64 f.a, .int .i64 f.b]) (.agg #[.string g.l, .int .i64 g.a, .int .i64 g.b])).run Try.prog W = .ok (.bool (decide (f = g))) W := by
  rw [eq_fac]
  simp [go_sem, tl_inj]
  try (by_cases h1 : f.l = g.l <;> by_cases h2 : f.a = g.a <;> by_cases h3 : f.b = g.b <;> simp [h1, h2, h3])
theorem equal_rule (f g : Fac) (W : World) : (Op.equal 82 f.val g.val).run Try.prog W = .ok (decide (f = g)) W := by
  have h := eql_rule f g W
  unfold binOp at h
  simp only [Sem.run_bind] at h
  unfold Fac.val
  generalize hr : Sem.run Try.prog (Op.equal 82 (.agg #[.string f.l, .int .i64 f.a, .int .i64 f.b]) (.agg #[.string g.l, .int .i64 g.a, .int .i64 g.b])) W = r at h ⊢
  cases r with
  | ok b w' =>
    simp [Result.andThen] at h
    rw [h.1, h.2]
  | _ => simp [Result.andThen] at h
theorem rule_key : KeyOk Try.prog 82 Fac.val := by
  refine ⟨fun e a w => ?_, fun a m es w he => ?_, fun a w => ?_⟩
  · have hs : ∀ n v, (Instr.checkKey e (n + 1) 9 (.string v)).run Try.prog w = .ok () w := fun n v => run_checkKey Try.underlying9 (by simp [IsKey]) e n
    have hi : ∀ n v, (Instr.checkKey e (n + 1) 2 (.int .i64 v)).run Try.prog w = .ok () w := fun n v => run_checkKey Try.underlying2 (by simp [IsKey]) e n
    unfold Fac.val
    show (Instr.checkKey e (9999 + 1) 82 _).run _ _ = _
    unfold Instr.checkKey
    simp only [Sem.run_bind, run_underlying Try.underlying82]
    have hs' := hs 9998
    have hi' := hi 9998
    simp [go_sem, hs', hi']
  · have ask : ∀ (m : List (Fac × Value)) (es : List MapEntry) (i : Nat), es.map (fun e => (e.key, e.val)) = m.map (fun p => (Fac.val p.1, p.2)) → (Instr.findAsking 82 (Fac.val a) es i).run Try.prog w = .ok (midx a m i) w := by
      intro m
      induction m with
      | nil => intro es i he; cases es with | nil => rfl | cons _ _ => simp at he
      | cons p r ih =>
        intro es i he
        cases es with
        | nil => simp at he
        | cons e es =>
          simp at he
          obtain ⟨⟨h1, h2⟩, h3⟩ := he
          unfold Instr.findAsking
          rw [h1, midx_cons]
          simp only [Sem.run_bind, equal_rule, Result.andThen_ok]
          by_cases hap : a = p.1
          · simp [hap, h2]
          · simp only [hap, decide_false, if_false, Bool.false_eq_true]
            exact ih es (i + 1) h3
    cases es with
    | nil =>
      cases m with
      | nil => simp [Instr.findKey, run_underlying Try.underlying82, Instr.findNow, midx]
      | cons _ _ => simp at he
    | cons e es =>
      have hn : Instr.findNow (TypeDesc.struct #[]) (Fac.val a) (e :: es) 0 = none := by unfold Instr.findNow Instr.sameNow; rfl
      have := ask m (e :: es) 0 he
      simp [Instr.findKey, run_underlying Try.underlying82, Instr.findNow, Instr.sameNow, Fac.val] at this ⊢
      exact this
  · have : Instr.sameBits 10000 a.val a.val = true := by
      show Instr.sameBits (9999 + 1) (.agg _) (.agg _) = true
      unfold Instr.sameBits
      simp [Instr.sameBits, beq_toListBytes, tl_beq]
    simp [Instr.keyThatStays, this]
end Go.Proofs.Ytgdbpkpaacbhhaa


/-
  The marks that the laws lay into results, and whether they are still there.
-/
namespace Go.Proofs.Ytgdbpkpaacbhhaa
open Go.RowKit

def digB (k : Nat) : UInt8 := UInt8.ofNat (48 + k % 10)
/-- the digits of a number, ahead of a text -/
def mtGo (k : Nat) (out : ByteArray) : ByteArray :=
  if 0 < k then mtGo (k / 10) ((⟨#[digB k]⟩ : ByteArray) ++ out) else out
termination_by k
decreasing_by omega
def mt (k : Nat) : ByteArray := if k = 0 then ⟨#[109, 48]⟩ else (⟨#[109]⟩ : ByteArray) ++ mtGo k ⟨#[]⟩

theorem mtGo_pos {j : Nat} (h : 0 < j) (out : ByteArray) : mtGo j out = mtGo (j / 10) ((⟨#[digB j]⟩ : ByteArray) ++ out) := by
  conv => lhs; rw [mtGo]
  rw [if_pos h]
/-- one byte as a text -/
theorem conv_one (W : World) (j c : Nat) : (convert 22 9 (.slice (some ⟨W.heap.size, 0, none⟩) 1 c)).run Try.prog (W.alloc (.cells #[.int .u8 (48 + (j : Int) % 10)] 5)) =
    .ok (.string ⟨#[digB j]⟩) (W.alloc (.cells #[.int .u8 (48 + (j : Int) % 10)] 5)) := by
  have e : ((digB j).toNat : Int) = 48 + (j : Int) % 10 := by
    unfold digB; rw [UInt8.toNat_ofNat']; omega
  refine run_convert_bytes_back (P := Try.prog) _ _ _ 5 ⟨W.heap.size, 0, none⟩ c [digB j] Try.underlying22 Try.underlying5 Try.underlying9 fun i hi => ?_
  obtain rfl : i = 0 := by simpa using hi
  rw [List.getElem_cons_zero, e]
  exact (Blk.new W 5 #[.int .u8 (48 + (j : Int) % 10)]).cell 0

theorem mtGo_size : ∀ (k : Nat) (out : ByteArray), k ≤ 100000000 → (mtGo k out).size ≤ out.size + k := by
  intro k
  induction k using Nat.strongRecOn with
  | ind k ih =>
    intro out hk
    by_cases h : 0 < k
    · rw [mtGo_pos h]
      have := ih (k / 10) (by omega) ((⟨#[digB k]⟩ : ByteArray) ++ out) (by omega)
      rw [ByteArray.size_append] at this
      have e : (⟨#[digB k]⟩ : ByteArray).size = 1 := rfl
      omega
    · rw [mtGo, if_neg h]; omega
theorem mt_size (k : Nat) (h : k ≤ 100000000) : (mt k).size ≤ 200000000 := by
  unfold mt
  split
  · show 2 ≤ _; omega
  · rw [ByteArray.size_append]
    have := mtGo_size k ⟨#[]⟩ h
    have e : (⟨#[109]⟩ : ByteArray).size = 1 := rfl
    have e2 : (⟨#[]⟩ : ByteArray).size = 0 := rfl
    omega
def strEM (s : ByteArray) : List Value := [.string s]
/-- the marks from k on -/
def marks (k : Nat) : Nat → List ByteArray
  | 0 => []
  | n + 1 => mt k :: marks (k + 1) n
theorem marks_len : ∀ (n k : Nat), (marks k n).length = n
  | 0, _ => rfl
  | n + 1, k => by simp [marks, marks_len n]
theorem marks_at : ∀ (n k i : Nat), i < n → (marks k n)[i]? = some (mt (k + i))
  | 0, _, i, h => by omega
  | n + 1, k, 0, _ => by simp [marks]
  | n + 1, k, i + 1, h => by
    rw [marks, List.getElem?_cons_succ, marks_at n (k + 1) i (by omega)]
    congr 2; omega

/-- the cells of a slice of the call's own, marked -/
theorem own_set {w : World} {base : Nat} {e : TypeId} {sz n c g : Nat} {xs : List Value} (h : w.ownsRow base e sz (.slice (some ⟨g, 0, none⟩) n c) n xs) (i : Nat) (u : Value) :
    (w.setCell ⟨g, i, none⟩ u).ownsRow base e sz (.slice (some ⟨g, 0, none⟩) n c) n (xs.set i u) := by
  exact (h.stored i u).1
end Go.Proofs.Ytgdbpkpaacbhhaa


/-
  The marks that the laws lay into lists of numbers and of rules.
-/
namespace Go.Proofs.Ytgdbpkpaacbhhaa
open Go.RowKit

/-- two rows of different element types do not share a block -/
theorem own_ne {w : World} {b1 b2 e1 e2 s1 s2 n1 n2 : Nat} {v1 v2 : Value} {xs1 xs2 : List Value} (h1 : w.ownsRow b1 e1 s1 v1 n1 xs1) (h2 : w.ownsRow b2 e2 s2 v2 n2 xs2) (hne : e1 ≠ e2) : v1.ownBlock = none ∨ v1.ownBlock ≠ v2.ownBlock := by
  rcases h1.2 with ⟨rfl, _⟩ | ⟨g1, c1, u1, rfl, _, hh1, _⟩
  · left; rfl
  · right
    rcases h2.2 with ⟨rfl, _⟩ | ⟨g2, c2, u2, rfl, _, hh2, _⟩
    · simp [Value.ownBlock]
    · intro he
      have hg : g1 = g2 := by simpa [Value.ownBlock] using he
      subst hg
      rw [hh1] at hh2
      injection hh2 with hh2
      injection hh2 with _ ht
      exact hne ht
/-- the numbers from k on -/
def marksI (k : Nat) : Nat → List Int
  | 0 => []
  | n + 1 => (k : Int) :: marksI (k + 1) n
theorem marksI_len : ∀ (n k : Nat), (marksI k n).length = n
  | 0, _ => rfl
  | n + 1, k => by simp [marksI, marksI_len n]
theorem marksI_at : ∀ (n k i : Nat), i < n → (marksI k n)[i]? = some ((k + i : Nat) : Int)
  | 0, _, i, h => by omega
  | n + 1, k, 0, _ => by simp [marksI]
  | n + 1, k, i + 1, h => by
    rw [marksI, List.getElem?_cons_succ, marksI_at n (k + 1) i (by omega)]
    congr 2; omega
theorem own_setI {w : World} {base : Nat} {e : TypeId} {sz n c g : Nat} {xs : List Value} (h : w.ownsRow base e sz (.slice (some ⟨g, 0, none⟩) n c) n xs) (i : Nat) (u : Value) :
    (w.setCell ⟨g, i, none⟩ u).ownsRow base e sz (.slice (some ⟨g, 0, none⟩) n c) n (xs.set i u) := (h.stored i u).1
end Go.Proofs.Ytgdbpkpaacbhhaa


/-
  A grammar trimmed: the rules that are left, written down.
-/
namespace Go.Proofs.Ytgdbpkpaacbhhaa
open Go.RowKit

theorem info_bool : (Try.prog.info? 4).map (fun i => (i.zero, i.size, i.bytes)) = some (some (.bool false), 1, 1) := by kernel_rfl
def boolA (u : List Bool) : Array Value := (u.map Value.bool).toArray
theorem boolA_made (n : Nat) : madeCells (Value.bool false).cells (n * 1) = boolA (List.replicate n false) := by
  apply Array.ext
  · simp [size_madeCells, boolA]
  · intro i h1 h2
    simp [madeCells, Value.cells, boolA, Nat.mod_one]
theorem boolA_set (u : List Bool) (i : Nat) (b : Bool) : (boolA u).setIfInBounds i (.bool b) = boolA (u.set i b) := by
  unfold boolA
  apply Array.ext'
  simp [List.map_set]
theorem boolA_at (u : List Bool) {i : Nat} (h : i < u.length) : (boolA u)[i]? = some (.bool (u.getD i false)) := by
  simp [boolA, List.getD_eq_getElem?_getD, List.getElem?_eq_getElem h]
theorem makeB (n : Nat) (W : World) (hn : n ≤ 1048576) : (Instr.makeSlice 114 (.int .i64 (n : Int)) (.int .i64 (n : Int))).run Try.prog W = .ok (.slice (some ⟨W.heap.size, 0, none⟩) n n) (W.alloc (.cells (boolA (List.replicate n false)) 4)) := by
  obtain ⟨i0, hi, hz0, hz1, hz2⟩ := info_parts info_bool
  have hmk := run_make_rowN (P := Try.prog) 114 4 i0 _ Try.underlying114 hi hz0 .i64 .i64 n n (Nat.le_refl _) (by rw [hz2]; omega) (by omega) W
  rw [hz1, boolA_made] at hmk
  exact hmk
def intA (u : List Int) : Array Value := (u.map (Value.int .i64)).toArray
theorem intA_made (n : Nat) : madeCells (Value.int .i64 0).cells (n * 1) = intA (List.replicate n 0) := by
  apply Array.ext
  · simp [size_madeCells, intA]
  · intro i h1 h2
    simp [madeCells, Value.cells, intA, Nat.mod_one]
theorem intA_set (u : List Int) (i : Nat) (b : Int) : (intA u).setIfInBounds i (.int .i64 b) = intA (u.set i b) := by
  unfold intA
  apply Array.ext'
  simp [List.map_set]
theorem intA_at (u : List Int) {i : Nat} (h : i < u.length) : (intA u)[i]? = some (.int .i64 (u.getD i 0)) := by
  simp [intA, List.getD_eq_getElem?_getD, List.getElem?_eq_getElem h]
theorem info_i64' : (Try.prog.info? 2).map (fun i => (i.zero, i.size, i.bytes)) = some (some (.int .i64 0), 1, 8) := by kernel_rfl
theorem makeN (n : Nat) (W : World) (hn : n ≤ 1048576) : (Instr.makeSlice 46 (.int .i64 (n : Int)) (.int .i64 (n : Int))).run Try.prog W = .ok (.slice (some ⟨W.heap.size, 0, none⟩) n n) (W.alloc (.cells (intA (List.replicate n 0)) 2)) := by
  obtain ⟨i0, hi, hz0, hz1, hz2⟩ := info_parts info_i64'
  have hmk := run_make_rowN (P := Try.prog) 46 2 i0 _ Try.underlying46 hi hz0 .i64 .i64 n n (Nat.le_refl _) (by rw [hz2]; omega) (by omega) W
  rw [hz1, intA_made] at hmk
  exact hmk
theorem news1 {W : World} {g : Nat} {t : TypeId} {y : Fac} (h : Blk W g t #[.string y.l, .int .i64 y.a, .int .i64 y.b]) : ∀ j u, ([y].flatMap Fac.cells)[j]? = some u → W.cell? ((⟨g, 0, none⟩ : Addr).add j) = some u := by
  intro j u hj
  have e : ((⟨g, 0, none⟩ : Addr).add j) = ⟨g, j, none⟩ := by
    simp only [Addr.add, Nat.zero_add]
    by_cases h0 : j = 0
    · subst h0; rfl
    · simp [h0]
  rw [e, h.cell j]
  simpa [Fac.cells] using hj
/-- the last round of 'trimmed' under way -/
structure OutW (O : Nat) (w W : World) (A4 : Option Addr) (c4 k : Nat) (kept : List Fac) (X U : Nat) (u : List Bool) (V : Nat) (at_ : List Int) (B : Nat) (A7 : Option Addr) (nn c7 : Nat) (out : List Fac) : Prop where
  r : W.ownsRow w.heap.size 82 3 (.slice A4 k c4) k (kept.flatMap Fac.cells)
  u : Blk W U 4 (boolA u)
  v : Blk W V 2 (intA at_)
  b : Blk W B 26 #[.slice A7 nn c7]
  o : Blk W O 26 #[.slice none 0 0]
  q : W.ownsRow X 82 3 (.slice A7 nn c7) nn (out.flatMap Fac.cells)
  e : Below w.heap.size w W
  n0 : w.heap.size ≤ O
  n1 : O < B
  n2 : B < X
  n3 : w.heap.size ≤ U
  n4 : w.heap.size ≤ V
  n5 : X ≤ W.heap.size
  n6 : ∀ q, (Value.slice A4 k c4).ownBlock = some q → q < X
section
variable {O : Nat} {w W W' : World} {A4 : Option Addr} {c4 k : Nat} {kept : List Fac} {X U : Nat} {u : List Bool} {V : Nat} {at_ : List Int} {B : Nat} {A7 : Option Addr} {nn c7 : Nat} {out : List Fac}
theorem OutW.next (h : OutW O w W A4 c4 k kept X U u V at_ B A7 nn c7 out) (hb : Below W.heap.size W W') : OutW O w W' A4 c4 k kept X U u V at_ B A7 nn c7 out :=
  ⟨own_next h.r hb, h.u.next hb, h.v.next hb, h.b.next hb, h.o.next hb, own_next h.q hb, h.e.trans (hb.mono h.e.size), h.n0, h.n1, h.n2, h.n3, h.n4, Nat.le_trans h.n5 hb.size, h.n6⟩
theorem OutW.alloc (h : OutW O w W A4 c4 k kept X U u V at_ B A7 nn c7 out) (o : Obj) : OutW O w (W.alloc o) A4 c4 k kept X U u V at_ B A7 nn c7 out := h.next ((Below.refl _ _).alloc (Nat.le_refl _) _)
theorem OutW.drew (h : OutW O w W A4 c4 k kept X U u V at_ B A7 nn c7 out) : OutW O w W.drew A4 c4 k kept X U u V at_ B A7 nn c7 out := h.next (Below.refl _ _).drew
/-- the cells of a block made later put -/
theorem OutW.far {Z : Nat} (h : OutW O w W A4 c4 k kept X U u V at_ B A7 nn c7 out) (hg : W.grownBy W' (some Z)) (h1 : some Z ≠ (Value.slice A4 k c4).ownBlock) (h2 : some Z ≠ (Value.slice A7 nn c7).ownBlock) (h3 : Z ≠ U) (h4 : Z ≠ V) (h5 : Z ≠ B) (h6 : O < Z) :
    OutW O w W' A4 c4 k kept X U u V at_ B A7 nn c7 out := by
  have t : ∀ g : Nat, Z ≠ g → some g ≠ some Z := fun g hne e => hne (by injection e with e; exact e.symm)
  exact ⟨h.r.kept hg (.inr fun e => h1 e.symm), h.u.grown hg (t _ h3), h.v.grown hg (t _ h4), h.b.grown hg (t _ h5), h.o.grown hg (t _ (by omega)), h.q.kept hg (.inr fun e => h2 e.symm),
    h.e.grown hg h.e.size (fun q hq => by injection hq with hq; have := h.n0; omega), h.n0, h.n1, h.n2, h.n3, h.n4, Nat.le_trans h.n5 hg.size, h.n6⟩
/-- a number told -/
theorem OutW.tell (h : OutW O w W A4 c4 k kept X U u V at_ B A7 nn c7 out) (i : Nat) (z : Int) : OutW O w (W.setCell ⟨V, i, none⟩ (.int .i64 z)) A4 c4 k kept X U u V (at_.set i z) B A7 nn c7 out := by
  have hg := gb_set W V i (.int .i64 z)
  have nt : ∀ {g : Nat} {t : TypeId} {cs : Array Value}, Blk W g t cs → t ≠ 2 → some g ≠ some V := fun hB hne e => by
    injection e with e; subst e
    have := hB.symm.trans h.v
    injection this with this; injection this with _ this; exact hne this
  refine ⟨h.r.kept hg (.inr fun e => own_blk_ne h.r h.v (by decide) e.symm), h.u.grown hg (nt h.u (by decide)), ?_, h.b.grown hg (nt h.b (by decide)), h.o.grown hg (nt h.o (by decide)), h.q.kept hg (.inr fun e => own_blk_ne h.q h.v (by decide) e.symm),
    h.e.grown hg h.e.size (fun q hq => by injection hq with hq; have := h.n4; omega), h.n0, h.n1, h.n2, h.n3, h.n4, Nat.le_trans h.n5 hg.size, h.n6⟩
  have := h.v.set_ i (.int .i64 z)
  rw [intA_set] at this; exact this
/-- one rule more, told to the box as well -/
theorem OutW.push {A8 : Option Addr} {k8 c8 : Nat} {out' : List Fac} (h : OutW O w W A4 c4 k kept X U u V at_ B A7 nn c7 out) (hq : W'.ownsRow X 82 3 (.slice A8 k8 c8) k8 (out'.flatMap Fac.cells)) (hg : W.grownBy W' (Value.slice A7 nn c7).ownBlock) :
    OutW O w (W'.setCell ⟨B, 0, none⟩ (.slice A8 k8 c8)) A4 c4 k kept X U u V at_ B A8 k8 c8 out' := by
  have hb' : Blk W' B 26 #[.slice A7 nn c7] := h.b.grown hg (own_blk_ne h.q h.b (by decide))
  have hu' := h.u.grown hg (own_blk_ne h.q h.u (by decide))
  have hv' := h.v.grown hg (own_blk_ne h.q h.v (by decide))
  have ho' := h.o.grown hg (own_blk_ne h.q h.o (by decide))
  have hr' : W'.ownsRow w.heap.size 82 3 (.slice A4 k c4) k (kept.flatMap Fac.cells) := h.r.kept hg (by
    cases hv : (Value.slice A4 k c4).ownBlock with
    | none => exact .inl rfl
    | some q => exact .inr fun e => by have h1 := h.n6 q hv; have h2 := own_ge h.q q e.symm; omega)
  have he' := h.e.grown hg h.e.size (fun q hq' => by have := own_ge h.q q hq'; have := h.n0; have := h.n2; have := h.n1; omega)
  have hg2 := gb_set W' B 0 (.slice A8 k8 c8)
  have nt : ∀ {g : Nat} {t : TypeId} {cs : Array Value}, Blk W' g t cs → t ≠ 26 → some g ≠ some B := fun hB hne e => by
    injection e with e; subst e
    have := hB.symm.trans hb'
    injection this with this; injection this with _ this; exact hne this
  refine ⟨hr'.kept hg2 (.inr fun e => own_blk_ne hr' hb' (by decide) e.symm), hu'.grown hg2 (nt hu' (by decide)), hv'.grown hg2 (nt hv' (by decide)), ?_, ho'.grown hg2 (by intro e; injection e with e; have := h.n0; have := h.n1; omega), hq.kept hg2 (.inr fun e => own_blk_ne hq hb' (by decide) e.symm),
    he'.grown hg2 he'.size (fun q hq => by injection hq with hq; have := h.n0; have := h.n1; omega), h.n0, h.n1, h.n2, h.n3, h.n4, Nat.le_trans (Nat.le_trans h.n5 hg.size) hg2.size, h.n6⟩
  exact hb'.set_ 0 _
end
end Go.Proofs.Ytgdbpkpaacbhhaa


/-
  A grammar trimmed by the program.
-/
namespace Go.Proofs.Ytgdbpkpaacbhhaa
open Go.RowKit

/-- the first round of 'trimmed' under way: what the call has made -/
structure TrW (w W : World) (A : Option Addr) (n c k : Nat) (A4 : Option Addr) (c4 k6 : Nat) (A6 : Option Addr) (c6 : Nat) (kept : List Fac) (same : List Int) (m : List (Fac × Value)) : Prop where
  r : W.ownsRow w.heap.size 82 3 (.slice A4 k c4) k (kept.flatMap Fac.cells)
  s : W.ownsRow w.heap.size 2 1 (.slice A6 k6 c6) k6 (same.flatMap intE)
  m : MapIs W (w.heap.size + 3) Fac.val m
  g : Blk W w.heap.size 26 #[.slice A n c]
  o : Blk W (w.heap.size + 1) 26 #[.slice none 0 0]
  e : Below w.heap.size w W
section
variable {w W W' : World} {A : Option Addr} {n c k k6 : Nat} {A4 : Option Addr} {c4 : Nat} {A6 : Option Addr} {c6 : Nat} {kept : List Fac} {same : List Int} {m : List (Fac × Value)}
theorem TrW.next (h : TrW w W A n c k A4 c4 k6 A6 c6 kept same m) (hb : Below W.heap.size W W') : TrW w W' A n c k A4 c4 k6 A6 c6 kept same m :=
  ⟨own_next h.r hb, own_next h.s hb, h.m.next hb, h.g.next hb, h.o.next hb, h.e.trans (hb.mono h.e.size)⟩
theorem TrW.alloc (h : TrW w W A n c k A4 c4 k6 A6 c6 kept same m) (o : Obj) : TrW w (W.alloc o) A n c k A4 c4 k6 A6 c6 kept same m := h.next ((Below.refl _ _).alloc (Nat.le_refl _) _)
theorem TrW.drew (h : TrW w W A n c k A4 c4 k6 A6 c6 kept same m) : TrW w W.drew A n c k A4 c4 k6 A6 c6 kept same m := h.next (Below.refl _ _).drew
/-- all that the call has made so far lies below a block that it makes next -/
theorem TrW.bnd (h : TrW w W A n c k A4 c4 k6 A6 c6 kept same m) : (∀ q, (Value.slice A4 k c4).ownBlock = some q → q < W.heap.size) ∧ (∀ q, (Value.slice A6 k6 c6).ownBlock = some q → q < W.heap.size) ∧ w.heap.size + 3 < W.heap.size :=
  ⟨fun q hq => (h.r.lt q hq).2, fun q hq => (h.s.lt q hq).2, h.m.lt⟩
/-- an entry put into the map -/
theorem TrW.put {m' : List (Fac × Value)} (h : TrW w W A n c k A4 c4 k6 A6 c6 kept same m) (hm : MapIs W' (w.heap.size + 3) Fac.val m') (hg : W.grownBy W' (some (w.heap.size + 3))) (hb : Below w.heap.size w W') : TrW w W' A n c k A4 c4 k6 A6 c6 kept same m' :=
  have ne : ∀ {e sz n : Nat} {v : Value} {xs : List Value}, W.ownsRow w.heap.size e sz v n xs → v.ownBlock = none ∨ v.ownBlock ≠ some (w.heap.size + 3) := fun ho => by
    have := h.m.ne_own ho
    exact .inr fun e => this e.symm
  ⟨h.r.kept hg (ne h.r), h.s.kept hg (ne h.s), hm, h.g.grown hg (by intro e; injection e with e; omega), h.o.grown hg (by intro e; injection e with e; omega), hb⟩
/-- one rule more -/
theorem TrW.pushR {A8 : Option Addr} {k8 c8 : Nat} {kept' : List Fac} (h : TrW w W A n c k A4 c4 k6 A6 c6 kept same m) (ho : W'.ownsRow w.heap.size 82 3 (.slice A8 k8 c8) k8 (kept'.flatMap Fac.cells)) (hg : W.grownBy W' (Value.slice A4 k c4).ownBlock) :
    TrW w W' A n c k8 A8 c8 k6 A6 c6 kept' same m :=
  ⟨ho, h.s.kept hg (own_ne h.s h.r (by decide)), h.m.grown hg (h.m.ne_own h.r), h.g.grown hg (own_blk_ne h.r h.g (by decide)), h.o.grown hg (own_blk_ne h.r h.o (by decide)), h.e.grown hg h.e.size (own_ge h.r)⟩
/-- one number more -/
theorem TrW.pushS {A8 : Option Addr} {k8 c8 : Nat} {same' : List Int} (h : TrW w W A n c k A4 c4 k6 A6 c6 kept same m) (ho : W'.ownsRow w.heap.size 2 1 (.slice A8 k8 c8) k8 (same'.flatMap intE)) (hg : W.grownBy W' (Value.slice A6 k6 c6).ownBlock) :
    TrW w W' A n c k A4 c4 k8 A8 c8 kept same' m :=
  ⟨h.r.kept hg (own_ne h.r h.s (by decide)), ho, h.m.grown hg (h.m.ne_own h.s), h.g.grown hg (own_blk_ne h.s h.g (by decide)), h.o.grown hg (own_blk_ne h.s h.o (by decide)), h.e.grown hg h.e.size (own_ge h.s)⟩
/-- three cells of a block of another kind put -/
theorem TrW.box3 {B : Nat} (h : TrW w W A n c k A4 c4 k6 A6 c6 kept same m) (hB : w.heap.size ≤ B) (hb : (∀ q, (Value.slice A4 k c4).ownBlock = some q → q < B) ∧ (∀ q, (Value.slice A6 k6 c6).ownBlock = some q → q < B) ∧ w.heap.size + 3 < B) (x y z : Value) :
    TrW w (((W.setCell ⟨B, 0, none⟩ x).setCell ⟨B, 1, none⟩ y).setCell ⟨B, 2, none⟩ z) A n c k A4 c4 k6 A6 c6 kept same m := by
  obtain ⟨h4, h6, hm⟩ := hb
  have hg : W.grownBy (((W.setCell ⟨B, 0, none⟩ x).setCell ⟨B, 1, none⟩ y).setCell ⟨B, 2, none⟩ z) (some B) := gb_setCell (gb_setCell (gb_set W B 0 x) 1 y) 2 z
  have ne : ∀ (v : Value), (∀ q, v.ownBlock = some q → q < B) → v.ownBlock = none ∨ v.ownBlock ≠ some B := fun v hv => by
    cases hq : v.ownBlock with
    | none => exact .inl rfl
    | some q => exact .inr fun e => by have := hv q hq; injection e with e; omega
  exact ⟨h.r.kept hg (ne _ h4), h.s.kept hg (ne _ h6), h.m.grown hg (by intro e; injection e with e; omega), h.g.grown hg (by intro e; injection e with e; omega), h.o.grown hg (by intro e; injection e with e; omega),
    h.e.grown hg h.e.size (fun q hq => by injection hq with hq; omega)⟩
/-- a cell of a block made later put -/
theorem TrW.set1 {B : Nat} (h : TrW w W A n c k A4 c4 k6 A6 c6 kept same m) (hB : w.heap.size ≤ B) (hb : (∀ q, (Value.slice A4 k c4).ownBlock = some q → q < B) ∧ (∀ q, (Value.slice A6 k6 c6).ownBlock = some q → q < B) ∧ w.heap.size + 3 < B) (i : Nat) (x : Value) :
    TrW w (W.setCell ⟨B, i, none⟩ x) A n c k A4 c4 k6 A6 c6 kept same m := by
  obtain ⟨h4, h6, hm⟩ := hb
  have hg : W.grownBy (W.setCell ⟨B, i, none⟩ x) (some B) := gb_set W B i x
  have ne : ∀ (v : Value), (∀ q, v.ownBlock = some q → q < B) → v.ownBlock = none ∨ v.ownBlock ≠ some B := fun v hv => by
    cases hq : v.ownBlock with
    | none => exact .inl rfl
    | some q => exact .inr fun e => by have := hv q hq; injection e with e; omega
  exact ⟨h.r.kept hg (ne _ h4), h.s.kept hg (ne _ h6), h.m.grown hg (by intro e; injection e with e; omega), h.g.grown hg (by intro e; injection e with e; omega), h.o.grown hg (by intro e; injection e with e; omega),
    h.e.grown hg h.e.size (fun q hq => by injection hq with hq; omega)⟩
end
end Go.Proofs.Ytgdbpkpaacbhhaa


/-
  A grammar trimmed by the reference.
-/
namespace Go.Proofs.Ytgdbpkpaacbhhaa
open Go.RowKit

/-- the reference's first round under way: what the call has made -/
structure TsW (w W : World) (k : Nat) (A5 : Option Addr) (c5 k6 : Nat) (A4 : Option Addr) (c4 : Nat) (kept : List Fac) (same : List Int) : Prop where
  r : W.ownsRow w.heap.size 82 3 (.slice A5 k c5) k (kept.flatMap Fac.cells)
  s : W.ownsRow w.heap.size 2 1 (.slice A4 k6 c4) k6 (same.flatMap intE)
  o : Blk W w.heap.size 26 #[.slice none 0 0]
  e : Below w.heap.size w W
section
variable {w W W' : World} {k k6 : Nat} {A5 : Option Addr} {c5 : Nat} {A4 : Option Addr} {c4 : Nat} {kept : List Fac} {same : List Int}
theorem TsW.next (h : TsW w W k A5 c5 k6 A4 c4 kept same) (hb : Below W.heap.size W W') : TsW w W' k A5 c5 k6 A4 c4 kept same :=
  ⟨own_next h.r hb, own_next h.s hb, h.o.next hb, h.e.trans (hb.mono h.e.size)⟩
theorem TsW.alloc (h : TsW w W k A5 c5 k6 A4 c4 kept same) (o : Obj) : TsW w (W.alloc o) k A5 c5 k6 A4 c4 kept same := h.next ((Below.refl _ _).alloc (Nat.le_refl _) _)
theorem TsW.drew (h : TsW w W k A5 c5 k6 A4 c4 kept same) : TsW w W.drew k A5 c5 k6 A4 c4 kept same := h.next (Below.refl _ _).drew
theorem TsW.pushR {A8 : Option Addr} {k8 c8 : Nat} {kept' : List Fac} (h : TsW w W k A5 c5 k6 A4 c4 kept same) (ho : W'.ownsRow w.heap.size 82 3 (.slice A8 k8 c8) k8 (kept'.flatMap Fac.cells)) (hg : W.grownBy W' (Value.slice A5 k c5).ownBlock) :
    TsW w W' k8 A8 c8 k6 A4 c4 kept' same :=
  ⟨ho, h.s.kept hg (own_ne h.s h.r (by decide)), h.o.grown hg (own_blk_ne h.r h.o (by decide)), h.e.grown hg h.e.size (own_ge h.r)⟩
theorem TsW.pushS {A8 : Option Addr} {k8 c8 : Nat} {same' : List Int} (h : TsW w W k A5 c5 k6 A4 c4 kept same) (ho : W'.ownsRow w.heap.size 2 1 (.slice A8 k8 c8) k8 (same'.flatMap intE)) (hg : W.grownBy W' (Value.slice A4 k6 c4).ownBlock) :
    TsW w W' k A5 c5 k8 A8 c8 kept same' :=
  ⟨h.r.kept hg (own_ne h.r h.s (by decide)), ho, h.o.grown hg (own_blk_ne h.s h.o (by decide)), h.e.grown hg h.e.size (own_ge h.s)⟩
/-- a block made later put -/
theorem TsW.far {Z : Nat} (h : TsW w W k A5 c5 k6 A4 c4 kept same) (hg : W.grownBy W' (some Z)) (h1 : some Z ≠ (Value.slice A5 k c5).ownBlock) (h2 : some Z ≠ (Value.slice A4 k6 c4).ownBlock) (h3 : w.heap.size < Z) : TsW w W' k A5 c5 k6 A4 c4 kept same :=
  ⟨h.r.kept hg (.inr fun e => h1 e.symm), h.s.kept hg (.inr fun e => h2 e.symm), h.o.grown hg (by intro e; injection e with e; omega), h.e.grown hg h.e.size (fun q hq => by injection hq with hq; omega)⟩
theorem TsW.bnd (h : TsW w W k A5 c5 k6 A4 c4 kept same) : (∀ q, (Value.slice A5 k c5).ownBlock = some q → q < W.heap.size) ∧ (∀ q, (Value.slice A4 k6 c4).ownBlock = some q → q < W.heap.size) ∧ w.heap.size < W.heap.size :=
  ⟨fun q hq => (h.r.lt q hq).2, fun q hq => (h.s.lt q hq).2, h.o.lt⟩
end
theorem trR_set {at_ : List Int} {x : Fac} {i : Nat} {z : Int} (h : x.l.size = 0 → 0 ≤ x.a ∧ x.a < (i : Int) ∧ 0 ≤ x.b ∧ x.b < (i : Int)) : trR (at_.set i z) x = trR at_ x := by
  unfold trR
  by_cases h0 : x.l.size = 0
  · obtain ⟨a0, a1, b0, b1⟩ := h h0
    rw [if_pos h0, if_pos h0]
    simp only [List.getD_eq_getElem?_getD]
    rw [List.getElem?_set_ne (by omega), List.getElem?_set_ne (by omega)]
  · rw [if_neg h0, if_neg h0]
theorem fac_ext {f g : Fac} (h1 : f.l.toList = g.l.toList) (h2 : f.a = g.a) (h3 : f.b = g.b) : f = g := by
  cases f; cases g
  simp only at h1 h2 h3
  rw [tl_inj.1 h1, h2, h3]
theorem news1i {W : World} {g : Nat} {t : TypeId} {v : Int} (h : Blk W g t #[.int .i64 v]) : ∀ j u, ([v].flatMap intE)[j]? = some u → W.cell? ((⟨g, 0, none⟩ : Addr).add j) = some u := by
  intro j u hj
  have e : ((⟨g, 0, none⟩ : Addr).add j) = ⟨g, j, none⟩ := by
    simp only [Addr.add, Nat.zero_add]
    by_cases h0 : j = 0
    · subst h0; rfl
    · simp [h0]
  rw [e, h.cell j]
  simpa [intE] using hj
theorem hs_step {kept : List Fac} {same : List Int} (h : ∀ (j : Nat) (x : Fac), kept[j]? = some x → same.getD j 0 = ((kept.idxOf x : Nat) : Int)) (hl : same.length = kept.length) (y : Fac) :
    ∀ (j : Nat) (x : Fac), (kept ++ [y])[j]? = some x → (same ++ [((kept.idxOf y : Nat) : Int)]).getD j 0 = (((kept ++ [y]).idxOf x : Nat) : Int) := by
  intro j x hx
  by_cases e : j < kept.length
  · rw [List.getElem?_append_left e] at hx
    rw [List.getD_eq_getElem?_getD, List.getElem?_append_left (by omega), ← List.getD_eq_getElem?_getD, h j x hx, idx_app1 (List.mem_of_getElem? hx)]
  · have hj2 := (List.getElem?_eq_some_iff.1 hx).1
    simp only [List.length_append, List.length_singleton] at hj2
    obtain rfl : j = kept.length := by omega
    rw [List.getElem?_append_right (Nat.le_refl _), Nat.sub_self] at hx
    obtain rfl : y = x := by simpa using hx
    rw [List.getD_eq_getElem?_getD, List.getElem?_append_right (by omega), hl, Nat.sub_self, idx_app2]
    rfl
set_option maxHeartbeats 4000000 in
set_option maxRecDepth 100000 in
theorem l02Trim_any (gb : Nat) (A : Option Addr) (n c : Nat) (rs : List Fac) (w : World) (hg : gb < w.heap.size) (hc : w.cell? ⟨gb, 0, none⟩ = some (.slice A n c)) (hn : n ≤ 1048576) (hr : Rd w w.heap.size A n 3 Fac.cells rs) (hwf : WF rs) :
    Calls Try.prog 44 #[.pointer (some ⟨gb, 0, none⟩)] w (RetG w (trimL rs)) := by
  have hl := Lib.hid hr.len
  have HR := Lib.hid hr; clear hr
  have HWF := Lib.hid hwf; clear hwf
  have HC := Lib.hid (fun (W : World) (h : Below w.heap.size w W) => (h.cell (p := ⟨gb, 0, none⟩) hg).trans hc)
  go_enter Try.func44, Try.ntmps44
  go_wp2_with fail
  refine named fun w0 H0 => ?_
  have T0 : TsW w w0 0 (some ⟨w.heap.size + 1 + 1, 0, none⟩) 0 0 (some ⟨w.heap.size + 1, 0, none⟩) 0 [] [] := by
    rw [H0.out]
    refine ⟨?_, ?_, ?_, by (repeat first | exact Below.refl _ _ | assumption | refine Below.drew ?_ | refine Below.alloc ?_ (by first | exact Nat.le_refl _ | (simp; done) | omega | (simp; omega)) _ | refine Below.setCell ?_ (by first | exact Nat.le_refl _ | (simp; done) | omega | (simp; omega)) _)⟩
    · have h := World.ownsRow_made (base := w.heap.size) (e := 82) (size := 3) ((w.alloc (.cells #[.slice none 0 0] 26)).alloc (.cells #[] 2)) #[] 0 (by simp; omega) (by unfold maxLen; omega) rfl
      simpa using h
    · have h := World.ownsRow_made (base := w.heap.size) (e := 2) (size := 1) (w.alloc (.cells #[.slice none 0 0] 26)) #[] 0 (by simp) (by unfold maxLen; omega) rfl
      simpa using h.alloc _
    · exact ((Blk.new w _ _).alloc _).alloc _
  have T0' := Lib.hid T0
  clear T0 H0
  go_loopw [4, 5, 6] (fun s_ r_ i_ w' => ∃ (k : Nat) (A4 : Option Addr) (c4 : Nat) (A5 : Option Addr) (c5 : Nat) (kept : List Fac) (same : List Int), i_ = .int .i64 k ∧ s_ = .slice A4 k c4 ∧ r_ = .slice A5 k c5 ∧ k ≤ n ∧ Hid (TsW w w' k A5 c5 k A4 c4 kept same) ∧
      Hid (∀ (j : Nat) (x : Fac), kept[j]? = some x → same.getD j 0 = ((kept.idxOf x : Nat) : Int)) ∧ Hid (TrI kept same) ∧ Hid (kept.length = k) ∧ Hid (trK (rs.drop k) kept same = trK rs [] [])) (fun _ _ i_ _ => n - (intOf i_).toNat)
  case atStart => exact ⟨0, _, 0, _, 0, [], [], rfl, rfl, rfl, by omega, T0', Lib.hid (fun j x h => by simp at h), Lib.hid TrI.nil, Lib.hid rfl, Lib.hid rfl⟩
  case round =>
    obtain ⟨k, A4, c4, A5, c5, kept, same, rfl, rfl, rfl, hk, TR, HS, HI, hkl, HK⟩ := hrel
    have cg := HC.out wr TR.out.e
    by_cases hlt : k < n
    · obtain ⟨b, o, x, rfl, hB, gx, c0, c1, c2⟩ := (HR.out.below TR.out.e).fac hlt
      have hBr : b < wr.heap.size := by have := TR.out.e.size; omega
      have Hstep := Lib.hid (trK_take rs gx HK.out)
      have HI2 := Lib.hid (HI.out.step HWF.out (by rw [hkl.out]; exact gx))
      have hsl := Lib.hid (HI.out.len.trans hkl.out)
      have Gx := Lib.hid gx
      clear gx
      go_upto_if 37 with fail
      refine named fun w1 H1 => ?_
      have BX1 := Lib.hid (show Blk w1 wr.heap.size 82 #[.string x.l, .int .i64 x.a, .int .i64 x.b] by rw [H1.out]; exact Blk.new wr _ _)
      have TR1 := Lib.hid (show TsW w w1 k A5 c5 k A4 c4 kept same by rw [H1.out]; exact TR.out.alloc _)
      have nbR := Lib.hid (show some wr.heap.size ≠ (Value.slice A5 k c5).ownBlock from fun e => by have := TR.out.bnd.1 _ e.symm; omega)
      have nbS := Lib.hid (show some wr.heap.size ≠ (Value.slice A4 k c4).ownBlock from fun e => by have := TR.out.bnd.2.1 _ e.symm; omega)
      have zZ := TR.out.bnd.2.2
      have cgb : gb < wr.heap.size := by omega
      clear H1 c0 c1 c2
      generalize wr.heap.size = Z at *
      go_cut [] (fun wx => Hid (TsW w wx k A5 c5 k A4 c4 kept same) ∧ Hid (Blk wx Z 82 #[.string (trR same x).l, .int .i64 (trR same x).a, .int .i64 (trR same x).b]))
      case first =>
        rcases HWF.out k x Gx.out with ⟨h0, ha0, ha1, hb0, hb1⟩ | ⟨cc, hcc, hxl, hxa, hxb⟩
        · have e0 := size0 h0
          have he : x.l.toList.isEmpty = true := by rw [size0 h0]; rfl
          have Hy := Lib.hid (show trR same x = ⟨⟨#[]⟩, same.getD x.a.toNat 0, same.getD x.b.toNat 0⟩ by unfold trR; rw [if_pos h0])
          obtain ⟨g4, cp4, hv4, hg40, hg41⟩ := TR1.out.s.form (by omega)
          obtain rfl : A4 = some ⟨g4, 0, none⟩ := by injection hv4
          have va : w1.cell? ⟨g4, x.a.toNat, none⟩ = some (.int .i64 (same.getD x.a.toNat 0)) := by
            have := own_at (sz := 1) (enc := intE) (fun _ _ => rfl) TR1.out.s hsl.out 0 x.a.toNat (by omega) 0 (by omega)
            rw [Nat.mul_one, Nat.add_zero] at this; exact this
          have vb : w1.cell? ⟨g4, x.b.toNat, none⟩ = some (.int .i64 (same.getD x.b.toNat 0)) := by
            have := own_at (sz := 1) (enc := intE) (fun _ _ => rfl) TR1.out.s hsl.out 0 x.b.toNat (by omega) 0 (by omega)
            rw [Nat.mul_one, Nat.add_zero] at this; exact this
          generalize same.getD x.a.toNat 0 = sa at *
          generalize same.getD x.b.toNat 0 = sb at *
          obtain ⟨d0, d1, d2⟩ := BX1.out.three
          have lx := BX1.out.lt
          have fx := BX1.out.frozen
          have i1 : x.a < (k : Int) := ha1
          have i2 : x.b < (k : Int) := hb1
          clear hv4
          simp only [he]
          clear he e0
          go_wp2_with fail
          go_region
          all_goals
            go_wp2_with fail
            go_meet
            have BY := ((BX1.out.set_ 0 (.string .empty)).set_ 1 (.int .i64 sa)).set_ 2 (.int .i64 sb)
            have hgm := gb_setCell (gb_setCell (gb_set w1 Z 0 (.string .empty)) 1 (.int .i64 sa)) 2 (.int .i64 sb)
            refine ⟨Lib.hid (TR1.out.far hgm nbR.out nbS.out (by omega)).drew, Lib.hid ?_⟩
            rw [Hy.out]; exact BY.drew
        · have e0 : x.l.toList ≠ [] := size1 (by rw [hxl]; show (1 : Nat) ≠ 0; omega)
          have he : x.l.toList.isEmpty = false := by rw [List.isEmpty_eq_false_iff]; exact e0
          have Hy := Lib.hid (show trR same x = x by unfold trR; rw [if_neg (by rw [hxl]; show (1 : Nat) ≠ 0; omega)])
          clear hxl hxa hxb
          simp only [he]
          clear he e0
          go_wp2_with fail
          go_meet
          exact ⟨TR1, by rw [Hy.out]; exact BX1⟩
      case rest =>
        obtain ⟨TR2, BX2⟩ := hcut
        clear TR1 BX1
        generalize trR same x = y at *
        have hik : kept.idxOf y ≤ k := by have := List.idxOf_le_length (a := y) (l := kept); have := hkl.out; omega
        go_upto_block 2 with fail
        refine named fun w2 H2 => ?_
        have TR3 := Lib.hid (show TsW w w2 k A5 c5 k A4 c4 kept same by rw [H2.out]; exact TR2.out)
        have BX3 := Lib.hid (show Blk w2 Z 82 #[.string y.l, .int .i64 y.a, .int .i64 y.b] by rw [H2.out]; exact BX2.out)
        clear H2 TR2 BX2
        go_cut [8] (fun o_ wx => o_ = .int .i64 ((kept.idxOf y : Nat) : Int) ∧ Hid (TsW w wx k A5 c5 k A4 c4 kept same) ∧ Hid (Blk wx Z 82 #[.string y.l, .int .i64 y.a, .int .i64 y.b]))
        case first =>
          go_wp2_with fail
          go_loopw [8, 9] (fun o_ j_ w' => ∃ (own j : Nat), o_ = .int .i64 own ∧ j_ = .int .i64 j ∧ j ≤ k ∧ own ≤ k ∧ Hid (TsW w w' k A5 c5 k A4 c4 kept same) ∧ Hid (Blk w' Z 82 #[.string y.l, .int .i64 y.a, .int .i64 y.b]) ∧
            Hid ((own = k ∧ ∀ q, q < j → ¬ (same.getD q 0 = (q : Int) ∧ kept[q]? = some y)) ∨ (own < k ∧ kept[own]? = some y ∧ same.getD own 0 = (own : Int)))) (fun _ j_ _ => k - (intOf j_).toNat)
          case atStart => exact ⟨k, 0, rfl, rfl, by omega, by omega, TR3, BX3, Lib.hid (.inl ⟨rfl, fun q hq => absurd hq (by omega)⟩)⟩
          case round =>
            obtain ⟨own, j, rfl, rfl, hj, how, T4, B4, HQ⟩ := hrel
            by_cases hlt2 : j < k
            · rcases HQ.out with ⟨hok, hno⟩ | ⟨hok, hfo, hsf⟩
              · obtain rfl : k = own := hok.symm
                have HN := Lib.hid hno
                clear hno HQ
                obtain ⟨g4, cp4, hv4, hg40, hg41⟩ := T4.out.s.form (by omega)
                obtain rfl : A4 = some ⟨g4, 0, none⟩ := by injection hv4
                obtain ⟨g5, cp5, hv5, hg50, hg51⟩ := T4.out.r.form (by omega)
                obtain rfl : A5 = some ⟨g5, 0, none⟩ := by injection hv5
                have va : wr.cell? ⟨g4, j, none⟩ = some (.int .i64 (same.getD j 0)) := by
                  have := own_at (sz := 1) (enc := intE) (fun _ _ => rfl) T4.out.s hsl.out 0 j (by omega) 0 (by omega)
                  rw [Nat.mul_one, Nat.add_zero] at this; exact this
                obtain ⟨x', hx'⟩ : ∃ x', kept[j]? = some x' := ⟨_, List.getElem?_eq_getElem (by have := hkl.out; omega)⟩
                have hxd : kept.getD j default = x' := by rw [List.getD_eq_getElem?_getD, hx']; rfl
                have cel := fun (q : Nat) (hq : q < 3) => own_at (sz := 3) (enc := Fac.cells) (fun _ _ => rfl) T4.out.r hkl.out default j (by omega) q hq
                rw [hxd] at cel
                have c0 : wr.cell? ⟨g5, j * 3, none⟩ = some (.string x'.l) := cel 0 (by omega)
                have c1 : wr.cell? ⟨g5, j * 3 + 1, none⟩ = some (.int .i64 x'.a) := cel 1 (by omega)
                have c2 : wr.cell? ⟨g5, j * 3 + 2, none⟩ = some (.int .i64 x'.b) := cel 2 (by omega)
                have HX := Lib.hid hx'
                obtain ⟨e0, e1, e2⟩ := B4.out.three
                clear cel hxd hx' hv4 hv5
                obtain ⟨sj, hsj⟩ : ∃ sj, same.getD j 0 = sj := ⟨_, rfl⟩
                rw [hsj] at va
                have HSJ := Lib.hid hsj
                clear hsj
                by_cases hss : sj = (j : Int)
                · subst hss
                  by_cases hxy : x' = y
                  · subst hxy
                    go_wp2_with fail
                    go_region
                    all_goals
                      go_wp2_with fail
                      go_roundw
                      case rel => exact ⟨j, j + 1, rfl, by go_num, by omega, by omega, Lib.hid T4.out.drew, Lib.hid B4.out.drew, Lib.hid (.inr ⟨hlt2, HX.out, HSJ.out⟩)⟩
                      case measure => first | (simp [intOf]; done) | (simp [intOf]; omega)
                  · have hcase : x'.l.toList ≠ y.l.toList ∨ (x'.l.toList = y.l.toList ∧ x'.a ≠ y.a) ∨ (x'.l.toList = y.l.toList ∧ x'.a = y.a ∧ x'.b ≠ y.b) := by
                      by_cases h1 : x'.l.toList = y.l.toList
                      · by_cases h2 : x'.a = y.a
                        · by_cases h3 : x'.b = y.b
                          · exact absurd (fac_ext h1 h2 h3) hxy
                          · exact .inr (.inr ⟨h1, h2, h3⟩)
                        · exact .inr (.inl ⟨h1, h2⟩)
                      · exact .inl h1
                    have HXY := Lib.hid hxy
                    clear hxy
                    rcases hcase with h1 | ⟨h1, h2⟩ | ⟨h1, h2, h3⟩
                    all_goals
                      go_wp2_with fail
                      go_region
                      all_goals
                        go_wp2_with fail
                        go_roundw
                        case rel =>
                          refine ⟨k, j + 1, rfl, by go_num, by omega, by omega, Lib.hid T4.out.drew, Lib.hid B4.out.drew, Lib.hid (.inl ⟨rfl, fun q hq => ?_⟩)⟩
                          rcases Nat.lt_or_ge q j with h | h
                          · exact HN.out q h
                          · obtain rfl : q = j := by omega
                            rintro ⟨-, hh⟩
                            exact HXY.out (by have := HX.out.symm.trans hh; injection this)
                        case measure => first | (simp [intOf]; done) | (simp [intOf]; omega)
                · have hne : (sj == (j : Int)) = false := by simpa using hss
                  go_wp2_with fail
                  go_region
                  all_goals
                    go_wp2_with fail
                    go_roundw
                    case rel =>
                      refine ⟨k, j + 1, rfl, by go_num, by omega, by omega, Lib.hid T4.out.drew, Lib.hid B4.out.drew, Lib.hid (.inl ⟨rfl, fun q hq => ?_⟩)⟩
                      rcases Nat.lt_or_ge q j with h | h
                      · exact HN.out q h
                      · obtain rfl : q = j := by omega
                        rintro ⟨h1, -⟩
                        exact hss (HSJ.out.symm.trans h1)
                    case measure => first | (simp [intOf]; done) | (simp [intOf]; omega)
              · have hne : ((own : Int) == (k : Int)) = false := by simp; omega
                have hid := HS.out own y hfo
                rw [hsf] at hid
                have HID := Lib.hid hid
                clear hid hfo hsf
                go_wp2_with fail
                go_meet
                exact ⟨by rw [HID.out], T4, B4⟩
            · obtain rfl : k = j := by omega
              rcases HQ.out with ⟨hok, hno⟩ | ⟨hok, hfo, hsf⟩
              · obtain rfl : k = own := hok.symm
                have hnm : y ∉ kept := fun hm => by
                  have h1 : kept.idxOf y < kept.length := List.idxOf_lt_length_iff.2 hm
                  have h2 : kept[kept.idxOf y]? = some y := by rw [List.getElem?_eq_getElem h1, List.getElem_idxOf]
                  exact hno _ (by rw [hkl.out] at h1; exact h1) ⟨HS.out _ _ h2, h2⟩
                have HID := Lib.hid (show kept.idxOf y = k by rw [List.idxOf_eq_length hnm, hkl.out])
                clear hno hnm HQ
                go_wp2_with fail
                go_meet
                exact ⟨by rw [HID.out], T4, B4⟩
              · have hid := HS.out own y hfo
                rw [hsf] at hid
                have HID := Lib.hid hid
                clear hid hfo hsf HQ
                go_wp2_with fail
                go_meet
                exact ⟨by rw [HID.out], T4, B4⟩
        case rest =>
          obtain ⟨rfl, TR2, BX2⟩ := hcut
          have HS2 := Lib.hid (hs_step HS.out HI.out.len y)
          generalize hvz : ((kept.idxOf y : Nat) : Int) = v at *
          have TA := Lib.hid (TR2.out.alloc (.cells #[.int .i64 v] 2))
          have BA := Lib.hid (BX2.out.alloc (.cells #[.int .i64 v] 2))
          go_wp2_with
            (first
              | (at_builtin
                 refine wpList_app rfl _ _ _ rfl w.heap.size 2 1 8 elem_int intE A4 k c4 same rfl TA.out.s ⟨wc.heap.size, 0, none⟩ 1 1 [v] rfl rfl (by omega) (news1i (Blk.new wc 2 #[.int .i64 v])) (fun _ _ => rfl) (by simp [intE, Value.oneCell']) (by omega) (by omega) (by unfold maxLen; omega) TA.out.e.size ?_
                 intro A8 c8 w8 own8 hg8 hat8
                 have TB := Lib.hid (TA.out.pushS own8 hg8)
                 have BB := Lib.hid (BA.out.grown hg8 nbS.out)
                 obtain ⟨d0, d1, d2⟩ := BB.out.three
                 have lx := BB.out.lt
                 have TC := Lib.hid (TB.out.alloc (.cells #[.string y.l, .int .i64 y.a, .int .i64 y.b] 82))
                 clear own8 hg8 hat8)
              | (at_builtin
                 refine wpList_app rfl _ _ _ rfl w.heap.size 82 3 32 elem_rule Fac.cells A5 k c5 kept rfl TC.out.r ⟨w8.heap.size, 0, none⟩ 1 1 [y] rfl rfl (by omega) (news1 (Blk.new w8 82 #[.string y.l, .int .i64 y.a, .int .i64 y.b])) (fun x _ => fac_len x) (fun x _ => one_fac x) (by omega) (by omega) (by unfold maxLen; omega) TC.out.e.size ?_
                 intro A9 c9 w9 own9 hg9 hat9
                 have TD := Lib.hid (TC.out.pushR own9 hg9)
                 clear own9 hg9 hat9))
          go_roundw
          case rel => exact ⟨k + 1, A8, c8, A9, c9, kept ++ [y], same ++ [v], by go_num, rfl, rfl, by omega, TD, HS2, HI2, Lib.hid (by rw [List.length_append, hkl.out]; rfl), Hstep⟩
          case measure => first | (simp [intOf]; done) | (simp [intOf]; omega)
    · obtain rfl : k = n := by omega
      have HA := Lib.hid (trK_all (by rw [hl.out]; omega) HK.out)
      have mkB := fun W => makeB k W (by omega)
      go_upto_if 86 with fail
      refine named fun w2 H2 => ?_
      have TU := Lib.hid (show TsW w w2 k A5 c5 k A4 c4 kept same by rw [H2.out]; exact TR.out.alloc _)
      have BU := Lib.hid (show Blk w2 wr.heap.size 4 (boolA (List.replicate k false)) by rw [H2.out]; exact Blk.new wr _ _)
      have hbd := Lib.hid TR.out.bnd
      clear H2 TR mkB
      generalize wr.heap.size = U at *
      go_cut [] (fun wx => ∃ u, Hid (TsW w wx k A5 c5 k A4 c4 kept same) ∧ Hid (Blk wx U 4 (boolA u)) ∧ Hid (u.length = k) ∧ Hid (trimL rs = outT (useT kept k u) 0 kept [] (List.replicate k 0)))
      case first =>
        rcases Nat.eq_zero_or_pos k with hk0 | hk0
        · have hkey := Lib.hid (show trimL rs = outT (useT kept k (List.replicate k false)) 0 kept [] (List.replicate k 0) by
            unfold trimL
            rw [if_pos (by rw [hl.out]; exact hk0), List.eq_nil_of_length_eq_zero (hkl.out.trans hk0)]
            rfl)
          have hlt0 : ¬ (0 : Int) < (k : Int) := by omega
          clear hk0
          go_wp2_with fail
          go_meet
          exact ⟨_, TU, BU, Lib.hid (by simp), hkey⟩
        · have hI := HI.out
          have sv := hI.s (k - 1) (by have := hkl.out; omega)
          obtain ⟨g4, cp4, hv4, hg40, hg41⟩ := TU.out.s.form (by omega)
          obtain rfl : A4 = some ⟨g4, 0, none⟩ := by injection hv4
          have cs : w2.cell? ⟨g4, k - 1, none⟩ = some (.int .i64 (same.getD (k - 1) 0)) := by
            have := own_at (sz := 1) (enc := intE) (fun _ _ => rfl) TU.out.s (hI.len.trans hkl.out) 0 (k - 1) (by omega) 0 (by omega)
            rw [Nat.mul_one, Nat.add_zero] at this; exact this
          have hkey := Lib.hid (show trimL rs = outT (useT kept k ((List.replicate k false).set (same.getD (k - 1) 0).toNat true)) 0 kept [] (List.replicate k 0) by
            unfold trimL
            rw [← HA.out, hl.out, if_neg (by omega)]
            rfl)
          generalize same.getD (k - 1) 0 = z at *
          obtain ⟨z0, z1⟩ := sv
          have u1 : IntKind.i64.wrap ((k : Int) - 1) = (k : Int) - 1 := IntWalk.i64_in _ (by omega)
          have z2 : z < (k : Int) := by omega
          have j0 : (0 : Int) ≤ (k : Int) - 1 := by omega
          have j1 : (k : Int) - 1 < (k : Int) := by omega
          have jn : ((k : Int) - 1).toNat = k - 1 := by omega
          have bz := BU.out.cell z.toNat
          rw [boolA_at _ (by rw [List.length_replicate]; omega)] at bz
          have fz := BU.out.frozen
          have zk : z.toNat < k := by omega
          have hk1 : (0 : Int) < (k : Int) := by omega
          clear hv4 hI
          go_wp2_with fail
          go_meet
          have B6 := BU.out.set_ z.toNat (.bool true)
          rw [boolA_set] at B6
          refine ⟨(List.replicate k false).set z.toNat true, ?_, Lib.hid B6, Lib.hid (by simp), hkey⟩
          exact (Lib.hid (TU.out.far (gb_set w2 U _ _) (fun e => by have := hbd.out.1 _ e.symm; omega) (fun e => by have := hbd.out.2.1 _ e.symm; omega) hbd.out.2.2))
      case rest =>
        obtain ⟨u0, TV, BV, hu0, key0⟩ := hcut
        clear TU BU
        have u1 : IntKind.i64.wrap ((k : Int) - 1) = (k : Int) - 1 := IntWalk.i64_in _ (by omega)
        go_wp2_with fail
        refine named fun w3 H3 => ?_
        have TW := Lib.hid (show TsW w w3 k A5 c5 k A4 c4 kept same by rw [H3.out]; exact TV.out)
        have BW := Lib.hid (show Blk w3 U 4 (boolA u0) by rw [H3.out]; exact BV.out)
        clear H3 TV BV
        go_loopw [11] (fun j_ w' => ∃ (j : Nat) (u : List Bool) (y : Int), j_ = .int .i64 y ∧ y + 1 = (j : Int) ∧ j ≤ k ∧ Hid (TsW w w' k A5 c5 k A4 c4 kept same) ∧ Hid (Blk w' U 4 (boolA u)) ∧ Hid (u.length = k) ∧
          Hid (useT kept j u = useT kept k u0)) (fun j_ _ => (intOf j_ + 1).toNat)
        case atStart => exact ⟨k, _, _, rfl, by omega, Nat.le_refl _, TW, BW, hu0, Lib.hid rfl⟩
        case round =>
          obtain ⟨j, u, y, rfl, hy, hj, T2, B2, hu, HU⟩ := hrel
          rcases j with _ | i
          · obtain rfl : y = -1 := by omega
            have e := HU.out
            rw [show useT kept 0 u = u from rfl] at e
            have key := Lib.hid (show trimL rs = outT u 0 kept [] (List.replicate k 0) by rw [key0.out, ← e])
            have ulen := hu
            clear e HU hy hj key0
            have mkN := fun W => makeN k W (by omega)
            go_wp2_with fail
            refine named fun w4 H4 => ?_
            have lo := T2.out.o.lt
            have lu := B2.out.lt
            have n6 := T2.out.bnd.1
            have O1 : OutW w.heap.size w w4 A5 c5 k kept (wr.heap.size + 2) U u wr.heap.size (List.replicate k 0) (wr.heap.size + 1) none 0 0 [] := by
              rw [H4.out]
              have hb : Below wr.heap.size wr ((wr.alloc (.cells (intA (List.replicate k 0)) 2)).alloc (.cells #[.slice none 0 0] 26)) := ((Below.refl _ _).alloc (Nat.le_refl _) _).alloc (by simp) _
              have T5 := T2.out.next hb
              refine ⟨T5.r, B2.out.next hb, (Blk.new wr _ _).alloc _, ?_, T5.o, World.ownsRow_nil _ _ _ _, T5.e, Nat.le_refl _, by omega, by omega, by have := T2.out.e.size; have := hbd.out.2.2; omega, by omega, by simp, fun q hq => by have := n6 q hq; omega⟩
              have h := Blk.new (wr.alloc (.cells (intA (List.replicate k 0)) 2)) 26 #[.slice none 0 0]
              rw [show (wr.alloc (.cells (intA (List.replicate k 0)) 2)).heap.size = wr.heap.size + 1 by simp] at h
              exact h
            have O1' := Lib.hid O1
            clear O1 H4 T2 B2 n6 lo lu mkN hbd
            generalize hB : wr.heap.size + 1 = B at *
            have hB' := Lib.hid hB
            clear hB
            generalize wr.heap.size = V at *
            generalize V + 2 = X at *
            go_loopw [14] (fun i_ w' => ∃ (i nn : Nat) (A7 : Option Addr) (c7 : Nat) (out : List Fac) (at_ : List Int), i_ = .int .i64 i ∧ i ≤ k ∧ nn ≤ i ∧ Hid (OutW w.heap.size w w' A5 c5 k kept X U u V at_ B A7 nn c7 out) ∧ Hid (out.length = nn) ∧ Hid (at_.length = k) ∧
              Hid (outT u i (kept.drop i) out at_ = outT u 0 kept [] (List.replicate k 0))) (fun i_ _ => k - (intOf i_).toNat)
            case atStart =>
              exact ⟨0, 0, none, 0, [], _, rfl, by omega, by omega, O1', Lib.hid rfl, Lib.hid (by simp), Lib.hid rfl⟩
            case round =>
              obtain ⟨i, nn, A7, c7, out, at_, rfl, hi, hnn, O2, hol, hal, HO⟩ := hrel
              by_cases hlt : i < k
              · obtain ⟨g5, cp5, hv5, hg50, hg51⟩ := O2.out.r.form (by omega)
                obtain rfl : A5 = some ⟨g5, 0, none⟩ := by injection hv5
                obtain ⟨x, hx⟩ : ∃ x, kept[i]? = some x := ⟨_, List.getElem?_eq_getElem (by have := hkl.out; omega)⟩
                have hxd : kept.getD i default = x := by rw [List.getD_eq_getElem?_getD, hx]; rfl
                have cel := fun (q : Nat) (hq : q < 3) => own_at (sz := 3) (enc := Fac.cells) (fun _ _ => rfl) O2.out.r hkl.out default i (by omega) q hq
                rw [hxd] at cel
                have c0 : wr.cell? ⟨g5, i * 3, none⟩ = some (.string x.l) := cel 0 (by omega)
                have c1 : wr.cell? ⟨g5, i * 3 + 1, none⟩ = some (.int .i64 x.a) := cel 1 (by omega)
                have c2 : wr.cell? ⟨g5, i * 3 + 2, none⟩ = some (.int .i64 x.b) := cel 2 (by omega)
                have nV : V ≠ g5 := fun e => own_blk_ne O2.out.r O2.out.v (by decide) (by rw [e]; rfl)
                have nBV : B ≠ V := by have := hB'.out; omega
                clear cel hxd hv5
                have bu := O2.out.u.cell i
                rw [boolA_at u (i := i) (by have := ulen.out; omega)] at bu
                have ho := HO.out
                rw [drop_cons hx] at ho
                have HX := Lib.hid hx
                obtain ⟨ub, hub⟩ : ∃ ub, u.getD i false = ub := ⟨_, rfl⟩
                rw [hub] at bu
                have Hub := Lib.hid hub
                clear hub hx
                cases ub
                · have e : outT u (i + 1) (kept.drop (i + 1)) out at_ = outT u 0 kept [] (List.replicate k 0) := by
                    rw [← ho, outT, if_neg (by rw [Hub.out]; simp)]
                  have E := Lib.hid e
                  clear e ho
                  go_wp2_with fail
                  go_roundw
                  case rel => exact ⟨i + 1, nn, A7, c7, out, at_, by go_num, by omega, by omega, O2, hol, hal, E⟩
                  case measure => first | (simp [intOf]; done) | (simp [intOf]; omega)
                · have e : outT u (i + 1) (kept.drop (i + 1)) (out ++ [trR at_ x]) (at_.set i (nn : Int)) = outT u 0 kept [] (List.replicate k 0) := by
                    rw [← ho, outT, if_pos Hub.out, hol.out]
                  have E := Lib.hid e
                  clear e ho
                  have Hset := Lib.hid (show trR (at_.set i (nn : Int)) x = trR at_ x from trR_set (fun h0 => by
                    rcases HI.out.k i x HX.out with ⟨_, ha0, ha1, hb0, hb1⟩ | ⟨cc, hcc, hxl, hxa, hxb⟩
                    · exact ⟨ha0, ha1, hb0, hb1⟩
                    · rw [hxl] at h0; exact absurd h0 (show (1 : Nat) ≠ 0 by omega)))
                  have f5 := O2.out.v.frozen
                  have v5 := O2.out.v.cell i
                  rw [intA_at at_ (by have := hal.out; omega)] at v5
                  have b5 := O2.out.b.cell 0
                  go_upto_if 151 with fail
                  refine named fun w1 H1 => ?_
                  have O3 := Lib.hid (show OutW w.heap.size w w1 (some ⟨g5, 0, none⟩) c5 k kept X U u V (at_.set i (nn : Int)) B A7 nn c7 out by rw [H1.out]; exact (O2.out.tell i (nn : Int)).alloc _)
                  have BX1 := Lib.hid (show Blk w1 wr.heap.size 82 #[.string x.l, .int .i64 x.a, .int .i64 x.b] by
                    rw [H1.out]
                    have h := Blk.new (wr.setCell ⟨V, i, none⟩ (.int .i64 (nn : Int))) 82 #[.string x.l, .int .i64 x.a, .int .i64 x.b]
                    rw [show (wr.setCell ⟨V, i, none⟩ (.int .i64 (nn : Int))).heap.size = wr.heap.size by simp] at h
                    exact h)
                  have q1 : some wr.heap.size ≠ (Value.slice (some ⟨g5, 0, none⟩) k c5).ownBlock := fun e => by have := (O2.out.r.lt _ e.symm).2; omega
                  have q2 : some wr.heap.size ≠ (Value.slice A7 nn c7).ownBlock := fun e => by have := (O2.out.q.lt _ e.symm).2; omega
                  have q3 := O2.out.u.lt
                  have q4 := O2.out.v.lt
                  have q5 := O2.out.b.lt
                  have q6 := O2.out.o.lt
                  have Q1 := Lib.hid q1
                  have Q2 := Lib.hid q2
                  clear q1 q2 H1 c0 c1 c2 bu v5 f5 b5
                  generalize wr.heap.size = Z at *
                  go_cut [] (fun wx => Hid (OutW w.heap.size w wx (some ⟨g5, 0, none⟩) c5 k kept X U u V (at_.set i (nn : Int)) B A7 nn c7 out) ∧ Hid (Blk wx Z 82 #[.string (trR at_ x).l, .int .i64 (trR at_ x).a, .int .i64 (trR at_ x).b]))
                  case first =>
                    rcases HI.out.k i x HX.out with ⟨h0, ha0, ha1, hb0, hb1⟩ | ⟨cc, hcc, hxl, hxa, hxb⟩
                    · have e0 := size0 h0
                      have he : x.l.toList.isEmpty = true := by rw [e0]; rfl
                      have Hy := Lib.hid (show trR at_ x = ⟨⟨#[]⟩, (at_.set i (nn : Int)).getD x.a.toNat 0, (at_.set i (nn : Int)).getD x.b.toNat 0⟩ by rw [← Hset.out]; unfold trR; rw [if_pos h0])
                      have va := O3.out.v.cell x.a.toNat
                      rw [intA_at _ (by rw [List.length_set]; have := hal.out; omega)] at va
                      have vb := O3.out.v.cell x.b.toNat
                      rw [intA_at _ (by rw [List.length_set]; have := hal.out; omega)] at vb
                      obtain ⟨sa, hsa⟩ : ∃ sa, (at_.set i (nn : Int)).getD x.a.toNat 0 = sa := ⟨_, rfl⟩
                      obtain ⟨sb, hsb⟩ : ∃ sb, (at_.set i (nn : Int)).getD x.b.toNat 0 = sb := ⟨_, rfl⟩
                      rw [hsa] at va
                      rw [hsb] at vb
                      have Hy2 := Lib.hid (show trR at_ x = ⟨⟨#[]⟩, sa, sb⟩ by rw [Hy.out, hsa, hsb])
                      obtain ⟨d0, d1, d2⟩ := BX1.out.three
                      have lx := BX1.out.lt
                      have fx := BX1.out.frozen
                      have i1 : x.a < (k : Int) := by omega
                      have i2 : x.b < (k : Int) := by omega
                      clear hsa hsb Hy
                      simp only [he]
                      clear he e0
                      go_wp2_with fail
                      go_region
                      all_goals
                        go_wp2_with fail
                        go_meet
                        have BY := ((BX1.out.set_ 0 (.string .empty)).set_ 1 (.int .i64 sa)).set_ 2 (.int .i64 sb)
                        have hgm := gb_setCell (gb_setCell (gb_set w1 Z 0 (.string .empty)) 1 (.int .i64 sa)) 2 (.int .i64 sb)
                        refine ⟨Lib.hid (O3.out.far hgm Q1.out Q2.out (by omega) (by omega) (by omega) (by omega)).drew, Lib.hid ?_⟩
                        rw [Hy2.out]; exact BY.drew
                    · have e0 : x.l.toList ≠ [] := size1 (by rw [hxl]; show (1 : Nat) ≠ 0; omega)
                      have he : x.l.toList.isEmpty = false := by rw [List.isEmpty_eq_false_iff]; exact e0
                      have Hy := Lib.hid (show trR at_ x = x by unfold trR; rw [if_neg (by rw [hxl]; show (1 : Nat) ≠ 0; omega)])
                      clear hxl hxa hxb
                      simp only [he]
                      clear he e0
                      go_wp2_with fail
                      go_meet
                      exact ⟨O3, by rw [Hy.out]; exact BX1⟩
                  case rest =>
                    obtain ⟨O5, BX5⟩ := hcut
                    clear O3 BX1
                    generalize trR at_ x = y at *
                    have b5 := O5.out.b.cell 0
                    obtain ⟨e0, e1, e2⟩ := BX5.out.three
                    have O7 := Lib.hid (O5.out.alloc (.cells #[.string y.l, .int .i64 y.a, .int .i64 y.b] 82))
                    have BN := Lib.hid (Blk.new wc 82 #[.string y.l, .int .i64 y.a, .int .i64 y.b])
                    go_wp2_with
                      (at_builtin
                       refine wpList_app rfl _ _ _ rfl X 82 3 32 elem_rule Fac.cells A7 nn c7 out rfl O7.out.q ⟨wc.heap.size, 0, none⟩ 1 1 [y] rfl rfl (by omega) (news1 BN.out) (fun x _ => fac_len x) (fun x _ => one_fac x) (by omega) (by omega) (by unfold maxLen; omega) O7.out.n5 ?_
                       intro A9 c9 w9 own9 hg9 hat9
                       have O8 := Lib.hid (O7.out.push own9 hg9)
                       have B9 := O7.out.b.grown hg9 (own_blk_ne O7.out.q O7.out.b (by decide))
                       have f9 := B9.frozen
                       have d9 := B9.cell 0
                       have l9 := B9.lt
                       clear own9 B9)
                    go_roundw
                    case rel => exact ⟨i + 1, nn + 1, A9, c9, out ++ [y], at_.set i (nn : Int), by go_num, by omega, by omega, O8, Lib.hid (by simp [hol.out]), Lib.hid (by simp [hal.out]), E⟩
                    case measure => first | (simp [intOf]; done) | (simp [intOf]; omega)
              · obtain rfl : k = i := by omega
                have hk2 := Lib.hid (show trimL rs = out by
                  rw [key.out, ← HO.out, List.drop_of_length_le (by rw [hkl.out]; exact Nat.le_refl _)]; rfl)
                have b0 := O2.out.b.cell 0
                have o0 := O2.out.o.cell 0
                have fo := O2.out.o.frozen
                go_wp2_with fail
                have hg := gb_set wr w.heap.size 0 (.slice A7 nn c7)
                have x9 := O2.out.o.set_ 0 (.slice A7 nn c7)
                have x10 : (wr.setCell ⟨w.heap.size, 0, none⟩ (.slice A7 nn c7)).cell? ⟨w.heap.size, 0, none⟩ = some (.slice A7 nn c7) := by rw [x9.cell 0]; rfl
                refine bodyPost_ret (v := .agg #[.slice A7 nn c7]) (by simp [results, Try.results44, go_sem, x10]) rfl ⟨A7, c7, by rw [hk2.out, hol.out], ?_, O2.out.e.grown hg O2.out.e.size (fun q hq => by injection hq with hq; omega)⟩
                rw [hk2.out, hol.out]
                exact (O2.out.q.kept hg (.inr fun e => own_blk_ne O2.out.q O2.out.o (by decide) e.symm)).mono (by have := O2.out.n1; have := O2.out.n2; omega)
          · obtain rfl : y = (i : Int) := by omega
            obtain ⟨g5, cp5, hv5, hg50, hg51⟩ := T2.out.r.form (by omega)
            obtain rfl : A5 = some ⟨g5, 0, none⟩ := by injection hv5
            obtain ⟨x, hx⟩ : ∃ x, kept[i]? = some x := ⟨_, List.getElem?_eq_getElem (by have := hkl.out; omega)⟩
            have hxd : kept.getD i default = x := by rw [List.getD_eq_getElem?_getD, hx]; rfl
            have cel := fun (q : Nat) (hq : q < 3) => own_at (sz := 3) (enc := Fac.cells) (fun _ _ => rfl) T2.out.r hkl.out default i (by omega) q hq
            rw [hxd] at cel
            have c0 : wr.cell? ⟨g5, i * 3, none⟩ = some (.string x.l) := cel 0 (by omega)
            have c1 : wr.cell? ⟨g5, i * 3 + 1, none⟩ = some (.int .i64 x.a) := cel 1 (by omega)
            have c2 : wr.cell? ⟨g5, i * 3 + 2, none⟩ = some (.int .i64 x.b) := cel 2 (by omega)
            clear cel hv5
            have bu := B2.out.cell i
            rw [boolA_at u (i := i) (by have := hu.out; omega)] at bu
            have Hus := Lib.hid (show useStep kept i u = if u.getD i false = true ∧ x.l.size = 0 then (u.set x.a.toNat true).set x.b.toNat true else u by unfold useStep; rw [hxd])
            have HU' := Lib.hid (show useT kept i (useStep kept i u) = useT kept k u0 from HU.out)
            have HX := Lib.hid hx
            clear HU hx hxd
            obtain ⟨ub, hub⟩ : ∃ ub, u.getD i false = ub := ⟨_, rfl⟩
            rw [hub] at bu
            have Hub := Lib.hid hub
            clear hub
            have u2 : IntKind.i64.wrap ((i : Int) - 1) = (i : Int) - 1 := IntWalk.i64_in _ (by omega)
            cases ub
            · have e := Hus.out
              rw [Hub.out, if_neg (by simp)] at e
              have E := Lib.hid e
              clear e
              go_wp2_with fail
              go_roundw
              case rel => exact ⟨i, u, _, rfl, by omega, by omega, T2, B2, hu, by rw [E.out] at HU'; exact HU'⟩
              case measure => first | (simp [intOf]; done) | (simp [intOf]; omega)
            · rcases HI.out.k i x HX.out with ⟨h0, ha0, ha1, hb0, hb1⟩ | ⟨cc, hcc, hxl, hxa, hxb⟩
              · have e := Hus.out
                rw [Hub.out, if_pos ⟨rfl, h0⟩] at e
                have E := Lib.hid e
                clear e
                have e0 := size0 h0
                have he : x.l.toList.isEmpty = true := by rw [e0]; rfl
                have nU : U ≠ g5 := fun e => by have := hbd.out.1 g5 rfl; omega
                have fU := B2.out.frozen
                have da := B2.out.cell x.a.toNat
                rw [boolA_at u (by have := hu.out; omega)] at da
                have B5 := B2.out.set_ x.a.toNat (.bool true)
                rw [boolA_set] at B5
                have db2 := B5.cell x.b.toNat
                rw [boolA_at _ (by have := hu.out; rw [List.length_set]; omega)] at db2
                have fU5 := B5.frozen
                clear B5
                have ab : x.a < (k : Int) := by omega
                have bb : x.b < (k : Int) := by omega
                go_wp2_with fail
                go_roundw
                case rel =>
                  have B6 := (B2.out.set_ x.a.toNat (.bool true)).set_ x.b.toNat (.bool true)
                  rw [boolA_set, boolA_set, ← E.out] at B6
                  exact ⟨i, useStep kept i u, _, rfl, by omega, by omega, Lib.hid (T2.out.far (gb_setCell (gb_set wr U _ _) _ _) (fun e => by have := hbd.out.1 _ e.symm; omega) (fun e => by have := hbd.out.2.1 _ e.symm; omega) hbd.out.2.2), Lib.hid B6, Lib.hid (by rw [E.out]; simp [hu.out]), HU'⟩
                case measure => first | (simp [intOf]; done) | (simp [intOf]; omega)
              · have e := Hus.out
                rw [if_neg (by rw [hxl]; rintro ⟨-, h⟩; exact absurd h (show (1 : Nat) ≠ 0 by omega))] at e
                have E := Lib.hid e
                have e0 : x.l.toList ≠ [] := size1 (by rw [hxl]; show (1 : Nat) ≠ 0; omega)
                have he : x.l.toList.isEmpty = false := by rw [List.isEmpty_eq_false_iff]; exact e0
                clear e hxl hxa hxb
                go_wp2_with fail
                go_roundw
                case rel => exact ⟨i, u, _, rfl, by omega, by omega, T2, B2, hu, by rw [E.out] at HU'; exact HU'⟩
                case measure => first | (simp [intOf]; done) | (simp [intOf]; omega)
end Go.Proofs.Ytgdbpkpaacbhhaa


/-
  TrimGrammar on both sides.
-/
namespace Go.Proofs.Ytgdbpkpaacbhhaa
open Go.RowKit

/-- a grammar in new memory, and a code -/
def RetGC (w0 : World) (xs : List Fac) (k : Int) (e : Ending) (w' : World) : Prop :=
  ∃ A c, e = .returned (.tuple #[.agg #[.slice A xs.length c], .int .i64 k]) ∧ w'.ownsRow w0.heap.size 82 3 (.slice A xs.length c) xs.length (xs.flatMap Fac.cells) ∧ Below w0.heap.size w0 w'
def trimF (rs : List Fac) : List Fac := if (gOk rs).isSome then trimL rs else []
def trimC (rs : List Fac) : Int := if (gOk rs).isSome then 0 else 1
theorem outT_len (used : List Bool) : ∀ (ks : List Fac) (i : Nat) (out : List Fac) (at_ : List Int), (outT used i ks out at_).length ≤ out.length + ks.length
  | [], i, out, at_ => by simp [outT]
  | r :: ks, i, out, at_ => by
    rw [outT]
    split
    · have := outT_len used ks (i + 1) (out ++ [trR at_ r]) (at_.set i (out.length : Int))
      simp only [List.length_append, List.length_singleton] at this
      simp only [List.length_cons]; omega
    · have := outT_len used ks (i + 1) out at_
      simp only [List.length_cons]; omega
theorem trK_len : ∀ (rs kept : List Fac) (same : List Int), (trK rs kept same).1.length = kept.length + rs.length
  | [], kept, same => by simp [trK]
  | r :: rs, kept, same => by
    rw [trK, trK_len rs]; simp; omega
theorem trimF_len (rs : List Fac) : (trimF rs).length ≤ rs.length := by
  unfold trimF
  split
  · unfold trimL
    split
    · simp
    · have h1 := outT_len (useT (trK rs [] []).1 rs.length (use0 rs.length (trK rs [] []).2)) (trK rs [] []).1 0 [] (List.replicate rs.length 0)
      have h2 := trK_len rs [] []
      simp only [List.length_nil, Nat.zero_add] at h1 h2
      omega
  · simp
end Go.Proofs.Ytgdbpkpaacbhhaa


/-
  A grammar, if it is valid: in the program and in the reference.
-/
namespace Go.Proofs.Ytgdbpkpaacbhhaa
open Go.RowKit

/-- a grammar if it is valid, or the word that there is too much -/
def orLim (A : Option Addr) (n c : Nat) (b : Bool) : Value := bif b then .tuple #[.agg #[.slice A n c], .int .i64 0] else .tuple #[.agg #[.slice none 0 0], .int .i64 3]
def limF (rs : List Fac) : List Fac := if (gOk rs).isSome then rs else []
def limC (rs : List Fac) : Int := if (gOk rs).isSome then 0 else 3
theorem orLim_ret {w0 w w' : World} {A : Option Addr} {n c : Nat} {rs : List Fac} (hl : rs.length = n) (ho : w.ownsRow w0.heap.size 82 3 (.slice A n c) n (rs.flatMap Fac.cells)) (h0 : Below w0.heap.size w0 w) (hb : Below w.heap.size w w') :
    RetGC w0 (limF rs) (limC rs) (.returned (orLim A n c (gOk rs).isSome)) w' := by
  have h1 := h0.trans (hb.mono h0.size)
  unfold limF limC orLim
  rcases (gOk rs).isSome with _ | _
  · exact ⟨none, 0, rfl, World.ownsRow_nil _ _ _ _, h1⟩
  · exact ⟨A, c, by simp [hl], by simpa [hl] using own_next ho hb, h1⟩
theorem tuple2_ret {a b : Value} (h : a = b) : Ending.returned a = .returned b := by rw [h]
set_option maxHeartbeats 1000000 in
theorem l02Told_any (A : Option Addr) (n c : Nat) (rs : List Fac) (w : World) (hn : n ≤ 100000000) (hr : Rd w w.heap.size A n 3 Fac.cells rs) (hok : ∀ f ∈ rs, f.l.size ≤ maxLen) :
    Calls Try.prog 39 #[.agg #[.slice A n c]] w (Ret (orLim A n c (gOk rs).isSome) w) := by
  have HR := Lib.hid hr; clear hr
  have HO := Lib.hid hok; clear hok
  obtain ⟨b, hb⟩ : ∃ b, (gOk rs).isSome = b := ⟨_, rfl⟩
  rw [hb]
  have Hb := Lib.hid hb; clear hb
  have hT := Lib.hid (show orLim A n c b = bif b then .tuple #[.agg #[.slice A n c], .int .i64 0] else .tuple #[.agg #[.slice none 0 0], .int .i64 3] from rfl)
  generalize orLim A n c b = T at *
  go_enter Try.func39, Try.ntmps39
  go_wp2_with fail
  refine namedC fun w3 H3 => ?_
  have hb3 : Below w.heap.size w w3 := by rw [H3.out]; (repeat first | exact Below.refl _ _ | assumption | refine Below.drew ?_ | refine Below.alloc ?_ (by first | exact Nat.le_refl _ | (simp; done) | omega | (simp; omega)) _ | refine Below.setCell ?_ (by first | exact Nat.le_refl _ | (simp; done) | omega | (simp; omega)) _)
  have BG := Lib.hid (show Blk w3 w.heap.size 26 #[.slice A n c] by rw [H3.out]; exact (Blk.new _ _ _).alloc _)
  have BC := Lib.hid (show Blk w3 (w.heap.size + 1) 26 #[.slice none 0 0] by rw [H3.out]; simpa using Blk.new (w.alloc (.cells #[.slice A n c] 26)) 26 #[.slice none 0 0])
  clear H3
  refine (l02Ok_any w.heap.size A n c rs w3 BG.out.lt (BG.out.cell 0) hn (HR.out.next hb3) HO.out b Hb.out).mono ?_
  rintro e1 w4 ⟨rfl, hb4⟩
  have b4 := hb3.trans (hb4.mono hb3.size)
  have BC4 := BC.out.next hb4
  have BG4 := BG.out.next hb4
  have d4 := BC4.cell 0
  have f4 := BC4.frozen
  have l4 := BC4.lt
  have g4 := BG4.cell 0
  cases b
  · have B5 := BC4.set_ 0 (.slice none 0 0)
    have x5 : (w4.setCell ⟨w.heap.size + 1, 0, none⟩ (.slice none 0 0)).cell? ⟨w.heap.size + 1, 0, none⟩ = some (.slice none 0 0) := by rw [B5.cell 0]; rfl
    have b5 := b4.setCell (p := ⟨w.heap.size + 1, 0, none⟩) (by simp) (.slice none 0 0)
    clear B5 BC4 BG4
    go_wp2_with fail
    exact bodyPost_ret (v := .tuple #[.agg #[.slice none 0 0], .int .i64 3]) (by simp [results, Try.results39, go_sem, x5]) rfl ⟨by rw [hT.out]; rfl, b5⟩
  · have B5 := BC4.set_ 0 (.slice A n c)
    have x5 : (w4.setCell ⟨w.heap.size + 1, 0, none⟩ (.slice A n c)).cell? ⟨w.heap.size + 1, 0, none⟩ = some (.slice A n c) := by rw [B5.cell 0]; rfl
    have b5 := b4.setCell (p := ⟨w.heap.size + 1, 0, none⟩) (by simp) (.slice A n c)
    clear B5 BC4 BG4
    go_wp2_with fail
    exact bodyPost_ret (v := .tuple #[.agg #[.slice A n c], .int .i64 0]) (by simp [results, Try.results39, go_sem, x5]) rfl ⟨by rw [hT.out]; rfl, b5⟩
theorem l02Told_yes (A : Option Addr) (n c : Nat) (rs : List Fac) (w : World) (hn : n ≤ 100000000) (hr : Rd w w.heap.size A n 3 Fac.cells rs) (hok : ∀ f ∈ rs, f.l.size ≤ maxLen) (h : (gOk rs).isSome = true) :
    Calls Try.prog 39 #[.agg #[.slice A n c]] w (Ret (.tuple #[.agg #[.slice A n c], .int .i64 0]) w) := by
  have := l02Told_any A n c rs w hn hr hok
  rw [h] at this; exact this
theorem l02Told_no (A : Option Addr) (n c : Nat) (rs : List Fac) (w : World) (hn : n ≤ 100000000) (hr : Rd w w.heap.size A n 3 Fac.cells rs) (hok : ∀ f ∈ rs, f.l.size ≤ maxLen) (h : (gOk rs).isSome = false) :
    Calls Try.prog 39 #[.agg #[.slice A n c]] w (Ret (.tuple #[.agg #[.slice none 0 0], .int .i64 3]) w) := by
  have := l02Told_any A n c rs w hn hr hok
  rw [h] at this; exact this
end Go.Proofs.Ytgdbpkpaacbhhaa


/-
  The letters of a grammar replaced: what is made, and the code.
-/
namespace Go.Proofs.Ytgdbpkpaacbhhaa

def mapOk (rs : List Fac) (ws : List ByteArray) : Bool := (gOk rs).isSome && (decide (ws.length = 4) && ws.all okW)
def mapT (rs : List Fac) (ws : List ByteArray) : List Fac := trimL ((mapS2 rs ws).1.take ((lastI (mapS2 rs ws).2).toNat + 1))
def mapF (rs : List Fac) (ws : List ByteArray) : List Fac :=
  if mapOk rs ws = false then [] else if 400 < (mapS2 rs ws).1.length then [] else if (mapS2 rs ws).2.length = 0 ∨ lastI (mapS2 rs ws).2 < 0 then [] else limF (mapT rs ws)
def mapC (rs : List Fac) (ws : List ByteArray) : Int :=
  if mapOk rs ws = false then 1 else if 400 < (mapS2 rs ws).1.length then 3 else if (mapS2 rs ws).2.length = 0 ∨ lastI (mapS2 rs ws).2 < 0 then 0 else limC (mapT rs ws)
end Go.Proofs.Ytgdbpkpaacbhhaa


/-
  The word of a grammar whose letters are replaced.
-/
namespace Go.Proofs.Ytgdbpkpaacbhhaa

theorem full_pre {α : Type} (d : α) (F : Nat → α) (G : α → α → Fac → α) : ∀ (ys xs : List Fac) {p : Nat}, p < xs.length → (full d F G (xs ++ ys)).getD p d = (full d F G xs).getD p d
  | [], xs, p, _ => by rw [List.append_nil]
  | y :: ys, xs, p, h => by
    rw [show xs ++ y :: ys = (xs ++ [y]) ++ ys by simp, full_pre d F G ys (xs ++ [y]) (by simp; omega), full_old d F G xs y h]
theorem wds_pre (xs ys : List Fac) {p : Nat} (h : p < xs.length) : (wds (xs ++ ys)).getD p [] = (wds xs).getD p [] := full_pre [] wdF wdG ys xs h
theorem wds_take {rs : List Fac} {n p : Nat} (h : p < n) (hn : n ≤ rs.length) : (wds (rs.take n)).getD p [] = (wds rs).getD p [] := by
  have := wds_pre (rs.take n) (rs.drop n) (p := p) (by rw [List.length_take]; omega)
  rw [List.take_append_drop] at this
  exact this.symm
theorem wds_pair {rs : List Fac} (hwf : WF rs) {k : Nat} {r : Fac} (h : rs[k]? = some r) (h0 : r.l.size = 0) : (wds rs).getD k [] = (wds rs).getD r.a.toNat [] ++ (wds rs).getD r.b.toNat [] := full_pair [] wdF wdG hwf h h0
theorem wds_one {rs : List Fac} {k : Nat} {r : Fac} (h : rs[k]? = some r) {c : UInt8} (hl : r.l = ⟨#[c]⟩) : (wds rs).getD k [] = [c.toNat - 97] := by
  have := full_let [] wdF wdG h (by rw [hl]; show (1 : Nat) ≠ 0; omega)
  rw [hl] at this
  exact this
theorem wds_snoc {rs : List Fac} {a b : Int} (ha : 0 ≤ a ∧ a < rs.length) (hb : 0 ≤ b ∧ b < rs.length) (hwf : WF rs) : (wds (rs ++ [⟨⟨#[]⟩, a, b⟩])).getD rs.length [] = (wds rs).getD a.toNat [] ++ (wds rs).getD b.toNat [] := by
  have hr : (rs ++ [(⟨⟨#[]⟩, a, b⟩ : Fac)])[rs.length]? = some ⟨⟨#[]⟩, a, b⟩ := by simp
  rw [wds_pair (wf_snoc hwf ha hb) hr rfl, wds_pre _ _ (show a.toNat < rs.length by have := ha.1; have := ha.2; omega), wds_pre _ _ (show b.toNat < rs.length by have := hb.1; have := hb.2; omega)]
/-- rules that are raised -/
theorem wds_raise {xs ys : List Fac} (hx : WF xs) (hy : WF ys) : ∀ j, j < ys.length → (wds (xs ++ raiseL xs.length ys)).getD (xs.length + j) [] = (wds ys).getD j [] := by
  intro j
  induction j using Nat.strongRecOn with
  | ind j ih =>
    intro hj
    have hr : ys[j]? = some ys[j] := List.getElem?_eq_getElem hj
    have hz : (xs ++ raiseL xs.length ys)[xs.length + j]? = some (rsF xs.length ys[j]) := by
      rw [List.getElem?_append_right (by omega), Nat.add_sub_cancel_left]
      unfold raiseL
      rw [List.getElem?_map, hr]; rfl
    rcases hy j _ hr with ⟨h0, a0, a1, b0, b1⟩ | ⟨c, hc, hl, _, _⟩
    · have e : rsF xs.length ys[j] = ⟨ys[j].l, ys[j].a + xs.length, ys[j].b + xs.length⟩ := by unfold rsF; rw [if_pos h0]
      rw [e] at hz
      rw [wds_pair (wf_raise hx hy) hz h0, wds_pair hy hr h0]
      simp only
      rw [show (ys[j].a + (xs.length : Int)).toNat = xs.length + ys[j].a.toNat by omega, show (ys[j].b + (xs.length : Int)).toNat = xs.length + ys[j].b.toNat by omega, ih _ (by omega) (by omega), ih _ (by omega) (by omega)]
    · have e : rsF xs.length ys[j] = ys[j] := by unfold rsF; rw [if_neg (by rw [hl]; show ¬ (1 : Nat) = 0; omega)]
      rw [e] at hz
      rw [wds_one hz hl, wds_one hr hl]
def numC (c : UInt8) : Nat := c.toNat - 97
def nums (s : ByteArray) : List Nat := s.data.toList.map numC
theorem wds_pairs (w : List UInt8) : ∀ (cs : List UInt8) (b : Int) (xs : List Fac) (u : List Nat), WF xs → (∀ c ∈ cs, 0 ≤ atP w c ∧ atP w c < xs.length ∧ (wds xs).getD (atP w c).toNat [] = [numC c]) → 0 ≤ b → b < xs.length → (wds xs).getD b.toNat [] = u →
    (wds (xs ++ pairsP w cs b xs.length)).getD (if cs = [] then b.toNat else xs.length + cs.length - 1) [] = u ++ cs.map numC
  | [], b, xs, u, _, _, _, _, hu => by
    rw [show pairsP w [] b xs.length = [] from rfl, List.append_nil, if_pos rfl, hu]; simp
  | c :: cs, b, xs, u, hw, hc, b0, b1, hu => by
    have hcc := hc c (by simp)
    have hw2 := wf_snoc hw (a := b) (b := atP w c) ⟨b0, b1⟩ ⟨hcc.1, hcc.2.1⟩
    have hv := wds_snoc (rs := xs) (a := b) (b := atP w c) ⟨b0, b1⟩ ⟨hcc.1, hcc.2.1⟩ hw
    rw [hu, hcc.2.2] at hv
    have ih := wds_pairs w cs (xs.length : Int) (xs ++ [⟨⟨#[]⟩, b, atP w c⟩]) (u ++ [numC c]) hw2 (fun c' hc' => by
      have := hc c' (by simp [hc'])
      exact ⟨this.1, by simp; omega, by rw [wds_pre _ _ (by omega)]; exact this.2.2⟩) (by omega) (by simp; omega) (by rw [Int.toNat_natCast]; exact hv)
    simp only [List.length_append, List.length_singleton, List.append_assoc, List.singleton_append] at ih
    rw [if_neg (by simp)]
    show (wds (xs ++ ⟨⟨#[]⟩, b, atP w c⟩ :: pairsP w cs xs.length (xs.length + 1))).getD _ [] = _
    by_cases h : cs = []
    · subst h
      simp only [pairsP, if_true, Int.toNat_natCast, List.map_nil, List.append_nil, List.length_singleton, List.map_cons] at ih ⊢
      simpa using ih
    · rw [if_neg h] at ih
      rw [show xs.length + (c :: cs).length - 1 = xs.length + 1 + cs.length - 1 by simp only [List.length_cons]; omega, ih]
      simp
theorem plain_word {w : List UInt8} (hl : w.all letB = true) (h0 : w ≠ []) : (wds (plainL w)).getD ((plainL w).length - 1) [] = w.map numC := by
  unfold plainL
  split
  · exact absurd rfl h0
  · rename_i c cs
    have hm : ∀ c' ∈ c :: cs, letB c' = true := by simpa using hl
    have hlen : (lettersP (c :: cs)).length = (ksP (c :: cs)).length := by simp [lettersP]
    rw [← hlen]
    have hat : ∀ c' ∈ c :: cs, 0 ≤ atP (c :: cs) c' ∧ atP (c :: cs) c' < (lettersP (c :: cs)).length ∧ (wds (lettersP (c :: cs))).getD (atP (c :: cs) c').toNat [] = [numC c'] := fun c' hc' => by
      have h1 := atP_lt hc' (hm c' hc')
      refine ⟨h1.1, by rw [hlen]; exact h1.2, ?_⟩
      refine wds_one (r := ruleC c') (c := c') ?_ rfl
      unfold lettersP atP
      rw [Int.toNat_natCast, List.getElem?_map]
      have hi := mem_ks hc' (hm c' hc')
      rw [List.getElem?_eq_getElem (List.idxOf_lt_length_of_mem hi), List.getElem_idxOf]; rfl
    have := wds_pairs (c :: cs) cs (atP (c :: cs) c) (lettersP (c :: cs)) [numC c] (wf_letters _ fun _ h => ks_letB h) (fun c' hc' => hat c' (by simp [hc'])) (hat c (by simp)).1 (hat c (by simp)).2.1 (hat c (by simp)).2.2
    rw [List.length_append, pairsP_len]
    by_cases h : cs = []
    · subst h
      simp only [if_true, List.map_nil, List.append_nil, List.length_nil, Nat.add_zero, List.map_cons] at this ⊢
      have e : (lettersP [c]).length - 1 = (atP [c] c).toNat := by
        have h1 := hat c (by simp)
        have h2 : (lettersP [c]).length ≤ 1 := by
          rw [hlen]
          unfold ksP
          have : ∀ l : List UInt8, l.Nodup → (l.filter fun x => decide (x ∈ [c])).length ≤ 1 := fun l hl => by
            have : (l.filter fun x => decide (x ∈ [c])) = l.filter (fun x => x == c) := by
              apply List.filter_congr
              intro x _
              rw [Bool.eq_iff_iff]; simp
            rw [this, ← List.countP_eq_length_filter]
            have := List.nodup_iff_count.1 hl c
            exact this
          exact this _ (by decide)
        omega
      rw [e]; exact this
    · rw [if_neg h] at this
      rw [this]; simp
/-- the word with its letters replaced -/
def mapW (ws : List ByteArray) (u : List Nat) : List Nat := u.flatMap fun k => nums (ws.getD k ⟨#[]⟩)
theorem mapW_app (ws : List ByteArray) (u v : List Nat) : mapW ws (u ++ v) = mapW ws u ++ mapW ws v := by simp [mapW]
/-- what the letters' rules hold -/
structure MlW (rs : List Fac) (ws : List ByteArray) (s : List Fac × List Int) (k : Nat) : Prop where
  hi : ∀ i, k ≤ i → i < 4 → s.2.getD i 0 = -1
  lo : ∀ i, i < k → (s.2.getD i 0 < 0 → nums (ws.getD i ⟨#[]⟩) = [] ∨ usedL rs (lb i) = false) ∧ (0 ≤ s.2.getD i 0 → (wds s.1).getD (s.2.getD i 0).toNat [] = nums (ws.getD i ⟨#[]⟩) ∧ nums (ws.getD i ⟨#[]⟩) ≠ [])
theorem nums_nil {s : ByteArray} : nums s = [] ↔ s.size = 0 := by
  unfold nums
  rw [List.map_eq_nil_iff, ← byte_len, List.length_eq_zero_iff]
theorem MlW.step {rs : List Fac} {ws : List ByteArray} {s : List Fac × List Int} {k : Nat} (h : MlW rs ws s k) (hI : MlI s k) (hk : k < 4) {w : ByteArray} (hw : okW w = true) (he : ws.getD k ⟨#[]⟩ = w) : MlW rs ws (mlStep rs k w s) (k + 1) := by
  unfold mlStep
  split
  · rename_i hc
    obtain ⟨hl, hsz⟩ := okW_let hw
    have hne : w.data.toList ≠ [] := fun e => hc.1 (by rw [← byte_len, e]; rfl)
    have h2 := plainL_pos hne hl
    have hset : ∀ (v : Int) (i : Nat), (s.2.set k v).getD i 0 = if i = k then v else s.2.getD i 0 := fun v i => by
      rw [List.getD_eq_getElem?_getD, List.getElem?_set]
      by_cases e : k = i
      · subst e; rw [if_pos rfl, if_pos (by rw [hI.st]; exact hk), if_pos rfl]; rfl
      · rw [if_neg e, if_neg (fun q => e q.symm), ← List.getD_eq_getElem?_getD]
    refine ⟨fun i h1 h4 => ?_, fun i hi => ?_⟩
    · simp only
      rw [hset, if_neg (by omega)]; exact h.hi i (by omega) h4
    · simp only
      rw [hset]
      by_cases e : i = k
      · subst e
        rw [if_pos rfl, he]
        refine ⟨fun q => by omega, fun _ => ⟨?_, fun q => hc.1 (nums_nil.1 q)⟩⟩
        have e1 : ((((s.1.length + (plainL w.data.toList).length : Nat) : Int) - 1).toNat) = s.1.length + ((plainL w.data.toList).length - 1) := by omega
        rw [e1, wds_raise hI.wf (wf_plain hl) _ (by omega), plain_word hl hne]; rfl
      · rw [if_neg e]
        have := h.lo i (by omega)
        refine ⟨this.1, fun q => ?_⟩
        have hb := hI.b i (by omega)
        rw [wds_pre _ _ (by omega)]
        exact this.2 q
  · rename_i hc
    refine ⟨fun i h1 h4 => h.hi i (by omega) h4, fun i hi => ?_⟩
    by_cases e : i = k
    · subst e
      rw [he]
      have h1 := h.hi i (Nat.le_refl _) hk
      refine ⟨fun _ => ?_, fun q => by omega⟩
      by_cases h0 : w.size = 0
      · exact .inl (nums_nil.2 h0)
      · right
        cases hu : usedL rs (lb i) with
        | false => rfl
        | true => exact absurd ⟨h0, hu⟩ hc
    · exact h.lo i (by omega)
theorem MlW.go {rs : List Fac} {ws0 : List ByteArray} : ∀ (ws : List ByteArray) (k : Nat) (s : List Fac × List Int), MlW rs ws0 s k → MlI s k → k + ws.length ≤ 4 → (∀ w ∈ ws, okW w = true) → ws0.drop k = ws → MlW rs ws0 (mlGo rs k ws s) (k + ws.length)
  | [], _, _, h, _, _, _, _ => h
  | w :: ws, k, s, h, hI, hk, hw, hd => by
    simp only [List.length_cons] at hk ⊢
    have hx : ws0[k]? = some w := by
      have : (ws0.drop k)[0]? = some w := by rw [hd]; rfl
      rw [List.getElem?_drop] at this; simpa using this
    have := MlW.go (rs := rs) (ws0 := ws0) ws (k + 1) (mlStep rs k w s) (h.step hI (by omega) (hw w (by simp)) (by rw [List.getD_eq_getElem?_getD, hx]; rfl)) (hI.step (by omega) (hw w (by simp))) (by omega) (fun x hx => hw x (by simp [hx])) (by
      rw [← List.drop_drop, hd]; rfl)
    rw [show k + (ws.length + 1) = k + 1 + ws.length by omega]
    exact this
theorem MlW.nil (rs : List Fac) (ws : List ByteArray) : MlW rs ws ([], [-1, -1, -1, -1]) 0 := ⟨fun i _ hi => by
  rcases i with _ | _ | _ | _ | i
  · decide
  · decide
  · decide
  · decide
  · omega, fun i hi => by omega⟩
/-- what the rules that stand for others hold -/
def MrW (rs : List Fac) (ws : List ByteArray) (s : List Fac × List Int) (k : Nat) : Prop :=
  ∀ i, i < k → (s.2.getD i 0 < 0 → mapW ws ((wds rs).getD i []) = []) ∧ (0 ≤ s.2.getD i 0 → (wds s.1).getD (s.2.getD i 0).toNat [] = mapW ws ((wds rs).getD i []))
theorem MrW.step {rs : List Fac} {ws : List ByteArray} {st : List Int} {s0 s : List Fac × List Int} {n k : Nat} (hwf : WF rs) (h : MrW rs ws s k) (hI : MrI s n k) (hst : s0.2 = st) (hw : MlW rs ws s0 4) (hb : ∀ i, i < 4 → -1 ≤ st.getD i 0 ∧ st.getD i 0 < s0.1.length)
    (hpre : ∃ e, s.1 = s0.1 ++ e) {r : Fac} (hr : rs[k]? = some r) : MrW rs ws (mrStep st r s) (k + 1) ∧ ∃ e, (mrStep st r s).1 = s0.1 ++ e := by
  obtain ⟨e, he⟩ := hpre
  have old : ∀ (out : List Fac) (x : Int), (∃ q, out = s.1 ++ q) → ((x < 0 → mapW ws ((wds rs).getD k []) = []) ∧ (0 ≤ x → (wds out).getD x.toNat [] = mapW ws ((wds rs).getD k []))) → MrW rs ws (out, s.2 ++ [x]) (k + 1) := by
    intro out x ⟨q, hq⟩ hx i hi
    simp only
    rw [getD_snoc, hI.st]
    by_cases hik : i < k
    · rw [if_pos hik]
      have := h i hik
      refine ⟨this.1, fun q0 => ?_⟩
      have hbb := hI.b i hik
      rw [hq, wds_pre _ _ (by omega)]
      exact this.2 q0
    · obtain rfl : i = k := by omega
      rw [if_neg hik, if_pos rfl]
      exact hx
  unfold mrStep
  rcases hwf k r hr with ⟨h0, a0, a1, b0, b1⟩ | ⟨c, hc, hl, _, _⟩
  · rw [if_pos h0]
    have hwk := wds_pair hwf hr h0
    have hA := hI.b r.a.toNat (by omega)
    have hB := hI.b r.b.toNat (by omega)
    have wA := h r.a.toNat (by omega)
    have wB := h r.b.toNat (by omega)
    split
    · rename_i hn
      refine ⟨old _ _ ⟨[], by simp⟩ ?_, e, he⟩
      rw [hwk, mapW_app, wA.1 hn, List.nil_append]
      exact wB
    · split
      · rename_i hn1 hn
        refine ⟨old _ _ ⟨[], by simp⟩ ?_, e, he⟩
        rw [hwk, mapW_app, wB.1 hn, List.append_nil]
        exact wA
      · rename_i h1 h2
        refine ⟨old _ _ ⟨_, rfl⟩ ⟨fun q => by omega, fun _ => ?_⟩, e ++ [⟨⟨#[]⟩, s.2.getD r.a.toNat 0, s.2.getD r.b.toNat 0⟩], by rw [he, List.append_assoc]⟩
        rw [Int.toNat_natCast, wds_snoc ⟨by omega, hA.2⟩ ⟨by omega, hB.2⟩ hI.wf, wA.2 (by omega), wB.2 (by omega), hwk, mapW_app]
  · rw [if_neg (by rw [hl]; show ¬ (1 : Nat) = 0; omega)]
    refine ⟨old _ _ ⟨[], by simp⟩ ?_, e, he⟩
    have hq : letN r.l < 4 := by rw [hl]; exact letN_lt (s := ⟨#[c]⟩) hc
    have hwk : (wds rs).getD k [] = [letN r.l] := by rw [wds_one hr hl, hl]; rfl
    have hu : usedL rs (lb (letN r.l)) = true := by
      unfold usedL
      rw [List.any_eq_true]
      refine ⟨r, List.mem_of_getElem? hr, ?_⟩
      rw [decide_eq_true_eq, hl]
      congr 1
      have hn := letB_num hc
      have : lb (letN ⟨#[c]⟩) = c := by
        rw [← UInt8.toNat_inj, letN_one]
        unfold lb
        rw [UInt8.toNat_ofNat']; omega
      rw [this]
    have hlo := hw.lo (letN r.l) hq
    rw [hst] at hlo
    rw [hwk]
    have hmw : mapW ws [letN r.l] = nums (ws.getD (letN r.l) ⟨#[]⟩) := by simp [mapW]
    rw [hmw]
    refine ⟨fun q => ?_, fun q => ?_⟩
    · rcases hlo.1 q with q1 | q1
      · exact q1
      · rw [hu] at q1; cases q1
    · have := hb (letN r.l) hq
      rw [he, wds_pre _ _ (by omega)]
      exact (hlo.2 q).1
theorem mapOk_ws {rs : List Fac} {ws : List ByteArray} (h : mapOk rs ws = true) : ws.length = 4 ∧ (∀ w ∈ ws, okW w = true) ∧ (gOk rs).isSome = true := by
  unfold mapOk at h
  simp only [Bool.and_eq_true, decide_eq_true_eq, List.all_eq_true] at h
  exact ⟨h.2.1, h.2.2, h.1⟩
end Go.Proofs.Ytgdbpkpaacbhhaa


/-
  The word of a grammar whose letters are replaced: the law; grammars of few rules are valid.
-/
namespace Go.Proofs.Ytgdbpkpaacbhhaa

theorem trimL_most (rs : List Fac) : (trimL rs).length ≤ rs.length := by
  unfold trimL
  split
  · simp
  · have h1 := outT_len (useT (trK rs [] []).1 rs.length (use0 rs.length (trK rs [] []).2)) (trK rs [] []).1 0 [] (List.replicate rs.length 0)
    have h2 := trK_len rs [] []
    simp only [List.length_nil, Nat.zero_add] at h1 h2
    omega
theorem map_all {rs : List Fac} {ws : List ByteArray} (hok : mapOk rs ws = true) : WF rs ∧ MlI (mapS1 rs ws) 4 ∧ ∀ k, k ≤ rs.length →
    MrW rs ws (mrGo (mapS1 rs ws).2 (rs.take k) ((mapS1 rs ws).1, [])) k ∧ MrI (mrGo (mapS1 rs ws).2 (rs.take k) ((mapS1 rs ws).1, [])) (mapS1 rs ws).1.length k ∧ ∃ e, (mrGo (mapS1 rs ws).2 (rs.take k) ((mapS1 rs ws).1, [])).1 = (mapS1 rs ws).1 ++ e := by
  obtain ⟨hl, hw, hg⟩ := mapOk_ws hok
  obtain ⟨ls, hls⟩ := Option.isSome_iff_exists.1 hg
  have hwf := wf_of (gOk_lens hls).1
  have hI := MlI.go (rs := rs) ws 0 ([], [-1, -1, -1, -1]) MlI.nil (by omega) hw
  have hW := MlW.go (rs := rs) (ws0 := ws) ws 0 ([], [-1, -1, -1, -1]) (MlW.nil rs ws) MlI.nil (by omega) hw rfl
  rw [hl, Nat.zero_add] at hI hW
  have hI' : MlI (mapS1 rs ws) 4 := hI
  have hW' : MlW rs ws (mapS1 rs ws) 4 := hW
  refine ⟨hwf, hI', ?_⟩
  generalize mapS1 rs ws = s1 at *
  intro k
  induction k with
  | zero => exact fun _ => ⟨fun i hi => by omega, ⟨hI'.wf, rfl, fun i hi => by omega, Nat.le_refl _⟩, [], by simp [mrGo]⟩
  | succ k ih =>
    intro hk
    obtain ⟨h1, h2, h3⟩ := ih (by omega)
    have hr : rs[k]? = some rs[k] := List.getElem?_eq_getElem (by omega)
    rw [take_succ_at hr, mrGo_snoc]
    have hle : s1.1.length ≤ (mrGo s1.2 (rs.take k) (s1.1, [])).1.length := by
      obtain ⟨e, he⟩ := h3
      rw [he, List.length_append]; omega
    have s1b := fun i hi => hI'.b i hi
    obtain ⟨h4, _⟩ := h2.step (st := s1.2) (fun i hi => by have := s1b i hi; omega) (hwf k _ hr)
    obtain ⟨h5, h6⟩ := h1.step hwf h2 rfl hW' s1b h3 hr
    exact ⟨h5, h4, h6⟩
/-- a rule's word is at most twice as long as the longest before it -/
theorem wds_pow {rs : List Fac} (hwf : WF rs) : ∀ k, k < rs.length → ((wds rs).getD k []).length ≤ 2 ^ k := by
  intro k
  induction k using Nat.strongRecOn with
  | ind k ih =>
    intro hk
    have hr : rs[k]? = some rs[k] := List.getElem?_eq_getElem hk
    rcases hwf k _ hr with ⟨h0, a0, a1, b0, b1⟩ | ⟨c, _, hl, _, _⟩
    · rw [wds_pair hwf hr h0, List.length_append]
      have e1 := ih rs[k].a.toNat (by omega) (by omega)
      have e2 := ih rs[k].b.toNat (by omega) (by omega)
      obtain ⟨m, rfl⟩ : ∃ m, k = m + 1 := ⟨k - 1, by omega⟩
      have p1 : 2 ^ rs[m + 1].a.toNat ≤ 2 ^ m := Nat.pow_le_pow_right (by omega) (by omega)
      have p2 : 2 ^ rs[m + 1].b.toNat ≤ 2 ^ m := Nat.pow_le_pow_right (by omega) (by omega)
      rw [Nat.pow_succ]; omega
    · rw [wds_one hr hl]
      exact Nat.one_le_two_pow
theorem wds_lens {rs : List Fac} (hwf : WF rs) {k : Nat} (hk : k < rs.length) : (full 0 lenF lenG rs).getD k 0 = (((wds rs).getD k []).length : Int) :=
  full_hom (d := (0 : Int)) (F := lenF) (G := lenG) hwf (fun u => (u.length : Int)) (fun k _ => rfl) (fun u v r _ _ _ _ => by simp [lenG]) k hk
theorem ok_of {rs : List Fac} (hwf : WF rs) (hn : rs.length ≤ 400) (hb : ∀ k, k < rs.length → ((wds rs).getD k []).length ≤ 1000000000000000) : (gOk rs).isSome = true := by
  unfold gOk
  rw [if_neg (by omega)]
  exact gLens_of hwf (fun k hk => by rw [wds_lens hwf hk]; have := hb k hk; omega) rs.length 0 (by omega)
theorem small_ok {rs : List Fac} (hwf : WF rs) (hn : rs.length ≤ 49) : (gOk rs).isSome = true :=
  ok_of hwf (by omega) fun k hk => by
    have h1 := wds_pow hwf k hk
    have h2 : 2 ^ k ≤ 2 ^ 48 := Nat.pow_le_pow_right (by omega) (by omega)
    have h3 : (2 : Nat) ^ 48 ≤ 1000000000000000 := by decide
    omega
theorem trim_word {rs : List Fac} (hwf : WF rs) (h0 : 0 < rs.length) : WF (trimL rs) ∧ 0 < (trimL rs).length ∧ (trimL rs).length ≤ rs.length ∧ wdN (trimL rs) = wdN rs := by
  obtain ⟨h1, h2, h3, _⟩ := trim_val [] wdF wdG (fun _ _ _ _ => rfl) hwf h0
  have h4 : (trimL rs).length ≤ rs.length := trimL_most rs
  refine ⟨h1, h2, h4, ?_⟩
  unfold wdN
  rw [if_neg (by intro e; rw [e] at h2; simp at h2), if_neg (by intro e; rw [e] at h0; simp at h0)]
  exact h3
/-- the code is told -/
theorem map_word {rs : List Fac} {ws : List ByteArray} (hok : mapOk rs ws = true) (hC : mapC rs ws = 0) : (gOk (mapF rs ws)).isSome = true ∧ wdN (mapF rs ws) = mapW ws (wdN rs) := by
  obtain ⟨hwf, hI, hall⟩ := map_all hok
  obtain ⟨h1, h2, _⟩ := hall rs.length (Nat.le_refl _)
  rw [List.take_of_length_le (Nat.le_refl _)] at h1 h2
  unfold mapC at hC
  unfold mapF
  rw [if_neg (by rw [hok]; decide)] at hC ⊢
  have hS : mapS2 rs ws = mrGo (mapS1 rs ws).2 rs ((mapS1 rs ws).1, []) := rfl
  rw [← hS] at h1 h2
  unfold mapT at hC ⊢
  generalize mapS2 rs ws = s2 at *
  split at hC
  · cases hC
  rename_i h400
  rw [if_neg h400]
  have hlen := h2.st
  by_cases hz : s2.2.length = 0 ∨ lastI s2.2 < 0
  · rw [if_pos hz]
    refine ⟨rfl, ?_⟩
    have hw0 : wdN ([] : List Fac) = [] := rfl
    rw [hw0]
    unfold wdN
    split
    · rfl
    · rename_i hne
      have hpos : 0 < rs.length := List.length_pos_iff.2 hne
      rcases hz with hz | hz
      · omega
      · have := (h1 (rs.length - 1) (by omega)).1 (by unfold lastI at hz; rw [hlen] at hz; exact hz)
        exact this.symm
  · rw [if_neg hz] at hC ⊢
    have hne : rs ≠ [] := fun e => hz (.inl (by rw [hlen, e]; rfl))
    have hpos : 0 < rs.length := List.length_pos_iff.2 hne
    have hsl0 : 0 ≤ lastI s2.2 := by
      rcases Int.lt_or_le (lastI s2.2) 0 with h | h
      · exact absurd (.inr h) hz
      · exact h
    have hsl1 : lastI s2.2 < s2.1.length := by
      have := h2.b (rs.length - 1) (by omega)
      unfold lastI
      rw [hlen]; exact this.2
    unfold limC at hC
    unfold limF
    have hg : (gOk (trimL (s2.1.take ((lastI s2.2).toNat + 1)))).isSome = true := by
      rcases hb : (gOk (trimL (s2.1.take ((lastI s2.2).toNat + 1)))).isSome with _ | _
      · rw [hb] at hC; exact absurd hC (by decide)
      · rfl
    rw [hg, if_pos rfl]
    refine ⟨hg, ?_⟩
    have hwt := wf_take h2.wf ((lastI s2.2).toNat + 1)
    have hlt : (s2.1.take ((lastI s2.2).toNat + 1)).length = (lastI s2.2).toNat + 1 := by rw [List.length_take]; omega
    obtain ⟨_, _, _, e⟩ := trim_word hwt (by omega)
    rw [e]
    have hv := (h1 (rs.length - 1) (by omega)).2 (by unfold lastI at hsl0; rw [hlen] at hsl0; exact hsl0)
    unfold wdN
    rw [if_neg (by intro q; rw [q] at hlt; simp at hlt), if_neg hne, hlt, Nat.add_sub_cancel, wds_take (by omega) (by omega), ← hv]
    unfold lastI
    rw [hlen]
/-- few rules, short words: there is no limit -/
theorem map_small {rs : List Fac} {ws : List ByteArray} (hok : mapOk rs ws = true) (hn : (mapS2 rs ws).1.length ≤ 49) : mapC rs ws = 0 := by
  obtain ⟨hwf, hI, hall⟩ := map_all hok
  obtain ⟨h1, h2, _⟩ := hall rs.length (Nat.le_refl _)
  rw [List.take_of_length_le (Nat.le_refl _)] at h1 h2
  have hS : mapS2 rs ws = mrGo (mapS1 rs ws).2 rs ((mapS1 rs ws).1, []) := rfl
  rw [← hS] at h1 h2
  unfold mapC mapT
  rw [if_neg (by rw [hok]; decide), if_neg (by omega)]
  generalize mapS2 rs ws = s2 at *
  split
  · rfl
  · rename_i hz
    have hlen := h2.st
    have hpos : 0 < rs.length := by
      rcases Nat.eq_zero_or_pos rs.length with h | h
      · exact absurd (.inl (by omega)) hz
      · exact h
    have hsl0 : 0 ≤ lastI s2.2 := by
      rcases Int.lt_or_le (lastI s2.2) 0 with h | h
      · exact absurd (.inr h) hz
      · exact h
    have hsl1 : lastI s2.2 < s2.1.length := by
      have := h2.b (rs.length - 1) (by omega)
      unfold lastI
      rw [hlen]; exact this.2
    have hwt := wf_take h2.wf ((lastI s2.2).toNat + 1)
    have hlt : (s2.1.take ((lastI s2.2).toNat + 1)).length = (lastI s2.2).toNat + 1 := by rw [List.length_take]; omega
    obtain ⟨e1, _, e3, _⟩ := trim_word hwt (by omega)
    unfold limC
    rw [small_ok e1 (by omega)]; rfl
end Go.Proofs.Ytgdbpkpaacbhhaa


/-
  Heights over a word, letter by letter.
-/
namespace Go.Proofs.Ytgdbpkpaacbhhaa

def cj (x y : Cl) : Cl := climG x y ⟨⟨#[]⟩, 0, 0⟩
/-- the climb of a word -/
def climL (ws : List Int) (u : List Nat) : Cl := u.foldl (fun x k => cj x (climF ws k)) Cl.nil
structure ClOk (x : Cl) : Prop where
  l0 : x.l ≤ 0
  lt : x.l ≤ x.t
  h0 : 0 ≤ x.h
  th : x.t ≤ x.h
theorem climF_ok (ws : List Int) (k : Nat) : ClOk (climF ws k) := by
  unfold climF
  exact ⟨by simp only; omega, by simp only; omega, by simp only; omega, by simp only; omega⟩
theorem cj_ok {x y : Cl} (hx : ClOk x) (hy : ClOk y) : ClOk (cj x y) := by
  obtain ⟨a1, a2, a3, a4⟩ := hx
  obtain ⟨b1, b2, b3, b4⟩ := hy
  unfold cj climG
  exact ⟨by simp only; omega, by simp only; omega, by simp only; omega, by simp only; omega⟩
theorem cj_assoc (x y z : Cl) : cj (cj x y) z = cj x (cj y z) := by
  unfold cj climG
  simp only [Cl.mk.injEq]
  refine ⟨?_, ?_, ?_⟩ <;> omega
theorem cj_nil {x : Cl} (hx : ClOk x) : cj x Cl.nil = x := by
  obtain ⟨a1, a2, a3, a4⟩ := hx
  obtain ⟨xt, xl, xh⟩ := x
  simp only at a1 a2 a3 a4
  unfold cj climG Cl.nil
  simp only [Cl.mk.injEq]
  refine ⟨?_, ?_, ?_⟩ <;> omega
theorem nil_cj {x : Cl} (hx : ClOk x) : cj Cl.nil x = x := by
  obtain ⟨a1, a2, a3, a4⟩ := hx
  obtain ⟨xt, xl, xh⟩ := x
  simp only at a1 a2 a3 a4
  unfold cj climG Cl.nil
  simp only [Cl.mk.injEq]
  refine ⟨?_, ?_, ?_⟩ <;> omega
theorem cl_nil_ok : ClOk Cl.nil := ⟨by decide, by decide, by decide, by decide⟩
theorem climL_go (ws : List Int) : ∀ (v : List Nat) (x : Cl), ClOk x → v.foldl (fun x k => cj x (climF ws k)) x = cj x (climL ws v) ∧ ClOk (climL ws v)
  | [], x, hx => ⟨(cj_nil hx).symm, cl_nil_ok⟩
  | k :: v, x, hx => by
    have h1 := climL_go ws v (cj x (climF ws k)) (cj_ok hx (climF_ok ws k))
    have h2 := climL_go ws v (cj Cl.nil (climF ws k)) (by rw [nil_cj (climF_ok ws k)]; exact climF_ok ws k)
    have e : climL ws (k :: v) = cj (climF ws k) (climL ws v) := by
      show v.foldl (fun x k => cj x (climF ws k)) (cj Cl.nil (climF ws k)) = _
      rw [h2.1, nil_cj (climF_ok ws k)]
    rw [e]
    refine ⟨?_, cj_ok (climF_ok ws k) h1.2⟩
    show v.foldl (fun x k => cj x (climF ws k)) (cj x (climF ws k)) = _
    rw [h1.1, cj_assoc]
theorem climL_ok (ws : List Int) (u : List Nat) : ClOk (climL ws u) := (climL_go ws u Cl.nil cl_nil_ok).2
theorem climL_app (ws : List Int) (u v : List Nat) : climL ws (u ++ v) = cj (climL ws u) (climL ws v) := by
  show (u ++ v).foldl _ _ = _
  rw [List.foldl_append]
  exact (climL_go ws v (climL ws u) (climL_ok ws u)).1
theorem climL_one (ws : List Int) (k : Nat) : climL ws [k] = climF ws k := nil_cj (climF_ok ws k)
theorem climL_snoc (ws : List Int) (u : List Nat) (k : Nat) : climL ws (u ++ [k]) = cj (climL ws u) (climF ws k) := by rw [climL_app, climL_one]
theorem clim_word {ws : List Int} {rs : List Fac} (hwf : WF rs) {k : Nat} (hk : k < rs.length) : (clim ws rs).getD k Cl.nil = climL ws ((wds rs).getD k []) :=
  full_hom (d := Cl.nil) (F := climF ws) (G := climG) hwf (climL ws) (fun k _ => (climL_one ws k).symm) (fun u v r _ _ _ _ => by rw [climL_app]; rfl) k hk
theorem climT_word {ws : List Int} {rs : List Fac} (hwf : WF rs) : climT ws rs = climL ws (wdN rs) := by
  unfold climT wdN
  split
  · rename_i h
    rw [if_pos (List.eq_nil_of_length_eq_zero h)]; rfl
  · rename_i h
    rw [if_neg (by intro e; rw [e] at h; simp at h), clim_word hwf (by omega)]
/-- one letter more: is no height below 0? -/
theorem climL_low (ws : List Int) (u : List Nat) (k : Nat) : (0 ≤ (climL ws (u ++ [k])).l ↔ 0 ≤ (climL ws u).l ∧ 0 ≤ (climL ws (u ++ [k])).t) ∧ (climL ws (u ++ [k])).t = (climL ws u).t + ws.getD k 0 := by
  have h := climL_ok ws u
  have h1 := h.lt
  rw [climL_snoc]
  have e1 : (cj (climL ws u) (climF ws k)).l = min (climL ws u).l ((climL ws u).t + min 0 (ws.getD k 0)) := rfl
  have e2 : (cj (climL ws u) (climF ws k)).t = (climL ws u).t + ws.getD k 0 := rfl
  rw [e1, e2]
  refine ⟨?_, rfl⟩
  constructor
  · intro q; omega
  · intro q; omega
/-- what brackets that are put in pairs give -/
theorem clim_pairs : ∀ u : List Nat, (∀ x ∈ u, x < 4) → (climL (balW 0 1) (mapW [⟨#[97, 98]⟩, ⟨#[97, 97, 98, 98]⟩, ⟨#[99]⟩, ⟨#[100]⟩] u)).t = 0 ∧ (climL (balW 0 1) (mapW [⟨#[97, 98]⟩, ⟨#[97, 97, 98, 98]⟩, ⟨#[99]⟩, ⟨#[100]⟩] u)).l = 0
  | [], _ => ⟨rfl, rfl⟩
  | x :: u, h => by
    have hx := h x (by simp)
    obtain ⟨h1, h2⟩ := clim_pairs u (fun y hy => h y (by simp [hy]))
    have e : mapW [⟨#[97, 98]⟩, ⟨#[97, 97, 98, 98]⟩, ⟨#[99]⟩, ⟨#[100]⟩] (x :: u) = mapW [⟨#[97, 98]⟩, ⟨#[97, 97, 98, 98]⟩, ⟨#[99]⟩, ⟨#[100]⟩] [x] ++ mapW [⟨#[97, 98]⟩, ⟨#[97, 97, 98, 98]⟩, ⟨#[99]⟩, ⟨#[100]⟩] u := by
      rw [← mapW_app]; rfl
    rw [e, climL_app]
    generalize climL (balW 0 1) (mapW [⟨#[97, 98]⟩, ⟨#[97, 97, 98, 98]⟩, ⟨#[99]⟩, ⟨#[100]⟩] u) = y at *
    have hq : (climL (balW 0 1) (mapW [⟨#[97, 98]⟩, ⟨#[97, 97, 98, 98]⟩, ⟨#[99]⟩, ⟨#[100]⟩] [x])).t = 0 ∧ (climL (balW 0 1) (mapW [⟨#[97, 98]⟩, ⟨#[97, 97, 98, 98]⟩, ⟨#[99]⟩, ⟨#[100]⟩] [x])).l = 0 := by
      rcases (show x = 0 ∨ x = 1 ∨ x = 2 ∨ x = 3 by omega) with rfl | rfl | rfl | rfl <;> decide
    obtain ⟨q1, q2⟩ := hq
    show (_ + _ = (0 : Int)) ∧ min _ (_ + _) = (0 : Int)
    rw [q1, q2, h1, h2]
    exact ⟨rfl, rfl⟩
theorem mapC_or {rs : List Fac} {ws : List ByteArray} (h : mapOk rs ws = true) : mapC rs ws = 0 ∨ mapC rs ws = 3 := by
  unfold mapC
  rw [if_neg (by rw [h]; decide)]
  split
  · exact .inr rfl
  · split
    · exact .inl rfl
    · unfold limC; split
      · exact .inl rfl
      · exact .inr rfl
end Go.Proofs.Ytgdbpkpaacbhhaa


/-
  slices.IndexFunc and slices.ContainsFunc over rules, by the contract of the function that they are handed.
-/
namespace Go.Proofs.Ytgdbpkpaacbhhaa
open Go.RowKit

def findI {α : Type} (p : α → Bool) : List α → Int → Int
  | [], _ => -1
  | x :: r, i => if p x = true then i else findI p r (i + 1)
theorem findI_any {α : Type} (p : α → Bool) : ∀ (xs : List α) (i : Int), 0 ≤ i → (decide (0 ≤ findI p xs i) = xs.any p)
  | [], i, _ => rfl
  | x :: r, i, h => by
    unfold findI
    by_cases hp : p x = true
    · rw [if_pos hp]; simp [hp, h]
    · rw [if_neg hp, findI_any p r (i + 1) (by omega)]; simp [hp]

end Go.Proofs.Ytgdbpkpaacbhhaa
